/- quat.Of. -/
import Derived.Test.YtdnepccjgclgiaaQfun
namespace Go.Proofs.Ytdnepccjgclgiaa
open Go.RowKit

theorem irow3 (w : World) (a b c : Int) (t : TypeId) (u : Obj) : IRow ((w.alloc (.cells #[.int .i64 a, .int .i64 b, .int .i64 c] t)).alloc u) w.heap.size [a, b, c] := by
  refine ⟨fun k hk => ?_, fun k hk => ?_⟩
  · match k, hk with
    | 0, _ => simp [go_sem]
    | 1, _ => simp [go_sem]
    | 2, _ => simp [go_sem]
  · simp [go_sem]
theorem q3_zero (a b c : Int) (w : World) (t : TypeId) (u : Obj) (hz : most [a, b, c] = 0) (hb : ∀ x ∈ [a, b, c], -1073741824 ≤ x ∧ x ≤ 1073741824) :
    Calls Try.prog 80 #[.slice (some ⟨w.heap.size, 0, none⟩) 3 3] ((w.alloc (.cells #[.int .i64 a, .int .i64 b, .int .i64 c] t)).alloc u) fun e w' => e = .returned (.tuple #[.slice none 0 0, .bool false]) ∧ Below ((w.alloc (.cells #[.int .i64 a, .int .i64 b, .int .i64 c] t)).alloc u).heap.size ((w.alloc (.cells #[.int .i64 a, .int .i64 b, .int .i64 c] t)).alloc u) w' :=
  qunit_zero w.heap.size 3 3 [a, b, c] _ hz rfl (by omega) (by simp [go_sem]) (irow3 _ _ _ _ _ _) hb
theorem q3_pos (a b c : Int) (w : World) (t : TypeId) (u : Obj) (hz : ¬ most [a, b, c] = 0) (hb : ∀ x ∈ [a, b, c], -1073741824 ≤ x ∧ x ≤ 1073741824) :
    Calls Try.prog 80 #[.slice (some ⟨w.heap.size, 0, none⟩) 3 3] ((w.alloc (.cells #[.int .i64 a, .int .i64 b, .int .i64 c] t)).alloc u) fun e w' => e = .returned (.tuple #[.slice (some ⟨w.heap.size + 1 + 1, 0, none⟩) 3 3, .bool true]) ∧ (∀ k, k < 3 → w'.cell? ⟨w.heap.size + 1 + 1, k, none⟩ = some (.int .i64 (qat [a, b, c] k))) ∧ w.heap.size + 1 + 1 < w'.heap.size ∧ Below (w.heap.size + 1 + 1) ((w.alloc (.cells #[.int .i64 a, .int .i64 b, .int .i64 c] t)).alloc u) w' := by
  have := qunit_pos w.heap.size 3 3 [a, b, c] ((w.alloc (.cells #[.int .i64 a, .int .i64 b, .int .i64 c] t)).alloc u) hz rfl (by omega) (by simp [go_sem]) (irow3 _ _ _ _ _ _) hb
  simp only [al_size] at this
  exact this

theorem of_zero (a b c h : Int) (w : World) (hz : most [a, b, c] = 0) (hb : ∀ x ∈ [a, b, c], -1073741824 ≤ x ∧ x ≤ 1073741824) :
    Calls Try.prog 62 #[.agg #[.int .i64 a, .int .i64 b, .int .i64 c], .int .i64 h] w fun e w' => e = .returned (.agg #[.int .i64 65536, .int .i64 0, .int .i64 0, .int .i64 0]) ∧ Below w.heap.size w w' := by
  have HZ := Lib.hid hz
  have HB := Lib.hid hb
  clear hz hb
  go_enter Try.func62, Try.ntmps62
  go_wp2_with (go_at_call 80; (with_reducible refine (q3_zero a b c _ _ _ HZ.out HB.out).mono ?_); rintro e w1 ⟨rfl, hb⟩; obtain ⟨l0, n0, rfl⟩ := ext_of hb; clear hb)
  exact bodyPost_ret (v := .agg #[.int .i64 65536, .int .i64 0, .int .i64 0, .int .i64 0]) (by simp [results, Try.results62, go_sem]) rfl ⟨rfl, by repeat (first | exact Below.refl _ _ | apply Below.drew | apply Below.al | apply Below.ex)⟩

theorem of_pos (a b c h : Int) (w : World) (hz : ¬ most [a, b, c] = 0) (hb : ∀ x ∈ [a, b, c], -1073741824 ≤ x ∧ x ≤ 1073741824) :
    Calls Try.prog 62 #[.agg #[.int .i64 a, .int .i64 b, .int .i64 c], .int .i64 h] w fun e w' => e = .returned (.agg #[.int .i64 (cos (h / 2)), .int .i64 (fmul (qat [a, b, c] 0) (sin (h / 2))), .int .i64 (fmul (qat [a, b, c] 1) (sin (h / 2))), .int .i64 (fmul (qat [a, b, c] 2) (sin (h / 2)))]) ∧ Below w.heap.size w w' := by
  have HZ := Lib.hid hz
  have HB := Lib.hid hb
  clear hz hb
  go_enter Try.func62, Try.ntmps62
  go_wp2_with (go_at_call 80; (with_reducible refine (q3_pos a b c _ _ _ HZ.out HB.out).mono ?_); rintro e w1 ⟨rfl, hq, hlt, hb⟩)
  have q0 := hq 0 (by omega)
  have q1 := hq 1 (by omega)
  have q2 := hq 2 (by omega)
  have zc : ∀ i, i < 4 → w1.cell? ⟨w.heap.size + 1, i, none⟩ = some (.int .i64 0) := fun i hi => (hb.cell (p := ⟨w.heap.size + 1, i, none⟩) (by simp)).trans (by
    match i, hi with
    | 0, _ => simp [go_sem]
    | 1, _ => simp [go_sem]
    | 2, _ => simp [go_sem]
    | 3, _ => simp [go_sem])
  have zf : ∀ i, w1.frozen? ⟨w.heap.size + 1, i, none⟩ = false := fun i => (hb.frozen (p := ⟨w.heap.size + 1, i, none⟩) (by simp)).trans (by simp [go_sem])
  have z0 := zc 0 (by omega)
  have z1 := zc 1 (by omega)
  have z2 := zc 2 (by omega)
  have z3 := zc 3 (by omega)
  have f0 := zf 0
  have f1 := zf 1
  have f2 := zf 2
  have f3 := zf 3
  have hlt2 : w.heap.size + 1 < w1.heap.size := by omega
  have hbb := Lib.hid (show Below w.heap.size w w1 from (Below.al (Below.al (Below.refl _ w) _) _).trans (hb.mono (by omega)))
  clear hq hb zc zf
  go_wp2_with (go_at_call 31; (with_reducible refine (sin_any _ _).mono ?_); rintro e w2 ⟨rfl, hb⟩; obtain ⟨l1, n1, rfl⟩ := ext_of hb; clear hb)
  refine region_tail_ext 18 (by kernel_rfl) (by kernel_rfl) ?_
  simp only [List.take_succ_cons, List.take_zero, List.drop_succ_cons, List.drop_zero]
  repeat (go_big_quiet_step ((first | (intro _; go_at_call 32; exact grow_of (cos_any _ _)) | (intro _; go_at_call 43; exact grow_of (fmul_any _ _ _)))))
  refine wpQuiet_nil ?_
  intro _ hw'
  obtain ⟨k, m, rfl⟩ := hw'
  go_wp2
  exact bodyPost_ret (v := .agg #[.int .i64 (cos (h / 2)), .int .i64 (fmul (qat [a, b, c] 0) (sin (h / 2))), .int .i64 (fmul (qat [a, b, c] 1) (sin (h / 2))), .int .i64 (fmul (qat [a, b, c] 2) (sin (h / 2)))]) (by simp [results, Try.results62, go_sem, hlt2, z0, z1, z2, z3]) rfl ⟨rfl, by
    refine Below.ext' ?_ (by simp [World.setCell]; omega) _ _
    exact (((hbb.out.setCell (by simp) _).setCell (by simp) _).setCell (by simp) _).setCell (by simp) _⟩

noncomputable def ofw (a b c h : Int) : Int := if most [a, b, c] = 0 then 65536 else cos (h / 2)
noncomputable def ofv (i : Nat) (a b c h : Int) : Int := if most [a, b, c] = 0 then 0 else fmul (qat [a, b, c] i) (sin (h / 2))
theorem of_any (a b c h : Int) (w : World) (a1 : -1073741824 ≤ a) (a2 : a ≤ 1073741824) (b1 : -1073741824 ≤ b) (b2 : b ≤ 1073741824) (c1 : -1073741824 ≤ c) (c2 : c ≤ 1073741824) :
    Calls Try.prog 62 #[.agg #[.int .i64 a, .int .i64 b, .int .i64 c], .int .i64 h] w fun e w' => e = .returned (.agg #[.int .i64 (ofw a b c h), .int .i64 (ofv 0 a b c h), .int .i64 (ofv 1 a b c h), .int .i64 (ofv 2 a b c h)]) ∧ Below w.heap.size w w' := by
  have hb : ∀ x ∈ [a, b, c], -1073741824 ≤ x ∧ x ≤ 1073741824 := by
    intro x hx
    simp only [List.mem_cons, List.not_mem_nil, or_false] at hx
    rcases hx with rfl | rfl | rfl <;> omega
  unfold ofw ofv
  by_cases hm : most [a, b, c] = 0
  · simp only [if_pos hm]; exact of_zero a b c h w hm hb
  · simp only [if_neg hm]; exact of_pos a b c h w hm hb

set_option maxRecDepth 4000 in
theorem turner_any (a b c d : Int) (w : World) (ha : -9223372036854775808 ≤ a ∧ a ≤ 9223372036854775807) (hb : -9223372036854775808 ≤ b ∧ b ≤ 9223372036854775807) (hc : -9223372036854775808 ≤ c ∧ c ≤ 9223372036854775807) :
    Calls Try.prog 54 #[.agg #[.int .i64 a, .int .i64 b, .int .i64 c, .int .i64 d]] w fun e w' => e = .returned (.agg #[.int .i64 (ofw (num a 1048576) (num b 1048576) (num c 1048576) d), .int .i64 (ofv 0 (num a 1048576) (num b 1048576) (num c 1048576) d), .int .i64 (ofv 1 (num a 1048576) (num b 1048576) (num c 1048576) d), .int .i64 (ofv 2 (num a 1048576) (num b 1048576) (num c 1048576) d)]) ∧ Below w.heap.size w w' := by
  have A1 := num_lo a 1048576 (by omega)
  have A2 := num_hi a 1048576 (by omega)
  have B1 := num_lo b 1048576 (by omega)
  have B2 := num_hi b 1048576 (by omega)
  have C1 := num_lo c 1048576 (by omega)
  have C2 := num_hi c 1048576 (by omega)
  go_enter Try.func54, Try.ntmps54
  go_wp2_with fail
  refine region_tail 13 (by kernel_rfl) (by kernel_rfl) ?_
  simp only [List.take_succ_cons, List.take_zero, List.drop_succ_cons, List.drop_zero]
  repeat (go_big_quiet_step ((first | (intro _; go_at_call 42; exact grow_same (num_any _ _ _ (by omega) (by omega) (by omega) (by omega))) | (intro _; go_at_call 62; exact grow_of (of_any _ _ _ _ _ (by omega) (by omega) (by omega) (by omega) (by omega) (by omega))))))
  refine wpQuiet_nil ?_
  intro _ hw'
  obtain ⟨k, m, rfl⟩ := hw'
  go_wp2
  exact bodyPost_ret (v := .agg #[.int .i64 (ofw (num a 1048576) (num b 1048576) (num c 1048576) d), .int .i64 (ofv 0 (num a 1048576) (num b 1048576) (num c 1048576) d), .int .i64 (ofv 1 (num a 1048576) (num b 1048576) (num c 1048576) d), .int .i64 (ofv 2 (num a 1048576) (num b 1048576) (num c 1048576) d)]) (by simp [results, Try.results54, go_sem]) rfl ⟨rfl, by repeat (first | exact Below.refl _ _ | apply Below.drew | apply Below.al | apply Below.ex)⟩

end Go.Proofs.Ytdnepccjgclgiaa
