/- quat.Back, quat.Unit, quat.Of, quat.Turn; tourkeep1.square, quatBegun, turner. -/
import Derived.Test.YtdnepccjgclgiaaQmul
import Derived.Test.YtdnepccjgclgiaaQunit
namespace Go.Proofs.Ytdnepccjgclgiaa
open Go.RowKit

theorem qback_any (a b c d : Int) (w : World) :
    Calls Try.prog 56 #[.agg #[.int .i64 a, .int .i64 b, .int .i64 c, .int .i64 d]] w fun e w' => e = .returned (.agg #[.int .i64 (clamp a), .int .i64 (-clamp b), .int .i64 (-clamp c), .int .i64 (-clamp d)]) ∧ Below w.heap.size w w' := by
  have b1 := clamp_lo b
  have b2 := clamp_hi b
  have c1 := clamp_lo c
  have c2 := clamp_hi c
  have d1 := clamp_lo d
  have d2 := clamp_hi d
  go_enter Try.func56, Try.ntmps56
  go_wp2_with fail
  refine region_tail 16 (by kernel_rfl) (by kernel_rfl) ?_
  simp only [List.take_succ_cons, List.take_zero, List.drop_succ_cons, List.drop_zero]
  repeat (go_big_quiet_step ((intro _; go_at_call 35; exact grow_same (clamp_any _ _))))
  refine wpQuiet_nil ?_
  intro _ hw'
  obtain ⟨k, m, rfl⟩ := hw'
  go_wp2
  exact bodyPost_ret (v := .agg #[.int .i64 (clamp a), .int .i64 (-clamp b), .int .i64 (-clamp c), .int .i64 (-clamp d)]) (by simp [results, Try.results56, go_sem]) rfl ⟨rfl, by repeat (first | exact Below.refl _ _ | apply Below.drew | apply Below.al | apply Below.ex)⟩

def sqq (a b c d : Int) : Int := (a * a + b * b + c * c + d * d) / 65536
theorem sq_bd (a n : Int) (h1 : -n ≤ a) (h2 : a ≤ n) : 0 ≤ a * a ∧ a * a ≤ n * n := by
  exact ⟨sq_nonneg a, (prod_in a a n h1 h2 h1 h2).2⟩
theorem square_any (a b c d : Int) (w : World) (a1 : -1048576 ≤ a) (a2 : a ≤ 1048576) (b1 : -1048576 ≤ b) (b2 : b ≤ 1048576) (c1 : -1048576 ≤ c) (c2 : c ≤ 1048576) (d1 : -1048576 ≤ d) (d2 : d ≤ 1048576) :
    Calls Try.prog 57 #[.agg #[.int .i64 a, .int .i64 b, .int .i64 c, .int .i64 d]] w fun e w' => e = .returned (.int .i64 (sqq a b c d)) ∧ Below w.heap.size w w' := by
  unfold sqq
  have A := sq_bd a 1048576 a1 a2
  have B := sq_bd b 1048576 b1 b2
  have C := sq_bd c 1048576 c1 c2
  have D := sq_bd d 1048576 d1 d2
  obtain ⟨p, hp⟩ : ∃ p, a * a = p := ⟨_, rfl⟩
  obtain ⟨q, hq⟩ : ∃ p, b * b = p := ⟨_, rfl⟩
  obtain ⟨r, hr⟩ : ∃ p, c * c = p := ⟨_, rfl⟩
  obtain ⟨s, hs⟩ : ∃ p, d * d = p := ⟨_, rfl⟩
  rw [hp] at A; rw [hq] at B; rw [hr] at C; rw [hs] at D
  rw [hp, hq, hr, hs]
  have ht : (p + q + r + s).tdiv 65536 = (p + q + r + s) / 65536 := Int.tdiv_eq_ediv_of_nonneg (by omega)
  obtain ⟨p1, p2⟩ := A
  obtain ⟨q1, q2⟩ := B
  obtain ⟨r1, r2⟩ := C
  obtain ⟨s1, s2⟩ := D
  go_enter Try.func57, Try.ntmps57
  go_wp2_with fail
  go_ret
  exact ⟨rfl, by repeat (first | exact Below.refl _ _ | apply Below.drew | apply Below.al | apply Below.ex)⟩

/-- Equal powers. -/
theorem pow_one {m : Int} {j k : Nat} (h1 : 1073741824 ≤ m * 2 ^ j) (h2 : m * 2 ^ k < 2147483648) (hlt : j < k) : False := by
  obtain ⟨i, rfl⟩ : ∃ i, k = j + 1 + i := ⟨k - (j + 1), by omega⟩
  have e : m * 2 ^ (j + 1 + i) = (m * 2 ^ j) * (2 * 2 ^ i) := by rw [Int.pow_add, Int.pow_succ]; grind
  have hp : (1 : Int) ≤ 2 ^ i := Int.pow_pos (by omega)
  have := Int.mul_le_mul h1 (show (2 : Int) ≤ 2 * 2 ^ i by omega) (by omega) (by omega)
  omega
theorem qunit_one {l L K : List Int} (h : QUnit l L) (k : QUnit l K) : L = K := by
  obtain ⟨j, d, hd, h1, h2, hL⟩ := h
  obtain ⟨j', d', hd', h1', h2', hK⟩ := k
  have : j = j' := by
    rcases Nat.lt_trichotomy j j' with h | h | h
    · exact (pow_one h1 h2' h).elim
    · exact h
    · exact (pow_one h1' h2 h).elim
  subst this
  rw [hL, hK, hd, hd']
/-- The unit row. -/
noncomputable def qvec (l : List Int) : List Int := Classical.epsilon (QUnit l)
theorem qvec_is {l L : List Int} (h : QUnit l L) : qvec l = L := qunit_one (Classical.epsilon_spec (p := QUnit l) ⟨L, h⟩) h
noncomputable def qat (l : List Int) (i : Nat) : Int := (qvec l)[i]?.getD 0
noncomputable def un (l : List Int) (i : Nat) : Int := if most l = 0 then (if i = 0 then 65536 else 0) else qat l i

theorem irow_qat {W : World} {g : Nat} {l L : List Int} (h : QUnit l L) (hr : IRow W g L) : IRow W g (qvec l) ∧ (qvec l).length = l.length := by
  rw [qvec_is h]
  refine ⟨hr, ?_⟩
  obtain ⟨j, d, -, -, -, rfl⟩ := h
  simp

theorem qunit_zero (g n cap : Nat) (l : List Int) (w : World) (hz : most l = 0) (hl : l.length = n) (hn : n ≤ 4) (hg : g < w.heap.size) (h : IRow w g l) (hb : ∀ x ∈ l, -1073741824 ≤ x ∧ x ≤ 1073741824) :
    Calls Try.prog 80 #[.slice (some ⟨g, 0, none⟩) n cap] w fun e w' => e = .returned (.tuple #[.slice none 0 0, .bool false]) ∧ Below w.heap.size w w' :=
  (qunit_any g n cap l w hl hn hg h hb).mono fun e w' ⟨h1, h2⟩ => by
    rcases h1 with ⟨_, h1⟩ | ⟨h1, _⟩
    · exact ⟨h1, h2⟩
    · exact absurd hz h1
theorem qunit_pos (g n cap : Nat) (l : List Int) (w : World) (hz : ¬ most l = 0) (hl : l.length = n) (hn : n ≤ 4) (hg : g < w.heap.size) (h : IRow w g l) (hb : ∀ x ∈ l, -1073741824 ≤ x ∧ x ≤ 1073741824) :
    Calls Try.prog 80 #[.slice (some ⟨g, 0, none⟩) n cap] w fun e w' => e = .returned (.tuple #[.slice (some ⟨w.heap.size, 0, none⟩) n n, .bool true]) ∧ (∀ k, k < n → w'.cell? ⟨w.heap.size, k, none⟩ = some (.int .i64 (qat l k))) ∧ w.heap.size < w'.heap.size ∧ Below w.heap.size w w' :=
  (qunit_any g n cap l w hl hn hg h hb).mono fun e w' ⟨h1, h2⟩ => by
    rcases h1 with ⟨h1, _⟩ | ⟨_, h1, h3, L, h4, h5⟩
    · exact absurd h1 hz
    · obtain ⟨h6, h7⟩ := irow_qat h4 h5
      exact ⟨h1, fun k hk => h6.1 k (by rw [h7, hl]; exact hk), h3, h2⟩

theorem al_size (w : World) (o : Obj) : (w.alloc o).heap.size = w.heap.size + 1 := by simp [go_sem]
theorem q4_zero (a b c d : Int) (g : Nat) (w : World) (hg : g = w.heap.size) (hz : most [a, b, c, d] = 0) (hb : ∀ x ∈ [a, b, c, d], -1073741824 ≤ x ∧ x ≤ 1073741824) :
    Calls Try.prog 80 #[.slice (some ⟨g, 0, none⟩) 4 4] (w.alloc (.cells #[.int .i64 a, .int .i64 b, .int .i64 c, .int .i64 d] 3)) fun e w' => e = .returned (.tuple #[.slice none 0 0, .bool false]) ∧ Below (w.alloc (.cells #[.int .i64 a, .int .i64 b, .int .i64 c, .int .i64 d] 3)).heap.size (w.alloc (.cells #[.int .i64 a, .int .i64 b, .int .i64 c, .int .i64 d] 3)) w' := by
  subst hg
  exact qunit_zero w.heap.size 4 4 [a, b, c, d] (w.alloc (.cells #[.int .i64 a, .int .i64 b, .int .i64 c, .int .i64 d] 3)) hz rfl (by omega) (by simp [go_sem]) (irow_al _ _ _ _ _ _) hb
theorem q4_pos (a b c d : Int) (g : Nat) (w : World) (hg : g = w.heap.size) (hz : ¬ most [a, b, c, d] = 0) (hb : ∀ x ∈ [a, b, c, d], -1073741824 ≤ x ∧ x ≤ 1073741824) :
    Calls Try.prog 80 #[.slice (some ⟨g, 0, none⟩) 4 4] (w.alloc (.cells #[.int .i64 a, .int .i64 b, .int .i64 c, .int .i64 d] 3)) fun e w' => e = .returned (.tuple #[.slice (some ⟨w.heap.size + 1, 0, none⟩) 4 4, .bool true]) ∧ (∀ k, k < 4 → w'.cell? ⟨w.heap.size + 1, k, none⟩ = some (.int .i64 (qat [a, b, c, d] k))) ∧ w.heap.size + 1 < w'.heap.size ∧ Below (w.alloc (.cells #[.int .i64 a, .int .i64 b, .int .i64 c, .int .i64 d] 3)).heap.size (w.alloc (.cells #[.int .i64 a, .int .i64 b, .int .i64 c, .int .i64 d] 3)) w' := by
  subst hg
  have := qunit_pos w.heap.size 4 4 [a, b, c, d] (w.alloc (.cells #[.int .i64 a, .int .i64 b, .int .i64 c, .int .i64 d] 3)) hz rfl (by omega) (by simp [go_sem]) (irow_al _ _ _ _ _ _) hb
  rw [al_size] at this ⊢
  exact this

theorem unit_any (a b c d : Int) (w : World) (a1 : -1073741824 ≤ a) (a2 : a ≤ 1073741824) (b1 : -1073741824 ≤ b) (b2 : b ≤ 1073741824) (c1 : -1073741824 ≤ c) (c2 : c ≤ 1073741824) (d1 : -1073741824 ≤ d) (d2 : d ≤ 1073741824) :
    Calls Try.prog 61 #[.agg #[.int .i64 a, .int .i64 b, .int .i64 c, .int .i64 d]] w fun e w' => e = .returned (.agg #[.int .i64 (un [a, b, c, d] 0), .int .i64 (un [a, b, c, d] 1), .int .i64 (un [a, b, c, d] 2), .int .i64 (un [a, b, c, d] 3)]) ∧ Below w.heap.size w w' := by
  have hb : ∀ x ∈ [a, b, c, d], -1073741824 ≤ x ∧ x ≤ 1073741824 := by
    intro x hx
    simp only [List.mem_cons, List.not_mem_nil, or_false] at hx
    rcases hx with rfl | rfl | rfl | rfl <;> omega
  have HB := Lib.hid hb
  clear hb a1 a2 b1 b2 c1 c2 d1 d2
  unfold un
  by_cases hm : most [a, b, c, d] = 0
  · have HM := Lib.hid hm
    simp only [if_pos hm]
    clear hm
    go_enter Try.func61, Try.ntmps61
    go_wp2_with (go_at_call 80; (with_reducible refine (q4_zero a b c d _ _ (by simp [go_sem]) HM.out HB.out).mono ?_); rintro e w1 ⟨rfl, hb⟩; obtain ⟨l0, n0, rfl⟩ := ext_of hb; clear hb)
    exact bodyPost_ret (v := .agg #[.int .i64 65536, .int .i64 0, .int .i64 0, .int .i64 0]) (by simp [results, Try.results61, go_sem]) rfl ⟨rfl, by repeat (first | exact Below.refl _ _ | apply Below.drew | apply Below.al | apply Below.ex)⟩
  · have HM := Lib.hid hm
    simp only [if_neg hm]
    clear hm
    go_enter Try.func61, Try.ntmps61
    go_wp2_with (go_at_call 80; (with_reducible refine (q4_pos a b c d _ _ (by simp [go_sem]) HM.out HB.out).mono ?_); rintro e w1 ⟨rfl, hq, hlt, hb⟩)
    have q0 := hq 0 (by omega)
    have q1 := hq 1 (by omega)
    have q2 := hq 2 (by omega)
    have q3 := hq 3 (by omega)
    have zc : ∀ i, i < 4 → w1.cell? ⟨w.heap.size + 1, i, none⟩ = some (.int .i64 0) := fun i hi => (hb.cell (p := ⟨w.heap.size + 1, i, none⟩) (by simp [go_sem])).trans (by
      match i, hi with
      | 0, _ => simp [go_sem]
      | 1, _ => simp [go_sem]
      | 2, _ => simp [go_sem]
      | 3, _ => simp [go_sem])
    have zf : ∀ i, w1.frozen? ⟨w.heap.size + 1, i, none⟩ = false := fun i => (hb.frozen (p := ⟨w.heap.size + 1, i, none⟩) (by simp [go_sem])).trans (by simp [go_sem])
    have z0 := zc 0 (by omega)
    have z1 := zc 1 (by omega)
    have z2 := zc 2 (by omega)
    have z3 := zc 3 (by omega)
    have f0 := zf 0
    have f1 := zf 1
    have f2 := zf 2
    have f3 := zf 3
    simp only [al_size] at q0 q1 q2 q3 hlt
    have hlt2 : w.heap.size + 1 < w1.heap.size := by omega
    have hbb := Lib.hid (show Below w.heap.size w w1 from by simp only [al_size] at hb; exact (Below.al (Below.al (Below.al (Below.refl _ w) _) _) _).trans (hb.mono (by omega)))
    clear hq hb zc zf
    refine region_tail 13 (by kernel_rfl) (by kernel_rfl) ?_
    simp only [List.take_succ_cons, List.take_zero, List.drop_succ_cons, List.drop_zero]
    repeat (go_big_quiet_step (fail))
    refine wpQuiet_nil ?_
    intro _ hw'
    obtain ⟨k, m, rfl⟩ := hw'
    go_wp2
    exact bodyPost_ret (v := .agg #[.int .i64 (qat [a, b, c, d] 0), .int .i64 (qat [a, b, c, d] 1), .int .i64 (qat [a, b, c, d] 2), .int .i64 (qat [a, b, c, d] 3)]) (by simp [results, Try.results61, go_sem, hlt2, z0, z1, z2, z3]) rfl ⟨rfl, by
      refine Below.ext' ?_ (by simp [World.setCell]; omega) _ _
      exact (((hbb.out.setCell (by simp) _).setCell (by simp) _).setCell (by simp) _).setCell (by simp) _⟩
end Go.Proofs.Ytdnepccjgclgiaa
