/- vec.Unit. -/
import Derived.Test.YtdnepccjgclgiaaTriangle
import Derived.Test.YtdnepccjgclgiaaFixLaws
namespace Go.Proofs.Ytdnepccjgclgiaa
open Go.RowKit
attribute [local go_sem ↓] run_mx run_mx4

/-- Cutting division, by the division that rounds down. -/
theorem tdiv_neg_exact (n d : Int) (h : n.tmod d = 0) : n.tdiv d = n / d := by
  rw [Int.tdiv_eq_ediv, if_pos (.inr (Int.dvd_of_tmod_eq_zero h))]; omega
theorem tdiv_neg_rest (n d : Int) (hd : 0 < d) (h0 : n < 0) (h : ¬ n.tmod d = 0) : n.tdiv d - 1 = n / d := by
  have : ¬ (0 ≤ n ∨ d ∣ n) := by
    intro h'
    rcases h' with h' | h'
    · omega
    · exact h (Int.tmod_eq_zero_of_dvd h')
  rw [Int.tdiv_eq_ediv, if_neg this, Int.sign_eq_one_of_pos hd]; omega

theorem through_any (x l : Int) (w : World) (x1 : -2147483648 ≤ x) (x2 : x ≤ 2147483648) (l1 : 0 < l) (l2 : l ≤ 8589934592) :
    Calls Try.prog 66 #[.int .i64 x, .int .i64 l] w fun e w' => e = .returned (.int .i64 ((131072 * x + l) / (2 * l))) ∧ w = w' := by
  have hn : 131072 * x + l = 2 * x * 65536 + l := by omega
  rw [hn]
  obtain ⟨q, hq⟩ : ∃ q, q = (2 * x * 65536 + l) / (2 * l) := ⟨_, rfl⟩
  have t1 : 0 ≤ 2 * x * 65536 + l → (2 * x * 65536 + l).tdiv (2 * l) = q := fun h => by rw [hq]; exact Int.tdiv_eq_ediv_of_nonneg h
  have t2 : (2 * x * 65536 + l).tmod (2 * l) = 0 → (2 * x * 65536 + l).tdiv (2 * l) = q := fun h => by rw [hq]; exact tdiv_neg_exact _ _ h
  have t3 : 2 * x * 65536 + l < 0 → ¬ (2 * x * 65536 + l).tmod (2 * l) = 0 → (2 * x * 65536 + l).tdiv (2 * l) - 1 = q := fun h h' => by rw [hq]; exact tdiv_neg_rest _ _ (by omega) h h'
  have b1 : -281474976710657 ≤ q := by
    rw [hq]; exact (Int.le_ediv_iff_mul_le (by omega)).2 (by omega)
  have b2 : q ≤ 281474976710656 := by
    have : q < 281474976710657 := by rw [hq]; exact Int.ediv_lt_of_lt_mul (by omega) (by omega)
    omega
  rw [← hq]
  clear hq hn
  by_cases h0 : 2 * x * 65536 + l < 0
  · by_cases h1 : (2 * x * 65536 + l).tmod (2 * l) = 0
    · have e := t2 h1
      clear t1 t2 t3
      go_enter Try.func66, Try.ntmps66
      go_wp2
      go_ret
      all_goals exact ⟨rfl, rfl⟩
    · have e := t3 h0 h1
      have e' : (2 * x * 65536 + l).tdiv (2 * l) = q + 1 := by omega
      clear t1 t2 t3 e
      have h2 : ((2 * x * 65536 + l).tmod (2 * l) == 0) = false := by simpa using h1
      go_enter Try.func66, Try.ntmps66
      go_wp2
      go_ret
      all_goals exact ⟨rfl, rfl⟩
  · have e := t1 (by omega)
    clear t1 t2 t3
    go_enter Try.func66, Try.ntmps66
    go_wp2
    go_ret
    all_goals exact ⟨rfl, rfl⟩

theorem vunit_0 (w : World) :
    Calls Try.prog 36 #[.agg #[.int .i64 0, .int .i64 0]] w fun e w' => e = .returned (.agg #[.int .i64 0, .int .i64 0]) ∧ Below w.heap.size w w' := by
  have c0 : clamp 0 = 0 := by decide
  go_enter Try.func36, Try.ntmps36
  go_wp2_with fail
  refine region_grow (by kernel_rfl) (by kernel_rfl) ?_
  repeat (go_big_quiet_step ((intro _; go_at_call 35; exact grow_same (clamp_any _ _))))
  refine wpQuiet_nil ?_
  intro _ hw'
  obtain ⟨k, m, rfl⟩ := hw'
  go_wp2
  exact bodyPost_ret (v := .agg #[.int .i64 0, .int .i64 0]) (by simp [results, Try.results36, go_sem]) rfl ⟨rfl, by repeat (first | exact Below.refl _ _ | apply Below.drew | apply Below.al | apply Below.ex)⟩

/-- A unit vector: of a multiple of the vector by a power of 2. -/
def IsUnit (x y X Y : Int) : Prop :=
  ∃ (k : Nat) (u v : Int), u = x * 2 ^ k ∧ v = y * 2 ^ k ∧ -2147483648 ≤ u ∧ u ≤ 2147483648 ∧ -2147483648 ≤ v ∧ v ≤ 2147483648 ∧ (1073741824 ≤ u.natAbs ∨ 1073741824 ≤ v.natAbs) ∧
    X = (131072 * u + (len u v : Int)) / (2 * (len u v : Int)) ∧ Y = (131072 * v + (len u v : Int)) / (2 * (len u v : Int))

theorem mx_nat (a b : Nat) (c : Int) (h : ¬ mx (a : Int) (b : Int) < c) : c ≤ a ∨ c ≤ b := by
  unfold mx at h; split at h <;> omega
theorem mx_nat' (a b : Nat) (c : Int) (h : mx (a : Int) (b : Int) < c) : (a : Int) < c ∧ (b : Int) < c := by
  unfold mx at h; split at h <;> omega

set_option maxHeartbeats 400000 in
theorem vunit_x (x y : Int) (w : World) (x1 : -1073741824 ≤ x) (x2 : x ≤ 1073741824) (y1 : -1073741824 ≤ y) (y2 : y ≤ 1073741824) (h0 : ¬ x = 0) :
    Calls Try.prog 36 #[.agg #[.int .i64 x, .int .i64 y]] w fun e w' => ∃ X Y, IsUnit x y X Y ∧ e = .returned (.agg #[.int .i64 X, .int .i64 Y]) ∧ Below w.heap.size w w' := by
  have c1 := clamp_in x (by omega) (by omega)
  have c2 := clamp_in y (by omega) (by omega)
  have H0 := Lib.hid h0
  have hx : (x == 0) = false := by simpa using h0
  clear h0
  go_enter Try.func36, Try.ntmps36
  go_wp2_with fail
  refine region_grow (by kernel_rfl) (by kernel_rfl) ?_
  repeat (go_big_quiet_step ((intro _; go_at_call 35; exact grow_same (clamp_any _ _))))
  refine wpQuiet_nil ?_
  intro _ hw'
  obtain ⟨k, m, rfl⟩ := hw'
  try simp only [c1, c2]
  clear c1 c2
  go_wp2
  go_loopw [3, 4] (fun a b wr => ∃ (j : Nat) (u v : Int), a = .int .i64 u ∧ b = .int .i64 v ∧ u = x * 2 ^ j ∧ v = y * 2 ^ j ∧ ¬ (u = 0 ∧ v = 0) ∧ -2147483648 ≤ u ∧ u ≤ 2147483648 ∧ -2147483648 ≤ v ∧ v ≤ 2147483648 ∧ wr = ext ((w.alloc (Obj.cells #[Value.int IntKind.i64 x, Value.int IntKind.i64 y] 24)).alloc (Obj.cells #[Value.int IntKind.i64 0, Value.int IntKind.i64 0] 24)) k m) (fun a b _ => 4294967296 - (intOf a).natAbs - (intOf b).natAbs)
  case atStart => exact ⟨0, x, y, rfl, rfl, by simp, by simp, fun h => H0.out h.1, by omega, by omega, by omega, by omega, rfl⟩
  case round =>
    obtain ⟨j, u, v, rfl, rfl, eu, ev, h1, u1, u2, v1, v2, rfl⟩ := hrel
    have Eu := Lib.hid eu
    have Ev := Lib.hid ev
    clear eu ev
    by_cases hm : mx (u.natAbs : Int) (v.natAbs : Int) < 1073741824
    · have hm' := mx_nat' _ _ _ hm
      go_wp2_with (go_at_call 65; (with_reducible refine (vmag_any _ _ (by omega) (by omega)).mono ?_); rintro e w1 ⟨rfl, rfl⟩)
      go_roundw
      case rel => exact ⟨j + 1, 2 * u, 2 * v, rfl, rfl, by rw [Eu.out]; grind, by rw [Ev.out]; grind, by omega, by omega, by omega, by omega, by omega, by first | rfl | trivial⟩
      case measure => simp [intOf]; omega
    · have hm' := mx_nat _ _ _ hm
      have hl := len_ge u v
      have hl' := len_le u v
      go_wp2_with (first
        | (go_at_call 65; (with_reducible refine (vmag_any _ _ (by omega) (by omega)).mono ?_); rintro e w1 ⟨rfl, rfl⟩)
        | (go_at_call 63; (with_reducible refine (length_any _ _ _ (by omega) (by omega) (by omega) (by omega)).mono ?_); rintro e w1 ⟨rfl, rfl⟩)
        | (go_at_call 66; (with_reducible refine (through_any _ _ _ (by omega) (by omega) (by omega) (by omega)).mono ?_); rintro e w1 ⟨rfl, rfl⟩))
      exact bodyPost_ret (v := .agg #[.int .i64 ((131072 * u + (len u v : Int)) / (2 * (len u v : Int))), .int .i64 ((131072 * v + (len u v : Int)) / (2 * (len u v : Int)))]) (by simp [results, Try.results36, go_sem]) rfl
        ⟨_, _, ⟨j, u, v, Eu.out, Ev.out, u1, u2, v1, v2, by omega, rfl, rfl⟩, rfl, by repeat (first | exact Below.refl _ _ | apply Below.drew | apply Below.al | apply Below.ex)⟩

set_option maxHeartbeats 400000 in
theorem vunit_y (y : Int) (w : World) (y1 : -1073741824 ≤ y) (y2 : y ≤ 1073741824) (h0 : ¬ y = 0) :
    Calls Try.prog 36 #[.agg #[.int .i64 0, .int .i64 y]] w fun e w' => ∃ X Y, IsUnit 0 y X Y ∧ e = .returned (.agg #[.int .i64 X, .int .i64 Y]) ∧ Below w.heap.size w w' := by
  have c1 : clamp 0 = 0 := by decide
  have c2 := clamp_in y (by omega) (by omega)
  have H0 := Lib.hid h0
  have hx : (y == 0) = false := by simpa using h0
  clear h0
  go_enter Try.func36, Try.ntmps36
  go_wp2_with fail
  refine region_grow (by kernel_rfl) (by kernel_rfl) ?_
  repeat (go_big_quiet_step ((intro _; go_at_call 35; exact grow_same (clamp_any _ _))))
  refine wpQuiet_nil ?_
  intro _ hw'
  obtain ⟨k, m, rfl⟩ := hw'
  try simp only [c1, c2]
  clear c1 c2
  go_wp2
  go_loopw [3, 4] (fun a b wr => ∃ (j : Nat) (u v : Int), a = .int .i64 u ∧ b = .int .i64 v ∧ u = 0 ∧ v = y * 2 ^ j ∧ ¬ (u = 0 ∧ v = 0) ∧ -2147483648 ≤ u ∧ u ≤ 2147483648 ∧ -2147483648 ≤ v ∧ v ≤ 2147483648 ∧ wr = ext ((w.alloc (Obj.cells #[Value.int IntKind.i64 0, Value.int IntKind.i64 y] 24)).alloc (Obj.cells #[Value.int IntKind.i64 0, Value.int IntKind.i64 0] 24)) k m) (fun a b _ => 4294967296 - (intOf a).natAbs - (intOf b).natAbs)
  case atStart => exact ⟨0, 0, y, rfl, rfl, rfl, by simp, fun h => H0.out h.2, by omega, by omega, by omega, by omega, rfl⟩
  case round =>
    obtain ⟨j, u, v, rfl, rfl, eu, ev, h1, u1, u2, v1, v2, rfl⟩ := hrel
    have Ev := Lib.hid ev
    clear ev
    subst eu
    have hv := Lib.hid (show ¬ v = 0 from fun h => h1 ⟨rfl, h⟩)
    clear h1
    by_cases hm : mx 0 (v.natAbs : Int) < 1073741824
    · have hm' := mx_nat' 0 v.natAbs _ (by simpa using hm)
      go_wp2_with (go_at_call 65; (with_reducible refine (vmag_any _ _ (by omega) (by omega)).mono ?_); rintro e w1 ⟨rfl, rfl⟩)
      go_roundw
      case rel => have hv' := hv.out; exact ⟨j + 1, 0, 2 * v, rfl, rfl, by omega, by rw [Ev.out]; grind, by omega, by omega, by omega, by omega, by omega, by first | rfl | trivial⟩
      case measure => have hv' := hv.out; simp [intOf]; omega
    · have hm' := mx_nat 0 v.natAbs _ (by simpa using hm)
      have hl := len_ge 0 v
      have hl' := len_le 0 v
      go_wp2_with (first
        | (go_at_call 65; (with_reducible refine (vmag_any _ _ (by omega) (by omega)).mono ?_); rintro e w1 ⟨rfl, rfl⟩)
        | (go_at_call 63; (with_reducible refine (length_any _ _ _ (by omega) (by omega) (by omega) (by omega)).mono ?_); rintro e w1 ⟨rfl, rfl⟩)
        | (go_at_call 66; (with_reducible refine (through_any _ _ _ (by omega) (by omega) (by omega) (by omega)).mono ?_); rintro e w1 ⟨rfl, rfl⟩))
      exact bodyPost_ret (v := .agg #[.int .i64 ((131072 * 0 + (len 0 v : Int)) / (2 * (len 0 v : Int))), .int .i64 ((131072 * v + (len 0 v : Int)) / (2 * (len 0 v : Int)))]) (by simp [results, Try.results36, go_sem]) rfl
        ⟨_, _, ⟨j, 0, v, by simp, Ev.out, u1, u2, v1, v2, by omega, rfl, rfl⟩, rfl, by repeat (first | exact Below.refl _ _ | apply Below.drew | apply Below.al | apply Below.ex)⟩

theorem vunit_any (x y : Int) (w : World) (x1 : -1073741824 ≤ x) (x2 : x ≤ 1073741824) (y1 : -1073741824 ≤ y) (y2 : y ≤ 1073741824) (h0 : ¬ (x = 0 ∧ y = 0)) :
    Calls Try.prog 36 #[.agg #[.int .i64 x, .int .i64 y]] w fun e w' => ∃ X Y, IsUnit x y X Y ∧ e = .returned (.agg #[.int .i64 X, .int .i64 Y]) ∧ Below w.heap.size w w' := by
  by_cases h : x = 0
  · subst h; exact vunit_y y w y1 y2 (by omega)
  · exact vunit_x x y w x1 x2 y1 y2 h
end Go.Proofs.Ytdnepccjgclgiaa
