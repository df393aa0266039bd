/- Contracts of package quant's spans. -/
import Derived.Test.YthfpbplpfjmmgaaBase
import Derived.WalkLawsBesides
namespace Go.Proofs.Ythfpbplpfjmmgaa
open Go.RowKit

/-- A region that reads and calls, in a world that has grown already. -/
theorem region_grow_ext {P : Program} {id : Nat} {Q : Exit → Act → World → Prop} {a : Act} {w : World} {l0 : List Obj} {n0 : Nat} {l : List Oper} (hm : P.follows .mixedOrders = true) (hB : Region.lexB .any l.toArray = true)
    (h : wpQuiet P l.toArray (fun w' => ∃ k n, w' = ext w k n) (fun a' => ∀ w', (∃ k n, w' = ext w k n) → Q .normal a' w') l a) : (Code.region id l.toArray true).wp P Q a (ext w l0 n0) :=
  wp_region_quiet (C := fun w' => ∃ k n, w' = ext w k n) hm hB ⟨l0, n0 + 1, by simp [ext]⟩ (by simpa using h)

theorem range_ok (lo hi n : Int) (w : World) (h1 : -1099511627776 ≤ lo) (h2 : lo < hi) (h3 : hi ≤ 1099511627776) (n1 : 1 ≤ n) (n2 : n ≤ 32) :
    Calls Try.prog 50 #[.agg #[.int .i64 lo, .int .i64 hi], .int .i64 n] w fun e w' => e = .returned (.int .i64 0) ∧ Below w.heap.size w w' := by
  have c1 := clamp_in lo (by omega) (by omega)
  have c2 := clamp_in hi (by omega) (by omega)
  have d1 : decide (hi ≤ lo) = false := by simp; omega
  have d2 : decide (n < 1) = false := by simp; omega
  have d3 : decide (32 < n) = false := by simp; omega
  go_enter Try.func50, Try.ntmps50
  go_wp2_with fail
  refine region_grow (by kernel_rfl) (by kernel_rfl) ?_
  repeat (go_big_quiet_step ((intro _; go_at_call 33; exact grow_same (clamp_any _ _))))
  refine wpQuiet_nil ?_
  intro _ hw'
  obtain ⟨k, m, rfl⟩ := hw'
  go_wp2
  go_ret
  exact ⟨rfl, by repeat (first | exact Below.refl _ _ | apply Below.drew | apply Below.al | apply Below.ex)⟩
theorem range_bad (lo n : Int) (w : World) (h1 : -1099511627776 ≤ lo) (h3 : lo ≤ 1099511627776) :
    Calls Try.prog 50 #[.agg #[.int .i64 lo, .int .i64 lo], .int .i64 n] w fun e w' => e = .returned (.int .i64 1) ∧ Below w.heap.size w w' := by
  have c1 := clamp_in lo (by omega) (by omega)
  go_enter Try.func50, Try.ntmps50
  go_wp2_with fail
  refine region_grow (by kernel_rfl) (by kernel_rfl) ?_
  repeat (go_big_quiet_step ((intro _; go_at_call 33; exact grow_same (clamp_any _ _))))
  refine wpQuiet_nil ?_
  intro _ hw'
  obtain ⟨k, m, rfl⟩ := hw'
  go_wp2
  go_ret
  exact ⟨rfl, by repeat (first | exact Below.refl _ _ | apply Below.drew | apply Below.al | apply Below.ex)⟩

theorem pow_bd (n : Int) (n1 : 1 ≤ n) (n2 : n ≤ 32) : 2 ≤ (2 : Int) ^ n.toNat ∧ (2 : Int) ^ n.toNat ≤ 4294967296 := by
  obtain ⟨k, rfl⟩ := Int.eq_ofNat_of_zero_le (show 0 ≤ n by omega)
  rw [Int.toNat_natCast]
  have h1 : 2 ^ 1 ≤ 2 ^ k := Nat.pow_le_pow_right (by omega) (by omega)
  have h2 : 2 ^ k ≤ 2 ^ 32 := Nat.pow_le_pow_right (by omega) (by omega)
  have e : (2 : Int) ^ k = ((2 ^ k : Nat) : Int) := by simp
  rw [e]
  omega

theorem bound_any (lo hi n p : Int) (w : World) (h1 : -1099511627776 ≤ lo) (h2 : lo < hi) (h3 : hi ≤ 1099511627776) (n1 : 1 ≤ n) (n2 : n ≤ 32) (hp : (2 : Int) ^ n.toNat = p) :
    Calls Try.prog 29 #[.agg #[.int .i64 lo, .int .i64 hi], .int .i64 n] w fun e w' => e = .returned (.tuple #[.int .i64 ((hi - lo + (p - 1) - 1) / (p - 1) / 2 + 1), .int .i64 0]) ∧ Below w.heap.size w w' := by
  have pb := pow_bd n n1 n2
  rw [hp] at pb
  obtain ⟨p1, p2⟩ := pb
  obtain ⟨q, hq⟩ : ∃ q, (hi - lo + (p - 1) - 1) / (p - 1) = q := ⟨_, rfl⟩
  have q0 : 0 ≤ q := by rw [← hq]; exact Int.ediv_nonneg (by omega) (by omega)
  have q1 : q ≤ 4398046511104 := by rw [← hq]; have := Int.ediv_le_self (p - 1) (show 0 ≤ hi - lo + (p - 1) - 1 by omega); omega
  go_enter Try.func29, Try.ntmps29
  go_wp2_with (go_at_call 50; (with_reducible refine (range_ok _ _ _ _ h1 h2 h3 n1 n2).mono ?_); rintro e w1 ⟨rfl, hb⟩; obtain ⟨l, n, rfl⟩ := ext_of hb; clear hb)
  go_ret2
  exact ⟨by rw [hq]; rfl, by repeat (first | exact Below.refl _ _ | apply Below.drew | apply Below.al | apply Below.ex)⟩
theorem bound_bad (lo n : Int) (w : World) (h1 : -1099511627776 ≤ lo) (h3 : lo ≤ 1099511627776) :
    Calls Try.prog 29 #[.agg #[.int .i64 lo, .int .i64 lo], .int .i64 n] w fun e w' => e = .returned (.tuple #[.int .i64 0, .int .i64 1]) ∧ Below w.heap.size w w' := by
  go_enter Try.func29, Try.ntmps29
  go_wp2_with (go_at_call 50; (with_reducible refine (range_bad _ _ _ h1 h3).mono ?_); rintro e w1 ⟨rfl, hb⟩; obtain ⟨l, n, rfl⟩ := ext_of hb; clear hb)
  go_ret2
  exact ⟨rfl, by repeat (first | exact Below.refl _ _ | apply Below.drew | apply Below.al | apply Below.ex)⟩

theorem coarse_any (lo hi n p v : Int) (w : World) (h1 : -1099511627776 ≤ lo) (h2 : lo < hi) (h3 : hi ≤ 1099511627776) (n1 : 1 ≤ n) (n2 : n ≤ 32) (hp : (2 : Int) ^ n.toNat = p) (v1 : lo ≤ v) (v2 : v ≤ hi) :
    Calls Try.prog 30 #[.agg #[.int .i64 lo, .int .i64 hi], .int .i64 n, .int .i64 v] w fun e w' => e = .returned (.tuple #[.int .i64 (thr (v - lo) (p - 1) (hi - lo)), .int .i64 0]) ∧ Below w.heap.size w w' := by
  have pb := pow_bd n n1 n2
  rw [hp] at pb
  obtain ⟨p1, p2⟩ := pb
  go_enter Try.func30, Try.ntmps30
  go_wp2_with (go_at_call 50; (with_reducible refine (range_ok _ _ _ _ h1 h2 h3 n1 n2).mono ?_); rintro e w1 ⟨rfl, hb⟩; obtain ⟨l, n, rfl⟩ := ext_of hb; clear hb)
  refine region_grow_ext (by kernel_rfl) (by kernel_rfl) ?_
  repeat (go_big_quiet_step ((intro _; go_at_call 51; exact grow_same (through_any _ _ _ _ (by omega) (by omega) (by omega) (by omega) (by omega) (by omega)))))
  refine wpQuiet_nil ?_
  intro _ hw'
  obtain ⟨k, m, rfl⟩ := hw'
  go_wp2
  go_ret2
  exact ⟨rfl, by repeat (first | exact Below.refl _ _ | apply Below.drew | apply Below.al | apply Below.ex)⟩

theorem thr_bd (a b c : Int) (a0 : 0 ≤ a) (a1 : a ≤ c) (c0 : 0 < c) (b0 : 0 ≤ b) : 0 ≤ thr a b c ∧ thr a b c ≤ b := by
  unfold thr
  have h0 : 0 ≤ a * b := Int.mul_nonneg a0 b0
  have h1 : a * b ≤ c * b := Int.mul_le_mul_of_nonneg_right a1 b0
  refine ⟨Int.ediv_nonneg (by omega) (by omega), ?_⟩
  have : (2 * (a * b) + c) / (2 * c) < b + 1 := Int.ediv_lt_of_lt_mul (by omega) (by rw [show (b + 1) * (2 * c) = 2 * (c * b) + 2 * c by grind]; omega)
  omega

theorem fine_any (lo hi n p k : Int) (w : World) (h1 : -1099511627776 ≤ lo) (h2 : lo < hi) (h3 : hi ≤ 1099511627776) (n1 : 1 ≤ n) (n2 : n ≤ 32) (hp : (2 : Int) ^ n.toNat = p) (k1 : 0 ≤ k) (k2 : k ≤ p - 1) :
    Calls Try.prog 31 #[.agg #[.int .i64 lo, .int .i64 hi], .int .i64 n, .int .i64 k] w fun e w' => e = .returned (.tuple #[.int .i64 (lo + thr k (hi - lo) (p - 1)), .int .i64 0]) ∧ Below w.heap.size w w' := by
  have pb := pow_bd n n1 n2
  rw [hp] at pb
  obtain ⟨p1, p2⟩ := pb
  obtain ⟨t1, t2⟩ := thr_bd k (hi - lo) (p - 1) k1 k2 (by omega) (by omega)
  go_enter Try.func31, Try.ntmps31
  go_wp2_with (go_at_call 50; (with_reducible refine (range_ok _ _ _ _ h1 h2 h3 n1 n2).mono ?_); rintro e w1 ⟨rfl, hb⟩; obtain ⟨l, n, rfl⟩ := ext_of hb; clear hb)
  refine region_grow_ext (by kernel_rfl) (by kernel_rfl) ?_
  repeat (go_big_quiet_step ((intro _; go_at_call 51; exact grow_same (through_any _ _ _ _ (by omega) (by omega) (by omega) (by omega) (by omega) (by omega)))))
  refine wpQuiet_nil ?_
  intro _ hw'
  obtain ⟨k, m, rfl⟩ := hw'
  go_wp2
  go_ret2
  exact ⟨rfl, by repeat (first | exact Below.refl _ _ | apply Below.drew | apply Below.al | apply Below.ex)⟩

/-- The greater one of two numbers. -/
def mx (x y : Int) : Int := if y > x then y else x
theorem run_mx (ts : Array TypeId) (t : TypeId) (k : IntKind) (x y : Int) (w : World) : (Builtin.max_ ts t #[.int k x, .int k y]).run Try.prog w = .ok (.int k (mx x y)) w := by
  rw [run_max_int2]; rfl
attribute [local go_sem ↓] run_mx

/-- quant.Fit, of a field with 0 to 32 bits. -/
def fit (low p v : Int) : Int := if clamp low + p - 1 < mx v (clamp low) then clamp low + p - 1 else mx v (clamp low)
theorem fit_any (nm : Value) (b low v p : Int) (w : World) (b0 : 0 ≤ b) (b1 : b ≤ 32) (hp : (2 : Int) ^ b.toNat = p) (p0 : 1 ≤ p) (p1 : p ≤ 4294967296) :
    Calls Try.prog 34 #[.agg #[nm, .int .i64 b, .int .i64 low], .int .i64 v] w fun e w' => e = .returned (.int .i64 (fit low p v)) ∧ Below w.heap.size w w' := by
  have h1 : mx b 0 = b := by unfold mx; rw [if_neg (by omega)]
  have h2 : min b 32 = b := by omega
  have c1 := clamp_lo low
  have c2 := clamp_hi low
  by_cases h : clamp low + p - 1 < mx v (clamp low)
  · have E := Lib.hid (show fit low p v = clamp low + p - 1 by unfold fit; rw [if_pos h])
    go_enter Try.func34, Try.ntmps34
    go_wp2_with (go_at_call 33; (with_reducible refine (clamp_any _ _).mono ?_); rintro e w' ⟨rfl, rfl⟩)
    go_ret
    exact ⟨by rw [E.out]; exact rfl, by repeat (first | exact Below.refl _ _ | apply Below.drew | apply Below.al | apply Below.ex)⟩
  · have E := Lib.hid (show fit low p v = mx v (clamp low) by unfold fit; rw [if_neg h])
    go_enter Try.func34, Try.ntmps34
    go_wp2_with (go_at_call 33; (with_reducible refine (clamp_any _ _).mono ?_); rintro e w' ⟨rfl, rfl⟩)
    go_ret
    exact ⟨by rw [E.out]; exact rfl, by repeat (first | exact Below.refl _ _ | apply Below.drew | apply Below.al | apply Below.ex)⟩
theorem fit_begun : fit (-2) 8 9 = 5 := by decide
theorem quantBegun_any (w : World) :
    Calls Try.prog 27 #[] w fun e w' => e = .returned (.bool true) ∧ Below w.heap.size w w' := by
  have h := fit_begun
  go_enter Try.func27, Try.ntmps27
  go_wp2_with (go_at_call 34; (with_reducible refine (fit_any _ _ _ _ 8 _ (by omega) (by omega) (by decide) (by omega) (by omega)).mono ?_); rintro e w1 ⟨rfl, hb⟩; obtain ⟨l, n, rfl⟩ := ext_of hb; clear hb)
  go_ret
  exact ⟨rfl, by repeat (first | exact Below.refl _ _ | apply Below.drew | apply Below.al | apply Below.ex)⟩
end Go.Proofs.Ythfpbplpfjmmgaa
