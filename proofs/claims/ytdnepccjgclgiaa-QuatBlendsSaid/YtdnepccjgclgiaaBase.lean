/- Contracts of package fix's sums and of the laws' own small functions. -/
import Derived.Test.YtdnepccjgclgiaaRows
import Derived.WalkKit
import Derived.Outline
import Derived.OpenShut
import Derived.Lib.Hide
import Derived.RegionTactic
import Derived.Test.YtdnepccjgclgiaaExt
namespace Go.Proofs.Ytdnepccjgclgiaa
open Go.RowKit

theorem ret_int {k : IntKind} {a b : Int} (h : a = b) : Ending.returned (.int k a) = .returned (.int k b) := by rw [h]
theorem ret_bool {a b : Bool} (h : a = b) : Ending.returned (.bool a) = .returned (.bool b) := by rw [h]

/-- fix.Clamp. -/
def clamp (a : Int) : Int := if a < -1099511627776 then -1099511627776 else if 1099511627776 < a then 1099511627776 else a
theorem clamp_lo (a : Int) : -1099511627776 ≤ clamp a := by unfold clamp; split <;> (try split) <;> omega
theorem clamp_hi (a : Int) : clamp a ≤ 1099511627776 := by unfold clamp; split <;> (try split) <;> omega
theorem clamp_in (a : Int) (h : -1099511627776 ≤ a) (h' : a ≤ 1099511627776) : clamp a = a := by unfold clamp; rw [if_neg (by omega), if_neg (by omega)]
theorem clamp_clamp (a : Int) : clamp (clamp a) = clamp a := clamp_in _ (clamp_lo a) (clamp_hi a)
theorem clamp_neg (a : Int) : clamp (-a) = - clamp a := by unfold clamp; split <;> split <;> (try split) <;> (try split) <;> omega
theorem clamp_mono (a b : Int) (h : a ≤ b) : clamp a ≤ clamp b := by unfold clamp; split <;> split <;> (try split) <;> (try split) <;> omega

theorem clamp_any (a : Int) (w : World) :
    Calls Try.prog 35 #[.int .i64 a] w fun e w' => e = .returned (.int .i64 (clamp a)) ∧ w = w' := by
  by_cases h1 : a < -1099511627776
  · have h : clamp a = -1099511627776 := by unfold clamp; rw [if_pos h1]
    have H := Lib.hid h
    clear h
    go_enter Try.func35, Try.ntmps35
    go_wp2
    go_ret
    exact ⟨ret_int H.out.symm, rfl⟩
  · by_cases h2 : 1099511627776 < a
    · have h : clamp a = 1099511627776 := by unfold clamp; rw [if_neg h1, if_pos h2]
      have H := Lib.hid h
      clear h
      go_enter Try.func35, Try.ntmps35
      go_wp2
      go_ret
      exact ⟨ret_int H.out.symm, rfl⟩
    · have h : clamp a = a := by unfold clamp; rw [if_neg h1, if_neg h2]
      have H := Lib.hid h
      clear h
      go_enter Try.func35, Try.ntmps35
      go_wp2
      go_ret
      exact ⟨ret_int H.out.symm, rfl⟩

/-- fix.Add, fix.Sub. -/
def fadd (a b : Int) : Int := clamp (clamp a + clamp b)
def fsub (a b : Int) : Int := clamp (clamp a - clamp b)
theorem fadd_any (a b : Int) (w : World) :
    Calls Try.prog 46 #[.int .i64 a, .int .i64 b] w fun e w' => e = .returned (.int .i64 (fadd a b)) ∧ w = w' := by
  have h1 := clamp_lo a
  have h2 := clamp_hi a
  have h3 := clamp_lo b
  have h4 := clamp_hi b
  go_enter Try.func46, Try.ntmps46
  go_wp2_with (go_at_call 35; (with_reducible refine (clamp_any _ _).mono ?_); rintro e w' ⟨rfl, rfl⟩)
  go_ret
  exact ⟨rfl, rfl⟩
theorem fsub_any (a b : Int) (w : World) :
    Calls Try.prog 47 #[.int .i64 a, .int .i64 b] w fun e w' => e = .returned (.int .i64 (fsub a b)) ∧ w = w' := by
  have h1 := clamp_lo a
  have h2 := clamp_hi a
  have h3 := clamp_lo b
  have h4 := clamp_hi b
  go_enter Try.func47, Try.ntmps47
  go_wp2_with (go_at_call 35; (with_reducible refine (clamp_any _ _).mono ?_); rintro e w' ⟨rfl, rfl⟩)
  go_ret
  exact ⟨rfl, rfl⟩

/-- The remainder that is not negative. -/
theorem tmod_lo (x n : Int) (h1 : 1 ≤ n) (h : x.tmod n < 0) : x.tmod n + n = x % n := by
  rw [Int.tmod_eq_emod] at *
  split at h
  · have := Int.emod_nonneg x (show n ≠ 0 by omega); omega
  · rw [if_neg (by assumption)]; have := Int.natAbs_of_nonneg (show 0 ≤ n by omega); omega
theorem tmod_hi (x n : Int) (h1 : 1 ≤ n) (h : 0 ≤ x.tmod n) : x.tmod n = x % n := by
  rw [Int.tmod_eq_emod] at *
  split at h
  · rw [if_pos (by assumption)]; omega
  · have := Int.emod_lt_of_pos x (show 0 < n by omega); have := Int.natAbs_of_nonneg (show 0 ≤ n by omega); omega

theorem below_any (x n : Int) (w : World) (h1 : 1 ≤ n) (h2 : n ≤ 9223372036854775807) (_h3 : -9223372036854775808 ≤ x) (_h4 : x ≤ 9223372036854775807) :
    Calls Try.prog 30 #[.int .i64 x, .int .i64 n] w fun e w' => e = .returned (.int .i64 (x % n)) ∧ w = w' := by
  go_enter Try.func30, Try.ntmps30
  go_wp2
  · go_ret
    have h : x.tmod n < 0 := by assumption
    have := tmod_lo x n h1 h
    have := Int.emod_nonneg x (show n ≠ 0 by omega)
    have := Int.emod_lt_of_pos x (show 0 < n by omega)
    exact ⟨ret_int (by rw [IntWalk.wrap64_in _ (by omega)]; assumption), rfl⟩
  · go_ret
    have h : 0 ≤ x.tmod n := by assumption
    exact ⟨ret_int (tmod_hi x n h1 h), rfl⟩

/-- number(n, most). -/
def num (n most : Int) : Int := n % (2 * most + 1) - most
theorem num_lo (n most : Int) (_h : 0 ≤ most) : -most ≤ num n most := by
  unfold num; have := Int.emod_nonneg n (show 2 * most + 1 ≠ 0 by omega); omega
theorem num_hi (n most : Int) (h : 0 ≤ most) : num n most ≤ most := by
  unfold num; have := Int.emod_lt_of_pos n (show 0 < 2 * most + 1 by omega); omega
theorem num_any (x n : Int) (w : World) (h1 : 0 ≤ n) (h2 : n ≤ 2199023255552) (h3 : -9223372036854775808 ≤ x) (h4 : x ≤ 9223372036854775807) :
    Calls Try.prog 42 #[.int .i64 x, .int .i64 n] w fun e w' => e = .returned (.int .i64 (num x n)) ∧ w = w' := by
  have h5 := Int.emod_nonneg x (show 2 * n + 1 ≠ 0 by omega)
  have h6 := Int.emod_lt_of_pos x (show 0 < 2 * n + 1 by omega)
  go_enter Try.func42, Try.ntmps42
  go_wp2_with (go_at_call 30; (with_reducible refine (below_any _ _ _ (by omega) (by omega) h3 h4).mono ?_); rintro e w' ⟨rfl, rfl⟩)
  go_ret
  exact ⟨rfl, rfl⟩

/-- near: whether two numbers differ by at most so many units. -/
theorem near_any (a b m : Int) (w : World) (h1 : -4611686018427387904 ≤ a) (h2 : a ≤ 4611686018427387903) (h3 : -4611686018427387904 ≤ b) (h4 : b ≤ 4611686018427387903) (h5 : a - b ≤ m) (h6 : b - a ≤ m) :
    Calls Try.prog 33 #[.int .i64 a, .int .i64 b, .int .i64 m] w fun e w' => e = .returned (.bool true) ∧ w = w' := by
  go_enter Try.func33, Try.ntmps33
  go_wp2
  go_ret
  exact ⟨rfl, rfl⟩

theorem fmag_any (a : Int) (w : World) (h1 : -9223372036854775807 ≤ a) (h2 : a ≤ 9223372036854775807) :
    Calls Try.prog 73 #[.int .i64 a] w fun e w' => e = .returned (.int .u64 a.natAbs) ∧ w = w' := by
  by_cases h : a < 0
  · have e : (a.natAbs : Int) = -a := by omega
    rw [e]
    clear e
    go_enter Try.func73, Try.ntmps73
    go_wp2
    go_ret
    exact ⟨rfl, rfl⟩
  · have e : (a.natAbs : Int) = a := by omega
    rw [e]
    clear e
    go_enter Try.func73, Try.ntmps73
    go_wp2
    go_ret
    exact ⟨rfl, rfl⟩
theorem vmag_any (a : Int) (w : World) (h1 : -9223372036854775807 ≤ a) (h2 : a ≤ 9223372036854775807) :
    Calls Try.prog 65 #[.int .i64 a] w fun e w' => e = .returned (.int .u64 a.natAbs) ∧ w = w' := by
  by_cases h : a < 0
  · have e : (a.natAbs : Int) = -a := by omega
    rw [e]
    clear e
    go_enter Try.func65, Try.ntmps65
    go_wp2
    all_goals (go_ret; exact ⟨ret_int (by first | rfl | omega), rfl⟩)
  · have e : (a.natAbs : Int) = a := by omega
    rw [e]
    clear e
    go_enter Try.func65, Try.ntmps65
    go_wp2
    all_goals (go_ret; exact ⟨ret_int (by first | rfl | omega), rfl⟩)
end Go.Proofs.Ytdnepccjgclgiaa
