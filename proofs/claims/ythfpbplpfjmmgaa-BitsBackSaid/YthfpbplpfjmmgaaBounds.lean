/- For every input, QuantBounds returns true. No condition. -/
import Derived.Test.YthfpbplpfjmmgaaQuant
namespace Go.Proofs.Ythfpbplpfjmmgaa
open Go.RowKit
attribute [local go_sem ↓] run_mx

/-- The rounded number is as near as half of the divisor. -/
theorem thr_near (a b c : Int) (c0 : 0 < c) : 2 * (thr a b c * c) ≤ 2 * (a * b) + c ∧ 2 * (a * b) - c < 2 * (thr a b c * c) := by
  unfold thr
  have h1 := Int.mul_ediv_self_le (x := 2 * (a * b) + c) (k := 2 * c) (by omega)
  have h2 := Int.lt_mul_ediv_self_add (x := 2 * (a * b) + c) (k := 2 * c) (by omega)
  have e : 2 * c * ((2 * (a * b) + c) / (2 * c)) = 2 * ((2 * (a * b) + c) / (2 * c) * c) := by grind
  omega
theorem thr_mono (a a' b c : Int) (c0 : 0 < c) (b0 : 0 ≤ b) (h : a ≤ a') : thr a b c ≤ thr a' b c := by
  unfold thr
  have := Int.mul_le_mul_of_nonneg_right h b0
  exact Int.ediv_le_ediv (by omega) (by omega)
theorem thr_0 (b c : Int) (c0 : 0 < c) : thr 0 b c = 0 := by
  unfold thr; rw [Int.zero_mul]; exact Int.ediv_eq_zero_of_lt (by omega) (by omega)
theorem thr_all (b c : Int) (c0 : 0 < c) : thr c b c = b := by
  unfold thr
  rw [show 2 * (c * b) + c = 2 * c * b + c by grind, Int.mul_add_ediv_left _ _ (by omega), Int.ediv_eq_zero_of_lt (by omega) (by omega)]; omega

/-- There and back again. -/
theorem there_back (v W S : Int) (W0 : 0 < W) (S0 : 0 < S) :
    thr (thr v S W) W S - v ≤ (W + S - 1) / S / 2 + 1 ∧ v - thr (thr v S W) W S ≤ (W + S - 1) / S / 2 + 1 := by
  obtain ⟨k, hk⟩ : ∃ k, k = thr v S W := ⟨_, rfl⟩
  obtain ⟨x, hx⟩ : ∃ x, x = thr k W S := ⟨_, rfl⟩
  have n1 := thr_near v S W W0
  have n2 := thr_near k W S S0
  rw [← hk] at n1 ⊢
  rw [← hx] at n2 ⊢
  obtain ⟨q, hq⟩ : ∃ q, q = (W + S - 1) / S := ⟨_, rfl⟩
  have m1 := Int.lt_mul_ediv_self_add (x := W + S - 1) (k := S) S0
  rw [← hq] at m1 ⊢
  have hW : W ≤ S * q := by omega
  have e1 : S * (2 * (x - v)) ≤ S * (q + 1) := by
    have : S * (2 * (x - v)) = 2 * (x * S) - 2 * (v * S) := by grind
    have : S * (q + 1) = S * q + S := by grind
    omega
  have e2 : S * (2 * (v - x)) ≤ S * (q + 1) := by
    have : S * (2 * (v - x)) = 2 * (v * S) - 2 * (x * S) := by grind
    have : S * (q + 1) = S * q + S := by grind
    omega
  have f1 := Int.le_of_mul_le_mul_left e1 S0
  have f2 := Int.le_of_mul_le_mul_left e2 S0
  omega

/-- What the walk needs. -/
theorem bounds_facts (lo hi p v u : Int) (h1 : -1099511627776 ≤ lo) (h2 : lo < hi) (h3 : hi ≤ 1099511627776) (p1 : 2 ≤ p) (v1 : lo ≤ v) (v2 : v ≤ hi) :
    ∃ k m x q : Int, thr (v - lo) (p - 1) (hi - lo) = k ∧ thr (u - lo) (p - 1) (hi - lo) = m ∧ lo + thr k (hi - lo) (p - 1) = x ∧ (hi - lo + (p - 1) - 1) / (p - 1) / 2 + 1 = q ∧
      lo + thr 0 (hi - lo) (p - 1) = lo ∧ lo + thr (p - 1) (hi - lo) (p - 1) = hi ∧ 0 ≤ k ∧ k ≤ p - 1 ∧ x - v ≤ q ∧ v - x ≤ q ∧ lo ≤ x ∧ x ≤ hi ∧ clamp x = x ∧
      (u < v ∨ k ≤ m) ∧ (v < u ∨ m ≤ k) := by
  have b1 := thr_bd (v - lo) (p - 1) (hi - lo) (by omega) (by omega) (by omega) (by omega)
  have b2 := thr_bd (thr (v - lo) (p - 1) (hi - lo)) (hi - lo) (p - 1) (by omega) (by omega) (by omega) (by omega)
  have tb := there_back (v - lo) (hi - lo) (p - 1) (by omega) (by omega)
  refine ⟨_, _, _, _, rfl, rfl, rfl, rfl, by rw [thr_0 _ _ (by omega)]; omega, by rw [thr_all _ _ (by omega)]; omega, b1.1, b1.2, by omega, by omega, by omega, by omega, clamp_in _ (by omega) (by omega), ?_, ?_⟩
  · by_cases h : u < v
    · exact .inl h
    · exact .inr (thr_mono _ _ _ _ (by omega) (by omega) (by omega))
  · by_cases h : v < u
    · exact .inl h
    · exact .inr (thr_mono _ _ _ _ (by omega) (by omega) (by omega))

/-- The lesser one of two numbers. -/
def mn (x y : Int) : Int := if y < x then y else x
theorem run_mn (ts : Array TypeId) (t : TypeId) (k : IntKind) (x y : Int) (w : World) : (Builtin.min_ ts t #[.int k x, .int k y]).run Try.prog w = .ok (.int k (mn x y)) w := by
  rw [run_min_int2]; rfl
theorem between (v lo hi : Int) (h : lo < hi) : lo ≤ mn (mx v lo) hi ∧ mn (mx v lo) hi ≤ hi := by
  unfold mn mx; split <;> (try split) <;> omega
end Go.Proofs.Ythfpbplpfjmmgaa
