/- Plain laws of lengths in the plane. No program. -/
import Derived.Test.YtdnepccjgclgiaaLen
namespace Go.Proofs.Ytdnepccjgclgiaa

theorem natAbs_mul_self' (x : Int) : ((x.natAbs * x.natAbs : Nat) : Int) = x * x := Int.natAbs_mul_self
/-- The length, by its square. -/
theorem len_sq (x y : Int) : (len x y : Int) * len x y ≤ x * x + y * y ∧ x * x + y * y < ((len x y : Int) + 1) * ((len x y : Int) + 1) := by
  obtain ⟨h1, h2⟩ := rt_is (x.natAbs * x.natAbs + y.natAbs * y.natAbs)
  have e : ((x.natAbs * x.natAbs + y.natAbs * y.natAbs : Nat) : Int) = x * x + y * y := by rw [Int.natCast_add, natAbs_mul_self', natAbs_mul_self']
  have h1' := Int.ofNat_le.2 h1
  have h2' := Int.ofNat_lt.2 h2
  rw [e] at h1' h2'
  rw [Int.natCast_mul] at h1' h2'
  unfold len
  exact ⟨h1', by rw [Int.natCast_add] at h2'; exact h2'⟩

theorem sq_lt_of (a b : Int) (hb : 0 ≤ b) (h : a * a < b * b) : a < b := by
  rcases Int.lt_or_le a b with h' | h'
  · exact h'
  · have := Int.mul_le_mul h' h' hb (by omega)
    omega
theorem sq_le_of (a b : Int) (hb : 0 ≤ b) (h : a * a ≤ b * b) : a ≤ b := by
  rcases Int.lt_or_le b a with h' | h'
  · have h1 : b * b < a * a := by
      have h2 : b * b ≤ b * a := Int.mul_le_mul_of_nonneg_left (by omega) hb
      have h3 : b * a < a * a := Int.mul_lt_mul_of_pos_right h' (by omega)
      omega
    omega
  · exact h'
theorem sq_nonneg (a : Int) : 0 ≤ a * a := by have := natAbs_mul_self' a; omega

/-- Cauchy's inequality for numbers below bounds. -/
theorem cauchy (x y z v a b : Int) (ha : 0 ≤ a) (hb : 0 ≤ b) (h1 : x * x + y * y < a * a) (h2 : z * z + v * v < b * b) : x * z + y * v < a * b := by
  refine sq_lt_of _ _ (Int.mul_nonneg ha hb) ?_
  have id1 : (x * z + y * v) * (x * z + y * v) + (x * v - y * z) * (x * v - y * z) = (x * x + y * y) * (z * z + v * v) := by grind
  have id2 : a * b * (a * b) = (a * a) * (b * b) := by grind
  have n1 := sq_nonneg (x * v - y * z)
  have n2 := sq_nonneg x
  have n3 := sq_nonneg y
  have n4 := sq_nonneg z
  have n5 := sq_nonneg v
  have p1 : (x * x + y * y) * (z * z + v * v) ≤ (x * x + y * y) * (b * b) := Int.mul_le_mul_of_nonneg_left (by omega) (by omega)
  have p2 : (x * x + y * y) * (b * b) < (a * a) * (b * b) := Int.mul_lt_mul_of_pos_right h1 (by omega)
  omega

theorem triangle (x y z v : Int) : (len (x + z) (y + v) : Int) ≤ len x y + len z v + 1 := by
  obtain ⟨a1, a2⟩ := len_sq x y
  obtain ⟨b1, b2⟩ := len_sq z v
  obtain ⟨c1, c2⟩ := len_sq (x + z) (y + v)
  have h := cauchy x y z v ((len x y : Int) + 1) ((len z v : Int) + 1) (by omega) (by omega) a2 b2
  have pa : 0 ≤ (len x y : Int) := by omega
  have pb : 0 ≤ (len z v : Int) := by omega
  generalize (len x y : Int) = a at *
  generalize (len z v : Int) = b at *
  have id1 : (x + z) * (x + z) + (y + v) * (y + v) = (x * x + y * y) + (z * z + v * v) + 2 * (x * z + y * v) := by grind
  have id2 : (a + b + 2) * (a + b + 2) = (a + 1) * (a + 1) + (b + 1) * (b + 1) + 2 * ((a + 1) * (b + 1)) := by grind
  have := sq_lt_of (len (x + z) (y + v) : Int) (a + b + 2) (by omega) (by omega)
  omega
theorem len_neg (x y : Int) : len (-x) (-y) = len x y := by unfold len; rw [Int.natAbs_neg, Int.natAbs_neg]
theorem triangle' (x y z v : Int) : (len (x - z) (y - v) : Int) ≤ len x y + len z v + 1 := by
  have h := triangle x y (-z) (-v)
  rw [len_neg] at h
  exact h
theorem len_ge (x y : Int) : x ≤ len x y ∧ -x ≤ len x y ∧ y ≤ len x y ∧ -y ≤ len x y := by
  obtain ⟨a1, a2⟩ := len_sq x y
  have n2 := sq_nonneg x
  have n3 := sq_nonneg y
  have e1 : -x * -x = x * x := Int.neg_mul_neg x x
  have e2 : -y * -y = y * y := Int.neg_mul_neg y y
  have h1 := sq_lt_of x ((len x y : Int) + 1) (by omega) (by omega)
  have h2 := sq_lt_of (-x) ((len x y : Int) + 1) (by omega) (by omega)
  have h3 := sq_lt_of y ((len x y : Int) + 1) (by omega) (by omega)
  have h4 := sq_lt_of (-y) ((len x y : Int) + 1) (by omega) (by omega)
  omega
theorem len_le (x y : Int) : (len x y : Int) ≤ x.natAbs + y.natAbs := by
  obtain ⟨a1, a2⟩ := len_sq x y
  refine sq_le_of _ _ (by omega) ?_
  have e1 := natAbs_mul_self' x
  have e2 := natAbs_mul_self' y
  rw [Int.natCast_mul] at e1 e2
  have n : 0 ≤ (x.natAbs : Int) * y.natAbs := Int.mul_nonneg (by omega) (by omega)
  have id : ((x.natAbs : Int) + y.natAbs) * ((x.natAbs : Int) + y.natAbs) = (x.natAbs : Int) * x.natAbs + (y.natAbs : Int) * y.natAbs + 2 * ((x.natAbs : Int) * y.natAbs) := by grind
  omega

theorem vlen_in (x y : Int) (h1 : -549755813888 ≤ x) (h2 : x ≤ 549755813888) (h3 : -549755813888 ≤ y) (h4 : y ≤ 549755813888) : vlen x y = len x y := by
  unfold vlen
  have := len_le x y
  rw [clamp_in x (by omega) (by omega), clamp_in y (by omega) (by omega), clamp_in _ (by omega) (by omega)]
theorem fadd_in (a b : Int) (h1 : -549755813888 ≤ a) (h2 : a ≤ 549755813888) (h3 : -549755813888 ≤ b) (h4 : b ≤ 549755813888) : fadd a b = a + b := by
  unfold fadd; rw [clamp_in a (by omega) (by omega), clamp_in b (by omega) (by omega), clamp_in _ (by omega) (by omega)]
theorem fsub_in (a b : Int) (h1 : -549755813888 ≤ a) (h2 : a ≤ 549755813888) (h3 : -549755813888 ≤ b) (h4 : b ≤ 549755813888) : fsub a b = a - b := by
  unfold fsub; rw [clamp_in a (by omega) (by omega), clamp_in b (by omega) (by omega), clamp_in _ (by omega) (by omega)]
end Go.Proofs.Ytdnepccjgclgiaa
