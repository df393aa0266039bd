/- Plain laws of quaternions over the integers. -/
import Derived.Test.YtdnepccjgclgiaaPlane
import Derived.Test.YtdnepccjgclgiaaFixLaws
namespace Go.Proofs.Ytdnepccjgclgiaa

theorem lagrange4 (a b c d x y z v : Int) : (a * a + b * b + c * c + d * d) * (x * x + y * y + z * z + v * v) = (a * x + b * y + c * z + d * v) * (a * x + b * y + c * z + d * v)
    + ((a * y - b * x) * (a * y - b * x) + (a * z - c * x) * (a * z - c * x) + (a * v - d * x) * (a * v - d * x) + (b * z - c * y) * (b * z - c * y) + (b * v - d * y) * (b * v - d * y) + (c * v - d * z) * (c * v - d * z)) := by grind

/-- Cauchy's inequality for four numbers. -/
theorem cauchy4 (a b c d x y z v m n : Int) (hm : 0 ≤ m) (hn : 0 ≤ n) (h1 : a * a + b * b + c * c + d * d ≤ m * m) (h2 : x * x + y * y + z * z + v * v ≤ n * n) :
    a * x + b * y + c * z + d * v ≤ m * n ∧ -(m * n) ≤ a * x + b * y + c * z + d * v := by
  have e := lagrange4 a b c d x y z v
  obtain ⟨s, hs⟩ : ∃ s, s = a * x + b * y + c * z + d * v := ⟨_, rfl⟩
  have p1 := sq_nonneg (a * y - b * x)
  have p2 := sq_nonneg (a * z - c * x)
  have p3 := sq_nonneg (a * v - d * x)
  have p4 := sq_nonneg (b * z - c * y)
  have p5 := sq_nonneg (b * v - d * y)
  have p6 := sq_nonneg (c * v - d * z)
  have n1 : 0 ≤ x * x + y * y + z * z + v * v := by have := sq_nonneg x; have := sq_nonneg y; have := sq_nonneg z; have := sq_nonneg v; omega
  have q1 := Int.mul_le_mul h1 h2 n1 (Int.mul_nonneg hm hm)
  have q2 : m * m * (n * n) = (m * n) * (m * n) := by grind
  rw [← hs] at e ⊢
  have q3 : s * s ≤ (m * n) * (m * n) := by omega
  have hmn : 0 ≤ m * n := Int.mul_nonneg hm hn
  refine ⟨sq_le_of _ _ hmn q3, ?_⟩
  have := sq_le_of (-s) _ hmn (by rw [Int.neg_mul_neg]; exact q3)
  omega

/-- The sum of the squares. -/
def nn (a b c d : Int) : Int := a * a + b * b + c * c + d * d
theorem euler4 (a b c d x y z v : Int) : nn (a * x - b * y - c * z - d * v) (a * y + b * x + c * v - d * z) (a * z - b * v + c * x + d * y) (a * v + b * z - c * y + d * x) = nn a b c d * nn x y z v := by
  unfold nn; grind
theorem nn_nn (a b c d : Int) : 0 ≤ nn a b c d := by
  unfold nn
  have := sq_nonneg a; have := sq_nonneg b; have := sq_nonneg c; have := sq_nonneg d; omega
/-- The square of a sum, by the sums of squares of both. -/
theorem nn_add (a b c d x y z v m n : Int) (hm : 0 ≤ m) (hn : 0 ≤ n) (h1 : nn a b c d ≤ m * m) (h2 : nn x y z v ≤ n * n) :
    nn (a + x) (b + y) (c + z) (d + v) - nn a b c d ≤ 2 * (m * n) + n * n ∧ -(2 * (m * n)) ≤ nn (a + x) (b + y) (c + z) (d + v) - nn a b c d := by
  have c1 := cauchy4 a b c d x y z v m n hm hn h1 h2
  have e : nn (a + x) (b + y) (c + z) (d + v) = nn a b c d + 2 * (a * x + b * y + c * z + d * v) + nn x y z v := by unfold nn; grind
  have := nn_nn x y z v
  omega
/-- Four numbers below a bound. -/
theorem nn_bd (a b c d n : Int) (a1 : -n ≤ a) (a2 : a ≤ n) (b1 : -n ≤ b) (b2 : b ≤ n) (c1 : -n ≤ c) (c2 : c ≤ n) (d1 : -n ≤ d) (d2 : d ≤ n) : nn a b c d ≤ (2 * n) * (2 * n) := by
  have h1 := (prod_in a a n a1 a2 a1 a2).2
  have h2 := (prod_in b b n b1 b2 b1 b2).2
  have h3 := (prod_in c c n c1 c2 c1 c2).2
  have h4 := (prod_in d d n d1 d2 d1 d2).2
  have e : (2 * n) * (2 * n) = 4 * (n * n) := by grind
  unfold nn; omega

/-- Rounded products of small numbers. -/
theorem fmul_near (a b : Int) (a1 : -67108864 ≤ a) (a2 : a ≤ 67108864) (b1 : -67108864 ≤ b) (b2 : b ≤ 67108864) : 65536 * fmul a b - a * b ≤ 32768 ∧ a * b - 65536 * fmul a b ≤ 32768 := by
  have h := prod_in a b 67108864 a1 a2 b1 b2
  rw [fmul_in a b (by omega) (by omega) (by omega) (by omega) (by omega) (by omega)]
  omega
theorem qsum_in (a b c d : Int) (a1 : -137438953472 ≤ a) (a2 : a ≤ 137438953472) (b1 : -137438953472 ≤ b) (b2 : b ≤ 137438953472) (c1 : -137438953472 ≤ c) (c2 : c ≤ 137438953472) (d1 : -137438953472 ≤ d) (d2 : d ≤ 137438953472) : fadd (fadd (fadd (fadd 0 a) b) c) d = a + b + c + d := by
  rw [fadd_in 0 a (by omega) (by omega) (by omega) (by omega), fadd_in _ b (by omega) (by omega) (by omega) (by omega), fadd_in _ c (by omega) (by omega) (by omega) (by omega), fadd_in _ d (by omega) (by omega) (by omega) (by omega)]
  omega
end Go.Proofs.Ytdnepccjgclgiaa
