/- Long division of two words by one, digit by digit of 32 bits: plain arithmetic. No program. -/
import Derived.Test.YtdnepccjgclgiaaBase
namespace Go.Proofs.Ytdnepccjgclgiaa

/-- q is the quotient of n by y. -/
def IsQ (n y q : Int) : Prop := q * y ≤ n ∧ n < (q + 1) * y

/-- The divisor's halves, the number above and the next digit. -/
structure Digs (u un v1 v0 y : Int) : Prop where
  v1l : 2147483648 ≤ v1
  v1h : v1 < 4294967296
  v0l : 0 ≤ v0
  v0h : v0 < 4294967296
  yy : y = v1 * 4294967296 + v0
  unl : 0 ≤ un
  unh : un < 4294967296
  ul : 0 ≤ u
  uh : u < y

/-- A digit that is not too small, and what it leaves of the upper half. -/
structure Dig (u un v1 y q r : Int) : Prop where
  e : q * v1 + r = u
  rl : 0 ≤ r
  ql : 0 ≤ q
  qh : q ≤ 4294967297
  ge : u * 4294967296 + un < (q + 1) * y

theorem Dig.first {u un v1 v0 y : Int} (h : Digs u un v1 v0 y) : Dig u un v1 y (u / v1) (u - u / v1 * v1) := by
  obtain ⟨h1, h2, h3, h4, h5, h6, h7, h8, h9⟩ := h
  have q0 := Int.ediv_nonneg h8 (show 0 ≤ v1 by omega)
  have d1 := Int.mul_ediv_self_le (x := u) (k := v1) (by omega)
  have d2 := Int.lt_mul_ediv_self_add (x := u) (k := v1) (by omega)
  rw [Int.mul_comm] at d1 d2
  have qm : u / v1 ≤ 4294967297 := by
    have : u / v1 * v1 < 4294967298 * v1 := by omega
    have := Int.lt_of_mul_lt_mul_right this (by omega)
    omega
  generalize u / v1 = q at *
  refine ⟨by omega, by omega, q0, qm, ?_⟩
  have e1 : (q + 1) * y = (q * v1 + v1) * 4294967296 + (q + 1) * v0 := by rw [h5]; grind
  have e2 : 0 ≤ (q + 1) * v0 := Int.mul_nonneg (by omega) h3
  omega

theorem Dig.step {u un v1 v0 y q r : Int} (h : Digs u un v1 v0 y) (d : Dig u un v1 y q r) (c : 4294967296 ≤ q ∨ 4294967296 * r + un < q * v0) : Dig u un v1 y (q - 1) (r + v1) := by
  obtain ⟨h1, h2, h3, h4, h5, h6, h7, h8, h9⟩ := h
  obtain ⟨d1, d2, d3, d4, d5⟩ := d
  have q1 : 1 ≤ q := by
    rcases c with c | c
    · omega
    · rcases Int.lt_or_le q 1 with hq | hq
      · have : q = 0 := by omega
        subst this
        simp at c; omega
      · exact hq
  have e1 : (q - 1) * v1 = q * v1 - v1 := by grind
  refine ⟨by omega, by omega, by omega, by omega, ?_⟩
  rw [show q - 1 + 1 = q by omega]
  have e2 : q * y = q * v1 * 4294967296 + q * v0 := by rw [h5]; grind
  rcases c with c | c
  · have : 4294967296 * y ≤ q * y := Int.mul_le_mul_of_nonneg_right c (by omega)
    omega
  · omega

theorem Dig.last {u un v1 v0 y q r : Int} (h : Digs u un v1 v0 y) (d : Dig u un v1 y q r) (c : q * v0 ≤ 4294967296 * r + un) : IsQ (u * 4294967296 + un) y q := by
  obtain ⟨h1, h2, h3, h4, h5, h6, h7, h8, h9⟩ := h
  obtain ⟨d1, d2, d3, d4, d5⟩ := d
  refine ⟨?_, d5⟩
  have e2 : q * y = q * v1 * 4294967296 + q * v0 := by rw [h5]; grind
  omega

theorem Dig.over {u un v1 v0 y q r : Int} (h : Digs u un v1 v0 y) (d : Dig u un v1 y q r) (hq : q ≤ 4294967296) (hr : 4294967296 ≤ r) : IsQ (u * 4294967296 + un) y q := by
  refine d.last h ?_
  have a := h.v0h
  have b := h.v0l
  have c := h.unl
  have e : q * v0 ≤ 4294967296 * v0 := Int.mul_le_mul_of_nonneg_right hq b
  omega

theorem IsQ.bd {u un v1 v0 y q : Int} (h : Digs u un v1 v0 y) (k : IsQ (u * 4294967296 + un) y q) : 0 ≤ q ∧ q < 4294967296 := by
  obtain ⟨h1, h2, h3, h4, h5, h6, h7, h8, h9⟩ := h
  obtain ⟨k1, k2⟩ := k
  constructor
  · rcases Int.lt_or_le q 0 with hq | hq
    · have : (q + 1) * y ≤ 0 * y := Int.mul_le_mul_of_nonneg_right (by omega) (by omega)
      omega
    · exact hq
  · rcases Int.lt_or_le q 4294967296 with hq | hq
    · exact hq
    · have : 4294967296 * y ≤ q * y := Int.mul_le_mul_of_nonneg_right hq (by omega)
      omega

/-- What is left behind a digit. -/
theorem IsQ.rest {n y q : Int} (k : IsQ n y q) : 0 ≤ n - q * y ∧ n - q * y < y := by
  obtain ⟨k1, k2⟩ := k
  have : (q + 1) * y = q * y + y := by grind
  omega

/-- Computed with words that wrap. -/
theorem rest_wraps (u un y q : Int) (h0 : 0 ≤ u * 4294967296 + un - q * y) (h1 : u * 4294967296 + un - q * y < 18446744073709551616) :
    IntKind.u64.wrap (IntKind.u64.wrap (IntKind.u64.wrap (u * 4294967296) + un) - IntKind.u64.wrap (q * y)) = u * 4294967296 + un - q * y := by
  rw [IntKind.wrap_u64, IntKind.wrap_u64, IntKind.wrap_u64, IntKind.wrap_u64]
  omega

/-- The whole division. -/
theorem whole (n d p y u32 u1 u0 q1 q0 : Int) (hp : 0 < p) (hd : 0 < d) (hy : y = d * p) (hn : n * p = (u32 * 4294967296 + u1) * 4294967296 + u0)
    (_k1 : IsQ (u32 * 4294967296 + u1) y q1) (k0 : IsQ ((u32 * 4294967296 + u1 - q1 * y) * 4294967296 + u0) y q0) :
    n / d = q1 * 4294967296 + q0 ∧ ((u32 * 4294967296 + u1 - q1 * y) * 4294967296 + u0 - q0 * y) / p = n % d := by
  obtain ⟨a0, a1⟩ := k0.rest
  generalize hr : (u32 * 4294967296 + u1 - q1 * y) * 4294967296 + u0 - q0 * y = r at *
  have e : n * p = (q1 * 4294967296 + q0) * d * p + r := by
    rw [hn, ← hr, hy]; grind
  have er : r = (n - (q1 * 4294967296 + q0) * d) * p := by grind
  have m0 : 0 ≤ n - (q1 * 4294967296 + q0) * d := by
    rcases Int.lt_or_le (n - (q1 * 4294967296 + q0) * d) 0 with h | h
    · have := Int.mul_neg_of_neg_of_pos h hp
      omega
    · exact h
  have m1 : n - (q1 * 4294967296 + q0) * d < d := by
    refine Int.lt_of_mul_lt_mul_right (a := p) ?_ (by omega)
    rw [← er, ← hy]; exact a1
  have hq : n / d = q1 * 4294967296 + q0 := by
    refine (Int.ediv_emod_unique (r := n - (q1 * 4294967296 + q0) * d) hd).2 ⟨?_, m0, m1⟩ |>.1
    grind
  refine ⟨hq, ?_⟩
  rw [er, Int.mul_ediv_cancel _ (by omega), Int.emod_def, hq]
  grind
end Go.Proofs.Ytdnepccjgclgiaa
