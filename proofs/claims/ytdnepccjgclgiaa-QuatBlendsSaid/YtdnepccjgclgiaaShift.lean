/- A division of two words by one, shifted so that the divisor's first bit is set: plain arithmetic. No program. -/
import Derived.Test.YtdnepccjgclgiaaNum64
import Derived.Test.YtdnepccjgclgiaaKnuth
namespace Go.Proofs.Ytdnepccjgclgiaa

theorem mask32 (a : Nat) (ha : a < 18446744073709551616) : bits .and .u64 (a : Int) 4294967295 = ((a % 4294967296 : Nat) : Int) := M64.maskN a ha

/-- The numbers with which the division begins, each by the words' own operations. -/
structure Shifted (hi lo : Int) (D s : Nat) (y v1 v0 u32 u10 u1 u0 : Int) : Prop where
  e1 : IntKind.u64.wrap ((D : Int) * 2 ^ s) = y
  e2 : y / 4294967296 = v1
  e3 : bits .and .u64 y 4294967295 = v0
  e4 : bits .or .u64 (IntKind.u64.wrap (hi * 2 ^ s)) (lo / 2 ^ (64 - s)) = u32
  e5 : IntKind.u64.wrap (lo * 2 ^ s) = u10
  e6 : u10 / 4294967296 = u1
  e7 : bits .and .u64 u10 4294967295 = u0
  d1 : Digs u32 u1 v1 v0 y
  u0l : 0 ≤ u0
  u0h : u0 < 4294967296
  yD : y = (D : Int) * 2 ^ s
  nn : (hi * 18446744073709551616 + lo) * 2 ^ s = (u32 * 4294967296 + u1) * 4294967296 + u0
  yh : y < 18446744073709551616

theorem shifted (H Lo D L s : Nat) (hs : s = 64 - L) (l1 : 1 ≤ L) (l2 : L ≤ 64) (b3 : 2 ^ (L - 1) ≤ D) (b4 : D < 2 ^ L) (h1 : H < D) (h4 : Lo < 18446744073709551616) :
    ∃ y v1 v0 u32 u10 u1 u0 : Int, Shifted (H : Int) (Lo : Int) D s y v1 v0 u32 u10 u1 u0 := by
  have pw : 2 ^ L * 2 ^ s = 18446744073709551616 := by rw [← Nat.pow_add, hs, Nat.add_sub_cancel' l2]
  have pw1 : 2 ^ (L - 1) * 2 ^ s = 9223372036854775808 := by rw [← Nat.pow_add, hs, show L - 1 + (64 - L) = 63 by omega]
  have pw2 : 2 ^ (64 - s) = 2 ^ L := by rw [hs]; congr 1; omega
  have pp : 0 < 2 ^ s := Nat.two_pow_pos s
  have pl : 0 < 2 ^ L := Nat.two_pow_pos L
  have cp : ((2 ^ s : Nat) : Int) = (2 : Int) ^ s := by simp
  have cl : ((2 ^ (64 - s) : Nat) : Int) = (2 : Int) ^ (64 - s) := by simp
  -- the divisor
  have y1 : 9223372036854775808 ≤ D * 2 ^ s := by rw [← pw1]; exact Nat.mul_le_mul_right _ b3
  have y2 : D * 2 ^ s < 18446744073709551616 := by rw [← pw]; exact Nat.mul_lt_mul_of_pos_right b4 pp
  -- the upper word
  have t1 : H * 2 ^ s + 2 ^ s ≤ D * 2 ^ s := by rw [← Nat.succ_mul]; exact Nat.mul_le_mul_right _ h1
  have t2 : Lo / 2 ^ L < 2 ^ s := by rw [Nat.div_lt_iff_lt_mul pl, Nat.mul_comm, pw]; exact h4
  have t3 : H * 2 ^ s ||| Lo / 2 ^ L = H * 2 ^ s + Lo / 2 ^ L := nat_join s _ _ (Nat.mul_mod_left _ _) t2
  have t4 : Lo * 2 ^ s = Lo / 2 ^ L * 18446744073709551616 + Lo * 2 ^ s % 18446744073709551616 := by
    have d := Nat.div_add_mod Lo (2 ^ L)
    have m := Nat.mod_lt Lo pl
    have e : Lo * 2 ^ s = Lo / 2 ^ L * 18446744073709551616 + Lo % 2 ^ L * 2 ^ s := by
      conv => lhs; rw [← d]
      rw [Nat.add_mul, ← pw]; congr 1; rw [Nat.mul_comm (2 ^ L), Nat.mul_assoc]
    have lt : Lo % 2 ^ L * 2 ^ s < 18446744073709551616 := by rw [← pw]; exact Nat.mul_lt_mul_of_pos_right m pp
    omega
  generalize hp : 2 ^ s = p at *
  generalize hY : D * p = Y at *
  generalize hA : H * p = A at *
  generalize hC : Lo / 2 ^ L = C at *
  generalize hX : Lo * p = X at *
  have w1 : IntKind.u64.wrap ((D : Int) * 2 ^ s) = (Y : Int) := by
    rw [← cp, ← Int.natCast_mul, hY, IntKind.wrap_u64]; omega
  have w2 : IntKind.u64.wrap ((H : Int) * 2 ^ s) = (A : Int) := by
    rw [← cp, ← Int.natCast_mul, hA, IntKind.wrap_u64]; omega
  have w3 : IntKind.u64.wrap ((Lo : Int) * 2 ^ s) = ((X % 18446744073709551616 : Nat) : Int) := by
    rw [← cp, ← Int.natCast_mul, hX, IntKind.wrap_u64]; omega
  have w4 : (Lo : Int) / 2 ^ (64 - s) = (C : Int) := by
    rw [← cl, pw2, ← Int.natCast_ediv, hC]
  refine ⟨Y, (Y / 4294967296 : Nat), (Y % 4294967296 : Nat), (A + C : Nat), (X % 18446744073709551616 : Nat), (X % 18446744073709551616 / 4294967296 : Nat), (X % 18446744073709551616 % 4294967296 : Nat),
    w1, by omega, mask32 Y y2, by rw [w2, w4, u64_or_nat A C (by omega) (by omega), t3], w3, by omega, mask32 _ (by omega), ⟨by omega, by omega, by omega, by omega, by omega, by omega, by omega, by omega, by omega⟩, by omega, by omega, ?_, ?_, by omega⟩
  · rw [← cp, ← Int.natCast_mul, hY]
  · rw [← cp, Int.add_mul]
    have a1 : (H : Int) * 18446744073709551616 * (p : Int) = (A : Int) * 18446744073709551616 := by
      rw [← hA, Int.natCast_mul]; grind
    have a2 : (Lo : Int) * (p : Int) = (X : Int) := by rw [← hX, Int.natCast_mul]
    rw [a1, a2]
    omega
end Go.Proofs.Ytdnepccjgclgiaa
