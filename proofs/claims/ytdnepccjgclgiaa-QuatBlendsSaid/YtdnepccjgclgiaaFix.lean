/- Contracts of fix.MulDiv, fix.Mul, fix.Div and fix.Sqrt, for every input. -/
import Derived.Test.YtdnepccjgclgiaaMulDiv
namespace Go.Proofs.Ytdnepccjgclgiaa
open Go.RowKit

theorem abs_nn (A B : Int) (a : 0 ≤ A) (b : 0 ≤ B) : A * B = ((A.natAbs * B.natAbs : Nat) : Int) := by
  rw [Int.natCast_mul, Int.natAbs_of_nonneg a, Int.natAbs_of_nonneg b]
theorem abs_np (A B : Int) (a : A < 0) (b : 0 ≤ B) : A * B = -((A.natAbs * B.natAbs : Nat) : Int) := by
  rw [Int.natCast_mul, Int.natAbs_of_nonneg b, show (A.natAbs : Int) = -A by omega, Int.neg_mul, Int.neg_neg]
theorem abs_pn (A B : Int) (a : 0 ≤ A) (b : B < 0) : A * B = -((A.natAbs * B.natAbs : Nat) : Int) := by
  rw [Int.natCast_mul, Int.natAbs_of_nonneg a, show (B.natAbs : Int) = -B by omega, Int.mul_neg, Int.neg_neg]
theorem abs_neg (A B : Int) (a : A < 0) (b : B < 0) : A * B = ((A.natAbs * B.natAbs : Nat) : Int) := by
  rw [Int.natCast_mul, show (A.natAbs : Int) = -A by omega, show (B.natAbs : Int) = -B by omega, Int.neg_mul_neg]

/-- fix.MulDiv. -/
def fmd (a b c : Int) : Int := mulDiv (clamp a) (clamp b) (clamp c)
theorem fmd_any (a b c : Int) (w : World) :
    Calls Try.prog 48 #[.int .i64 a, .int .i64 b, .int .i64 c] w fun e w' => e = .returned (.int .i64 (fmd a b c)) ∧ Below w.heap.size w w' := by
  unfold fmd
  by_cases hc : clamp c = 0
  · rw [show mulDiv (clamp a) (clamp b) (clamp c) = 0 by unfold mulDiv; rw [if_pos hc]]
    exact muldiv_0 a b c w hc
  have hd : 0 < (clamp c).natAbs := by omega
  rcases Int.lt_or_le (clamp a) 0 with sa | sa <;> rcases Int.lt_or_le (clamp b) 0 with sb | sb <;> rcases Int.lt_or_le (clamp c) 0 with sc | sc
  · rw [mulDiv_neg _ _ _ ((clamp a).natAbs * (clamp b).natAbs) (clamp c).natAbs hd (.inr ⟨by omega, abs_neg _ _ sa sb⟩)]
    exact muldiv_111 a b c _ _ _ w rfl rfl rfl sa sb sc
  · rw [mulDiv_pos _ _ _ ((clamp a).natAbs * (clamp b).natAbs) (clamp c).natAbs hd (.inl ⟨by omega, abs_neg _ _ sa sb⟩)]
    exact muldiv_110 a b c _ _ _ w rfl rfl rfl sa sb (by omega)
  · rw [mulDiv_pos _ _ _ ((clamp a).natAbs * (clamp b).natAbs) (clamp c).natAbs hd (.inr ⟨by omega, abs_np _ _ sa sb⟩)]
    exact muldiv_101 a b c _ _ _ w rfl rfl rfl sa sb sc
  · rw [mulDiv_neg _ _ _ ((clamp a).natAbs * (clamp b).natAbs) (clamp c).natAbs hd (.inl ⟨by omega, abs_np _ _ sa sb⟩)]
    exact muldiv_100 a b c _ _ _ w rfl rfl rfl sa sb (by omega)
  · rw [mulDiv_pos _ _ _ ((clamp a).natAbs * (clamp b).natAbs) (clamp c).natAbs hd (.inr ⟨by omega, abs_pn _ _ sa sb⟩)]
    exact muldiv_011 a b c _ _ _ w rfl rfl rfl sa sb sc
  · rw [mulDiv_neg _ _ _ ((clamp a).natAbs * (clamp b).natAbs) (clamp c).natAbs hd (.inl ⟨by omega, abs_pn _ _ sa sb⟩)]
    exact muldiv_010 a b c _ _ _ w rfl rfl rfl sa sb (by omega)
  · rw [mulDiv_neg _ _ _ ((clamp a).natAbs * (clamp b).natAbs) (clamp c).natAbs hd (.inr ⟨by omega, abs_nn _ _ sa sb⟩)]
    exact muldiv_001 a b c _ _ _ w rfl rfl rfl sa sb sc
  · rw [mulDiv_pos _ _ _ ((clamp a).natAbs * (clamp b).natAbs) (clamp c).natAbs hd (.inl ⟨by omega, abs_nn _ _ sa sb⟩)]
    exact muldiv_000 a b c _ _ _ w rfl rfl rfl sa sb (by omega)

/-- fix.Mul, fix.Div. -/
def fmul (a b : Int) : Int := fmd a b 65536
theorem fmul_any (a b : Int) (w : World) :
    Calls Try.prog 43 #[.int .i64 a, .int .i64 b] w fun e w' => e = .returned (.int .i64 (fmul a b)) ∧ Below w.heap.size w w' := by
  go_enter Try.func43, Try.ntmps43
  go_wp2_with (go_at_call 48; (with_reducible refine (fmd_any _ _ _ _).mono ?_); rintro e w1 ⟨rfl, hb⟩; obtain ⟨l, n, rfl⟩ := ext_of hb; clear hb)
  go_ret
  exact ⟨rfl, by repeat (first | exact Below.refl _ _ | apply Below.drew | apply Below.al | apply Below.ex)⟩
theorem fdiv_0 (a b : Int) (w : World) (h : b = 0) :
    Calls Try.prog 49 #[.int .i64 a, .int .i64 b] w fun e w' => e = .returned (.tuple #[.int .i64 0, .int .i64 17]) ∧ w = w' := by
  subst h
  go_enter Try.func49, Try.ntmps49
  go_wp2
  go_ret2
  exact ⟨rfl, rfl⟩
theorem fdiv_1 (a b : Int) (w : World) (h : ¬ b = 0) :
    Calls Try.prog 49 #[.int .i64 a, .int .i64 b] w fun e w' => e = .returned (.tuple #[.int .i64 (fmd a 65536 b), .int .i64 0]) ∧ Below w.heap.size w w' := by
  have hb : (b == 0) = false := by simpa using h
  clear h
  go_enter Try.func49, Try.ntmps49
  go_wp2_with (go_at_call 48; (with_reducible refine (fmd_any _ _ _ _).mono ?_); rintro e w1 ⟨rfl, hb⟩; obtain ⟨l, n, rfl⟩ := ext_of hb; clear hb)
  go_ret2
  exact ⟨rfl, by repeat (first | exact Below.refl _ _ | apply Below.drew | apply Below.al | apply Below.ex)⟩

/-- fix.Sqrt. -/
noncomputable def fsqrt (a : Int) : Int := rt (clamp a * 65536).toNat
theorem root_int (x : Int) (w : World) (h0 : 0 ≤ x) (h1 : x < 18446744073709551616) :
    Calls Try.prog 76 #[.int .u64 0, .int .u64 x] w fun e w' => e = .returned (.int .u64 (rt x.toNat)) ∧ w = w' := by
  obtain ⟨n, rfl⟩ := Int.eq_ofNat_of_zero_le h0
  have hj : join 0 n = n := by unfold join; omega
  have h := root_any 0 n w (by omega) (by omega)
  rw [hj] at h
  exact h
theorem fsqrt_any (a : Int) (w : World) :
    Calls Try.prog 44 #[.int .i64 a] w fun e w' => e = .returned (.int .i64 (fsqrt a)) ∧ w = w' := by
  have h1 := clamp_lo a
  have h2 := clamp_hi a
  by_cases h : clamp a ≤ 0
  · have e : fsqrt a = 0 := by
      unfold fsqrt
      rw [show (clamp a * 65536).toNat = 0 by omega]
      exact congrArg Int.ofNat (rt_eq ⟨by decide, by decide⟩)
    have HE := Lib.hid e
    clear e
    go_enter Try.func44, Try.ntmps44
    go_wp2_with (go_at_call 35; (with_reducible refine (clamp_any _ _).mono ?_); rintro e w' ⟨rfl, rfl⟩)
    go_ret
    exact ⟨ret_int HE.out.symm, rfl⟩
  · have hr : rt (clamp a * 65536).toNat < 4294967296 := rt_lt _ _ (by omega)
    go_enter Try.func44, Try.ntmps44
    go_wp2_with (first
      | (go_at_call 35; (with_reducible refine (clamp_any _ _).mono ?_); rintro e w' ⟨rfl, rfl⟩)
      | (go_at_call 76; (with_reducible refine (root_int _ _ (by omega) (by omega)).mono ?_); rintro e w' ⟨rfl, rfl⟩))
    go_ret
    exact ⟨rfl, rfl⟩

theorem fixBegun_facts : fmul 32768 3 = 2 ∧ fsqrt 262144 = 131072 := by
  constructor
  · decide
  · unfold fsqrt
    rw [show (clamp 262144 * 65536).toNat = 17179869184 by decide]
    exact congrArg Int.ofNat (rt_eq ⟨by decide, by decide⟩)
theorem fixBegun_any (w : World) :
    Calls Try.prog 41 #[] w fun e w' => e = .returned (.bool true) ∧ Below w.heap.size w w' := by
  obtain ⟨h1, h2⟩ := fixBegun_facts
  go_enter Try.func41, Try.ntmps41
  go_wp2_with (first
    | (go_at_call 43; (with_reducible refine (fmul_any _ _ _).mono ?_); rintro e w1 ⟨rfl, hb⟩; obtain ⟨l, n, rfl⟩ := ext_of hb; clear hb)
    | (go_at_call 44; (with_reducible refine (fsqrt_any _ _).mono ?_); rintro e w' ⟨rfl, rfl⟩))
  go_ret
  exact ⟨rfl, by repeat (first | exact Below.refl _ _ | apply Below.drew | apply Below.al | apply Below.ex)⟩
end Go.Proofs.Ytdnepccjgclgiaa
