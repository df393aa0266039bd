/- quant.through: the rounded quotient, bit by bit. -/
import Derived.Test.YthfpbplpfjmmgaaBelow
import Derived.WalkLawsBesides
namespace Go.Proofs.Ythfpbplpfjmmgaa
open Go.RowKit

@[go_sem] theorem and_one (a : Int) : bits .and .i64 a 1 = a % 2 := by
  show IntKind.i64.wrap ((BitVec.ofInt 64 a &&& BitVec.ofInt 64 1).toNat : Int) = _
  rw [BitVec.toNat_and, BitVec.toNat_ofInt]
  have e : (BitVec.ofInt 64 1).toNat = 2 ^ 1 - 1 := by decide
  rw [e, Nat.and_two_pow_sub_one_eq_mod, IntWalk.i64_in _ (by omega)]
  omega

theorem div_pow (b : Int) (m : Nat) : b / 2 ^ m / 2 = b / 2 ^ (m + 1) := by
  rw [Int.pow_succ, Int.ediv_ediv_of_nonneg (Int.pow_nonneg (by omega))]

theorem div_pow_bd (b : Int) (n : Nat) (b0 : 0 ≤ b) (b1 : b < 4398046511104) : 0 ≤ b / 2 ^ n ∧ b / 2 ^ n < 4398046511104 := by
  have p : (0 : Int) < 2 ^ n := Int.pow_pos (by omega)
  refine ⟨Int.ediv_nonneg b0 (by omega), ?_⟩
  have := Int.ediv_le_self (2 ^ n) b0
  omega

/-- The rounded number a times b through c. -/
def thr (a b c : Int) : Int := (2 * (a * b) + c) / (2 * c)
theorem thr_end (a b c out rest : Int) (c0 : 0 < c) (h : a * b = out * c + rest) (r0 : 0 ≤ rest) (r1 : rest < c) : thr a b c = if c ≤ 2 * rest then out + 1 else out := by
  unfold thr
  have h' : 2 * (a * b) + c = 2 * c * out + (2 * rest + c) := by rw [h]; grind
  rw [h', Int.mul_add_ediv_left _ _ (by omega)]
  split
  · rw [show 2 * rest + c = 2 * c * 1 + (2 * rest - c) by omega, Int.mul_add_ediv_left _ _ (by omega), Int.ediv_eq_zero_of_lt (by omega) (by omega)]; omega
  · rw [Int.ediv_eq_zero_of_lt (by omega) (by omega)]; omega

theorem out_le (a F c out rest : Int) (h1 : a ≤ c) (c0 : 0 < c) (f0 : 0 ≤ F) (r0 : 0 ≤ rest) (h : a * F = out * c + rest) : out ≤ F := by
  have h2 : a * F ≤ c * F := Int.mul_le_mul_of_nonneg_right h1 f0
  have h3 : c * out ≤ c * F := by rw [Int.mul_comm c out]; omega
  exact Int.le_of_mul_le_mul_left h3 c0

theorem through_any (a b c : Int) (w : World) (a0 : 0 ≤ a) (a1 : a ≤ c) (c0 : 0 < c) (c1 : c ≤ 4398046511104) (b0 : 0 ≤ b) (b1 : b < 4398046511104) :
    Calls Try.prog 51 #[.int .i64 a, .int .i64 b, .int .i64 c] w fun e w' => e = .returned (.int .i64 (thr a b c)) ∧ w = w' := by
  go_enter Try.func51, Try.ntmps51
  go_wp2
  go_loopw [7, 8, 9] (fun o r i wr => ∃ (n : Nat) (k out rest : Int), n ≤ 42 ∧ k = (n : Int) - 1 ∧ i = .int .i64 k ∧ o = .int .i64 out ∧ r = .int .i64 rest ∧ 0 ≤ rest ∧ rest < c ∧ 0 ≤ out ∧ a * (b / 2 ^ n) = out * c + rest ∧ wr = w) (fun _ _ i _ => (intOf i + 1).toNat)
  case atStart => exact ⟨42, 41, 0, 0, by omega, by omega, rfl, rfl, rfl, by omega, by omega, by omega, by rw [show b / 2 ^ 42 = 0 by omega]; omega, rfl⟩
  case round =>
    obtain ⟨n, k, out, rest, hn, hk, rfl, rfl, rfl, r0, r1, o0, hab, rfl⟩ := hrel
    have o1 := out_le a (b / 2 ^ n) c out rest a1 c0 (div_pow_bd b n b0 b1).1 r0 hab
    have o2 := (div_pow_bd b n b0 b1).2
    cases n with
    | zero =>
      obtain rfl : k = -1 := by omega
      rw [show b / 2 ^ 0 = b by simp] at hab
      have e := thr_end a b c out rest c0 hab r0 r1
      have o3 : out ≤ 4398046511104 := by rw [show b / 2 ^ 0 = b by simp] at o1; omega
      clear hab o1 hk
      by_cases h : c ≤ 2 * rest
      · rw [if_pos h] at e
        have E := Lib.hid e
        clear e
        go_wp2
        go_ret
        exact ⟨by rw [E.out]; exact rfl, rfl⟩
      · rw [if_neg h] at e
        have E := Lib.hid e
        clear e
        go_wp2
        go_ret
        exact ⟨by rw [E.out]; exact rfl, rfl⟩
    | succ m =>
      obtain rfl : k = (m : Int) := by omega
      clear hk
      obtain ⟨G, hG⟩ : ∃ G, G = b / 2 ^ (m + 1) := ⟨_, rfl⟩
      obtain ⟨F, hF⟩ : ∃ F, F = b / 2 ^ m := ⟨_, rfl⟩
      have hd := div_pow b m
      rw [← hG, ← hF] at hd
      rw [← hG] at hab o1 o2
      have f0 := (div_pow_bd b m b0 b1).1
      rw [← hF] at f0
      have HF := Lib.hid hF
      have hab' := Lib.hid hab
      have hF' := hF.symm
      clear hab hG hF
      have HG := Lib.hid hd
      clear hd
      by_cases hb : F % 2 = 1
      · have hb' : ¬ F % 2 = 0 := by omega
        have hFG := Lib.hid (show F = 2 * G + 1 by have := HG.out; omega)
        go_wp2
        all_goals go_roundw
        all_goals first
          | (refine ⟨m, (m : Int) - 1, _, _, by omega, rfl, rfl, rfl, rfl, ?_, ?_, ?_, ?_, by first | rfl | trivial⟩
             · omega
             · omega
             · omega
             · have h1 := hFG.out; have h2 := hab'.out; rw [← HF.out, h1]; grind)
          | (simp [intOf] <;> omega)
      · have hb' : F % 2 = 0 := by omega
        have hFG := Lib.hid (show F = 2 * G by have := HG.out; omega)
        go_wp2
        all_goals go_roundw
        all_goals first
          | (refine ⟨m, (m : Int) - 1, _, _, by omega, rfl, rfl, rfl, rfl, ?_, ?_, ?_, ?_, by first | rfl | trivial⟩
             · omega
             · omega
             · omega
             · have h1 := hFG.out; have h2 := hab'.out; rw [← HF.out, h1]; grind)
          | (simp [intOf] <;> omega)
end Go.Proofs.Ythfpbplpfjmmgaa
