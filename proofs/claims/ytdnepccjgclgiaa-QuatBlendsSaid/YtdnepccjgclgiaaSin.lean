/- Contracts of sines and cosines. -/
import Derived.Test.YtdnepccjgclgiaaTrig
namespace Go.Proofs.Ytdnepccjgclgiaa
open Go.RowKit

@[go_sem] theorem and_turn (a : Int) : bits .and .i64 a 65535 = a % 65536 := by
  show IntKind.i64.wrap ((BitVec.ofInt 64 a &&& BitVec.ofInt 64 65535).toNat : Int) = _
  rw [BitVec.toNat_and, BitVec.toNat_ofInt]
  have e : (BitVec.ofInt 64 65535).toNat = 2 ^ 16 - 1 := by decide
  rw [e, Nat.and_two_pow_sub_one_eq_mod, IntWalk.i64_in _ (by omega)]
  omega

theorem sinQ_bd : ∀ a : Int, 0 ≤ a → a ≤ 16384 → 0 ≤ sinQ a ∧ sinQ a ≤ 65536 := by
  intro a h0 h1
  unfold sinQ
  split
  · rename_i hf
    by_cases hk : a / 256 < 64
    · have := S_step (a / 256) (by omega) hk; omega
    · have e : a / 256 = 64 := by omega
      rw [e, S_64]; omega
  · have hs := S_step (a / 256) (by omega) (by omega)
    have m0 : 0 ≤ (S (a / 256 + 1) - S (a / 256)) * (a % 256) := Int.mul_nonneg (by omega) (by omega)
    have m1 : (S (a / 256 + 1) - S (a / 256)) * (a % 256) ≤ (S (a / 256 + 1) - S (a / 256)) * 255 := Int.mul_le_mul_of_nonneg_left (by omega) (by omega)
    omega

/-- trig.Sin of an angle from 0 to a full turn; of every angle; trig.Cos. -/
def sinT (m : Int) : Int := if m / 16384 = 0 then sinQ (m % 16384) else if m / 16384 = 1 then sinQ (16384 - m % 16384) else if m / 16384 = 2 then - sinQ (m % 16384) else - sinQ (16384 - m % 16384)
def sin (a : Int) : Int := sinT (a % 65536)
def cos (a : Int) : Int := sin (a % 65536 + 16384)

theorem sin_any (a : Int) (w : World) :
    Calls Try.prog 31 #[.int .i64 a] w fun e w' => e = .returned (.int .i64 (sin a)) ∧ Below w.heap.size w w' := by
  have m0 : 0 ≤ a % 65536 := by omega
  have m1 : a % 65536 < 65536 := by omega
  obtain ⟨m, hm⟩ : ∃ m, m = a % 65536 := ⟨_, rfl⟩
  have HM := Lib.hid hm
  rw [← hm] at m0 m1
  have hrw : bits .and .i64 a 65535 = m := by rw [and_turn]; exact hm.symm
  clear hm
  have r0 : 0 ≤ m % 16384 := by omega
  have r1 : m % 16384 < 16384 := by omega
  have b1 := sinQ_bd (m % 16384) (by omega) (by omega)
  have b2 := sinQ_bd (16384 - m % 16384) (by omega) (by omega)
  obtain ⟨b11, b12⟩ := b1
  obtain ⟨b21, b22⟩ := b2
  by_cases c0 : m / 16384 = 0
  · have hs : sin a = sinQ (m % 16384) := by unfold sin; rw [← HM.out]; unfold sinT; rw [if_pos c0]
    have HS := Lib.hid hs
    clear hs
    have e0 : (m / 16384 == 0) = true := by simpa using c0
    clear c0
    go_enter Try.func31, Try.ntmps31
    go_wp2_with (go_at_call 64; (with_reducible refine (first_any _ _ (by omega) (by omega)).mono ?_); rintro e w1 ⟨rfl, hb⟩; obtain ⟨l, n, rfl⟩ := ext_of hb; clear hb)
    go_ret
    exact ⟨ret_int HS.out.symm, by repeat (first | exact Below.refl _ _ | apply Below.drew | apply Below.al | apply Below.ex)⟩
  by_cases c1 : m / 16384 = 1
  · have hs : sin a = sinQ (16384 - m % 16384) := by unfold sin; rw [← HM.out]; unfold sinT; rw [if_neg c0, if_pos c1]
    have HS := Lib.hid hs
    clear hs
    have e0 : (m / 16384 == 0) = false := by simpa using c0
    have e1 : (m / 16384 == 1) = true := by simpa using c1
    clear c0 c1
    go_enter Try.func31, Try.ntmps31
    go_wp2_with (go_at_call 64; (with_reducible refine (first_any _ _ (by omega) (by omega)).mono ?_); rintro e w1 ⟨rfl, hb⟩; obtain ⟨l, n, rfl⟩ := ext_of hb; clear hb)
    go_ret
    exact ⟨ret_int HS.out.symm, by repeat (first | exact Below.refl _ _ | apply Below.drew | apply Below.al | apply Below.ex)⟩
  by_cases c2 : m / 16384 = 2
  · have hs : sin a = - sinQ (m % 16384) := by unfold sin; rw [← HM.out]; unfold sinT; rw [if_neg c0, if_neg c1, if_pos c2]
    have HS := Lib.hid hs
    clear hs
    have e0 : (m / 16384 == 0) = false := by simpa using c0
    have e1 : (m / 16384 == 1) = false := by simpa using c1
    have e2 : (m / 16384 == 2) = true := by simpa using c2
    clear c0 c1 c2
    go_enter Try.func31, Try.ntmps31
    go_wp2_with (go_at_call 64; (with_reducible refine (first_any _ _ (by omega) (by omega)).mono ?_); rintro e w1 ⟨rfl, hb⟩; obtain ⟨l, n, rfl⟩ := ext_of hb; clear hb)
    go_ret
    exact ⟨ret_int HS.out.symm, by repeat (first | exact Below.refl _ _ | apply Below.drew | apply Below.al | apply Below.ex)⟩
  · have hs : sin a = - sinQ (16384 - m % 16384) := by unfold sin; rw [← HM.out]; unfold sinT; rw [if_neg c0, if_neg c1, if_neg c2]
    have HS := Lib.hid hs
    clear hs
    have e0 : (m / 16384 == 0) = false := by simpa using c0
    have e1 : (m / 16384 == 1) = false := by simpa using c1
    have e2 : (m / 16384 == 2) = false := by simpa using c2
    clear c0 c1 c2
    go_enter Try.func31, Try.ntmps31
    go_wp2_with (go_at_call 64; (with_reducible refine (first_any _ _ (by omega) (by omega)).mono ?_); rintro e w1 ⟨rfl, hb⟩; obtain ⟨l, n, rfl⟩ := ext_of hb; clear hb)
    go_ret
    exact ⟨ret_int HS.out.symm, by repeat (first | exact Below.refl _ _ | apply Below.drew | apply Below.al | apply Below.ex)⟩

theorem cos_any (a : Int) (w : World) :
    Calls Try.prog 32 #[.int .i64 a] w fun e w' => e = .returned (.int .i64 (cos a)) ∧ Below w.heap.size w w' := by
  have m0 : 0 ≤ a % 65536 := by omega
  have m1 : a % 65536 < 65536 := by omega
  go_enter Try.func32, Try.ntmps32
  go_wp2_with (go_at_call 31; (with_reducible refine (sin_any _ _).mono ?_); rintro e w1 ⟨rfl, hb⟩; obtain ⟨l, n, rfl⟩ := ext_of hb; clear hb)
  go_ret
  exact ⟨rfl, by repeat (first | exact Below.refl _ _ | apply Below.drew | apply Below.al | apply Below.ex)⟩

theorem sinT_bd (m : Int) : -65536 ≤ sinT m ∧ sinT m ≤ 65536 := by
  have b1 := sinQ_bd (m % 16384) (by omega) (by omega)
  have b2 := sinQ_bd (16384 - m % 16384) (by omega) (by omega)
  unfold sinT
  split <;> (try split) <;> (try split) <;> omega
theorem sin_bd (a : Int) : -65536 ≤ sin a ∧ sin a ≤ 65536 := sinT_bd _
theorem cos_bd (a : Int) : -65536 ≤ cos a ∧ cos a ≤ 65536 := sin_bd _
end Go.Proofs.Ytdnepccjgclgiaa
