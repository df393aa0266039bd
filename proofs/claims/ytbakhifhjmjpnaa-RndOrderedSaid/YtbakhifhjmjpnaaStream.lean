/- A stream of words comes to a number that is let in, before it comes back to its state. No program. -/
import Derived.Test.YtbakhifhjmjpnaaPlain
namespace Go.Proofs.Ytbakhifhjmjpnaa

/-- The state after k numbers. -/
def st (s g : W64) : Nat → W64
  | 0 => s
  | k + 1 => st s g k + g

theorem st_eq (s g : W64) (k : Nat) : st s g k = s + BitVec.ofNat 64 k * g := by
  induction k with
  | zero => simp [st]
  | succ k ih =>
    rw [st, ih, BitVec.ofNat_add, BitVec.add_mul, BitVec.add_assoc]
    congr 1
    congr 1
    exact (BitVec.one_mul g).symm

theorem sub_self' (x : W64) : 1#64 - (1#64 - x) = x := by grind

/-- The inverse of an odd number. -/
theorem odd_inv (g : W64) (h : g.toNat % 2 = 1) : ∃ h : W64, g * h = 1#64 := by
  obtain ⟨a, ha⟩ : ∃ a : W64, 1#64 - g = 2#64 * a := by
    refine ⟨BitVec.ofNat 64 ((1#64 - g).toNat / 2), ?_⟩
    apply BitVec.eq_of_toNat_eq
    rw [BitVec.toNat_mul, BitVec.toNat_ofNat, BitVec.toNat_ofNat, BitVec.toNat_sub]
    have := g.isLt
    simp only [BitVec.toNat_ofNat]
    omega
  let e : W64 := 2#64 * a
  have hg : g = 1#64 - e := by
    show g = 1#64 - 2#64 * a
    rw [← ha]; exact (sub_self' g).symm
  have h64 : e ^ 64 = 0 := by
    show (2#64 * a) ^ 64 = 0
    have h1 : (2#64 * a) ^ 64 = (4294967296#64 * 4294967296#64) * a ^ 64 := by grind
    have h2 : 4294967296#64 * 4294967296#64 = 0#64 := by decide
    rw [h1, h2]
    exact BitVec.zero_mul
  refine ⟨(1 + e) * (1 + e^2) * (1+e^4) * (1 + e^8) * (1 + e^16) * (1 + e^32), ?_⟩
  have h1 : (1#64 - e) * ((1 + e) * (1 + e^2) * (1+e^4) * (1 + e^8) * (1 + e^16) * (1 + e^32)) = 1 - e^64 := by grind
  rw [hg, h1, h64]
  decide

theorem mix_0 : mix 0#64 = 0#64 := by rw [mix_eq]; decide
theorem mix_1 : mix 15140099050099889982#64 = 1#64 := by rw [mix_eq]; decide

theorem least {p : Nat → Prop} (h : ∃ n, p n) : ∃ n, p n ∧ ∀ m, m < n → ¬ p m := by
  obtain ⟨n, hn⟩ := h
  induction n using Nat.strongRecOn with
  | _ n ih =>
    by_cases hm : ∃ m, m < n ∧ p m
    · obtain ⟨m, hlt, hp⟩ := hm
      exact ih m hlt hp
    · exact ⟨n, hn, fun m hlt hp => hm ⟨m, hlt, hp⟩⟩

theorem st_ne (s g : W64) (hg : g.toNat % 2 = 1) (k : Nat) (h1 : 1 ≤ k) (h2 : k < 18446744073709551616) : st s g k ≠ s := by
  obtain ⟨h, hh⟩ := odd_inv g hg
  intro e
  rw [st_eq] at e
  have e2 : BitVec.ofNat 64 k * g = 0#64 := by grind
  have e3 : BitVec.ofNat 64 k = 0#64 := by
    have : BitVec.ofNat 64 k * g * h = 0#64 * h := by rw [e2]
    rw [BitVec.mul_assoc, hh, BitVec.mul_one, BitVec.zero_mul] at this
    exact this
  have := congrArg BitVec.toNat e3
  rw [BitVec.toNat_ofNat, BitVec.toNat_ofNat] at this
  omega

theorem stops (s g : W64) (hg : g.toNat % 2 = 1) (p : W64 → Prop) (h0 : p 0#64) (h1 : p 15140099050099889982#64) :
    ∃ N, 1 ≤ N ∧ p (st s g N) ∧ (∀ j, 1 ≤ j → j < N → ¬ p (st s g j)) ∧ st s g N ≠ s := by
  obtain ⟨h, hh⟩ := odd_inv g hg
  obtain ⟨t, hts, hpt⟩ : ∃ t : W64, t ≠ s ∧ p t := by
    by_cases hs : s = 0#64
    · exact ⟨15140099050099889982#64, by rw [hs]; decide, h1⟩
    · exact ⟨0#64, fun e => hs e.symm, h0⟩
  have hk : st s g ((t - s) * h).toNat = t := by
    rw [st_eq, BitVec.ofNat_toNat, BitVec.setWidth_eq, BitVec.mul_assoc, BitVec.mul_comm h g, hh, BitVec.mul_one]
    grind
  obtain ⟨N, ⟨hN1, hN2⟩, hmin⟩ := least (p := fun k => 1 ≤ k ∧ p (st s g k)) ⟨((t - s) * h).toNat, by
    refine ⟨?_, by rw [hk]; exact hpt⟩
    rcases Nat.eq_zero_or_pos ((t - s) * h).toNat with hz | hz
    · rw [hz] at hk; exact absurd hk.symm hts
    · exact hz⟩
  refine ⟨N, hN1, hN2, fun j hj hlt hp => hmin j hlt ⟨hj, hp⟩, ?_⟩
  refine st_ne s g hg N hN1 ?_
  have := ((t - s) * h).isLt
  rcases Nat.lt_or_ge ((t - s) * h).toNat N with hl | hl
  · exfalso
    refine hmin _ hl ⟨?_, by rw [hk]; exact hpt⟩
    rcases Nat.eq_zero_or_pos ((t - s) * h).toNat with hz | hz
    · rw [hz] at hk; exact absurd hk.symm hts
    · exact hz
  · omega
end Go.Proofs.Ytbakhifhjmjpnaa
