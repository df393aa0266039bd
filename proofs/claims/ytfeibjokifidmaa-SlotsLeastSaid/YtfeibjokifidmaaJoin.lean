/- sum.Join: no program. -/
import Derived.Test.YtfeibjokifidmaaPlain
namespace Go.Proofs.Ytfeibjokifidmaa

noncomputable def firstW : W64 := lock 5840696475078001361#64
noncomputable def factorW : W64 := lock 11170449401992604703#64
theorem firstW_eq : firstW = 5840696475078001361#64 := lock_eq _
theorem factorW_eq : factorW = 11170449401992604703#64 := lock_eq _

/-- sum.Join. -/
noncomputable def join : W64 → W64 → W64 := lock fun a b => mix (mix (a + 5840696475078001361#64) * 11170449401992604703#64 + b)
theorem join_eq (a b : W64) : join a b = mix (mix (a + 5840696475078001361#64) * 11170449401992604703#64 + b) := congrFun (congrFun (lock_eq (fun a b : W64 => mix (mix (a + 5840696475078001361#64) * 11170449401992604703#64 + b))) a) b

theorem add_cancel_right (a b c : W64) (h : a + c = b + c) : a = b := by
  have : a + c - c = b + c - c := by rw [h]
  simpa using this
theorem add_cancel_left (a b c : W64) (h : c + a = c + b) : a = b := by
  rw [BitVec.add_comm c a, BitVec.add_comm c b] at h; exact add_cancel_right _ _ _ h

theorem join_left (a a' b : W64) (h : join a b = join a' b) : a = a' := by
  rw [join_eq, join_eq] at h
  have h1 := mix_inj _ _ h
  have h2 := add_cancel_right _ _ _ h1
  obtain ⟨v, hv⟩ : ∃ v : W64, 11170449401992604703#64 * v = 1#64 := ⟨9861552557614567391#64, by decide⟩
  have h3 := mul_inj 11170449401992604703#64 v hv _ _ h2
  have h4 := mix_inj _ _ h3
  exact add_cancel_right _ _ _ h4
theorem join_right (a b b' : W64) (h : join a b = join a b') : b = b' := by
  rw [join_eq, join_eq] at h
  exact add_cancel_left _ _ _ (mix_inj _ _ h)

end Go.Proofs.Ytfeibjokifidmaa
