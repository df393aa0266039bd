/- TopPaths: two new points in a region that draws its order. Printed by gen_two.py. -/
import Derived.Test.YtaiflkjchbpphaaPt
namespace Go.Proofs.Ytaiflkjchbpphaa.P
open Go.RowKit

/-- Two blocks for points, in slots 15 and 16: made by the operations 8 and 9, written by the operations 10 and 11. -/
def Two (B : Nat) (Pv : Nat → Pt) (listed : Array Bool) (f : Nat → Value) (w : World) : Prop :=
  (∀ t, (15 ≤ t ∧ t ≤ 16) → listed.getD (t - 7) false = true → ∃ g, f t = .pointer (some ⟨g, 0, none⟩) ∧ B ≤ g ∧ At w g (if listed.getD (t - 5) false = true then Pv t else (0, 0))) ∧
  (∀ t u, (15 ≤ t ∧ t ≤ 16) → (15 ≤ u ∧ u ≤ 16) → t ≠ u → listed.getD (t - 7) false = true → listed.getD (u - 7) false = true → f t ≠ f u)
theorem Two.on {B : Nat} {Pv : Nat → Pt} {listed : Array Bool} {f : Nat → Value} {w w' : World} (h : Two B Pv listed f w) (hb : Below w.heap.size w w') : Two B Pv listed f w' :=
  ⟨fun t ht hl => by obtain ⟨g, h1, h2, h3⟩ := h.1 t ht hl; exact ⟨g, h1, h2, h3.on hb⟩, h.2⟩
theorem Two.mark {B : Nat} {Pv : Nat → Pt} {listed : Array Bool} {f : Nat → Value} {w : World} (h : Two B Pv listed f w) (i : Nat) (hi : i < 8) : Two B Pv (listed.setIfInBounds i true) f w := by
  have e : ∀ j, 8 ≤ j → (listed.setIfInBounds i true).getD j false = listed.getD j false := fun j hj => getD_set_ne false (by omega)
  exact ⟨fun t ht hl => by rw [e _ (by omega)] at hl; rw [e _ (by omega)]; exact h.1 t ht hl, fun t u ht hu htu h1 h2 => by rw [e _ (by omega)] at h1 h2; exact h.2 t u ht hu htu h1 h2⟩
theorem Two.made {B : Nat} {Pv : Nat → Pt} {listed : Array Bool} {f : Nat → Value} {w : World} (h : Two B Pv listed f w) (hB : B ≤ w.heap.size) (d : Nat) (hd : 15 ≤ d ∧ d ≤ 16) (hs : d - 7 < listed.size) (hn : listed.getD (d - 5) false = false) :
    Two B Pv (listed.setIfInBounds (d - 7) true) (fun t => if t = d then .pointer (some ⟨w.heap.size, 0, none⟩) else f t) (w.alloc (.cells #[.int .i64 0, .int .i64 0] 24)) := by
  have hb : Below w.heap.size w (w.alloc (.cells #[.int .i64 0, .int .i64 0] 24)) := Below.al (Below.refl _ _) _
  have hnew : ∀ t, (15 ≤ t ∧ t ≤ 16) → listed.getD (t - 7) false = true → f t ≠ .pointer (some ⟨w.heap.size, 0, none⟩) := fun t ht hl e => by
    obtain ⟨g, h1, _, h3⟩ := h.1 t ht hl
    rw [h1] at e
    injection e with e
    injection e with e
    injection e with e
    have := h3.lt
    omega
  have s15 : ∀ t, (15 ≤ t ∧ t ≤ 16) → t ≠ d → (listed.setIfInBounds (d - 7) true).getD (t - 7) false = listed.getD (t - 7) false := fun t hb ht => by
    rw [setB _ _ _ hs, if_neg (show ¬ t - 7 = d - 7 by omega)]
  have s18 : ∀ t, (15 ≤ t ∧ t ≤ 16) → (listed.setIfInBounds (d - 7) true).getD (t - 5) false = listed.getD (t - 5) false := fun t ht => by
    rw [setB _ _ _ hs, if_neg (show ¬ t - 5 = d - 7 by omega)]
  refine ⟨fun t ht hl => ?_, fun t u ht hu htu h1 h2 => ?_⟩
  · rw [s18 t ht]
    by_cases e : t = d
    · subst e
      refine ⟨w.heap.size, by simp, hB, ?_⟩
      rw [hn]
      refine ⟨?_, ?_, ?_, ?_, by simp⟩ <;> simp [go_sem]
    · rw [s15 t ht e] at hl
      obtain ⟨g, h1, h2, h3⟩ := h.1 t ht hl
      exact ⟨g, by simp only [if_neg e]; exact h1, h2, h3.on hb⟩
  · by_cases e1 : t = d
    · have e2 : u ≠ d := fun e => htu (e1.trans e.symm)
      rw [s15 u hu e2] at h2
      simp only [if_pos e1, if_neg e2]
      exact fun e => hnew u hu h2 e.symm
    · rw [s15 t ht e1] at h1
      by_cases e2 : u = d
      · simp only [if_neg e1, if_pos e2]
        exact hnew t ht h1
      · rw [s15 u hu e2] at h2
        simp only [if_neg e1, if_neg e2]
        exact h.2 t u ht hu htu h1 h2
theorem Two.stored {B : Nat} {Pv : Nat → Pt} {listed : Array Bool} {f : Nat → Value} {w : World} (h : Two B Pv listed f w) (d g : Nat) (hd : 15 ≤ d ∧ d ≤ 16) (hs : d - 5 < listed.size) (hl : listed.getD (d - 7) false = true) (hf : f d = .pointer (some ⟨g, 0, none⟩)) (P : Pt) (hP : Pv d = P) :
    Two B Pv (listed.setIfInBounds (d - 5) true) f ((w.setCell ⟨g, 0, none⟩ (.int .i64 P.1)).setCell ⟨g, 1, none⟩ (.int .i64 P.2)) := by
  have s15 : ∀ t, (15 ≤ t ∧ t ≤ 16) → (listed.setIfInBounds (d - 5) true).getD (t - 7) false = listed.getD (t - 7) false := fun t ht => by
    rw [setB _ _ _ hs, if_neg (show ¬ t - 7 = d - 5 by omega)]
  refine ⟨fun t ht ht1 => ?_, fun t u ht hu htu h1 h2 => ?_⟩
  · rw [s15 t ht] at ht1
    obtain ⟨g', e1, e2, e3⟩ := h.1 t ht ht1
    rw [setB _ _ _ hs]
    by_cases e : t = d
    · subst e
      rw [hf] at e1
      injection e1 with e1
      injection e1 with e1
      injection e1 with e1
      subst e1
      rw [if_pos rfl, if_pos rfl, hP]
      exact ⟨g, hf, e2, e3.put P⟩
    · rw [if_neg (show ¬ t - 5 = d - 5 by omega)]
      have hne : g' ≠ g := fun x => h.2 t d ht hd e ht1 hl (by rw [e1, hf, x])
      exact ⟨g', e1, e2, (e3.other hne 0 _).other hne 1 _⟩
  · rw [s15 t ht] at h1
    rw [s15 u hu] at h2
    exact h.2 t u ht hu htu h1 h2
end Go.Proofs.Ytaiflkjchbpphaa.P
