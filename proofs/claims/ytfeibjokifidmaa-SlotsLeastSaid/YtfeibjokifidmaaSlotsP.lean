/- Slots: which are free, which are in use. No program. -/
import Derived.Test.YtfeibjokifidmaaSets
namespace Go.Proofs.Ytfeibjokifidmaa.Z

/-- Slots that were freed so often, some in use, the others free. -/
structure Inv (G : List Nat) (U F : Sets) : Prop where
  n256 : G.length ≤ 256
  u : ∀ i, has U i = true → i < G.length
  f : ∀ i, has F i = (decide (i < G.length) && !has U i)

theorem Inv.empty : Inv [] none' none' := by
  refine ⟨by simp, fun i h => ?_, fun i => ?_⟩
  · simp [has, none'] at h
  · simp [has, none']

/-- The slot that is taken next. -/
def next (F : Sets) (n : Nat) : Nat := match elems F with | [] => n | x :: _ => x
theorem next_nil {F : Sets} {n : Nat} (h : elems F = []) : next F n = n := by unfold next; rw [h]
theorem next_cons {F : Sets} {n x : Nat} {l : List Nat} (h : elems F = x :: l) : next F n = x := by unfold next; rw [h]
theorem next_spec {G : List Nat} {U F : Sets} (h : Inv G U F) : next F G.length ≤ G.length ∧ (∀ j, j < next F G.length → has U j = true) ∧ has U (next F G.length) = false := by
  have hn := h.n256
  rcases hE : elems F with _ | ⟨x, l⟩
  · rw [next_nil hE]
    refine ⟨Nat.le_refl _, fun j hj => ?_, ?_⟩
    · have hf := h.f j
      have : has F j = false := by
        cases hq : has F j with
        | false => rfl
        | true =>
          have : j ∈ elems F := mem_elems.2 ⟨by omega, hq⟩
          rw [hE] at this; cases this
      rw [this] at hf
      simp [hj] at hf
      exact hf
    · cases hq : has U G.length with
      | false => rfl
      | true => have := h.u _ hq; omega
  · rw [next_cons hE]
    have hx : x ∈ elems F := by rw [hE]; simp
    have hx2 := (mem_elems.1 hx).2
    rw [h.f x] at hx2
    simp at hx2
    refine ⟨by omega, fun j hj => ?_, hx2.2⟩
    have hf := h.f j
    have : has F j = false := by
      cases hq : has F j with
      | false => rfl
      | true =>
        have hm : j ∈ elems F := mem_elems.2 ⟨by omega, hq⟩
        have hs := elems_sorted F
        rw [hE] at hm hs
        rcases List.mem_cons.1 hm with e | hm
        · omega
        · have := (List.pairwise_cons.1 hs).1 j hm; omega
    rw [this] at hf
    simp [show j < G.length by omega] at hf
    exact hf
/-- The slots' list behind a take. -/
def grown (G : List Nat) (x : Nat) : List Nat := if x = G.length then G ++ [0] else G
theorem Inv.take {G : List Nat} {U F : Sets} (h : Inv G U F) (hlt : next F G.length < 256) :
    Inv (grown G (next F G.length)) (jn orW U (one (next F G.length))) (jn subW F (one (next F G.length))) := by
  obtain ⟨h1, h2, h3⟩ := next_spec h
  have hn := h.n256
  obtain ⟨x, hx⟩ : ∃ x, next F G.length = x := ⟨_, rfl⟩
  rw [hx] at h1 h2 h3 hlt ⊢
  have hl : (grown G x).length = if x = G.length then G.length + 1 else G.length := by unfold grown; split <;> simp
  refine ⟨by rw [hl]; split <;> omega, fun i hi => ?_, fun i => ?_⟩
  · rw [has_or, has_one] at hi
    rw [hl]
    rcases Bool.or_eq_true _ _ ▸ hi with hi | hi
    · have := h.u i hi; split <;> omega
    · have : i = x := by simpa using hi
      split <;> omega
  · rw [has_sub, has_or, has_one, h.f i, hl]
    by_cases hi : i = x
    · simp [hi]
    · by_cases hx' : x = G.length
      · rw [if_pos hx']
        have : (i < G.length + 1) = (i < G.length) := by simp; omega
        simp [hi, this]
      · rw [if_neg hx']
        simp [hi]
theorem Inv.free {G : List Nat} {U F : Sets} (h : Inv G U F) {i : Nat} (hi : has U i = true) (g : Nat) : Inv (G.set i g) (jn subW U (one i)) (jn orW F (one i)) := by
  have hin := h.u i hi
  refine ⟨by simp; exact h.n256, fun j hj => ?_, fun j => ?_⟩
  · rw [has_sub] at hj
    simp at hj
    simpa using h.u j hj.1
  · rw [has_or, has_one, has_sub, has_one, h.f j, List.length_set]
    by_cases e : j = i
    · subst e; simp [hin]
    · simp [e]
end Go.Proofs.Ytfeibjokifidmaa.Z
