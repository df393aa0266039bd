/- mesh.Next. -/
import Derived.Test.YtaiflkjchbpphaaMcheck
namespace Go.Proofs.Ytaiflkjchbpphaa
open Go.RowKit

/-- Side j of cell i. -/
def sd (K : Nat → Nat → Nat) (i j : Nat) : Int × Int := ((K i j : Int), (K i ((j + 1) % 4) : Int))
/-- The neighbours of the cells, side by side. -/
structure Nbr (nc : Nat) (K : Nat → Nat → Nat) (N : Nat → Nat → Int) : Prop where
  yes : ∀ i j i' j', i < nc → j < 4 → i' < nc → j' < 4 → K i' j' = K i ((j + 1) % 4) → K i' ((j' + 1) % 4) = K i j → N i j = (i' : Int)
  no : ∀ i j, i < nc → j < 4 → N i j = -1 ∨ ∃ i' j', N i j = ((i' : Nat) : Int) ∧ i' < nc ∧ j' < 4 ∧ K i' j' = K i ((j + 1) % 4) ∧ K i' ((j' + 1) % 4) = K i j

theorem find2_some {L : List (Int × Int × Value)} {p q : Int} {v : Value} (h : find2 L p q = some v) : ∃ x ∈ L, x.1 = p ∧ x.2.1 = q ∧ x.2.2 = v := by
  unfold find2 at h
  obtain ⟨x, hx, rfl⟩ := Option.map_eq_some_iff.1 h
  have h1 := List.find?_some hx
  simp at h1
  exact ⟨x, List.mem_of_find?_eq_some hx, h1.1.symm, h1.2.symm, rfl⟩
theorem find2_mem {L : List (Int × Int × Value)} {p q : Int} {v : Value} (h : (p, q, v) ∈ L) : ∃ v', find2 L p q = some v' := by
  cases hf : find2 L p q with
  | some v' => exact ⟨v', rfl⟩
  | none =>
    unfold find2 at hf
    rw [Option.map_eq_none_iff, List.find?_eq_none] at hf
    exact absurd (hf _ h) (by simp)
/-- All sides of the first cells, with their cells' numbers. -/
def AllSides (K : Nat → Nat → Nat) (D : Nat → Nat → Prop) (L : List (Int × Int × Value)) : Prop :=
  (∀ x ∈ L, ∃ c d, D c d ∧ x = ((K c d : Int), (K c ((d + 1) % 4) : Int), Value.int .i64 (c : Int))) ∧ ∀ c d, D c d → ((K c d : Int), (K c ((d + 1) % 4) : Int), Value.int .i64 (c : Int)) ∈ L
/-- What is looked up. -/
def nv (L : List (Int × Int × Value)) (K : Nat → Nat → Nat) (i j : Nat) : Int := match find2 L (K i ((j + 1) % 4)) (K i j) with
  | some (.int _ n) => n
  | _ => -1
theorem nbr_of {nc : Nat} {K : Nat → Nat → Nat} {L : List (Int × Int × Value)} (h : AllSides K (fun c d => c < nc ∧ d < 4) L)
    (hd : ∀ i j i' j', i < nc → i' < nc → j < 4 → j' < 4 → K i j = K i' j' → K i ((j + 1) % 4) = K i' ((j' + 1) % 4) → i = i' ∧ j = j') : Nbr nc K (nv L K) := by
  refine ⟨fun i j i' j' hi hj hi' hj' h1 h2 => ?_, fun i j hi hj => ?_⟩
  · have hm := h.2 i' j' ⟨hi', hj'⟩
    rw [h1, h2] at hm
    obtain ⟨v, hv⟩ := find2_mem hm
    obtain ⟨x, hx, h3, h4, h5⟩ := find2_some hv
    obtain ⟨c, d, ⟨hc, hd4⟩, rfl⟩ := h.1 x hx
    simp only at h3 h4 h5
    obtain ⟨rfl, rfl⟩ := hd c d i' j' hc hi' hd4 hj' (by omega) (by omega)
    unfold nv
    rw [hv, ← h5]
  · unfold nv
    cases hv : find2 L (K i ((j + 1) % 4)) (K i j) with
    | none => exact .inl rfl
    | some v =>
      obtain ⟨x, hx, h3, h4, h5⟩ := find2_some hv
      obtain ⟨c, d, ⟨hc, hd4⟩, rfl⟩ := h.1 x hx
      simp only at h3 h4 h5
      subst h5
      exact .inr ⟨c, d, rfl, hc, hd4, by omega, by omega⟩
theorem look_nv {K : Nat → Nat → Nat} {L : List (Int × Int × Value)} {D : Nat → Nat → Prop} (h : AllSides K D L) (i j : Nat) :
    (find2 L (K i ((j + 1) % 4)) (K i j) = none ∧ nv L K i j = -1) ∨ (∃ c : Nat, find2 L (K i ((j + 1) % 4)) (K i j) = some (.int .i64 (c : Int)) ∧ nv L K i j = (c : Int)) := by
  cases hv : find2 L (K i ((j + 1) % 4)) (K i j) with
  | none => exact .inl ⟨rfl, by unfold nv; rw [hv]⟩
  | some v =>
    obtain ⟨x, hx, h3, h4, h5⟩ := find2_some hv
    obtain ⟨c, d, _, rfl⟩ := h.1 x hx
    simp only at h5
    subst h5
    exact .inr ⟨c, rfl, by unfold nv; rw [hv]⟩
theorem AllSides.add {K : Nat → Nat → Nat} {L : List (Int × Int × Value)} {D E : Nat → Nat → Prop} (h : AllSides K D L) (i j : Nat) (hE : ∀ c d, E c d ↔ D c d ∨ (c = i ∧ d = j)) : AllSides K E (L ++ [((K i j : Int), (K i ((j + 1) % 4) : Int), Value.int .i64 (i : Int))]) := by
  refine ⟨fun x hx => ?_, fun c d hcd => ?_⟩
  · rcases List.mem_append.1 hx with hx | hx
    · obtain ⟨c, d, h1, h2⟩ := h.1 x hx
      exact ⟨c, d, (hE c d).2 (.inl h1), h2⟩
    · simp only [List.mem_singleton] at hx
      exact ⟨i, j, (hE i j).2 (.inr ⟨rfl, rfl⟩), hx⟩
  · rcases (hE c d).1 hcd with h1 | ⟨rfl, rfl⟩
    · exact List.mem_append_left _ (h.2 c d h1)
    · exact List.mem_append_right _ (List.mem_singleton.2 rfl)
theorem AllSides.iff {K : Nat → Nat → Nat} {L : List (Int × Int × Value)} {D E : Nat → Nat → Prop} (h : AllSides K D L) (hE : ∀ c d, E c d ↔ D c d) : AllSides K E L :=
  ⟨fun x hx => by obtain ⟨c, d, h1, h2⟩ := h.1 x hx; exact ⟨c, d, (hE c d).2 h1, h2⟩, fun c d hcd => h.2 c d ((hE c d).1 hcd)⟩

theorem owns_ne {w : World} {B B' : Nat} {e e' : TypeId} {s s' g g' n n' cap cap' : Nat} {xs xs' : List Value} (h : w.ownsRow B e s (.slice (some ⟨g, 0, none⟩) n cap) n xs) (k : w.ownsRow B' e' s' (.slice (some ⟨g', 0, none⟩) n' cap') n' xs') (he : e ≠ e') : g ≠ g' := by
  rintro rfl
  rcases h.2 with ⟨h0, _⟩ | ⟨g1, c1, cur1, hv1, _, hh1, _⟩
  · cases h0
  · rcases k.2 with ⟨k0, _⟩ | ⟨g2, c2, cur2, hv2, _, hh2, _⟩
    · cases k0
    · injection hv1 with e1
      injection e1 with e1
      injection e1 with e1
      injection hv2 with e2
      injection e2 with e2
      injection e2 with e2
      subst e1
      subst e2
      rw [hh1] at hh2
      injection hh2 with hh2
      injection hh2 with _ hh2
      exact he hh2
end Go.Proofs.Ytaiflkjchbpphaa
