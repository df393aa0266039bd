/- Sorted items: there is one order alone. No program. -/
import Derived.Test.YtfeibjokifidmaaHeap
namespace Go.Proofs.Ytfeibjokifidmaa

/-- The first k numbers, as items. -/
def its (rs : List Int) (k : Nat) : List Itm := (List.range k).map fun i : Nat => ⟨i, rs[i]?.getD 0, i⟩
theorem its_succ (rs : List Int) (k : Nat) : its rs (k + 1) = its rs k ++ [⟨k, rs[k]?.getD 0, k⟩] := by
  unfold its; rw [List.range_succ, List.map_append]; rfl
theorem its_length (rs : List Int) (k : Nat) : (its rs k).length = k := by simp [its]
theorem its_mem {rs : List Int} {k : Nat} {x : Itm} (h : x ∈ its rs k) : ∃ i : Nat, i < k ∧ x = ⟨i, rs[i]?.getD 0, i⟩ := by
  unfold its at h
  obtain ⟨i, hi, rfl⟩ := List.mem_map.1 h
  exact ⟨i, List.mem_range.1 hi, rfl⟩

structure Sorted (rs : List Int) (n : Nat) (O : List Itm) : Prop where
  le : O.Pairwise Le
  perm : O.Perm (its rs n)

theorem uniq : ∀ (A B : List Itm), (∀ a ∈ A, ∀ b ∈ A, Le a b → Le b a → a = b) → A.Pairwise Le → B.Pairwise Le → A.Perm B → A = B := by
  intro A
  induction A with
  | nil => intro B _ _ _ h; exact h.nil_eq
  | cons a A ih =>
    intro B hu hA hB h
    cases B with
    | nil => exact absurd h.eq_nil (by simp)
    | cons b B =>
      rw [List.pairwise_cons] at hA hB
      have hab : Le a b := by
        have : b ∈ a :: A := h.mem_iff.2 (by simp)
        rcases List.mem_cons.1 this with rfl | hb
        · exact Le_refl _
        · exact hA.1 _ hb
      have hba : Le b a := by
        have : a ∈ b :: B := h.mem_iff.1 (by simp)
        rcases List.mem_cons.1 this with rfl | hb
        · exact Le_refl _
        · exact hB.1 _ hb
      have e : a = b := hu a (by simp) b (h.mem_iff.2 (by simp)) hab hba
      subst e
      rw [ih B (fun x hx y hy => hu x (by simp [hx]) y (by simp [hy])) hA.2 hB.2 (List.Perm.cons_inv h)]

theorem Sorted.uniq {rs : List Int} {n : Nat} {A B : List Itm} (h : Sorted rs n A) (k : Sorted rs n B) : A = B := by
  refine Ytfeibjokifidmaa.uniq A B ?_ h.le k.le (h.perm.trans k.perm.symm)
  intro a ha b hb h1 h2
  obtain ⟨i, hi, rfl⟩ := its_mem (h.perm.mem_iff.1 ha)
  obtain ⟨j, hj, rfl⟩ := its_mem (h.perm.mem_iff.1 hb)
  rw [Le_iff] at h1 h2
  simp only at h1 h2
  have e : i = j := by omega
  rw [e]
theorem Sorted.length {rs : List Int} {n : Nat} {O : List Itm} (h : Sorted rs n O) : O.length = n := by
  rw [h.perm.length_eq, its_length]
/-- Each item's value is an index; the rank is the number there. -/
theorem Sorted.item {rs : List Int} {n : Nat} {O : List Itm} (h : Sorted rs n O) {j : Nat} (hj : j < n) :
    ∃ i : Nat, i < n ∧ at' O j = ⟨i, rs[i]?.getD 0, i⟩ := by
  have hl := h.length
  have : at' O j ∈ O := by rw [at_eq (by omega)]; exact List.getElem_mem _
  exact its_mem (h.perm.mem_iff.1 this)
theorem its_nodup (rs : List Int) (n : Nat) : ((its rs n).map Itm.v).Nodup := by
  have : (its rs n).map Itm.v = (List.range n).map (fun i : Nat => (i : Int)) := by unfold its; rw [List.map_map]; rfl
  rw [this]
  unfold List.Nodup
  rw [List.pairwise_map]
  exact List.Pairwise.imp (by intro a b h; omega) List.nodup_range
theorem Sorted.nodup {rs : List Int} {n : Nat} {O : List Itm} (h : Sorted rs n O) : (O.map Itm.v).Nodup :=
  (h.perm.map Itm.v).nodup_iff.2 (its_nodup rs n)
/-- The numbers, in order. -/
theorem Sorted.ranks {rs : List Int} {n : Nat} {O : List Itm} (h : Sorted rs n O) : (O.map Itm.r).Pairwise (· ≤ ·) := by
  rw [List.pairwise_map]
  exact h.le.imp (by intro a b h; rw [Le_iff] at h; omega)
/-- What is sorted stays as it is. -/
theorem sorted_its {s : List Int} {n : Nat} (hs : s.Pairwise (· ≤ ·)) (hl : s.length = n) : Sorted s n (its s n) := by
  refine ⟨?_, List.Perm.refl _⟩
  unfold its
  rw [List.pairwise_map]
  have hr : (List.range n).Pairwise (fun a b => a < b ∧ b < n) := by
    rw [List.pairwise_iff_getElem]
    intro i j hi hj hij
    simp at hi hj ⊢
    omega
  refine hr.imp ?_
  intro a b ⟨hab, hb⟩
  rw [Le_iff]
  simp only
  rw [List.pairwise_iff_getElem] at hs
  have := hs a b (by omega) (by omega) hab
  rw [List.getElem?_eq_getElem (by omega), List.getElem?_eq_getElem (by omega)]
  simp only [Option.getD_some]
  omega
theorem sorted_two {O : List Itm} (h : Sorted [2, 1] 2 O) : O = [⟨1, 1, 1⟩, ⟨0, 2, 0⟩] := by
  refine h.uniq ⟨?_, ?_⟩
  · simp [Le_iff]
  · exact List.Perm.swap _ _ _
end Go.Proofs.Ytfeibjokifidmaa
