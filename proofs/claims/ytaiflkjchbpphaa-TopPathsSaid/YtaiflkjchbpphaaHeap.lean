/- Heaps of items, as lists: a number that comes in rises, one that is put to the top sinks. No program. -/
namespace Go.Proofs.Ytaiflkjchbpphaa

/-- An item: its value, its rank, when it came. -/
structure Itm where
  v : Int
  r : Int
  c : Int
deriving DecidableEq

def bef (a b : Itm) : Bool := if a.r = b.r then decide (a.c < b.c) else decide (a.r < b.r)
/-- a comes out no later than b. -/
def Le (a b : Itm) : Prop := bef b a = false
theorem Le_iff (a b : Itm) : Le a b ↔ a.r < b.r ∨ (a.r = b.r ∧ a.c ≤ b.c) := by
  unfold Le bef; split <;> simp <;> omega
theorem Le_refl (a : Itm) : Le a a := by rw [Le_iff]; omega
theorem Le_trans {a b c : Itm} (h : Le a b) (k : Le b c) : Le a c := by rw [Le_iff] at *; omega
theorem Le_of_bef {a b : Itm} (h : bef a b = true) : Le a b := by
  rw [Le_iff]; unfold bef at h; split at h <;> simp at h <;> omega
theorem Le_total (a b : Itm) : Le a b ∨ Le b a := by simp only [Le_iff]; omega

def none' : Itm := ⟨0, 0, 0⟩
/-- Item i. -/
def at' (H : List Itm) (i : Nat) : Itm := H[i]?.getD none'
theorem at_eq {H : List Itm} {i : Nat} (h : i < H.length) : at' H i = H[i] := by unfold at'; rw [List.getElem?_eq_getElem h]; rfl

def Heap (H : List Itm) : Prop := ∀ j, 1 ≤ j → j < H.length → Le (at' H ((j - 1) / 2)) (at' H j)

def swap (H : List Itm) (i k : Nat) : List Itm := (H.set i (at' H k)).set k (at' H i)
theorem swap_length (H : List Itm) (i k : Nat) : (swap H i k).length = H.length := by simp [swap]
theorem at_set (H : List Itm) (i j : Nat) (x : Itm) (hi : i < H.length) : at' (H.set i x) j = if j = i then x else at' H j := by
  unfold at'
  by_cases h : j = i
  · subst h; rw [if_pos rfl, List.getElem?_set_self hi]; rfl
  · rw [if_neg h, List.getElem?_set_ne (fun e => h e.symm)]
theorem at_swap (H : List Itm) (i k j : Nat) (hi : i < H.length) (hk : k < H.length) : at' (swap H i k) j = if j = k then at' H i else if j = i then at' H k else at' H j := by
  unfold swap
  rw [at_set _ _ _ _ (by simpa using hk), at_set _ _ _ _ hi]
theorem swap_perm (H : List Itm) (i k : Nat) (hi : i < H.length) (hk : k < H.length) : (swap H i k).Perm H := by
  unfold swap
  rw [at_eq hi, at_eq hk]
  exact List.set_set_perm hi hk

/-- All but item i is in order; what stands below it is in order with what stands above it. -/
structure Up (H : List Itm) (i : Nat) : Prop where
  a : ∀ j, 1 ≤ j → j < H.length → j ≠ i → Le (at' H ((j - 1) / 2)) (at' H j)
  b : ∀ j, 1 ≤ j → j < H.length → (j - 1) / 2 = i → 1 ≤ i → Le (at' H ((i - 1) / 2)) (at' H j)
theorem Up.step {H : List Itm} {i : Nat} (h : Up H i) (h1 : 1 ≤ i) (hi : i < H.length) (hb : bef (at' H i) (at' H ((i - 1) / 2)) = true) : Up (swap H i ((i - 1) / 2)) ((i - 1) / 2) := by
  have hp : (i - 1) / 2 < H.length := by omega
  have hle := Le_of_bef hb
  refine ⟨?_, ?_⟩
  · intro j hj1 hj hjp
    rw [swap_length] at hj
    rw [at_swap _ _ _ _ hi hp, at_swap _ _ _ _ hi hp, if_neg hjp]
    by_cases hji : j = i
    · subst hji
      rw [if_pos rfl, if_pos rfl]
      exact hle
    · rw [if_neg hji]
      by_cases c1 : (j - 1) / 2 = (i - 1) / 2
      · rw [if_pos c1]
        have := h.a j hj1 hj hji
        rw [c1] at this
        exact Le_trans hle this
      · rw [if_neg c1]
        by_cases c2 : (j - 1) / 2 = i
        · rw [if_pos c2]
          exact h.b j hj1 hj c2 h1
        · rw [if_neg c2]
          exact h.a j hj1 hj hji
  · intro j hj1 hj hjp hp1
    rw [swap_length] at hj
    rw [at_swap _ _ _ _ hi hp, at_swap _ _ _ _ hi hp]
    rw [if_neg (show ¬ ((i - 1) / 2 - 1) / 2 = (i - 1) / 2 by omega), if_neg (show ¬ ((i - 1) / 2 - 1) / 2 = i by omega), if_neg (show ¬ j = (i - 1) / 2 by omega)]
    have hup := h.a ((i - 1) / 2) hp1 hp (by omega)
    by_cases hji : j = i
    · rw [if_pos hji]; exact hup
    · rw [if_neg hji]
      have := h.a j hj1 hj hji
      rw [hjp] at this
      exact Le_trans hup this
theorem Up.done {H : List Itm} {i : Nat} (h : Up H i) (hs : i = 0 ∨ bef (at' H i) (at' H ((i - 1) / 2)) = false) : Heap H := by
  intro j hj1 hj
  by_cases hji : j = i
  · subst hji
    rcases hs with hs | hs
    · omega
    · exact hs
  · exact h.a j hj1 hj hji
theorem Up.new {H : List Itm} (h : Heap H) (x : Itm) : Up (H ++ [x]) H.length := by
  have hat : ∀ j, j < H.length → at' (H ++ [x]) j = at' H j := by
    intro j hj; unfold at'; rw [List.getElem?_append_left hj]
  refine ⟨?_, ?_⟩
  · intro j hj1 hj hne
    simp at hj
    rw [hat j (by omega), hat _ (by omega)]
    exact h j hj1 (by omega)
  · intro j hj1 hj hp _
    simp at hj
    omega

/-- All but what stands right below item i is in order. -/
structure Down (H : List Itm) (i : Nat) : Prop where
  a : ∀ j, 1 ≤ j → j < H.length → (j - 1) / 2 ≠ i → Le (at' H ((j - 1) / 2)) (at' H j)
  b : ∀ j, 1 ≤ j → j < H.length → (j - 1) / 2 = i → 1 ≤ i → Le (at' H ((i - 1) / 2)) (at' H j)
theorem Down.step {H : List Itm} {i k : Nat} (h : Down H i) (hi : i < H.length) (hk : k < H.length) (hk1 : 1 ≤ k) (hp : (k - 1) / 2 = i) (hb : bef (at' H i) (at' H k) = false)
    (hs : ∀ j, 1 ≤ j → j < H.length → (j - 1) / 2 = i → Le (at' H k) (at' H j)) : Down (swap H i k) k := by
  refine ⟨?_, ?_⟩
  · intro j hj1 hj hjk
    rw [swap_length] at hj
    rw [at_swap _ _ _ _ hi hk, at_swap _ _ _ _ hi hk, if_neg hjk]
    by_cases c1 : (j - 1) / 2 = i
    · rw [if_pos c1]
      by_cases c2 : j = k
      · rw [if_pos c2]; exact hb
      · rw [if_neg c2, if_neg (show ¬ j = i by omega)]
        exact hs j hj1 hj c1
    · rw [if_neg c1, if_neg (show ¬ j = k by intro e; exact c1 (by rw [e]; exact hp))]
      by_cases c3 : j = i
      · rw [if_pos c3]
        have := h.b k hk1 hk hp (by omega)
        rw [c3]; exact this
      · rw [if_neg c3]
        exact h.a j hj1 hj c1
  · intro j hj1 hj hjk _
    rw [swap_length] at hj
    rw [at_swap _ _ _ _ hi hk, at_swap _ _ _ _ hi hk, hp]
    rw [if_neg (show ¬ i = k by omega), if_pos rfl, if_neg (show ¬ j = k by omega), if_neg (show ¬ j = i by omega)]
    have := h.a j hj1 hj (by omega)
    rw [hjk] at this
    exact this
theorem Down.done {H : List Itm} {i : Nat} (h : Down H i) (hs : ∀ j, 1 ≤ j → j < H.length → (j - 1) / 2 = i → Le (at' H i) (at' H j)) : Heap H := by
  intro j hj1 hj
  by_cases hji : (j - 1) / 2 = i
  · rw [hji]; exact hs j hj1 hj hji
  · exact h.a j hj1 hj hji
/-- The last item in the first one's place. -/
theorem Down.new {H : List Itm} (h : Heap H) (n : Nat) (hn : n + 1 = H.length) : Down ((H.set 0 (at' H n)).take n) 0 := by
  have hat : ∀ j, j < n → 1 ≤ j → at' ((H.set 0 (at' H n)).take n) j = at' H j := by
    intro j hj h1
    unfold at'
    rw [List.getElem?_take, if_pos hj, List.getElem?_set_ne (by omega)]
  refine ⟨?_, ?_⟩
  · intro j hj1 hj hne
    simp at hj
    rw [hat j (by omega) hj1, hat _ (by omega) (by omega)]
    exact h j hj1 (by omega)
  · intro j _ _ _ h1
    omega

/-- The first item of a heap is a least one. -/
theorem Heap.least {H : List Itm} (h : Heap H) : ∀ j, j < H.length → Le (at' H 0) (at' H j) := by
  intro j
  induction j using Nat.strongRecOn with
  | _ j ih =>
    intro hj
    by_cases h0 : j = 0
    · subst h0; exact Le_refl _
    · exact Le_trans (ih ((j - 1) / 2) (by omega) (by omega)) (h j (by omega) hj)
theorem Heap.least_mem {H : List Itm} (h : Heap H) (x : Itm) (hx : x ∈ H) : Le (at' H 0) x := by
  obtain ⟨j, hj, rfl⟩ := List.mem_iff_getElem.1 hx
  have := h.least j hj
  rwa [at_eq hj] at this
/-- What is taken, and what is left. -/
theorem take_perm (H : List Itm) (n : Nat) (hn : n + 1 = H.length) : (at' H 0 :: (H.set 0 (at' H n)).take n).Perm H := by
  cases H with
  | nil => simp at hn
  | cons x r =>
    simp at hn
    cases n with
    | zero =>
      have : r = [] := List.eq_nil_of_length_eq_zero (by omega)
      subst this
      simp [at']
    | succ m =>
      have hl : at' (x :: r) (m + 1) = r[m]'(by omega) := by rw [at_eq (by simp; omega)]; rfl
      rw [hl, List.set_cons_zero, List.take_succ_cons]
      have hr : r = r.take m ++ [r[m]'(by omega)] := by
        have := List.take_succ_eq_append_getElem (l := r) (i := m) (by omega)
        rw [List.take_of_length_le (by omega)] at this
        exact this
      show (at' (x :: r) 0 :: r[m] :: r.take m).Perm (x :: r)
      have h0 : at' (x :: r) 0 = x := rfl
      rw [h0]
      refine List.Perm.cons _ ?_
      conv => rhs; rw [hr]
      exact (List.perm_append_singleton _ _).symm
end Go.Proofs.Ytaiflkjchbpphaa
