/- Breadth-first distances: what they are, and how a heap finds them. No program. -/
import Derived.Test.YtaiflkjchbpphaaHeap
namespace Go.Proofs.Ytaiflkjchbpphaa

/-- Number a of a list. -/
def gt (O : List Int) (a : Nat) : Int := O[a]?.getD 0
theorem gt_set (O : List Int) (c a : Nat) (x : Int) (h : c < O.length) : gt (O.set c x) a = if a = c then x else gt O a := by
  unfold gt
  by_cases e : a = c
  · subst e; rw [if_pos rfl, List.getElem?_set_self h]; rfl
  · rw [if_neg e, List.getElem?_set_ne (fun e' => e e'.symm)]

/-- The distances from g over the edges A to the cells C. -/
structure Bfs (N : Nat) (C : Nat → Prop) (A : Nat → Nat → Prop) (g : Nat) (O : Nat → Int) : Prop where
  val : ∀ a, a < N → -1 ≤ O a
  done : ∀ a, a < N → 0 ≤ O a → C a ∧ ((O a = 0 ∧ a = g) ∨ ∃ b, b < N ∧ A b a ∧ 0 ≤ O b ∧ O b + 1 = O a)
  edge : ∀ a b, a < N → b < N → A a b → C b → 0 ≤ O a → 0 ≤ O b ∧ O b ≤ O a + 1
  goal : C g → O g = 0
theorem Bfs.le {N : Nat} {C : Nat → Prop} {A : Nat → Nat → Prop} {g : Nat} {O F : Nat → Int} (h : Bfs N C A g O) (k : Bfs N C A g F) : ∀ (n : Nat) (a : Nat), a < N → O a = (n : Int) → 0 ≤ F a ∧ F a ≤ n
  | 0, a, ha, e => by
    obtain ⟨hc, ⟨_, rfl⟩ | ⟨b, _, _, h1, h2⟩⟩ := h.done a ha (by omega)
    · have := k.goal hc; omega
    · omega
  | n + 1, a, ha, e => by
    obtain ⟨hc, ⟨h0, _⟩ | ⟨b, hb, hab, h1, h2⟩⟩ := h.done a ha (by omega)
    · omega
    · have ih := Bfs.le h k n b hb (by omega)
      have := k.edge b a hb ha hab hc ih.1
      omega
theorem Bfs.uniq {N : Nat} {C : Nat → Prop} {A : Nat → Nat → Prop} {g : Nat} {O F : Nat → Int} (h : Bfs N C A g O) (k : Bfs N C A g F) (a : Nat) (ha : a < N) : O a = F a := by
  have v1 := h.val a ha
  have v2 := k.val a ha
  rcases Int.lt_or_le (O a) 0 with h0 | h0
  · rcases Int.lt_or_le (F a) 0 with h1 | h1
    · omega
    · have := Bfs.le k h (F a).toNat a ha (by omega); omega
  · have r1 := Bfs.le h k (O a).toNat a ha (by omega)
    have r2 := Bfs.le k h (F a).toNat a ha (by omega)
    omega

/-- What holds as cells are taken from a heap: the edges S are looked at. -/
structure Inv (N : Nat) (C : Nat → Prop) (A S : Nat → Nat → Prop) (g : Nat) (O : List Int) (H : List Itm) : Prop where
  len : O.length = N
  val : ∀ a, a < N → -1 ≤ gt O a
  done : ∀ a, a < N → 0 ≤ gt O a → C a ∧ ((gt O a = 0 ∧ a = g) ∨ ∃ b, b < N ∧ A b a ∧ 0 ≤ gt O b ∧ gt O b + 1 = gt O a)
  item : ∀ t ∈ H, ∃ c : Nat, t.c = (c : Int) ∧ c < N ∧ C c ∧ 0 ≤ t.r ∧ ((t.r = 0 ∧ c = g) ∨ ∃ b, b < N ∧ A b c ∧ 0 ≤ gt O b ∧ gt O b + 1 = t.r)
  mono : ∀ a, a < N → 0 ≤ gt O a → ∀ t ∈ H, gt O a ≤ t.r
  edge : ∀ a b, a < N → b < N → A a b → S a b → C b → 0 ≤ gt O a → (0 ≤ gt O b ∧ gt O b ≤ gt O a + 1) ∨ (gt O b < 0 ∧ ∃ t ∈ H, t.c = (b : Int) ∧ t.r = gt O a + 1)
  goal : C g → (0 ≤ gt O g → gt O g = 0) ∧ (gt O g < 0 → ∃ t ∈ H, t.c = (g : Int) ∧ t.r = 0)

theorem Inv.perm {N : Nat} {C : Nat → Prop} {A S : Nat → Nat → Prop} {g : Nat} {O : List Int} {H K : List Itm} (h : Inv N C A S g O H) (p : K.Perm H) : Inv N C A S g O K := by
  have m : ∀ t, t ∈ K ↔ t ∈ H := fun t => p.mem_iff
  refine ⟨h.len, h.val, h.done, fun t ht => h.item t ((m t).1 ht), fun a ha h0 t ht => h.mono a ha h0 t ((m t).1 ht), fun a b ha hb hA hS hC h0 => ?_, fun hC => ⟨(h.goal hC).1, fun h0 => ?_⟩⟩
  · rcases h.edge a b ha hb hA hS hC h0 with h1 | ⟨h1, t, ht, h2⟩
    · exact .inl h1
    · exact .inr ⟨h1, t, (m t).2 ht, h2⟩
  · obtain ⟨t, ht, h1⟩ := (h.goal hC).2 h0
    exact ⟨t, (m t).2 ht, h1⟩

/-- An item of a cell that is done is let go. -/
theorem Inv.skip {N : Nat} {C : Nat → Prop} {A S : Nat → Nat → Prop} {g : Nat} {O : List Int} {K : List Itm} {t : Itm} (h : Inv N C A S g O (t :: K)) (c : Nat) (hc : t.c = (c : Int)) (h0 : 0 ≤ gt O c) : Inv N C A S g O K := by
  refine ⟨h.len, h.val, h.done, fun u hu => h.item u (List.mem_cons_of_mem _ hu), fun a ha h1 u hu => h.mono a ha h1 u (List.mem_cons_of_mem _ hu), fun a b ha hb hA hS hC h1 => ?_, fun hC => ⟨(h.goal hC).1, fun h1 => ?_⟩⟩
  · rcases h.edge a b ha hb hA hS hC h1 with h2 | ⟨h2, u, hu, h3, h4⟩
    · exact .inl h2
    · rcases List.mem_cons.1 hu with rfl | hu
      · have : b = c := by omega
        subst this; omega
      · exact .inr ⟨h2, u, hu, h3, h4⟩
  · obtain ⟨u, hu, h2, h3⟩ := (h.goal hC).2 h1
    rcases List.mem_cons.1 hu with rfl | hu
    · have : g = c := by omega
      subst this; omega
    · exact ⟨u, hu, h2, h3⟩

/-- The least item's cell is done. -/
theorem Inv.take {N : Nat} {C : Nat → Prop} {A : Nat → Nat → Prop} {g : Nat} {O : List Int} {K : List Itm} {t : Itm} (h : Inv N C A A g O (t :: K)) (c : Nat) (hc : t.c = (c : Int)) (hcN : c < N) (h0 : gt O c < 0) (hmin : ∀ u ∈ K, t.r ≤ u.r) :
    Inv N C A (fun a b => A a b ∧ a ≠ c) g (O.set c t.r) K ∧ (∀ a, a < N → 0 ≤ gt (O.set c t.r) a → gt (O.set c t.r) a ≤ t.r) ∧ gt (O.set c t.r) c = t.r ∧ 0 ≤ t.r := by
  have hmin' : ∀ u ∈ t :: K, t.r ≤ u.r := fun u hu => by
    rcases List.mem_cons.1 hu with rfl | hu
    · omega
    · exact hmin u hu
  have G : ∀ a, gt (O.set c t.r) a = if a = c then t.r else gt O a := fun a => gt_set O c a t.r (by rw [h.len]; exact hcN)
  have Gc : gt (O.set c t.r) c = t.r := by rw [G, if_pos rfl]
  have Gn : ∀ a, a ≠ c → gt (O.set c t.r) a = gt O a := fun a ha => by rw [G, if_neg ha]
  have Gd : ∀ a, 0 ≤ gt O a → gt (O.set c t.r) a = gt O a := fun a ha => Gn a (fun e => by subst e; omega)
  obtain ⟨c', hc', _, hCc, htr, hw⟩ := h.item t (by simp)
  obtain rfl : c' = c := by omega
  refine ⟨⟨by rw [List.length_set]; exact h.len, ?_, ?_, ?_, ?_, ?_, ?_⟩, ?_, Gc, htr⟩
  · intro a ha
    by_cases e : a = c'
    · subst e; rw [Gc]; omega
    · rw [Gn a e]; exact h.val a ha
  · intro a ha h1
    by_cases e : a = c'
    · subst e
      refine ⟨hCc, ?_⟩
      rw [Gc]
      rcases hw with hw | ⟨b, hb, hA, h2, h3⟩
      · exact .inl hw
      · exact .inr ⟨b, hb, hA, by rw [Gd b h2]; exact h2, by rw [Gd b h2]; exact h3⟩
    · rw [Gn a e] at h1 ⊢
      obtain ⟨hC, h2 | ⟨b, hb, hA, h2, h3⟩⟩ := h.done a ha h1
      · exact ⟨hC, .inl h2⟩
      · exact ⟨hC, .inr ⟨b, hb, hA, by rw [Gd b h2]; exact h2, by rw [Gd b h2]; exact h3⟩⟩
  · intro u hu
    obtain ⟨q, hq, hqN, hCq, hur, h2 | ⟨b, hb, hA, h2, h3⟩⟩ := h.item u (List.mem_cons_of_mem _ hu)
    · exact ⟨q, hq, hqN, hCq, hur, .inl h2⟩
    · exact ⟨q, hq, hqN, hCq, hur, .inr ⟨b, hb, hA, by rw [Gd b h2]; exact h2, by rw [Gd b h2]; exact h3⟩⟩
  · intro a ha h1 u hu
    by_cases e : a = c'
    · subst e; rw [Gc]; exact hmin u hu
    · rw [Gn a e] at h1 ⊢
      exact h.mono a ha h1 u (List.mem_cons_of_mem _ hu)
  · rintro a b ha hb hA ⟨_, hne⟩ hC h1
    rw [Gn a hne] at h1 ⊢
    rcases h.edge a b ha hb hA hA hC h1 with h2 | ⟨h2, u, hu, h3, h4⟩
    · exact .inl (by rw [Gd b h2.1]; exact h2)
    · by_cases e : b = c'
      · subst e
        have := hmin' u hu
        exact .inl (by rw [Gc]; omega)
      · rcases List.mem_cons.1 hu with rfl | hu
        · exact absurd (by omega : b = c') e
        · exact .inr ⟨by rw [Gn b e]; exact h2, u, hu, h3, h4⟩
  · intro hC
    by_cases e : g = c'
    · subst e
      rw [Gc]
      obtain ⟨u, hu, _, h3⟩ := (h.goal hC).2 h0
      have := hmin' u hu
      exact ⟨fun _ => by omega, fun h1 => by omega⟩
    · rw [Gn g e]
      refine ⟨(h.goal hC).1, fun h1 => ?_⟩
      obtain ⟨u, hu, h2, h3⟩ := (h.goal hC).2 h1
      rcases List.mem_cons.1 hu with rfl | hu
      · exact absurd (by omega : g = c') e
      · exact ⟨u, hu, h2, h3⟩
  · intro a ha h1
    by_cases e : a = c'
    · subst e; rw [Gc]; omega
    · rw [Gn a e] at h1 ⊢
      exact h.mono a ha h1 t (by simp)

/-- A cell next to the one that was taken comes into the heap. -/
theorem Inv.push {N : Nat} {C : Nat → Prop} {A S : Nat → Nat → Prop} {g : Nat} {O : List Int} {H : List Itm} (h : Inv N C A S g O H) (x b : Nat) (hx : x < N) (hb : b < N) (hA : A x b) (hC : C b) (h0 : 0 ≤ gt O x) (htop : ∀ a, a < N → 0 ≤ gt O a → gt O a ≤ gt O x) (hOb : gt O b < 0) :
    Inv N C A (fun p q => S p q ∨ (p = x ∧ q = b)) g O (H ++ [⟨0, gt O x + 1, b⟩]) := by
  refine ⟨h.len, h.val, h.done, ?_, ?_, ?_, ?_⟩
  · intro t ht
    rcases List.mem_append.1 ht with ht | ht
    · exact h.item t ht
    · obtain rfl := List.mem_singleton.1 ht
      exact ⟨b, rfl, hb, hC, by simp only []; omega, .inr ⟨x, hx, hA, h0, rfl⟩⟩
  · intro a ha h1 t ht
    rcases List.mem_append.1 ht with ht | ht
    · exact h.mono a ha h1 t ht
    · obtain rfl := List.mem_singleton.1 ht
      have := htop a ha h1
      simp only []; omega
  · intro p q hp hq hpq hS hCq h1
    rcases hS with hS | ⟨rfl, rfl⟩
    · rcases h.edge p q hp hq hpq hS hCq h1 with h2 | ⟨h2, t, ht, h3⟩
      · exact .inl h2
      · exact .inr ⟨h2, t, List.mem_append_left _ ht, h3⟩
    · exact .inr ⟨hOb, _, List.mem_append_right _ (List.mem_singleton.2 rfl), rfl, rfl⟩
  · intro hCg
    refine ⟨(h.goal hCg).1, fun h1 => ?_⟩
    obtain ⟨t, ht, h2⟩ := (h.goal hCg).2 h1
    exact ⟨t, List.mem_append_left _ ht, h2⟩
theorem Inv.more {N : Nat} {C : Nat → Prop} {A S T : Nat → Nat → Prop} {g : Nat} {O : List Int} {H : List Itm} (h : Inv N C A S g O H) (hT : ∀ a b, a < N → b < N → A a b → T a b → C b → 0 ≤ gt O a → S a b ∨ (0 ≤ gt O b ∧ gt O b ≤ gt O a + 1)) : Inv N C A T g O H :=
  ⟨h.len, h.val, h.done, h.item, h.mono, fun a b ha hb hA hTab hC h1 => by
    rcases hT a b ha hb hA hTab hC h1 with h2 | h2
    · exact h.edge a b ha hb hA h2 hC h1
    · exact .inl h2, h.goal⟩
theorem Inv.done' {N : Nat} {C : Nat → Prop} {A : Nat → Nat → Prop} {g : Nat} {O : List Int} (h : Inv N C A A g O []) : Bfs N C A g (gt O) := by
  refine ⟨h.val, h.done, fun a b ha hb hA hC h0 => ?_, fun hC => ?_⟩
  · rcases h.edge a b ha hb hA hA hC h0 with h1 | ⟨_, t, ht, _⟩
    · exact h1
    · simp at ht
  · rcases Int.lt_or_le (gt O g) 0 with h0 | h0
    · obtain ⟨t, ht, _⟩ := (h.goal hC).2 h0; simp at ht
    · exact (h.goal hC).1 h0
theorem Inv.begin {N : Nat} {C : Nat → Prop} {A : Nat → Nat → Prop} {g : Nat} {H : List Itm} (hg : g < N) (hH : ∀ t, t ∈ H → t.r = 0 ∧ t.c = (g : Int) ∧ C g) (hC : C g → ∃ t ∈ H, t.c = (g : Int) ∧ t.r = 0) : Inv N C A A g (List.replicate N (-1)) H := by
  have G : ∀ a, a < N → gt (List.replicate N (-1)) a = -1 := fun a ha => by unfold gt; rw [List.getElem?_replicate, if_pos ha]; rfl
  refine ⟨by simp, fun a ha => by rw [G a ha]; omega, fun a ha h0 => by rw [G a ha] at h0; omega, fun t ht => ?_, fun a ha h0 => by rw [G a ha] at h0; omega, fun a b ha _ _ _ _ h0 => by rw [G a ha] at h0; omega, fun hCg => ⟨fun h0 => by rw [G g hg] at h0; omega, fun _ => hC hCg⟩⟩
  obtain ⟨h1, h2, h3⟩ := hH t ht
  exact ⟨g, h2, hg, h3, by omega, .inl ⟨h1, rfl⟩⟩
end Go.Proofs.Ytaiflkjchbpphaa
