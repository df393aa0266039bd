/- Breadth-first search with a queue. No program. -/
import Derived.Test.YtaiflkjchbpphaaField
namespace Go.Proofs.Ytaiflkjchbpphaa

/-- The edges of a table of four neighbours each. -/
def NA (N : Nat → Nat → Int) (a b : Nat) : Prop := ∃ k, k < 4 ∧ N a k = (b : Int)

/-- What holds while the queue T is worked off: of its first cell k neighbours are looked at. -/
structure Qv (n : Nat) (N : Nat → Nat → Int) (g : Nat) (O : List Int) (T : List Nat) (k : Nat) : Prop where
  len : O.length = n
  val : ∀ a, a < n → -1 ≤ gt O a
  bnd : ∀ a, a < n → gt O a + und O ≤ n
  done : ∀ a, a < n → 0 ≤ gt O a → (gt O a = 0 ∧ a = g) ∨ ∃ b, b < n ∧ NA N b a ∧ 0 ≤ gt O b ∧ gt O b + 1 = gt O a
  tin : ∀ t ∈ T, t < n ∧ 0 ≤ gt O t
  srt : T.Pairwise (fun s t => gt O s ≤ gt O t)
  top : ∀ a, a < n → 0 ≤ gt O a → ∀ t ∈ T, gt O a ≤ gt O t + 1
  edge : ∀ a, a < n → 0 ≤ gt O a → a ∉ T → ∀ b, b < n → NA N a b → 0 ≤ gt O b ∧ gt O b ≤ gt O a + 1
  head : ∀ x R, T = x :: R → ∀ j, j < k → ∀ b, b < n → N x j = (b : Int) → 0 ≤ gt O b ∧ gt O b ≤ gt O x + 1
  goal : gt O g = 0

theorem gt_rep (n a : Nat) (h : a < n) : gt (List.replicate n (-1)) a = -1 := by unfold gt; rw [List.getElem?_replicate, if_pos h]; rfl
theorem Qv.begin {n : Nat} {N : Nat → Nat → Int} {g : Nat} (hg : g < n) : Qv n N g ((List.replicate n (-1)).set g 0) [g] 0 := by
  have G : ∀ a, a < n → gt ((List.replicate n (-1)).set g 0) a = if a = g then 0 else -1 := fun a ha => by
    rw [gt_set _ _ _ _ (by simpa using hg)]
    split
    · rfl
    · exact gt_rep n a ha
  have Gp : ∀ a, a < n → 0 ≤ gt ((List.replicate n (-1)).set g 0) a → a = g := fun a ha h => by
    rw [G a ha] at h
    by_cases e : a = g
    · exact e
    · rw [if_neg e] at h; omega
  have Gg : gt ((List.replicate n (-1)).set g 0) g = 0 := by rw [G g hg, if_pos rfl]
  refine ⟨by simp, fun a ha => by rw [G a ha]; split <;> omega, fun a ha => ?_, fun a ha h => ?_, fun t ht => ?_, by simp, fun a ha h t ht => ?_, fun a ha h hn => ?_, fun x R _ j hj => by omega, Gg⟩
  · have h1 := und_set (List.replicate n (-1)) g 0 (by simpa using hg) (by rw [gt_rep n g hg]; omega) (by omega)
    have h2 := und_le (List.replicate n (-1))
    simp only [List.length_replicate] at h2
    rw [G a ha]
    split <;> omega
  · obtain rfl := Gp a ha h
    exact .inl ⟨Gg, rfl⟩
  · simp only [List.mem_singleton] at ht
    subst ht
    exact ⟨hg, by omega⟩
  · obtain rfl := Gp a ha h
    simp only [List.mem_singleton] at ht
    subst ht
    omega
  · exact absurd (List.mem_singleton.2 (Gp a ha h)) hn

theorem Qv.skip {n : Nat} {N : Nat → Nat → Int} {g : Nat} {O : List Int} {x : Nat} {R : List Nat} {k : Nat} (h : Qv n N g O (x :: R) k) (hs : ∀ b, b < n → N x k = (b : Int) → 0 ≤ gt O b) : Qv n N g O (x :: R) (k + 1) :=
  ⟨h.len, h.val, h.bnd, h.done, h.tin, h.srt, h.top, h.edge, fun y S e j hj b hb hN => by
    by_cases hjk : j < k
    · exact h.head y S e j hjk b hb hN
    · obtain rfl : j = k := by omega
      injection e with e1 e2
      subst e1
      have h0 := hs b hb hN
      exact ⟨h0, h.top b hb h0 x (by simp)⟩, h.goal⟩

theorem Qv.push {n : Nat} {N : Nat → Nat → Int} {g : Nat} {O : List Int} {x b : Nat} {R : List Nat} {k : Nat} (h : Qv n N g O (x :: R) k) (hk : k < 4) (hb : b < n) (hN : N x k = (b : Int)) (h0 : gt O b < 0) :
    Qv n N g (O.set b (gt O x + 1)) (x :: (R ++ [b])) (k + 1) := by
  have hbl : b < O.length := by rw [h.len]; exact hb
  have G : ∀ a, gt (O.set b (gt O x + 1)) a = if a = b then gt O x + 1 else gt O a := fun a => gt_set O b a _ hbl
  have Gb : gt (O.set b (gt O x + 1)) b = gt O x + 1 := by rw [G, if_pos rfl]
  have Gn : ∀ a, a ≠ b → gt (O.set b (gt O x + 1)) a = gt O a := fun a ha => by rw [G, if_neg ha]
  have Gd : ∀ a, 0 ≤ gt O a → gt (O.set b (gt O x + 1)) a = gt O a := fun a ha => Gn a (fun e => by subst e; omega)
  obtain ⟨hxn, hx0⟩ := h.tin x (by simp)
  have hTd : ∀ t ∈ x :: R, gt (O.set b (gt O x + 1)) t = gt O t := fun t ht => Gd t (h.tin t ht).2
  have Gx : gt (O.set b (gt O x + 1)) x = gt O x := Gd x hx0
  have hu := und_set O b (gt O x + 1) hbl h0 (by omega)
  have hmem : ∀ t, t ∈ x :: (R ++ [b]) ↔ t ∈ x :: R ∨ t = b := fun t => by simp [or_assoc]
  refine ⟨by rw [List.length_set]; exact h.len, ?_, ?_, ?_, ?_, ?_, ?_, ?_, ?_, ?_⟩
  · intro a ha
    by_cases e : a = b
    · subst e; rw [Gb]; omega
    · rw [Gn a e]; exact h.val a ha
  · intro a ha
    by_cases e : a = b
    · subst e; rw [Gb]; have := h.bnd x hxn; omega
    · rw [Gn a e]; have := h.bnd a ha; omega
  · intro a ha h1
    by_cases e : a = b
    · subst e
      exact .inr ⟨x, hxn, ⟨k, hk, hN⟩, by rw [Gx]; exact hx0, by rw [Gx, Gb]⟩
    · rw [Gn a e] at h1 ⊢
      rcases h.done a ha h1 with h2 | ⟨c, hc, hA, h2, h3⟩
      · exact .inl h2
      · exact .inr ⟨c, hc, hA, by rw [Gd c h2]; exact h2, by rw [Gd c h2]; exact h3⟩
  · intro t ht
    rcases (hmem t).1 ht with ht | rfl
    · exact ⟨(h.tin t ht).1, by rw [hTd t ht]; exact (h.tin t ht).2⟩
    · exact ⟨hb, by rw [Gb]; omega⟩
  · have e : x :: (R ++ [b]) = (x :: R) ++ [b] := rfl
    rw [e, List.pairwise_append]
    refine ⟨h.srt.imp_of_mem (fun {s t} hs ht hst => by rw [hTd s hs, hTd t ht]; exact hst), by simp, fun s hs t ht => ?_⟩
    simp only [List.mem_singleton] at ht
    subst ht
    rw [Gb, hTd s hs]
    exact h.top s (h.tin s hs).1 (h.tin s hs).2 x (by simp)
  · intro a ha h1 t ht
    have hxt : ∀ t ∈ x :: R, gt O x ≤ gt O t := fun t ht => by
      rcases List.mem_cons.1 ht with rfl | ht
      · omega
      · exact List.rel_of_pairwise_cons h.srt ht
    by_cases e : a = b
    · subst e
      rw [Gb]
      rcases (hmem t).1 ht with ht | rfl
      · rw [hTd t ht]; have := hxt t ht; omega
      · rw [Gb]; omega
    · rw [Gn a e] at h1 ⊢
      rcases (hmem t).1 ht with ht | rfl
      · rw [hTd t ht]; exact h.top a ha h1 t ht
      · rw [Gb]; have := h.top a ha h1 x (by simp); omega
  · intro a ha h1 hn c hc hA
    have hn' : a ∉ x :: R ∧ a ≠ b := ⟨fun e => hn ((hmem a).2 (.inl e)), fun e => hn ((hmem a).2 (.inr e))⟩
    rw [Gn a hn'.2] at h1 ⊢
    have := h.edge a ha h1 hn'.1 c hc hA
    rw [Gd c this.1]
    exact this
  · intro y S e j hj c hc hNc
    injection e with e1 e2
    subst e1
    rw [Gx]
    by_cases hjk : j < k
    · have := h.head x R rfl j hjk c hc hNc
      rw [Gd c this.1]
      exact this
    · obtain rfl : j = k := by omega
      obtain rfl : c = b := by omega
      rw [Gb]
      omega
  · rw [Gd g (by rw [h.goal]; exact Int.le_refl 0)]; exact h.goal

theorem Qv.pop {n : Nat} {N : Nat → Nat → Int} {g : Nat} {O : List Int} {x : Nat} {R : List Nat} (h : Qv n N g O (x :: R) 4) : Qv n N g O R 0 :=
  ⟨h.len, h.val, h.bnd, h.done, fun t ht => h.tin t (List.mem_cons_of_mem _ ht), (List.pairwise_cons.1 h.srt).2, fun a ha h0 t ht => h.top a ha h0 t (List.mem_cons_of_mem _ ht), fun a ha h0 hn b hb hA => by
    by_cases e : a = x
    · subst e
      obtain ⟨j, hj, hN⟩ := hA
      exact h.head a R rfl j hj b hb hN
    · exact h.edge a ha h0 (by simp [e, hn]) b hb hA, fun y S _ j hj => by omega, h.goal⟩

theorem Qv.bfs {n : Nat} {N : Nat → Nat → Int} {g : Nat} {O : List Int} {k : Nat} (h : Qv n N g O [] k) : Bfs n (fun _ => True) (NA N) g (gt O) :=
  ⟨h.val, fun a ha h0 => ⟨trivial, h.done a ha h0⟩, fun a b ha hb hA _ h0 => h.edge a ha h0 (by simp) b hb hA, fun _ => h.goal⟩
end Go.Proofs.Ytaiflkjchbpphaa
