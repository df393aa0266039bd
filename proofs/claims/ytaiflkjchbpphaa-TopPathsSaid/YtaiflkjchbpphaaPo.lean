/- The sides between the cells of a way. No program. -/
import Derived.Test.YtaiflkjchbpphaaPj
import Derived.Test.YtaiflkjchbpphaaPn
namespace Go.Proofs.Ytaiflkjchbpphaa.P
open Go.RowKit

theorem ara_self (a b c d : Int) : ara a b c d a b = 0 := by unfold ara; grind
/-- A cell's corners are different points. -/
theorem Good.inj {np nc : Nat} {X Y : Nat → Int} {z : Nat → Nat} {K : Nat → Nat → Nat} (h : Good np nc X Y z K) {i a b : Nat} (hi : i < nc) (hz : 3 ≤ z i) (ha : a < z i) (hb : b < z i) (e : K i a = K i b) : a = b := by
  rcases Nat.decEq a b with hab | hab
  · exfalso
    by_cases h1 : b = (a + 1) % z i
    · have h2 : a ≠ (b + 1) % z i := fun h2 => by
        rw [h1] at h2
        by_cases h3 : a + 1 < z i
        · rw [Nat.mod_eq_of_lt h3] at h2
          by_cases h4 : a + 1 + 1 < z i
          · rw [Nat.mod_eq_of_lt h4] at h2; omega
          · have : a + 1 + 1 = z i := by omega
            rw [this, Nat.mod_self] at h2; omega
        · have : a + 1 = z i := by omega
          rw [this, Nat.mod_self, Nat.mod_eq_of_lt (by omega)] at h2
          omega
      have := h.cv i b a hi hb ha hab h2
      rw [e, ara_self] at this
      omega
    · have := h.cv i a b hi ha hb (fun x => hab x.symm) h1
      rw [← e, ara_self] at this
      omega
  · exact hab
theorem least {p : Nat → Prop} (h : ∃ n, p n) : ∃ n, p n ∧ ∀ m, m < n → ¬ p m := by
  obtain ⟨n, hn⟩ := h
  induction n using Nat.strongRecOn with
  | _ n ih =>
    by_cases hm : ∃ m, m < n ∧ p m
    · obtain ⟨m, hlt, hp⟩ := hm
      exact ih m hlt hp
    · exact ⟨n, hn, fun m hlt hp => hm ⟨m, hlt, hp⟩⟩
/-- Neighbours have a side between them. -/
theorem first_ex {np nc : Nat} {X Y : Nat → Int} {z : Nat → Nat} {K : Nat → Nat → Nat} {N : Nat → Nat → Int} (h : Good np nc X Y z K) (hz : ∀ i, i < nc → 3 ≤ z i ∧ z i ≤ 4) (hN : Nbr nc z K N) {a b : Nat} (ha : a < nc) (hA : NA N a b) : b < nc ∧ ∃ k, First z K a b k := by
  obtain ⟨k, _, hk⟩ := hA
  by_cases hkz : k < z a
  · rcases hN.no a k ha hkz with h1 | ⟨i', j', h1, h2, h3, h4, h5⟩
    · omega
    · obtain rfl : i' = b := by omega
      refine ⟨h2, ?_⟩
      have hit : k < z a ∧ Hit z K a i' k := ⟨hkz, j', h3, h4, fun j'' hj e => by
        have := h.inj h2 (hz i' h2).1 (by omega) h3 (e.trans h4.symm)
        omega, h5⟩
      obtain ⟨k0, ⟨hk1, hk2⟩, hk3⟩ := least (p := fun k => k < z a ∧ Hit z K a i' k) ⟨k, hit⟩
      exact ⟨k0, hk1, hk2, fun k' hk' hh => hk3 k' hk' ⟨by omega, hh⟩⟩
  · have := hN.out a k (by omega); omega

/-! ### distances are less than the number of cells -/
theorem pigeon : ∀ (N d : Nat) (O : Nat → Int), (∀ v : Nat, v ≤ d → ∃ b, b < N ∧ O b = (v : Int)) → d < N
  | 0, d, O, h => by obtain ⟨b, hb, _⟩ := h 0 (Nat.zero_le _); omega
  | N + 1, 0, O, h => by omega
  | N + 1, d + 1, O, h => by
    have := pigeon N d (fun b => if O b = ((d + 1 : Nat) : Int) then O N else O b) (fun v hv => by
      obtain ⟨b, hb, e⟩ := h v (by omega)
      by_cases hbN : b = N
      · subst hbN
        obtain ⟨b', hb', e'⟩ := h (d + 1) (Nat.le_refl _)
        have hne : b' ≠ b := fun x => by subst x; omega
        exact ⟨b', by omega, by simp only [e', if_true]; exact e⟩
      · exact ⟨b, by omega, by simp only [e]; rw [if_neg (by omega)]⟩)
    omega
theorem bfs_bound {N : Nat} {C : Nat → Prop} {A : Nat → Nat → Prop} {g : Nat} {O : Nat → Int} (h : Bfs N C A g O) (d a : Nat) (ha : a < N) (hd : O a = (d : Int)) : d < N := by
  have hall : ∀ (d a : Nat), a < N → O a = (d : Int) → ∀ v : Nat, v ≤ d → ∃ b, b < N ∧ O b = (v : Int) := by
    intro d
    induction d with
    | zero => intro a ha hd v hv; exact ⟨a, ha, by rw [hd]; congr 1; omega⟩
    | succ d ih =>
      intro a ha hd v hv
      by_cases e : v = d + 1
      · exact ⟨a, ha, by rw [hd, e]⟩
      · rcases (h.done a ha (by omega)).2 with ⟨h1, _⟩ | ⟨b, hb, _, _, h2⟩
        · omega
        · exact ih b hb (by omega) v (by omega)
  exact pigeon N d O (hall d a ha hd)

def wf (l : List Nat) (i : Nat) : Nat := l[i]?.getD 0
theorem Way.head {nc : Nat} {N : Nat → Nat → Int} {F : Nat → Int} {b a : Nat} {l : List Nat} (h : Way nc N F b a l) : ∃ r, l = a :: r := by
  cases h with
  | stop => exact ⟨[], rfl⟩
  | step _ c l => exact ⟨l, rfl⟩
theorem Way.pairs {nc : Nat} {N : Nat → Nat → Int} {F : Nat → Int} {b a : Nat} {l : List Nat} (h : Way nc N F b a l) (ha : a < nc) : (∀ i, i < l.length → wf l i < nc) ∧ (∀ i, i + 1 < l.length → NA N (wf l i) (wf l (i + 1))) ∧ wf l (l.length - 1) = b ∧ wf l 0 = a := by
  induction h with
  | stop =>
    refine ⟨fun i hi => ?_, fun i hi => ?_, rfl, rfl⟩
    · obtain rfl : i = 0 := by simpa using hi
      exact ha
    · simp at hi
  | step a c l hab hc h ih =>
    obtain ⟨h1, h2, h3, h4⟩ := ih hc.2.1
    obtain ⟨r, hr⟩ := h.head
    have hl : l.length = r.length + 1 := by rw [hr]; rfl
    refine ⟨fun i hi => ?_, fun i hi => ?_, ?_, rfl⟩
    · cases i with
      | zero => exact ha
      | succ i => exact h1 i (by simpa using hi)
    · cases i with
      | zero =>
        have : wf (a :: l) 1 = wf l 0 := rfl
        rw [this, h4]
        exact hc.1
      | succ i => exact h2 i (by simpa using hi)
    · have : wf (a :: l) ((a :: l).length - 1) = wf l (l.length - 1) := by
        rw [List.length_cons, Nat.add_sub_cancel]
        unfold wf
        rw [hl]
        rfl
      rw [this]; exact h3
theorem way_steps {np nc : Nat} {X Y : Nat → Int} {z : Nat → Nat} {K : Nat → Nat → Nat} {N : Nat → Nat → Int} {F : Nat → Int} {a b : Nat} {l : List Nat} (h : Good np nc X Y z K) (hz : ∀ i, i < nc → 3 ≤ z i ∧ z i ≤ 4) (hN : Nbr nc z K N) (ha : a < nc) (hw : Way nc N F b a l) {m : Nat} (hl : l.length = m + 1) : ∃ k, Steps nc z K (wf l) k m := by
  obtain ⟨h1, h2, _, _⟩ := hw.pairs ha
  refine ⟨fun i => if hi : i < m then Classical.choose (first_ex h hz hN (h1 i (by omega)) (h2 i (by omega))).2 else 0, fun i hi => h1 i (by omega), fun i hi => ?_⟩
  simp only [dif_pos hi]
  exact Classical.choose_spec (first_ex h hz hN (h1 i (by omega)) (h2 i (by omega))).2
theorem Steps.uniq {nc : Nat} {z : Nat → Nat} {K : Nat → Nat → Nat} {l k k' : Nat → Nat} {m : Nat} (h : Steps nc z K l k m) (h' : Steps nc z K l k' m) (i : Nat) (hi : i < m) : k i = k' i := (h.first i hi).uniq (h'.first i hi)

/-- The gates of a way, and its end. -/
def gts (X Y : Nat → Int) (z : Nat → Nat) (K : Nat → Nat → Nat) (l k : Nat → Nat) (m : Nat) (tp : Pt) (i : Nat) : Pt × Pt := if i < m then gateOf X Y z K (l i) (k i) else (tp, tp)
theorem flat4_congr {G G' : Nat → Pt × Pt} : ∀ m, (∀ i, i < m → G i = G' i) → flat4 G m = flat4 G' m
  | 0, _ => rfl
  | m + 1, h => by
    rw [flat4, flat4, flat4_congr m (fun i hi => h i (by omega)), h m (Nat.lt_succ_self m)]
theorem flat4_gts (X Y : Nat → Int) (z : Nat → Nat) (K : Nat → Nat → Nat) (l k : Nat → Nat) (m : Nat) (tp : Pt) : flat4 (gts X Y z K l k m tp) (m + 1) = flat4 (fun i => gateOf X Y z K (l i) (k i)) m ++ [.int .i64 tp.1, .int .i64 tp.2, .int .i64 tp.1, .int .i64 tp.2] := by
  rw [flat4, flat4_congr (G := gts X Y z K l k m tp) (G' := fun i => gateOf X Y z K (l i) (k i)) m (fun i hi => by unfold gts; rw [if_pos hi])]
  have : gts X Y z K l k m tp m = (tp, tp) := by unfold gts; rw [if_neg (Nat.lt_irrefl m)]
  rw [this]
theorem gts_of {w : World} {g n cap B : Nat} {G : Nat → Pt × Pt} (h : w.ownsRow B 41 4 (.slice (some ⟨g, 0, none⟩) n cap) n (flat4 G n)) : Gts w g n G := fun j hj => by
  obtain ⟨_, _, _, _, hcl, _⟩ := owns_at h
  obtain ⟨a, b, c, d⟩ := flat4_get G n j hj
  refine ⟨?_, ?_, ?_, ?_⟩
  · rw [hcl _ (by omega), show j * 4 = 4 * j by omega]; exact a
  · rw [hcl _ (by omega), show j * 4 + 1 = 4 * j + 1 by omega]; exact b
  · rw [hcl _ (by omega), show j * 4 + 2 = 4 * j + 2 by omega]; exact c
  · rw [hcl _ (by omega), show j * 4 + 3 = 4 * j + 3 by omega]; exact d
theorem gts_small {np nc : Nat} {X Y : Nat → Int} {z : Nat → Nat} {K : Nat → Nat → Nat} {l k : Nat → Nat} {m : Nat} {tp : Pt} (h : Good np nc X Y z K) (hlt : ∀ i j, i < nc → j < z i → K i j < np) (hz : ∀ i, i < nc → 3 ≤ z i ∧ z i ≤ 4) (hs : Steps nc z K l k m) (ht : Small tp) : SmallG (gts X Y z K l k m tp) (m + 1) := fun i hi => by
  unfold gts
  by_cases h1 : i < m
  · rw [if_pos h1]
    have hl := hs.lt i (by omega)
    have hk := (hs.first i h1).1
    have hz3 := hz _ hl
    exact ⟨h.bd _ (hlt _ _ hl (Nat.mod_lt _ (by omega))), h.bd _ (hlt _ _ hl hk)⟩
  · rw [if_neg h1]; exact ⟨ht, ht⟩
end Go.Proofs.Ytaiflkjchbpphaa.P
