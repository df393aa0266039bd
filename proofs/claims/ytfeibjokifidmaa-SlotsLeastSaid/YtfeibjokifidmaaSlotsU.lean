/- slots.Take. -/
import Derived.Test.YtfeibjokifidmaaSlotsF
import Derived.Test.YtfeibjokifidmaaList
namespace Go.Proofs.Ytfeibjokifidmaa.Z
open Go.RowKit Go.Shelf Go.Proofs.Ytfeibjokifidmaa.M
variable {bz : Nat}

attribute [local go_sem] Oper.semAt_some

/-- A variable of two cells. -/
def Two (W : World) (b : Nat) (u v : Value) : Prop := W.cell? ⟨b, 0, none⟩ = some u ∧ W.cell? ⟨b, 1, none⟩ = some v ∧ W.frozen? ⟨b, 0, none⟩ = false ∧ W.frozen? ⟨b, 1, none⟩ = false
theorem Two.lt {W : World} {b : Nat} {u v : Value} (h : Two W b u v) : b < W.heap.size := World.block_lt_of_cell? W _ h.1
theorem Two.keep {W W' : World} {b : Nat} {u v : Value} (h : Two W b u v) (hb : Below W.heap.size W W') : Two W' b u v :=
  ⟨(hb.cell (p := ⟨b, 0, none⟩) h.lt).trans h.1, (hb.cell (p := ⟨b, 1, none⟩) h.lt).trans h.2.1, (hb.frozen (p := ⟨b, 0, none⟩) h.lt).trans h.2.2.1, (hb.frozen (p := ⟨b, 1, none⟩) h.lt).trans h.2.2.2⟩
theorem Two.own {W W' : World} {row : Option Nat} {b : Nat} {u v : Value} (h : Two W b u v) (hg : W.grownBy W' row) (hr : ∀ r, row = some r → ∃ o : Obj, W.heap[r]? = some o ∧ o.isCells = false) : Two W' b u v :=
  ⟨cell_kept h.1 hg hr, cell_kept h.2.1 hg hr, (frozen_kept h.1 hg hr).trans h.2.2.1, (frozen_kept h.2.1 hg hr).trans h.2.2.2⟩
theorem Two.other {W : World} {b c : Nat} {u v : Value} (h : Two W b u v) (hne : b ≠ c) (i : Nat) (x : Value) : Two (W.setCell ⟨c, i, none⟩ x) b u v := by
  refine ⟨(World.cell?_setCell_other _ _ _ _ (fun e => hne (congrArg Addr.block e).symm)).trans h.1, (World.cell?_setCell_other _ _ _ _ (fun e => hne (congrArg Addr.block e).symm)).trans h.2.1, ?_, ?_⟩
  · rw [World.frozen?_setCell]; exact h.2.2.1
  · rw [World.frozen?_setCell]; exact h.2.2.2
theorem Two.turn {w w' : World} {p b : Nat} {u v : Value} (h : Turn p w w') (hb : Two w b u v) (h1 : b ≠ p) (h2 : some b ≠ gb w p) : Two w' b u v := by
  have hh := h.block b hb.lt h1 h2
  exact ⟨(World.cell?_of_block (a := ⟨b, 0, none⟩) hh).trans hb.1, (World.cell?_of_block (a := ⟨b, 1, none⟩) hh).trans hb.2.1, (World.frozen?_of_block (a := ⟨b, 0, none⟩) hh).trans hb.2.2.1, (World.frozen?_of_block (a := ⟨b, 1, none⟩) hh).trans hb.2.2.2⟩
theorem SetAt.own {W W' : World} {row : Option Nat} {v : Value} {s : Sets} (h : SetAt W v s) (hg : W.grownBy W' row) (hr : ∀ r, row = some r → ∃ o : Obj, W.heap[r]? = some o ∧ o.isCells = false) : SetAt W' v s := by
  obtain ⟨l, ad, c, h1, h2, h3, h4, h5, h6, h7⟩ := h
  exact ⟨l, ad, c, h1, h2, h3, h4, h5, h6, fun j hj => (h7 j hj).elim fun g hg' => ⟨g, hg'.1, cell_kept hg'.2 hg hr⟩⟩
/-- Slots abide what turns no cells. -/
theorem SlotsAt.own {W W' : World} {row : Option Nat} {p : Nat} {G : List Nat} {U F : Sets} (h : SlotsAt W p bz G U F) (hg : W.grownBy W' row) (hr : ∀ r, row = some r → ∃ o : Obj, W.heap[r]? = some o ∧ o.isCells = false) : SlotsAt W' p bz G U F := by
  obtain ⟨gv, h1, h2⟩ := h.gens
  obtain ⟨uv, h3, h4⟩ := h.used
  obtain ⟨fv, h5, h6⟩ := h.free
  refine ⟨⟨gv, cell_kept h1 hg hr, row_own h2 hg hr⟩, ⟨uv, cell_kept h3 hg hr, h4.own hg hr⟩, ⟨fv, cell_kept h5 hg hr, h6.own hg hr⟩, fun j => ?_, Nat.lt_of_lt_of_le h.sz hg.size, fun v hv => h.ne v (by rw [cell_kept h1 hg hr] at hv; exact h1.trans hv)⟩
  refine (hg.frozen_far ⟨p, j, none⟩ h.sz fun e => ?_).trans (h.fz j)
  obtain ⟨o, ho, hc⟩ := hr p e.symm
  have hcell := h1
  unfold World.cell? at hcell
  simp only [ho] at hcell
  cases o <;> simp_all [Obj.isCells]
theorem Turn.putObj {p D : Nat} {w W : World} {o' : Obj} {G : List Nat} {U F : Sets} (h : Turn p w W) (hS : SlotsAt W p bz G U F) (hD : w.heap.size ≤ D) (hDn : ∃ o : Obj, W.heap[D]? = some o ∧ o.isCells = false) : Turn p w (W.putObj D o') := by
  refine ⟨h.base.grown (grownBy_putObj' W D o') (Nat.zero_le _) (fun _ _ => Nat.zero_le _), fun k hk h1 h2 => (World.putObj_heap_other (show k ≠ D by omega)).trans (h.block k hk h1 h2), ?_⟩
  · have : gb (W.putObj D o') p = gb W p := by
      obtain ⟨gv, h1, _⟩ := hS.gens
      unfold gb
      rw [cell_kept h1 (grownBy_putObj' W D o') (fun r e => by cases e; exact hDn), h1]
    rw [this]
    exact h.next

theorem SlotsAt.other {W : World} {p b : Nat} {G : List Nat} {U F : Sets} (h : SlotsAt W p bz G U F) (h1 : b ≠ p) (h2 : some b ≠ gb W p) (hx : ∀ x, W.cell? ⟨b, 0, none⟩ ≠ some (.int .u64 x)) (i : Nat) (v : Value) : SlotsAt (W.setCell ⟨b, i, none⟩ v) p bz G U F := by
  obtain ⟨gv, g1, g2⟩ := h.gens
  obtain ⟨uv, h3, h4⟩ := h.used
  obtain ⟨fv, h5, h6⟩ := h.free
  have hne : ∀ j, (⟨b, i, none⟩ : Addr) ≠ ⟨p, j, none⟩ := fun j e => h1 (congrArg Addr.block e)
  refine ⟨⟨gv, (World.cell?_setCell_other _ _ _ _ (hne _)).trans g1, ?_⟩, ⟨uv, (World.cell?_setCell_other _ _ _ _ (hne _)).trans h3, h4.other _ _ hx⟩,
    ⟨fv, (World.cell?_setCell_other _ _ _ _ (hne _)).trans h5, h6.other _ _ hx⟩, fun j => by rw [World.frozen?_setCell]; exact h.fz j, by simpa [World.setCell] using h.sz, fun v hv => h.ne v (by rwa [World.cell?_setCell_other _ _ _ _ (hne _)] at hv)⟩
  refine M.owns_keep g2 fun k _ _ hk => Below.heap_setCell _ _ _ _ fun e => ?_
  subst e
  exact h2 (by unfold gb; rw [g1]; exact hk.symm)
theorem Turn.setNew {p b : Nat} {w W : World} (h : Turn p w W) (hb : w.heap.size ≤ b) (h1 : b ≠ p) (i : Nat) (v : Value) : Turn p w (W.setCell ⟨b, i, none⟩ v) := by
  refine ⟨h.base.setCell (p := ⟨b, i, none⟩) (Nat.zero_le _) _, fun k hk hp hg => (Below.heap_setCell _ _ _ _ (show k ≠ b by omega)).trans (h.block k hk hp hg), ?_⟩
  have : gb (W.setCell ⟨b, i, none⟩ v) p = gb W p := by
    unfold gb
    rw [World.cell?_setCell_other _ _ _ _ (fun e => h1 (congrArg Addr.block e))]
  rw [this]
  exact h.next

theorem none_of_has {s : Sets} (h : ∀ i, has s i = false) : s = none' := by
  funext k
  apply BitVec.eq_of_getLsbD_eq
  intro i hi
  have := h (64 * k + i)
  rw [has_at s k i (by omega)] at this
  rw [this]
  simp [none']
/-- A set abides what turns one block that holds no words. -/
theorem SetAt.grow {W W' : World} {row : Option Nat} {v : Value} {s : Sets} (h : SetAt W v s) (hg : W.grownBy W' row) (hr : ∀ k, row = some k → s = none' ∨ ∃ z, W.cell? ⟨k, 0, none⟩ = some (.int .i64 z)) : SetAt W' v s := by
  obtain ⟨l, ad, c, h1, h2, h3, h4, h5, h6, h7⟩ := h
  refine ⟨l, ad, c, h1, h2, h3, h4, h5, h6, fun j hj => ?_⟩
  obtain ⟨g, h8, h9⟩ := h7 j hj
  refine ⟨g, h8, hg.cell h9 fun e => ?_⟩
  rcases hr g e.symm with h0 | ⟨z, hz⟩
  · have : l = [] := canon_eq (b := []) h2 ⟨by simp, fun m hm => by simp at hm⟩ (by rw [h3, h0]; funext k; simp [Z.wd, none'])
    rw [this] at hj
    simp at hj
  · obtain ⟨g', h10, h11⟩ := h7 0 (by omega)
    rw [h8] at h10
    injection h10 with h10
    injection h10 with h10
    subst h10
    rw [hz] at h11
    cases h11
theorem SlotsAt.append {W w6 : World} {p g6 c6 : Nat} {G : List Nat} {U F : Sets} {o : Obj} {gv : Value} (h : SlotsAt W p bz G U F) (hI : Inv G U F) (hgv : W.cell? ⟨p, 0, none⟩ = some gv) (hO : W.ownsRow bz 3 1 gv G.length (ints G))
    (hg6 : (W.alloc o).grownBy w6 gv.ownBlock) (hO6 : w6.ownsRow bz 3 1 (.slice (some ⟨g6, 0, none⟩) (G.length + 1) c6) (G.length + 1) (ints G ++ [.int .i64 0])) (hat : gv.ownBlock = some g6 ∨ g6 = W.heap.size + 1) :
    SlotsAt (w6.setCell ⟨p, 0, none⟩ (.slice (some ⟨g6, 0, none⟩) (G.length + 1) c6)) p bz (G ++ [0]) U F ∧ Turn p W (w6.setCell ⟨p, 0, none⟩ (.slice (some ⟨g6, 0, none⟩) (G.length + 1) c6)) := by
  obtain ⟨uv, h3, h4⟩ := h.used
  obtain ⟨fv, h5, h6⟩ := h.free
  have hps := h.sz
  have hb1 : Below W.heap.size W (W.alloc o) := (Below.refl _ _).alloc (Nat.le_refl _) _
  have hpn : some p ≠ gv.ownBlock := fun e => h.ne _ hgv e.symm
  have hp6 : some p ≠ (Value.slice (some ⟨g6, 0, none⟩) (G.length + 1) c6).ownBlock := fun e => by
    injection e with e
    rcases hat with hat | hat
    · exact hpn (by rw [hat]; exact congrArg some e)
    · have : p = g6 := e
      have := h.sz
      omega
  have hrow : ∀ s : Sets, (∀ i, has s i = true → i < G.length) → ∀ k, gv.ownBlock = some k → s = none' ∨ ∃ z, (W.alloc o).cell? ⟨k, 0, none⟩ = some (.int .i64 z) := by
    intro s hs k hk
    rcases Nat.eq_zero_or_pos G.length with h0 | h0
    · left
      refine none_of_has fun i => ?_
      cases hq : has s i with
      | false => rfl
      | true => have := hs i hq; omega
    · right
      obtain ⟨g, c, rfl, _, hg, _, _, _, hcl, _⟩ := owns_open hO (by omega)
      cases hk
      exact ⟨_, (hb1.cell (p := ⟨g, 0, none⟩) hg).trans ((hcl 0 (by omega)).trans (ints_at h0))⟩
  have hU : ∀ i, has U i = true → i < G.length := hI.u
  have hF : ∀ i, has F i = true → i < G.length := fun i hi => by rw [hI.f i] at hi; simp at hi; exact hi.1
  have q : ∀ j v, W.cell? ⟨p, j, none⟩ = some v → w6.cell? ⟨p, j, none⟩ = some v := fun j v hv => hg6.cell ((hb1.cell (p := ⟨p, j, none⟩) hps).trans hv) hpn
  have hsz6 : W.heap.size + 1 ≤ w6.heap.size := by have := hg6.size; simpa using this
  have u6 : SetAt w6 uv U := (h4.keep hb1).grow hg6 (hrow U hU)
  have f6 : SetAt w6 fv F := (h6.keep hb1).grow hg6 (hrow F hF)
  have hx : ∀ x, w6.cell? ⟨p, 0, none⟩ ≠ some (.int .u64 x) := fun x e => by
    rw [q 0 gv hgv] at e
    obtain ⟨ao, cap, rfl, _⟩ := owns_source hO
    cases e
  refine ⟨⟨⟨_, World.cell?_setCell_same _ _ _ (q 0 _ hgv), ?_⟩, ⟨uv, (World.cell?_setCell_other _ _ _ _ (by simp)).trans (q 1 _ h3), u6.other _ _ hx⟩, ⟨fv, (World.cell?_setCell_other _ _ _ _ (by simp)).trans (q 2 _ h5), f6.other _ _ hx⟩, fun j => ?_, ?_, fun v hv => ?_⟩, ?_, ?_, ?_⟩
  · have e1 : (G ++ [0]).length = G.length + 1 := List.length_append
    have e2 : ints (G ++ [0]) = ints G ++ [.int .i64 0] := by simp [ints]
    rw [e1, e2]
    exact owns_setP hO6 hp6.symm _ _
  · rw [World.frozen?_setCell]
    exact (hg6.frozen_far ⟨p, j, none⟩ (by simp; omega) hpn).trans ((hb1.frozen (p := ⟨p, j, none⟩) hps).trans (h.fz j))
  · simp [World.setCell]; omega
  · rw [World.cell?_setCell_same _ _ _ (q 0 _ hgv)] at hv
    injection hv with hv
    subst hv
    exact hp6.symm
  · exact ((hb1.mono (Nat.zero_le _)).grown hg6 (Nat.zero_le _) (fun _ _ => Nat.zero_le _)).setCell (p := ⟨p, 0, none⟩) (Nat.zero_le _) _
  · intro k hk hp hg
    refine (Below.heap_setCell _ _ _ _ hp).trans ((hg6.block k (by simp; omega) fun e => hg ?_).trans (hb1.block k hk))
    unfold gb
    rw [hgv]
    exact e
  · have e1 : gb (w6.setCell ⟨p, 0, none⟩ (.slice (some ⟨g6, 0, none⟩) (G.length + 1) c6)) p = some g6 := by unfold gb; rw [World.cell?_setCell_same _ _ _ (q 0 _ hgv)]; rfl
    have e2 : gb W p = gv.ownBlock := by unfold gb; rw [hgv]
    rw [e1, e2]
    rcases hat with hat | hat
    · exact .inl hat.symm
    · right
      intro k hk
      injection hk with hk
      omega

end Go.Proofs.Ytfeibjokifidmaa.Z
