/- slots.Free; what a call on slots leaves alone. -/
import Derived.Test.YtfeibjokifidmaaSlots
import Derived.Test.YtfeibjokifidmaaLateIx
namespace Go.Proofs.Ytfeibjokifidmaa.Z
open Go.RowKit Go.Shelf Go.Proofs.Ytfeibjokifidmaa.M
variable {bz : Nat}

/-- The block of the gens' row. -/
def gb (w : World) (p : Nat) : Option Nat := match w.cell? ⟨p, 0, none⟩ with | some v => v.ownBlock | none => none
/-- Block p and the gens' row alone may have turned; the row may have moved to a new block. -/
structure Turn (p : Nat) (w w' : World) : Prop where
  base : Below 0 w w'
  block : ∀ k, k < w.heap.size → k ≠ p → some k ≠ gb w p → w'.heap[k]? = w.heap[k]?
  next : gb w' p = gb w p ∨ ∀ k, gb w' p = some k → w.heap.size ≤ k
theorem Turn.trans {p : Nat} {w w1 w2 : World} (h : Turn p w w1) (k : Turn p w1 w2) : Turn p w w2 := by
  have hs := h.base.size
  refine ⟨h.base.trans k.base, fun j hj hp hg => ?_, ?_⟩
  · refine (k.block j (by omega) hp (fun e => ?_)).trans (h.block j hj hp hg)
    rcases h.next with h2 | h2
    · rw [h2] at e; exact hg e
    · have := h2 j e.symm; omega
  · rcases k.next with k2 | k2
    · rcases h.next with h2 | h2
      · exact .inl (k2.trans h2)
      · exact .inr fun j hj => h2 j (by rw [← k2]; exact hj)
    · exact .inr fun j hj => by have := k2 j hj; omega
theorem Turn.of_below {p : Nat} {w w' : World} (hb : Below w.heap.size w w') (hp : p < w.heap.size) : Turn p w w' :=
  ⟨hb.mono (Nat.zero_le _), fun k hk _ _ => hb.block k hk, .inl (by unfold gb; rw [hb.cell (p := ⟨p, 0, none⟩) hp])⟩
theorem SlotsAt.gb_gt {w : World} {p : Nat} {G : List Nat} {U F : Sets} (h : SlotsAt w p bz G U F) {k : Nat} (hk : gb w p = some k) : bz ≤ k ∧ k ≠ p ∧ k < w.heap.size := by
  obtain ⟨gv, h1, h2⟩ := h.gens
  unfold gb at hk
  rw [h1] at hk
  have h3 := h2.lt k hk
  exact ⟨h3.1, fun e => h.ne gv h1 (by rw [← e]; exact hk), h3.2⟩
theorem Turn.below {w w' : World} {p B : Nat} {G : List Nat} {U F : Sets} (h : Turn p w w') (hs : SlotsAt w p bz G U F) (hB : B ≤ p) (hBz : B ≤ bz) : Below B w w' := by
  obtain ⟨h1, h2, h3, h4, _⟩ := h.base
  refine ⟨h1, h2, h3, h4, fun k hk => ?_⟩
  have hpw := hs.sz
  exact h.block k (by omega) (by omega) fun e => by have := hs.gb_gt e.symm; omega
theorem Turn.box {w w' : World} {p b : Nat} {v : Value} (h : Turn p w w') (hb : Box w b v) (h1 : b ≠ p) (h2 : some b ≠ gb w p) : Box w' b v := by
  have hh := h.block b hb.lt h1 h2
  exact ⟨(World.cell?_of_block (a := ⟨b, 0, none⟩) hh).trans hb.1, (World.frozen?_of_block (a := ⟨b, 0, none⟩) hh).trans hb.2⟩
theorem Turn.row {w w' : World} {p B : Nat} {e : TypeId} {size : Nat} {v : Value} {n : Nat} {xs : List Value} (h : Turn p w w') (ho : w.ownsRow B e size v n xs) (h1 : ∀ k, v.ownBlock = some k → k ≠ p ∧ some k ≠ gb w p) : w'.ownsRow B e size v n xs :=
  M.owns_keep ho fun k _ hl hk => h.block k hl (h1 k hk).1 (h1 k hk).2

set_option maxRecDepth 8000 in
theorem free_no (p : Nat) (G : List Nat) (U F : Sets) (w : World) (h : SlotsAt w p bz G U F) (hI : Inv G U F) (N g : Nat) (hN : N < 4096) (hno : (has U N && (G[N]?.getD 0 == g)) = false) :
    Calls Try.prog 40 #[.pointer (some ⟨p, 0, none⟩), .agg #[.int .i64 N, .int .i64 g]] w fun e w' => e = .returned (.int .i64 4) ∧ Below w.heap.size w w' := by
  have ha := alive_any p G U F (w.alloc (.cells #[.int .i64 N, .int .i64 g] 64)) (h.keep ((Below.refl _ _).alloc (Nat.le_refl _) _)) hI N g hN
  rw [hno] at ha
  have HA := Lib.hid ha
  clear ha h hI hno
  go_enter Try.func40, Try.ntmps40
  go_wp2_with fail
  with_reducible refine HA.out.mono ?_
  rintro e w1 ⟨rfl, hb⟩
  go_wp2_with fail
  go_ret
  exact ⟨rfl, ((Below.refl _ _).alloc (Nat.le_refl _) _).trans (hb.mono (by simp))⟩

theorem SetAt.other {w : World} {v : Value} {s : Sets} (h : SetAt w v s) {b : Nat} (i : Nat) (u : Value) (hx : ∀ x, w.cell? ⟨b, 0, none⟩ ≠ some (.int .u64 x)) : SetAt (w.setCell ⟨b, i, none⟩ u) v s := by
  obtain ⟨l, ad, c, h1, h2, h3, h4, h5, h6, h7⟩ := h
  refine ⟨l, ad, c, h1, h2, h3, h4, h5, h6, fun j hj => ?_⟩
  obtain ⟨g, h8, h9⟩ := h7 j hj
  obtain ⟨k, h10, h11⟩ := h7 0 (by omega)
  rw [h8] at h10
  injection h10 with h10
  injection h10 with h10
  subst h10
  refine ⟨g, h8, ?_⟩
  rw [World.cell?_setCell_other _ _ _ _ (fun e => ?_)]
  · exact h9
  · have := congrArg Addr.block e
    simp only at this
    subst this
    exact hx _ h11
theorem SlotsAt.drew {w : World} {p : Nat} {G : List Nat} {U F : Sets} (h : SlotsAt w p bz G U F) : SlotsAt w.drew p bz G U F := h.keep (Below.refl _ _).drew
theorem SlotsAt.no64 {w : World} {p : Nat} {G : List Nat} {U F : Sets} (h : SlotsAt w p bz G U F) : ∀ x, w.cell? ⟨p, 0, none⟩ ≠ some (.int .u64 x) := by
  obtain ⟨gv, h1, h2⟩ := h.gens
  obtain ⟨ao, cap, rfl, _⟩ := owns_source h2
  intro x e
  rw [h1] at e
  cases e
theorem ints_set (G : List Nat) (N g : Nat) : ints (G.set N g) = (ints G).set N (.int .i64 ((g : Nat) : Int)) := by unfold ints; rw [List.map_set]
theorem SlotsAt.setGen {w : World} {p q c N : Nat} {G : List Nat} {U F : Sets} (h : SlotsAt w p bz G U F) (hq : w.cell? ⟨p, 0, none⟩ = some (.slice (some ⟨q, 0, none⟩) G.length c)) (hN : N < G.length) (g : Nat) :
    SlotsAt (w.setCell ⟨q, N, none⟩ (.int .i64 ((g : Nat) : Int))) p bz (G.set N g) U F ∧ Turn p w (w.setCell ⟨q, N, none⟩ (.int .i64 ((g : Nat) : Int))) := by
  obtain ⟨gv, h1, h2⟩ := h.gens
  have h0 := h1
  rw [hq] at h0
  injection h0 with h0
  subst h0
  have hpq : q ≠ p := fun e => h.ne _ h1 (by rw [← e]; rfl)
  have o1 := (h2.stored N (.int .i64 ((g : Nat) : Int))).1
  rw [← ints_set] at o1
  have hx : ∀ x, w.cell? ⟨q, 0, none⟩ ≠ some (.int .u64 x) := by
    intro x e
    obtain ⟨g', c', he, _, _, _, _, _, hcl, _⟩ := owns_open h2 (by omega)
    cases he
    rw [hcl 0 (by omega), ints_at (by omega)] at e
    cases e
  have hne : ∀ i j, (⟨q, i, none⟩ : Addr) ≠ ⟨p, j, none⟩ := fun i j e => by have := congrArg Addr.block e; simp at this; omega
  obtain ⟨uv, h3, h4⟩ := h.used
  obtain ⟨fv, h5, h6⟩ := h.free
  have hb : gb w p = some q := by unfold gb; rw [h1]; rfl
  refine ⟨⟨⟨_, (World.cell?_setCell_other _ _ _ _ (hne _ _)).trans h1, by rw [List.length_set]; exact o1⟩, ⟨uv, (World.cell?_setCell_other _ _ _ _ (hne _ _)).trans h3, h4.other _ _ hx⟩,
    ⟨fv, (World.cell?_setCell_other _ _ _ _ (hne _ _)).trans h5, h6.other _ _ hx⟩, fun j => by rw [World.frozen?_setCell]; exact h.fz j, by simpa [World.setCell] using h.sz, fun v hv => h.ne v (by rwa [World.cell?_setCell_other _ _ _ _ (hne _ _)] at hv)⟩,
    (Below.refl 0 w).setCell (Nat.zero_le _) _, fun k hk hp hg => ?_, .inl ?_⟩
  · exact Below.heap_setCell _ _ _ _ fun e => hg (by rw [hb]; exact congrArg some e)
  · unfold gb; rw [World.cell?_setCell_other _ _ _ _ (hne _ _)]
theorem owns_setP {w : World} {B p : Nat} {e : TypeId} {size : Nat} {v : Value} {n : Nat} {xs : List Value} (h : w.ownsRow B e size v n xs) (hp : v.ownBlock ≠ some p) (i : Nat) (u : Value) : (w.setCell ⟨p, i, none⟩ u).ownsRow B e size v n xs :=
  M.owns_keep h fun k _ _ hk => Below.heap_setCell _ _ _ _ fun e => hp (by rw [hk]; exact congrArg some e)
theorem SlotsAt.setUsed {w : World} {p : Nat} {G : List Nat} {U F U' : Sets} {v : Value} (h : SlotsAt w p bz G U F) (hv : SetAt w v U') : SlotsAt (w.setCell ⟨p, 1, none⟩ v) p bz G U' F ∧ Turn p w (w.setCell ⟨p, 1, none⟩ v) := by
  obtain ⟨gv, h1, h2⟩ := h.gens
  obtain ⟨uv, h3, h4⟩ := h.used
  obtain ⟨fv, h5, h6⟩ := h.free
  refine ⟨⟨⟨gv, (World.cell?_setCell_other _ _ _ _ (by simp)).trans h1, owns_setP h2 (h.ne _ h1) _ _⟩, ⟨v, (World.cell?_setCell_same _ _ _ h3), hv.other _ _ h.no64⟩,
    ⟨fv, (World.cell?_setCell_other _ _ _ _ (by simp)).trans h5, h6.other _ _ h.no64⟩, fun j => by rw [World.frozen?_setCell]; exact h.fz j, by simpa [World.setCell] using h.sz, fun v hv => h.ne v (by rwa [World.cell?_setCell_other _ _ _ _ (by simp)] at hv)⟩,
    (Below.refl 0 w).setCell (Nat.zero_le _) _, fun k hk hp hg => ?_, .inl ?_⟩
  · exact Below.heap_setCell _ _ _ _ fun e => hp e
  · unfold gb; rw [World.cell?_setCell_other _ _ _ _ (by simp)]
theorem SlotsAt.setFree {w : World} {p : Nat} {G : List Nat} {U F F' : Sets} {v : Value} (h : SlotsAt w p bz G U F) (hv : SetAt w v F') : SlotsAt (w.setCell ⟨p, 2, none⟩ v) p bz G U F' ∧ Turn p w (w.setCell ⟨p, 2, none⟩ v) := by
  obtain ⟨gv, h1, h2⟩ := h.gens
  obtain ⟨uv, h3, h4⟩ := h.used
  obtain ⟨fv, h5, h6⟩ := h.free
  refine ⟨⟨⟨gv, (World.cell?_setCell_other _ _ _ _ (by simp)).trans h1, owns_setP h2 (h.ne _ h1) _ _⟩, ⟨uv, (World.cell?_setCell_other _ _ _ _ (by simp)).trans h3, h4.other _ _ h.no64⟩,
    ⟨v, (World.cell?_setCell_same _ _ _ h5), hv.other _ _ h.no64⟩, fun j => by rw [World.frozen?_setCell]; exact h.fz j, by simpa [World.setCell] using h.sz, fun v hv => h.ne v (by rwa [World.cell?_setCell_other _ _ _ _ (by simp)] at hv)⟩,
    (Below.refl 0 w).setCell (Nat.zero_le _) _, fun k hk hp hg => ?_, .inl ?_⟩
  · exact Below.heap_setCell _ _ _ _ fun e => hp e
  · unfold gb; rw [World.cell?_setCell_other _ _ _ _ (by simp)]

/-- Without panics, any order may be asked of a region of a plain call. -/
def noP (Q : Exit → Act → World → Prop) : Exit → Act → World → Prop := fun e a w => (∀ c, e ≠ .panic c) ∧ Q e a w
theorem region_late_np {P : Program} {Q : Exit → Act → World → Prop} {S : World → Prop} {id : Nat} {a : Act} {w : World} {l : List Oper} (m g : Nat) (T : List Nat) (hm : P.follows .mixedOrders = true) (hg : m + g = l.length) (hs : Region.noSelect l.toArray = true)
    (hB : lateB .any l.toArray T m 0 (Array.replicate l.toArray.size false) = true) (hp : (l.take m).all pureB = true) (hS : S w.drew)
    (h : wpQuiet P l.toArray S (fun a' => wpAnyL P .any l.toArray (noP Q) S T g (marked m 0 (Array.replicate l.toArray.size false)) a' w.drew) (l.take m) a) : (Code.region id l.toArray true).wp P Q a w :=
  Code.wp_mono (fun _ _ _ h => h.2) (region_late (Q := noP Q) m g T hm hg hs hB hp (fun c _ _ _ h => (h.1 c rfl).elim) hS h)
theorem region_ix_np {P : Program} {Q : Exit → Act → World → Prop} {S : World → Prop} {id : Nat} {a : Act} {w : World} {l : List Oper} (is : List Nat) (g : Nat) (T : List Nat) (hm : P.follows .mixedOrders = true) (hg : is.length + g = l.length) (hs : Region.noSelect l.toArray = true)
    (hB : lateI .any l.toArray T is (Array.replicate l.toArray.size false) = true) (hS : S w.drew)
    (h : wpQuiet P l.toArray S (fun a' => wpAnyL P .any l.toArray (noP Q) S T g (markedI is (Array.replicate l.toArray.size false)) a' w.drew) (is.filterMap (l[·]?)) a) : (Code.region id l.toArray true).wp P Q a w :=
  Code.wp_mono (fun _ _ _ h => h.2) (region_ix (Q := noP Q) is g T hm hg hs hB (fun c _ _ _ h => (h.1 c rfl).elim) hS h)
theorem late_done_np {P : Program} {ops : Array Oper} {Q : Exit → Act → World → Prop} {S : World → Prop} {T : List Nat} {g : Nat} {listed : Array Bool} {a : Act} {w : World} {md : Region.Mode} (hr : Region.ready md ops listed = []) (h : Q .normal a w) : wpAnyL P md ops (noP Q) S T g listed a w :=
  late_done hr ⟨(fun _ h => nomatch h), h⟩

end Go.Proofs.Ytfeibjokifidmaa.Z
