/- The state of a floor's points while they are drawn. -/
import Derived.Test.YtaiflkjchbpphaaPm
import Derived.Test.YtaiflkjchbpphaaPd
import Derived.Test.YtaiflkjchbpphaaRgrid
import Derived.Deep.DeepCutAuto
import Derived.Deep.AppendLies
namespace Go.Proofs.Ytaiflkjchbpphaa.P
open Go.RowKit

/-- Near a line of the grid. -/
def Gb (c : Nat) (v : Int) : Prop := 8 * (c : Int) * 65536 - 65536 ≤ v ∧ v ≤ 8 * (c : Int) * 65536 + 65635
/-- The points of a grid with W + 1 columns, some of them. -/
def Grd (W : Nat) (L : List Pt) : Prop := ∀ (i : Nat) (P : Pt), L[i]? = some P → Gb (i % (W + 1)) P.1 ∧ Gb (i / (W + 1)) P.2

theorem own_apart {w : World} {B B' : Nat} {e e' : TypeId} {s s' n n' : Nat} {v v' : Value} {xs xs' : List Value} (h : w.ownsRow B e s v n xs) (k : w.ownsRow B' e' s' v' n' xs') (he : e ≠ e') : v'.ownBlock = none ∨ v.ownBlock ≠ v'.ownBlock := by
  rcases k.2 with ⟨h2, _⟩ | ⟨g', cap', cur, h2, h3⟩
  · exact .inl (by rw [h2]; rfl)
  · refine .inr (fun x => ?_)
    have k' : w.ownsRow B' e' s' (.slice (some ⟨g', 0, none⟩) n' cap') n' xs' := h2 ▸ k
    refine own_ne h k' he ?_
    rw [x, h2]; rfl

/-- While the points are drawn. -/
structure Ast (p q : Nat) (ao : Option Addr) (ns : List Int) (cap : Nat) (V : World) (W : Nat) (L : List Pt) (k : Nat) (vp : Value) (w : World) : Prop where
  src : ∃ i, Src p p ao ns cap i w
  q0 : w.cell? ⟨q, 0, none⟩ = some vp
  q1 : w.cell? ⟨q, 1, none⟩ = some (.slice none 0 0)
  f0 : w.frozen? ⟨q, 0, none⟩ = false
  f1 : w.frozen? ⟨q, 1, none⟩ = false
  own : w.ownsRow (q + 1) 24 2 vp k (fl L)
  len : L.length = k
  grd : Grd W L
  bel : Below p V w
  qs : q < w.heap.size
  pq : p < q
theorem Ast.drew {p q : Nat} {ao : Option Addr} {ns : List Int} {cap : Nat} {V : World} {W : Nat} {L : List Pt} {k : Nat} {vp : Value} {w : World} (h : Ast p q ao ns cap V W L k vp w) : Ast p q ao ns cap V W L k vp w.drew := by
  obtain ⟨i, s⟩ := h.src
  exact ⟨⟨i, ⟨s.s0, s.s1, s.f1, s.pl, s.bp, s.src, s.sb, s.sn, s.bd, s.le, s.hl⟩⟩, h.q0, h.q1, h.f0, h.f1, h.own.drew, h.len, h.grd, h.bel.drew, h.qs, h.pq⟩
theorem Ast.turn {p q : Nat} {ao : Option Addr} {ns : List Int} {cap : Nat} {V : World} {W : Nat} {L : List Pt} {k : Nat} {vp : Value} {w w' : World} (h : Ast p q ao ns cap V W L k vp w) (hVp : V.heap.size = p) (hg : w.grownBy w' (some p)) (hs : ∃ i, Src p p ao ns cap i w') : Ast p q ao ns cap V W L k vp w' := by
  have hpq := h.pq
  have hqs := h.qs
  have hc : ∀ i, w'.cell? ⟨q, i, none⟩ = w.cell? ⟨q, i, none⟩ := fun i => hg.cell_far _ hqs (fun e => by injection e with e; simp only [] at e; omega)
  have hf : ∀ i, w'.frozen? ⟨q, i, none⟩ = w.frozen? ⟨q, i, none⟩ := fun i => hg.frozen_far _ hqs (fun e => by injection e with e; simp only [] at e; omega)
  refine ⟨hs, (hc 0).trans h.q0, (hc 1).trans h.q1, (hf 0).trans h.f0, (hf 1).trans h.f1, h.own.kept hg ?_, h.len, h.grd, h.bel.grown hg (by have := h.bel.size; omega) (fun k hk => by injection hk with hk; omega), Nat.lt_of_lt_of_le hqs hg.size, hpq⟩
  rcases h.own.2 with ⟨h2, _⟩ | ⟨g', cap', cur, h2, h3, _⟩
  · exact .inl (by rw [h2]; rfl)
  · refine .inr (fun e => ?_)
    rw [h2] at e
    have : g' = p := by simpa [Value.ownBlock] using e
    omega
theorem Grd.add {W : Nat} {L : List Pt} {P : Pt} (h : Grd W L) (h1 : Gb (L.length % (W + 1)) P.1) (h2 : Gb (L.length / (W + 1)) P.2) : Grd W (L ++ [P]) := fun i Q hi => by
  by_cases e : i < L.length
  · rw [List.getElem?_append_left e] at hi; exact h i Q hi
  · rw [List.getElem?_append_right (by omega)] at hi
    have : i - L.length = 0 := by
      rcases Nat.eq_zero_or_pos (i - L.length) with h | h
      · exact h
      · rw [List.getElem?_eq_none (by simp; omega)] at hi; cases hi
    rw [this] at hi
    simp at hi
    obtain rfl : i = L.length := by omega
    subst hi
    exact ⟨h1, h2⟩
theorem Ast.add {p q : Nat} {ao : Option Addr} {ns : List Int} {cap : Nat} {V : World} {W : Nat} {L : List Pt} {k : Nat} {vp v' : Value} {w w' : World} {o : Obj} {X Y : Int} (h : Ast p q ao ns cap V W L k vp w) (hX : Gb (k % (W + 1)) X) (hY : Gb (k / (W + 1)) Y) (hg : (w.alloc o).grownBy w' vp.ownBlock) (ho : w'.ownsRow (q + 1) 24 2 v' (k + 1) (fl L ++ [.int .i64 X, .int .i64 Y])) :
    Ast p q ao ns cap V W (L ++ [(X, Y)]) (k + 1) v' (w'.setCell ⟨q, 0, none⟩ v') := by
  have hpq := h.pq
  have hqs := h.qs
  have hb : Below (q + 1) w w' := ((Below.refl (q + 1) w).alloc hqs o).grown hg (by simp; omega) (fun k hk => (h.own.lt k hk).1)
  have hne : ∀ i, i ≠ 0 → (w'.setCell ⟨q, 0, none⟩ v').cell? ⟨q, i, none⟩ = w'.cell? ⟨q, i, none⟩ := fun i hi => World.cell?_setCell_other _ _ _ _ (fun e => hi (congrArg Addr.off e).symm)
  obtain ⟨i, hs⟩ := h.src
  have hlen := h.len
  refine ⟨⟨i, (hs.on hb (by omega)).put q 0 hpq v'⟩, World.cell?_setCell_same _ _ _ ((hb.cell (p := ⟨q, 0, none⟩) (Nat.lt_succ_self q)).trans h.q0), (hne 1 (by omega)).trans ((hb.cell (p := ⟨q, 1, none⟩) (Nat.lt_succ_self q)).trans h.q1), (World.frozen?_setCell _ _ _ _).trans ((hb.frozen (p := ⟨q, 0, none⟩) (Nat.lt_succ_self q)).trans h.f0), (World.frozen?_setCell _ _ _ _).trans ((hb.frozen (p := ⟨q, 1, none⟩) (Nat.lt_succ_self q)).trans h.f1), ?_, by simp [hlen], h.grd.add (by rw [hlen]; exact hX) (by rw [hlen]; exact hY), (h.bel.trans (hb.mono (by omega))).setCell (by simp only []; omega) _, by have := hb.size; simp [World.setCell]; omega, hpq⟩
  rw [fl_append]
  exact ownsRow_setCell_below ho (by simp only []; omega) _
end Go.Proofs.Ytaiflkjchbpphaa.P
namespace Go.Proofs.Ytaiflkjchbpphaa.P
open Go.RowKit

def rowObj (cs : List Nat) : Obj := .cells (cs.map fun (c : Nat) => Value.int .i64 (c : Int)).toArray 3
def rowval (r : Nat × List Nat) : Value := .slice (some ⟨r.1, 0, none⟩) r.2.length r.2.length
/-- The cells of a square whose first corner is a. -/
def pieces (W a : Nat) : Nat → List (List Nat)
  | 0 => []
  | 1 => [[a, a + 1, a + W + 2], [a, a + W + 2, a + W + 1]]
  | 2 => [[a + 1, a + W + 2, a + W + 1], [a, a + 1, a + W + 1]]
  | _ => [[a, a + 1, a + W + 2, a + W + 1]]
def floorOf (W n : Nat) (kd : Nat → Nat) : List (List Nat) := (List.range n).flatMap fun k => pieces W (k / W * (W + 1) + k % W) (kd k)
theorem floorOf_succ (W n t : Nat) (kd : Nat → Nat) : floorOf W (n + 1) (fun k => if k = n then t else kd k) = floorOf W n kd ++ pieces W (n / W * (W + 1) + n % W) t := by
  unfold floorOf
  rw [List.range_succ, List.flatMap_append]
  congr 1
  · rw [List.flatMap_def, List.flatMap_def]
    congr 1
    refine List.map_congr_left ?_
    intro k hk
    have hk2 : k ≠ n := by have := List.mem_range.mp hk; omega
    simp only [if_neg hk2]
  · simp

theorem heap_set (w : World) (c j k : Nat) (x : Value) (h : k ≠ c) : (w.setCell ⟨c, j, none⟩ x).heap[k]? = w.heap[k]? := by
  simp only [World.setCell, Array.getElem?_modify]; rw [if_neg (fun e => h e.symm)]

theorem ha_new (w : World) (o : Obj) (k : Nat) (h : k = w.heap.size) : (w.alloc o).heap[k]? = some o := by
  subst h
  show (w.heap.push o)[w.heap.size]? = some o
  simp
theorem ha_old (w : World) (o : Obj) (k : Nat) (h : k < w.heap.size) : (w.alloc o).heap[k]? = w.heap[k]? := by
  show (w.heap.push o)[k]? = _
  rw [Array.getElem?_push_lt h, Array.getElem?_eq_getElem h]

structure Bst (p q : Nat) (ao : Option Addr) (ns : List Int) (cap : Nat) (V : World) (L : List Pt) (vp vc : Value) (rs : List (Nat × List Nat)) (w : World) : Prop where
  src : ∃ i, Src p p ao ns cap i w
  q0 : w.cell? ⟨q, 0, none⟩ = some vp
  q1 : w.cell? ⟨q, 1, none⟩ = some vc
  f1 : w.frozen? ⟨q, 1, none⟩ = false
  pts : w.ownsRow (q + 1) 24 2 vp L.length (fl L)
  own : w.ownsRow (q + 1) 22 1 vc rs.length (rs.map rowval)
  row : ∀ r ∈ rs, w.heap[r.1]? = some (rowObj r.2) ∧ q < r.1
  bel : Below p V w
  qs : q < w.heap.size
  pq : p < q
theorem Ast.cells {p q : Nat} {ao : Option Addr} {ns : List Int} {cap : Nat} {V : World} {W : Nat} {L : List Pt} {k : Nat} {vp : Value} {w : World} (h : Ast p q ao ns cap V W L k vp w) : Bst p q ao ns cap V L vp (.slice none 0 0) [] w := by
  have := h.len
  subst this
  exact ⟨h.src, h.q0, h.q1, h.f1, h.own, World.ownsRow_nil _ _ _ _, fun r hr => by simp at hr, h.bel, h.qs, h.pq⟩
variable {p q : Nat} {ao : Option Addr} {ns : List Int} {cap : Nat} {V : World} {L : List Pt} {vp vc : Value} {rs : List (Nat × List Nat)} {w w' : World}
theorem Bst.turn (h : Bst p q ao ns cap V L vp vc rs w) (hVp : V.heap.size = p) (hg : w.grownBy w' (some p)) (hs : ∃ i, Src p p ao ns cap i w') : Bst p q ao ns cap V L vp vc rs w' := by
  have hpq := h.pq
  have hqs := h.qs
  have hc : ∀ i, w'.cell? ⟨q, i, none⟩ = w.cell? ⟨q, i, none⟩ := fun i => hg.cell_far _ hqs (fun e => by injection e with e; simp only [] at e; omega)
  have hf : ∀ i, w'.frozen? ⟨q, i, none⟩ = w.frozen? ⟨q, i, none⟩ := fun i => hg.frozen_far _ hqs (fun e => by injection e with e; simp only [] at e; omega)
  have key : ∀ {e s v n xs}, w.ownsRow (q + 1) e s v n xs → w'.ownsRow (q + 1) e s v n xs := fun {e s v n xs} k => k.kept hg (by
    rcases k.2 with ⟨h2, _⟩ | ⟨g', cap', cur, h2, h3, _⟩
    · exact .inl (by rw [h2]; rfl)
    · refine .inr (fun e => ?_)
      rw [h2] at e
      have : g' = p := by simpa [Value.ownBlock] using e
      omega)
  refine ⟨hs, (hc 0).trans h.q0, (hc 1).trans h.q1, (hf 1).trans h.f1, key h.pts, key h.own, fun r hr => ?_, h.bel.grown hg (by have := h.bel.size; omega) (fun k hk => by injection hk with hk; omega), Nat.lt_of_lt_of_le hqs hg.size, hpq⟩
  obtain ⟨r1, r2⟩ := h.row r hr
  have hl : r.1 < w.heap.size := by
    rcases Nat.lt_or_ge r.1 w.heap.size with h | h
    · exact h
    · rw [Array.getElem?_eq_none h] at r1; cases r1
  exact ⟨(hg.block r.1 hl (fun e => by injection e with e; omega)).trans r1, r2⟩
theorem Bst.add (h : Bst p q ao ns cap V L vp vc rs w) {W1 : World} {v' : Value} {news : List (Nat × List Nat)} (hb : Below w.heap.size w W1) (hn : ∀ r ∈ news, W1.heap[r.1]? = some (rowObj r.2) ∧ w.heap.size ≤ r.1) (hg : W1.grownBy w' vc.ownBlock) (ho : w'.ownsRow (q + 1) 22 1 v' (rs.length + news.length) (rs.map rowval ++ news.map rowval)) :
    Bst p q ao ns cap V L vp v' (rs ++ news) (w'.setCell ⟨q, 1, none⟩ v') := by
  have hpq := h.pq
  have hqs := h.qs
  have hW1 := hb.size
  have hbq : Below (q + 1) w w' := (hb.mono (by omega)).grown hg (by omega) (fun k hk => (h.own.lt k hk).1)
  have hne : ∀ i, i ≠ 1 → (w'.setCell ⟨q, 1, none⟩ v').cell? ⟨q, i, none⟩ = w'.cell? ⟨q, i, none⟩ := fun i hi => World.cell?_setCell_other _ _ _ _ (fun e => hi (congrArg Addr.off e).symm)
  obtain ⟨i, hs⟩ := h.src
  have pts1 := owns_below h.pts hb (Nat.le_refl _)
  have own1 := owns_below h.own hb (Nat.le_refl _)
  have blk : ∀ (r : Nat) (cs : List Nat), W1.heap[r]? = some (rowObj cs) → w'.heap[r]? = some (rowObj cs) := fun r cs hr => by
    have hl : r < W1.heap.size := by
      rcases Nat.lt_or_ge r W1.heap.size with h | h
      · exact h
      · rw [Array.getElem?_eq_none h] at hr; cases hr
    refine (hg.block r hl (fun e => ?_)).trans hr
    rcases own1.2 with ⟨h2, _⟩ | ⟨g', cap', cur, h2, h3, h4, _⟩
    · rw [h2] at e; cases e
    · rw [h2] at e
      have e1 : r = g' := by simpa [Value.ownBlock] using e
      rw [← e1, hr] at h4
      unfold rowObj at h4
      injection h4 with h4
      injection h4 with _ h4
      exact absurd h4 (by decide)
  refine ⟨⟨i, (hs.on hbq (by omega)).put q 1 hpq v'⟩, (hne 0 (by omega)).trans ((hbq.cell (p := ⟨q, 0, none⟩) (Nat.lt_succ_self q)).trans h.q0), World.cell?_setCell_same _ _ _ ((hbq.cell (p := ⟨q, 1, none⟩) (Nat.lt_succ_self q)).trans h.q1), (World.frozen?_setCell _ _ _ _).trans ((hbq.frozen (p := ⟨q, 1, none⟩) (Nat.lt_succ_self q)).trans h.f1), ownsRow_setCell_below (pts1.kept hg ((own_apart own1 pts1 (by decide)).imp_right Ne.symm)) (by simp only []; omega) _, ?_, ?_, (h.bel.trans (hbq.mono (by omega))).setCell (by simp only []; omega) _, by have := hbq.size; simp [World.setCell]; omega, hpq⟩
  · rw [List.length_append, List.map_append]
    exact ownsRow_setCell_below ho (by simp only []; omega) _
  · intro r hr
    rw [heap_set]
    · rcases List.mem_append.mp hr with hr | hr
      · obtain ⟨r1, r2⟩ := h.row r hr
        have hl : r.1 < w.heap.size := by
          rcases Nat.lt_or_ge r.1 w.heap.size with h | h
          · exact h
          · rw [Array.getElem?_eq_none h] at r1; cases r1
        exact ⟨blk _ _ ((hb.block r.1 hl).trans r1), r2⟩
      · obtain ⟨r1, r2⟩ := hn r hr
        exact ⟨blk _ _ r1, by omega⟩
    · rcases List.mem_append.mp hr with hr | hr
      · have := (h.row r hr).2; omega
      · have := (hn r hr).2; omega
theorem pieces_len (W a t : Nat) : (pieces W a t).length ≤ 2 := by
  unfold pieces; split <;> simp
theorem floorOf_len (W n : Nat) (kd : Nat → Nat) : (floorOf W n kd).length ≤ 2 * n := by
  induction n with
  | zero => simp [floorOf]
  | succ n ih =>
    have e : floorOf W (n + 1) kd = floorOf W n kd ++ pieces W (n / W * (W + 1) + n % W) (kd n) := by unfold floorOf; rw [List.range_succ, List.flatMap_append]; simp
    rw [e, List.length_append]
    have := pieces_len W (n / W * (W + 1) + n % W) (kd n)
    omega
variable {W n A t : Nat} {kd : Nat → Nat}
theorem Bst.skip (h : Bst p q ao ns cap V L vp vc rs w) (hfl : rs.map Prod.snd = floorOf W n kd) : ∃ vc rs kd, Bst p q ao ns cap V L vp vc rs w ∧ rs.map Prod.snd = floorOf W (n + 1) kd :=
  ⟨vc, rs, fun k => if k = n then 0 else kd k, h, by rw [floorOf_succ, hfl]; simp [pieces]⟩
theorem Bst.two (h : Bst p q ao ns cap V L vp vc rs w) (hfl : rs.map Prod.snd = floorOf W n kd) (hA : n / W * (W + 1) + n % W = A) {c1 c2 : List Nat} (hp : pieces W A t = [c1, c2]) (k1 : c1.length = 3) (k2 : c2.length = 3) {o1 o2 o3 : Obj} (e1 : o1 = rowObj c1) (e2 : o2 = rowObj c2) {v' : Value} (hg : (((w.alloc o1).alloc o2).alloc o3).grownBy w' vc.ownBlock)
    (ho : w'.ownsRow (q + 1) 22 1 v' (rs.length + 2) (rs.map rowval ++ [.slice (some ⟨w.heap.size, 0, none⟩) 3 3, .slice (some ⟨w.heap.size + 1, 0, none⟩) 3 3])) : ∃ vc rs kd, Bst p q ao ns cap V L vp vc rs (w'.setCell ⟨q, 1, none⟩ v') ∧ rs.map Prod.snd = floorOf W (n + 1) kd := by
  refine ⟨v', rs ++ [(w.heap.size, c1), (w.heap.size + 1, c2)], fun k => if k = n then t else kd k, h.add (((Below.refl _ _).alloc (Nat.le_refl _) o1 |>.alloc (by simp) o2).alloc (by simp; omega) o3) ?_ hg (by simpa [rowval, k1, k2] using ho), by rw [floorOf_succ, ← hfl, hA, hp]; simp⟩
  intro r hr
  simp at hr
  rcases hr with rfl | rfl
  · exact ⟨by rw [ha_old _ _ _ (by simp; omega), ha_old _ _ _ (by simp), ← e1]; exact ha_new _ _ _ rfl, Nat.le_refl _⟩
  · exact ⟨by rw [ha_old _ _ _ (by simp), ← e2]; exact ha_new _ _ _ (by simp), by simp⟩
theorem Bst.one (h : Bst p q ao ns cap V L vp vc rs w) (hfl : rs.map Prod.snd = floorOf W n kd) (hA : n / W * (W + 1) + n % W = A) {c1 : List Nat} (hp : pieces W A t = [c1]) (k1 : c1.length = 4) {o1 o3 : Obj} (e1 : o1 = rowObj c1) {v' : Value} (hg : ((w.alloc o1).alloc o3).grownBy w' vc.ownBlock)
    (ho : w'.ownsRow (q + 1) 22 1 v' (rs.length + 1) (rs.map rowval ++ [.slice (some ⟨w.heap.size, 0, none⟩) 4 4])) : ∃ vc rs kd, Bst p q ao ns cap V L vp vc rs (w'.setCell ⟨q, 1, none⟩ v') ∧ rs.map Prod.snd = floorOf W (n + 1) kd := by
  refine ⟨v', rs ++ [(w.heap.size, c1)], fun k => if k = n then t else kd k, h.add ((Below.refl _ _).alloc (Nat.le_refl _) o1 |>.alloc (by simp) o3) ?_ hg (by simpa [rowval, k1] using ho), by rw [floorOf_succ, ← hfl, hA, hp]; simp⟩
  intro r hr
  simp at hr
  subst hr
  exact ⟨by rw [ha_old _ _ _ (by simp), ← e1]; exact ha_new _ _ _ rfl, Nat.le_refl _⟩

/-- What Mesh hands back. -/
structure Made (w : World) (W H : Nat) (L : List Pt) (rs : List (Nat × List Nat)) (kd : Nat → Nat) (vp vc : Value) (w' : World) : Prop where
  w1 : 1 ≤ W
  w3 : W ≤ 3
  h1 : 1 ≤ H
  h3 : H ≤ 3
  len : L.length = (H + 1) * (W + 1)
  grd : Grd W L
  fls : rs.map Prod.snd = floorOf W (H * W) kd
  pts : w'.ownsRow w.heap.size 24 2 vp L.length (fl L)
  own : w'.ownsRow w.heap.size 22 1 vc rs.length (rs.map rowval)
  row : ∀ r ∈ rs, w'.heap[r.1]? = some (rowObj r.2) ∧ w.heap.size ≤ r.1
  bel : Below w.heap.size w w'
end Go.Proofs.Ytaiflkjchbpphaa.P
