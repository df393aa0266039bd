/- What stands in memory while the squares are laid. -/
import Derived.Test.YtaiflkjchbpphaaFloor
namespace Go.Proofs.Ytaiflkjchbpphaa
open Go.RowKit

theorem own_diff {w : World} {B B' : Nat} {e e' : TypeId} {s s' n n' : Nat} {v v' : Value} {xs xs' : List Value} (h : w.ownsRow B e s v n xs) (k : w.ownsRow B' e' s' v' n' xs') (he : e ≠ e') : v.ownBlock = none ∨ v.ownBlock ≠ v'.ownBlock := by
  rcases h.2 with ⟨rfl, _⟩ | ⟨g, cap, cur, rfl, _, h2, _⟩
  · exact .inl rfl
  · rcases k.2 with ⟨rfl, _⟩ | ⟨g', cap', cur', rfl, _, k2, _⟩
    · exact .inr (by simp [Value.ownBlock])
    · refine .inr (fun e1 => ?_)
      have e2 : g = g' := by simpa [Value.ownBlock] using e1
      subst e2
      rw [h2] at k2
      injection k2 with k2
      injection k2 with _ k2
      exact he k2

/-- The map's, the row's contents. -/
def ofs (s : Nat → Nat) (nc : Nat) : List (Int × Value) := (List.range nc).map fun k => ((s k : Int), Value.int .i64 (k : Int))
def bks (s : Nat → Nat) (nc : Nat) : List Value := (List.range nc).map fun k => Value.int .i64 (s k : Int)
theorem ofs_add (s : Nat → Nat) (nc i : Nat) : ofs (fun k => if k = nc then i else s k) (nc + 1) = ofs s nc ++ [((i : Int), Value.int .i64 (nc : Int))] := by
  unfold ofs
  rw [List.range_succ, List.map_append]
  congr 1
  · apply List.map_congr_left
    intro k hk
    have := List.mem_range.1 hk
    simp only [if_neg (show ¬ k = nc by omega)]
  · simp
theorem bks_add (s : Nat → Nat) (nc i : Nat) : bks (fun k => if k = nc then i else s k) (nc + 1) = bks s nc ++ [Value.int .i64 (i : Int)] := by
  unfold bks
  rw [List.range_succ, List.map_append]
  congr 1
  · apply List.map_congr_left
    intro k hk
    have := List.mem_range.1 hk
    simp only [if_neg (show ¬ k = nc by omega)]
  · simp
theorem ofs_none {N nc i : Nat} {Cs : List Int} {s : Nat → Nat} (h : Sel N nc Cs s i) : find1 (ofs s nc) (i : Int) = none := by
  unfold find1 ofs
  rw [List.find?_eq_none.2 (fun x hx he => ?_)]
  · rfl
  · obtain ⟨k, hk, rfl⟩ := List.mem_map.1 hx
    have := (h.lt k (List.mem_range.1 hk)).1
    simp at he
    omega
theorem ofs_find {N nc i : Nat} {Cs : List Int} {s : Nat → Nat} (h : Sel N nc Cs s i) (k : Nat) (hk : k < nc) : find1 (ofs s nc) (s k : Int) = some (.int .i64 (k : Int)) := by
  unfold find1
  cases hf : (ofs s nc).find? (fun x => (s k : Int) == x.1) with
  | none =>
    rw [List.find?_eq_none] at hf
    exact absurd (hf ((s k : Int), Value.int .i64 (k : Int)) (List.mem_map.2 ⟨k, List.mem_range.2 hk, rfl⟩)) (by simp)
  | some x =>
    have h1 := List.find?_some hf
    have h2 := List.mem_of_find?_eq_some hf
    obtain ⟨m, hm, rfl⟩ := List.mem_map.1 h2
    simp only [beq_iff_eq] at h1
    obtain rfl := h.inj k m hk (List.mem_range.1 hm) (by omega)
    rfl

structure Dst (W H N c ccap gq mq pp np pcap mb B nc i : Nat) (v vc : Value) (s r : Nat → Nat) (Cs Ds : List Int) (w0 w : World) : Prop where
  g0 : w.cell? ⟨gq, 0, none⟩ = some (.int .i64 (W : Int))
  g1 : w.cell? ⟨gq, 1, none⟩ = some (.int .i64 (H : Int))
  g2 : w.cell? ⟨gq, 2, none⟩ = some (.slice (some ⟨c, 0, none⟩) N ccap)
  m0 : w.cell? ⟨mq, 0, none⟩ = some (.slice (some ⟨pp, 0, none⟩) np pcap)
  m1 : w.cell? ⟨mq, 1, none⟩ = some vc
  mf : w.frozen? ⟨mq, 1, none⟩ = false
  pts : Pts w pp np (fx W) (fy W)
  ic : IRow w c Ds
  dl : Ds.length = N
  ds : ∀ a, a < N → gt Ds a = if a < i ∧ gt Cs a ≠ 0 then 1 else gt Cs a
  sel : Sel N nc Cs s i
  mp : M1 w mb (ofs s nc)
  back : w.ownsRow B 3 1 v nc (bks s nc)
  cls : w.ownsRow B 22 1 vc nc (rowsOf r (fun _ => 4) nc)
  row : ∀ k j, k < nc → j < 4 → w.cell? ⟨r k, j, none⟩ = some (.int .i64 (cor W (s k) j : Int))
  rB : ∀ k, k < nc → B ≤ r k ∧ r k < w.heap.size ∧ v.ownBlock ≠ some (r k) ∧ vc.ownBlock ≠ some (r k)
  bel : Below w0.heap.size w0 w
  o1 : w0.heap.size ≤ c
  o2 : c < gq
  o3 : gq < mq
  o4 : mq < pp
  o5 : pp < mb
  o6 : mb < B
  o7 : B ≤ w.heap.size

/-- A cell that costs nothing. -/
theorem Dst.skip {W H N c ccap gq mq pp np pcap mb B nc i : Nat} {v vc : Value} {s r : Nat → Nat} {Cs Ds : List Int} {w0 w : World} (h : Dst W H N c ccap gq mq pp np pcap mb B nc i v vc s r Cs Ds w0 w) (hi : i < N) (h0 : gt Cs i = 0) : Dst W H N c ccap gq mq pp np pcap mb B nc (i + 1) v vc s r Cs Ds w0 w :=
  { h with
    sel := h.sel.skip hi h0
    ds := fun a ha => by
      rw [h.ds a ha]
      by_cases e : a = i
      · subst e; rw [if_neg (by simp), if_neg (by simp [h0])]
      · by_cases e2 : gt Cs a ≠ 0
        · by_cases e3 : a < i
          · rw [if_pos ⟨e3, e2⟩, if_pos ⟨by omega, e2⟩]
          · rw [if_neg (fun x => e3 x.1), if_neg (fun x => by have := x.1; omega)]
        · rw [if_neg (fun x => e2 x.2), if_neg (fun x => e2 x.2)] }

/-- All blocks of w but some are in w' as they were. -/
def Kp (c mb : Nat) (v vc : Value) (w w' : World) : Prop := w.heap.size ≤ w'.heap.size ∧ ∀ k, k < w.heap.size → k ≠ c → k ≠ mb → some k ≠ v.ownBlock → some k ≠ vc.ownBlock → w'.heap[k]? = w.heap[k]?
theorem Kp.trans {c mb : Nat} {v vc : Value} {a b d : World} (h : Kp c mb v vc a b) (k : Kp c mb v vc b d) : Kp c mb v vc a d :=
  ⟨Nat.le_trans h.1 k.1, fun i hi h1 h2 h3 h4 => (k.2 i (Nat.lt_of_lt_of_le hi h.1) h1 h2 h3 h4).trans (h.2 i hi h1 h2 h3 h4)⟩
theorem Kp.alloc (c mb : Nat) (v vc : Value) (w : World) (o : Obj) : Kp c mb v vc w (w.alloc o) := ⟨by simp, fun k hk _ _ _ _ => heap_alloc_old w _ hk⟩
theorem Kp.below (c mb : Nat) (v vc : Value) {w w' : World} (h : Below w.heap.size w w') : Kp c mb v vc w w' := ⟨h.size, fun k hk _ _ _ _ => h.block k hk⟩
theorem Kp.set (c mb j : Nat) (v vc : Value) (w : World) (x : Value) : Kp c mb v vc w (w.setCell ⟨c, j, none⟩ x) := ⟨by simp [World.setCell], fun k hk h1 _ _ _ => by
  simp only [World.setCell, Array.getElem?_modify]; rw [if_neg (fun e => h1 e.symm)]⟩
theorem Kp.map (c mb : Nat) (v vc : Value) {w w' : World} (h : w.grownBy w' (some mb)) : Kp c mb v vc w w' := ⟨h.size, fun k hk _ h2 _ _ => h.block k hk (fun e => h2 (Option.some.inj e))⟩
theorem Kp.v (c mb : Nat) (v vc : Value) {w w' : World} (h : w.grownBy w' v.ownBlock) : Kp c mb v vc w w' := ⟨h.size, fun k hk _ _ h3 _ => h.block k hk h3⟩
theorem Kp.vc (c mb : Nat) (v vc : Value) {w w' : World} (h : w.grownBy w' vc.ownBlock) : Kp c mb v vc w w' := ⟨h.size, fun k hk _ _ _ h4 => h.block k hk h4⟩

variable {W H N c ccap gq mq pp np pcap mb B nc i : Nat} {v vc : Value} {s r : Nat → Nat} {Cs Ds : List Int} {w0 w : World}
theorem Dst.own_v (h : Dst W H N c ccap gq mq pp np pcap mb B nc i v vc s r Cs Ds w0 w) (k : Nat) (hk : k < B) : some k ≠ v.ownBlock := fun e => by have := (h.back.lt k e.symm).1; omega
theorem Dst.own_vc (h : Dst W H N c ccap gq mq pp np pcap mb B nc i v vc s r Cs Ds w0 w) (k : Nat) (hk : k < B) : some k ≠ vc.ownBlock := fun e => by have := (h.cls.lt k e.symm).1; omega
/-- The cells of an old block that is none of the four. -/
theorem Dst.cell (h : Dst W H N c ccap gq mq pp np pcap mb B nc i v vc s r Cs Ds w0 w) {w' : World} (hk : Kp c mb v vc w w') (b j : Nat) (hb : b < B) (h1 : b ≠ c) (h2 : b ≠ mb) : w'.cell? ⟨b, j, none⟩ = w.cell? ⟨b, j, none⟩ :=
  World.cell?_of_block (hk.2 b (Nat.lt_of_lt_of_le hb h.o7) h1 h2 (h.own_v b hb) (h.own_vc b hb))
theorem Dst.froz (h : Dst W H N c ccap gq mq pp np pcap mb B nc i v vc s r Cs Ds w0 w) {w' : World} (hk : Kp c mb v vc w w') (b j : Nat) (hb : b < B) (h1 : b ≠ c) (h2 : b ≠ mb) : w'.frozen? ⟨b, j, none⟩ = w.frozen? ⟨b, j, none⟩ :=
  World.frozen?_of_block (hk.2 b (Nat.lt_of_lt_of_le hb h.o7) h1 h2 (h.own_v b hb) (h.own_vc b hb))

/-- The block of the four corners. -/
def sq (W t : Nat) : Obj := .cells #[.int .i64 (cor W t 0 : Int), .int .i64 (cor W t 1 : Int), .int .i64 (cor W t 2 : Int), .int .i64 (cor W t 3 : Int)] 3
theorem sq_cell (W t : Nat) (w : World) (j : Nat) (hj : j < 4) : (w.alloc (sq W t)).cell? ⟨w.heap.size, j, none⟩ = some (.int .i64 (cor W t j : Int)) := by
  obtain rfl | rfl | rfl | rfl : j = 0 ∨ j = 1 ∨ j = 2 ∨ j = 3 := by omega
  all_goals simp [sq, go_sem]

theorem sq_eq (W t a : Nat) (ha : t / W * (W + 1) + t % W = a) : sq W t = .cells #[.int .i64 (a : Int), .int .i64 ((a : Int) + 1), .int .i64 ((a : Int) + (W : Int) + 2), .int .i64 ((a : Int) + (W : Int) + 1)] 3 := by
  have c0 : cor W t 0 = a := by unfold cor pt; simp [dx, dy]; exact ha
  have c1 : cor W t 1 = a + 1 := by unfold cor pt; simp [dx, dy]; omega
  have c2 : cor W t 2 = a + W + 2 := by unfold cor pt; simp [dx, dy, Nat.succ_mul]; omega
  have c3 : cor W t 3 = a + W + 1 := by unfold cor pt; simp [dx, dy, Nat.succ_mul]; omega
  unfold sq
  rw [c0, c1, c2, c3]
  push_cast
  rfl

/-- A cell's square is laid. -/
theorem Dst.add (h : Dst W H N c ccap gq mq pp np pcap mb B nc i v vc s r Cs Ds w0 w) (hi : i < N) (h0 : gt Cs i ≠ 0) {w2 w3 w4 w6 : World} {o4 o6 : Obj} {g cg g2 cg2 : Nat}
    (hb2 : Below (w.setCell ⟨c, i, none⟩ (.int .i64 1)).heap.size (w.setCell ⟨c, i, none⟩ (.int .i64 1)) w2)
    (hg3 : w2.grownBy w3 (some mb)) (hM : M1 w3 mb (ofs s nc ++ [((i : Int), Value.int .i64 (nc : Int))]))
    (hg4 : (w3.alloc o4).grownBy w4 v.ownBlock) (ho4 : w4.ownsRow B 3 1 (.slice (some ⟨g, 0, none⟩) (nc + 1) cg) (nc + 1) (bks s nc ++ [.int .i64 (i : Int)])) (hl4 : v.ownBlock = some g ∨ g = (w3.alloc o4).heap.size)
    (hg6 : ((w4.alloc (sq W i)).alloc o6).grownBy w6 vc.ownBlock) (ho6 : w6.ownsRow B 22 1 (.slice (some ⟨g2, 0, none⟩) (nc + 1) cg2) (nc + 1) (rowsOf r (fun _ => 4) nc ++ [.slice (some ⟨w4.heap.size, 0, none⟩) 4 4])) (hl6 : vc.ownBlock = some g2 ∨ g2 = ((w4.alloc (sq W i)).alloc o6).heap.size) :
    Dst W H N c ccap gq mq pp np pcap mb B (nc + 1) (i + 1) (.slice (some ⟨g, 0, none⟩) (nc + 1) cg) (.slice (some ⟨g2, 0, none⟩) (nc + 1) cg2) (fun k => if k = nc then i else s k) (fun k => if k = nc then w4.heap.size else r k) Cs (Ds.set i 1) w0 (w6.setCell ⟨mq, 1, none⟩ (.slice (some ⟨g2, 0, none⟩) (nc + 1) cg2)) := by
  obtain ⟨o1, o2, o3, o4', o5, o6', o7⟩ := And.intro h.o1 (And.intro h.o2 (And.intro h.o3 (And.intro h.o4 (And.intro h.o5 (And.intro h.o6 h.o7)))))
  have hs1 : (w.setCell ⟨c, i, none⟩ (.int .i64 1)).heap.size = w.heap.size := by simp [World.setCell]
  have s2 := hb2.size
  have s3 := hg3.size
  have s4 := hg4.size
  have s6 := hg6.size
  simp only [World.size_alloc] at s4 s6 hl4 hl6
  have k2 : Kp c mb v vc w w2 := (Kp.set c mb i v vc w _).trans (Kp.below c mb v vc hb2)
  have k3 := k2.trans (Kp.map c mb v vc hg3)
  have k4 := (k3.trans (Kp.alloc c mb v vc _ o4)).trans (Kp.v c mb v vc hg4)
  have k6 := ((k4.trans (Kp.alloc c mb v vc _ (sq W i))).trans (Kp.alloc c mb v vc _ o6)).trans (Kp.vc c mb v vc hg6)
  have hne : ∀ b j, (b ≠ mq ∨ j ≠ 1) → (w6.setCell ⟨mq, 1, none⟩ (.slice (some ⟨g2, 0, none⟩) (nc + 1) cg2)).cell? ⟨b, j, none⟩ = w6.cell? ⟨b, j, none⟩ := fun b j hbj => World.cell?_setCell_other _ _ _ _ (fun e => by
    have e1 := congrArg Addr.block e
    have e2 := congrArg Addr.off e
    simp only [] at e1 e2
    omega)
  have hsz : (w6.setCell ⟨mq, 1, none⟩ (.slice (some ⟨g2, 0, none⟩) (nc + 1) cg2)).heap.size = w6.heap.size := by simp [World.setCell]
  -- the row of costs
  have ic6 : IRow w6 c (Ds.set i 1) := by
    have i2 : IRow w2 c (Ds.set i 1) := (h.ic.set i 1).below hb2 (by omega)
    have keep : ∀ {a b : World} (row : Option Nat), a.grownBy b row → c < a.heap.size → some c ≠ row → IRow a c (Ds.set i 1) → IRow b c (Ds.set i 1) := fun row hg hc hr hI =>
      ⟨fun k hk => (hg.cell_far ⟨c, k, none⟩ hc hr).trans (hI.1 k hk), fun k hk => (hg.frozen_far ⟨c, k, none⟩ hc hr).trans (hI.2 k hk)⟩
    have al : ∀ {a : World} (o : Obj), c < a.heap.size → IRow a c (Ds.set i 1) → IRow (a.alloc o) c (Ds.set i 1) := fun o hc hI => hI.below (Below.al (Below.refl _ _) o) hc
    have i3 := keep (some mb) hg3 (by omega) (fun e => by injection e; omega) i2
    have i4 := keep v.ownBlock hg4 (by simp; omega) (h.own_v c (by omega)) (al o4 (by omega) i3)
    exact keep vc.ownBlock hg6 (by simp; omega) (h.own_vc c (by omega)) (al o6 (by simp; omega) (al (sq W i) (by omega) i4))
  -- the map
  have mp6 : M1 w6 mb (ofs s nc ++ [((i : Int), Value.int .i64 (nc : Int))]) := by
    have m4 := (hM.kept (heap_alloc_old w3 o4 (by omega))).kept (hg4.block mb (by simp; omega) (h.own_v mb (by omega)))
    exact ((m4.kept (heap_alloc_old w4 (sq W i) (by omega))).kept (heap_alloc_old _ o6 (by simp; omega))).kept (hg6.block mb (by simp; omega) (h.own_vc mb (by omega)))
  -- the cells' row, until it grows
  have cls2 : w2.ownsRow B 22 1 vc nc (rowsOf r (fun _ => 4) nc) := owns_below (ownsRow_setCell_below h.cls (by simp only []; omega) _) hb2 (Nat.le_refl _)
  have cls3 : w3.ownsRow B 22 1 vc nc (rowsOf r (fun _ => 4) nc) := cls2.kept hg3 (.inr (fun e => h.own_vc mb (by omega) e.symm))
  have cls4 : w4.ownsRow B 22 1 vc nc (rowsOf r (fun _ => 4) nc) := (cls3.alloc o4).kept hg4 (own_diff h.cls h.back (by decide))
  have cls5 := (cls4.alloc (sq W i)).alloc o6
  have back6 : w6.ownsRow B 3 1 (.slice (some ⟨g, 0, none⟩) (nc + 1) cg) (nc + 1) (bks s nc ++ [.int .i64 (i : Int)]) := ((ho4.alloc (sq W i)).alloc o6).kept hg6 (own_diff ((ho4.alloc (sq W i)).alloc o6) cls5 (by decide))
  have hvl : ∀ k, v.ownBlock = some k → k < w.heap.size := fun k e => (h.back.lt k e).2
  have hvcl : ∀ k, vc.ownBlock = some k → k < w.heap.size := fun k e => (h.cls.lt k e).2
  have rk6 : ∀ k j, k < nc → w6.cell? ⟨r k, j, none⟩ = w.cell? ⟨r k, j, none⟩ := fun k j hk => by
    obtain ⟨r1, r2, r3, r4⟩ := h.rB k hk
    exact World.cell?_of_block (k6.2 (r k) r2 (by omega) (by omega) (fun e => r3 e.symm) (fun e => r4 e.symm))
  have hvc4 : vc.ownBlock ≠ some w4.heap.size := fun e => by have := hvcl _ e; omega
  have new6 : ∀ j, j < 4 → w6.cell? ⟨w4.heap.size, j, none⟩ = some (.int .i64 (cor W i j : Int)) := fun j hj => by
    rw [hg6.cell_far ⟨w4.heap.size, j, none⟩ (by simp; omega) (fun e => hvc4 e.symm), (Below.al (Below.refl (w4.alloc (sq W i)).heap.size _) o6).cell (p := ⟨w4.heap.size, j, none⟩) (by simp)]
    exact sq_cell W i w4 j hj
  have hb6 : Below w0.heap.size w0 w6 := by
    have b2 : Below w0.heap.size w0 w2 := (h.bel.setCell (p := ⟨c, i, none⟩) o1 _).trans (hb2.mono (by omega))
    have b3 := b2.grown hg3 (by omega) (fun k e => by injection e; omega)
    have b4 := (b3.alloc (by omega) o4).grown hg4 (by simp; omega) (fun k e => by have := (h.back.lt k e).1; omega)
    exact ((b4.alloc (by omega) (sq W i)).alloc (by simp; omega) o6).grown hg6 (by simp; omega) (fun k e => by have := (h.cls.lt k e).1; omega)
  refine ⟨?_, ?_, ?_, ?_, ?_, ?_, ?_, ?_, ?_, ?_, h.sel.add hi h0, ?_, ?_, ?_, ?_, ?_, ?_, o1, o2, o3, o4', o5, o6', by omega⟩
  · exact (hne _ _ (by omega)).trans ((h.cell k6 gq 0 (by omega) (by omega) (by omega)).trans h.g0)
  · exact (hne _ _ (by omega)).trans ((h.cell k6 gq 1 (by omega) (by omega) (by omega)).trans h.g1)
  · exact (hne _ _ (by omega)).trans ((h.cell k6 gq 2 (by omega) (by omega) (by omega)).trans h.g2)
  · exact (hne _ _ (by omega)).trans ((h.cell k6 mq 0 (by omega) (by omega) (by omega)).trans h.m0)
  · exact World.cell?_setCell_same _ _ _ ((h.cell k6 mq 1 (by omega) (by omega) (by omega)).trans h.m1)
  · exact (World.frozen?_setCell _ _ _ _).trans ((h.froz k6 mq 1 (by omega) (by omega) (by omega)).trans h.mf)
  · exact fun k hk => ⟨(hne _ _ (by omega)).trans ((h.cell k6 pp _ (by omega) (by omega) (by omega)).trans (h.pts k hk).1), (hne _ _ (by omega)).trans ((h.cell k6 pp _ (by omega) (by omega) (by omega)).trans (h.pts k hk).2)⟩
  · exact ic6.other _ (by simp only []; omega) _
  · rw [List.length_set]; exact h.dl
  · intro a ha
    rw [gt_set _ _ _ _ (by rw [h.dl]; exact hi), h.ds a ha]
    by_cases e : a = i
    · subst e; rw [if_pos rfl, if_pos ⟨by omega, h0⟩]
    · rw [if_neg e]
      by_cases e2 : gt Cs a ≠ 0
      · by_cases e3 : a < i
        · rw [if_pos ⟨e3, e2⟩, if_pos ⟨by omega, e2⟩]
        · rw [if_neg (fun x => e3 x.1), if_neg (fun x => by have := x.1; omega)]
      · rw [if_neg (fun x => e2 x.2), if_neg (fun x => e2 x.2)]
  · rw [ofs_add]
    exact mp6.kept (by simp only [World.setCell, Array.getElem?_modify]; rw [if_neg (by omega)])
  · rw [bks_add]
    exact ownsRow_setCell_below back6 (by simp only []; omega) _
  · rw [rowsOf_succ, rowsOf_congr (r' := r) (cp' := fun _ => 4) (fun k hk => by simp only [if_neg (show ¬ k = nc by omega), and_self])]
    simp only [if_true]
    exact ownsRow_setCell_below ho6 (by simp only []; omega) _
  · intro k j hk hj
    by_cases e : k = nc
    · simp only [e, if_true]
      exact (hne _ _ (by omega)).trans (new6 j hj)
    · simp only [if_neg e]
      have := (h.rB k (by omega)).1
      exact (hne _ _ (by omega)).trans ((rk6 k j (by omega)).trans (h.row k j (by omega) hj))
  · intro k hk
    rw [hsz]
    have e1 : ∀ x y z t, (Value.slice (some ⟨x, 0, none⟩) z t).ownBlock ≠ some y ↔ x ≠ y := fun x y z t => by simp [Value.ownBlock]
    rw [e1, e1]
    have hg' : ∀ x, x < w.heap.size → v.ownBlock ≠ some x → g ≠ x := fun x hx hv e => by
      subst e
      rcases hl4 with h1 | h1
      · exact hv h1
      · omega
    have hg2' : ∀ x, x < w4.heap.size + 1 → vc.ownBlock ≠ some x → g2 ≠ x := fun x hx hv e => by
      subst e
      rcases hl6 with h1 | h1
      · exact hv h1
      · omega
    by_cases e : k = nc
    · simp only [e, if_true]
      refine ⟨by omega, by omega, ?_, hg2' _ (by omega) hvc4⟩
      have := (ho4.lt g rfl).2
      omega
    · simp only [if_neg e]
      obtain ⟨r1, r2, r3, r4⟩ := h.rB k (by omega)
      exact ⟨r1, by omega, hg' _ r2 r3, hg2' _ (by omega) r4⟩
  · exact hb6.setCell (by simp only []; omega) _
end Go.Proofs.Ytaiflkjchbpphaa
