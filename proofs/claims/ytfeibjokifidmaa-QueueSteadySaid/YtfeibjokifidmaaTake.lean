/- queue.Queue[int]'s Take, First, Len. -/
import Derived.Test.YtfeibjokifidmaaPut
import Derived.Deep.CutBlock
namespace Go.Proofs.Ytfeibjokifidmaa
open Go.RowKit

theorem qlen_any (p : Nat) (H : List Itm) (came : Nat) (w : World) (h : Que p H came w) :
    Calls Try.prog 15 #[.pointer (some ⟨p, 0, none⟩)] w fun e w' => e = .returned (.int .i64 H.length) ∧ w = w' := by
  obtain ⟨v0, h0, hown⟩ := h.ex
  obtain ⟨ao, cap, rfl, _, _, _⟩ := owns_source hown
  clear h hown
  obtain ⟨n, hn⟩ : ∃ n, H.length = n := ⟨_, rfl⟩
  rw [hn] at h0 ⊢
  clear hn
  go_enter Try.func15, Try.ntmps15
  go_wp2
  go_ret
  exact ⟨rfl, rfl⟩

set_option maxRecDepth 4000 in
theorem first_any (p : Nat) (H : List Itm) (came : Nat) (w : World) (h : Que p H came w) (hH : 1 ≤ H.length) :
    Calls Try.prog 16 #[.pointer (some ⟨p, 0, none⟩)] w fun e w' => e = .returned (.tuple #[.int .i64 (at' H 0).v, .int .i64 (at' H 0).r, .int .i64 0]) ∧ Below w.heap.size w w' := by
  obtain ⟨g, cap, h0, _, hpg, hgl, hcap, hcell, _⟩ := h.open (by omega)
  obtain ⟨a0, a1, a2⟩ := hcell 0 (by omega)
  have hpl := h.sz
  obtain ⟨n, hn⟩ : ∃ n, H.length = n := ⟨_, rfl⟩
  obtain ⟨A, hA⟩ : ∃ A, at' H 0 = A := ⟨_, rfl⟩
  rw [hn] at h0 hH hcap
  rw [hA] at a0 a1 a2
  rw [hA]
  rw [Nat.zero_mul] at a0 a1 a2
  have hz : ((n : Int) == 0) = false := by simp; omega
  clear h hcell hn hA
  go_enter Try.func16, Try.ntmps16
  go_wp2
  refine region_grow (by kernel_rfl) (by kernel_rfl) ?_
  repeat (go_big_quiet_step ((fail)))
  refine wpQuiet_nil ?_
  intro _ hw'
  obtain ⟨k, m, rfl⟩ := hw'
  go_wp2
  go_ret3
  exact ⟨rfl, below_ext _ _ _⟩

theorem take_none (p : Nat) (came : Nat) (w : World) (h : Que p [] came w) :
    Calls Try.prog 14 #[.pointer (some ⟨p, 0, none⟩)] w fun e w' => e = .returned (.tuple #[.int .i64 0, .int .i64 0, .int .i64 4]) ∧ Below w.heap.size w w' := by
  obtain ⟨v0, h0, hown⟩ := h.ex
  obtain ⟨ao, cap, rfl, _, _, _⟩ := owns_source hown
  clear h hown
  simp only [List.length_nil] at h0
  go_enter Try.func14, Try.ntmps14
  go_wp2
  go_ret3
  exact ⟨rfl, Below.refl _ _⟩

/-- A row, cut. -/
theorem owns_take {w : World} {B : Nat} {e : TypeId} {size g cap n m : Nat} {xs : List Value} (h : w.ownsRow B e size (.slice (some ⟨g, 0, none⟩) n cap) n xs) (hm : m ≤ n) :
    w.ownsRow B e size (.slice (some ⟨g, 0, none⟩) m cap) m (xs.take (m * size)) := by
  obtain ⟨h1, h2⟩ := h
  have hle : m * size ≤ n * size := Nat.mul_le_mul_right _ hm
  rcases h2 with ⟨h2, _⟩ | ⟨g', cap', cur, hv, hg, hh, hnc, hcm, hcs, ht⟩
  · cases h2
  · injection hv with e1 e2 e3
    injection e1 with e1
    injection e1 with e1
    subst e1 e3
    refine ⟨by rw [List.length_take, h1]; omega, .inr ⟨g, cap, cur, rfl, hg, hh, by omega, hcm, hcs, ?_⟩⟩
    rw [← ht, List.take_take, Nat.min_eq_left hle]
theorem flat_take (H : List Itm) : ∀ m, (flat H).take (m * 3) = flat (H.take m) := by
  induction H with
  | nil => intro m; simp [flat]
  | cons x r ih =>
    intro m
    have e : ∀ (z : Itm) (q : List Itm), flat (z :: q) = .int .i64 z.v :: .int .i64 z.r :: .int .i64 z.c :: flat q := by intro z q; simp [flat]
    cases m with
    | zero => simp [flat]
    | succ m => rw [e, List.take_succ_cons, e, show (m + 1) * 3 = m * 3 + 1 + 1 + 1 by omega, List.take_succ_cons, List.take_succ_cons, List.take_succ_cons, ih m]

/-- The queue's slice, cut. -/
theorem Que.cut {p came g cap n : Nat} {H : List Itm} {w : World} (h : Que p H came w) (hg : w.cell? ⟨p, 0, none⟩ = some (.slice (some ⟨g, 0, none⟩) H.length cap)) (hn : n ≤ H.length) :
    Que p (H.take n) came (w.setCell ⟨p, 0, none⟩ (.slice (some ⟨g, 0, none⟩) n cap)) := by
  obtain ⟨v, h0, ho⟩ := h.ex
  rw [hg] at h0
  injection h0 with h0
  subst h0
  have o := owns_take ho hn
  rw [flat_take] at o
  refine ⟨⟨_, World.cell?_setCell_same _ _ _ hg, ?_⟩, ?_, ?_, by simpa [World.setCell] using h.sz⟩
  · rw [List.length_take, Nat.min_eq_left hn]
    exact ownsRow_setCell_below o (by simp) _
  · rw [World.cell?_setCell_other _ _ _ _ (by intro e; cases e)]; exact h.c1
  · intro j; rw [World.frozen?_setCell]; exact h.f j
theorem Que.at {p came g cap : Nat} {H : List Itm} {w : World} (h : Que p H came w) (hg : w.cell? ⟨p, 0, none⟩ = some (.slice (some ⟨g, 0, none⟩) H.length cap)) :
    p < g ∧ g < w.heap.size ∧ H.length ≤ cap ∧ (∀ k, k < H.length → w.cell? ⟨g, k * 3, none⟩ = some (.int .i64 (at' H k).v) ∧ w.cell? ⟨g, k * 3 + 1, none⟩ = some (.int .i64 (at' H k).r) ∧ w.cell? ⟨g, k * 3 + 2, none⟩ = some (.int .i64 (at' H k).c)) ∧ (∀ j, w.frozen? ⟨g, j, none⟩ = false) := by
  obtain ⟨v, h0, ho⟩ := h.ex
  rw [hg] at h0
  injection h0 with h0
  subst h0
  obtain ⟨a, b, c, _, hc, hf⟩ := owns_at ho
  refine ⟨by omega, b, c, ?_, hf⟩
  intro k hk
  obtain ⟨x, y, z⟩ := flat_get H k hk
  exact ⟨(hc _ (by omega)).trans x, (hc _ (by omega)).trans y, (hc _ (by omega)).trans z⟩

/-- What of a world's cells the three stores of an item leave alone. -/
def store3 (w : World) (g i : Nat) (x : Itm) : World := ((w.setCell ⟨g, i * 3, none⟩ (.int .i64 x.v)).setCell ⟨g, i * 3 + 1, none⟩ (.int .i64 x.r)).setCell ⟨g, i * 3 + 2, none⟩ (.int .i64 x.c)
theorem store3_cell (w : World) (g i : Nat) (x : Itm) (b o : Nat) (h : b ≠ g) : (store3 w g i x).cell? ⟨b, o, none⟩ = w.cell? ⟨b, o, none⟩ := by
  have hne : ∀ q, (⟨g, q, none⟩ : Addr) ≠ ⟨b, o, none⟩ := fun q e => h (congrArg Addr.block e).symm
  unfold store3
  rw [World.cell?_setCell_other _ _ _ _ (hne _), World.cell?_setCell_other _ _ _ _ (hne _), World.cell?_setCell_other _ _ _ _ (hne _)]
theorem store3_below {p g : Nat} (hpg : p ≤ g) {a w : World} (h : Below p a w) (i : Nat) (x : Itm) : Below p a (store3 w g i x) :=
  ((h.setCell (p := ⟨g, i * 3, none⟩) hpg _).setCell (p := ⟨g, i * 3 + 1, none⟩) hpg _).setCell (p := ⟨g, i * 3 + 2, none⟩) hpg _
theorem store3_size (w : World) (g i : Nat) (x : Itm) : (store3 w g i x).heap.size = w.heap.size := by simp [store3, World.setCell]
theorem far (w : World) (g q b o : Nat) (v : Value) (h : b ≠ g) : (w.setCell ⟨g, q, none⟩ v).cell? ⟨b, o, none⟩ = w.cell? ⟨b, o, none⟩ :=
  World.cell?_setCell_other _ _ _ _ (fun e => h (congrArg Addr.block e).symm)
theorem drew_cell (w : World) (a : Addr) : w.drew.cell? a = w.cell? a := rfl
theorem swapW_cell (w : World) (g i k : Nat) (A B : Itm) (b o : Nat) (h : b ≠ g) : (swapW w g i k A B).drew.cell? ⟨b, o, none⟩ = w.cell? ⟨b, o, none⟩ := by
  rw [drew_cell]
  unfold swapW
  rw [far _ g _ b o _ h, far _ g _ b o _ h, far _ g _ b o _ h, far _ g _ b o _ h, far _ g _ b o _ h, far _ g _ b o _ h]

theorem setCell_size (w : World) (a : Addr) (v : Value) : (w.setCell a v).heap.size = w.heap.size := by simp [World.setCell]
theorem drew_size (w : World) : w.drew.heap.size = w.heap.size := rfl
theorem swapW_lt (w : World) (g i k b : Nat) (A B : Itm) (h : b < w.heap.size) : b < (swapW w g i k A B).drew.heap.size := by
  rw [drew_size]
  unfold swapW
  rw [setCell_size, setCell_size, setCell_size, setCell_size, setCell_size, setCell_size]
  exact h

/-- Blocks p and g alone may have turned. -/
structure Fr (p g : Nat) (w w' : World) : Prop where
  os : w'.os = w.os
  tape : w'.tape = w.tape
  output : w'.output = w.output
  size : w.heap.size ≤ w'.heap.size
  block : ∀ k, k < w.heap.size → k ≠ p → k ≠ g → w'.heap[k]? = w.heap[k]?
theorem Fr.of_below {p g : Nat} {w w' : World} (h : Below w.heap.size w w') : Fr p g w w' := ⟨h.os, h.tape, h.output, h.size, fun k hk _ _ => h.block k hk⟩
theorem Fr.trans {p g : Nat} {a b c : World} (h : Fr p g a b) (k : Fr p g b c) : Fr p g a c :=
  ⟨k.os.trans h.os, k.tape.trans h.tape, k.output.trans h.output, Nat.le_trans h.size k.size, fun i hi h1 h2 => (k.block i (Nat.lt_of_lt_of_le hi h.size) h1 h2).trans (h.block i hi h1 h2)⟩
theorem Fr.setP {p g : Nat} {a w : World} (h : Fr p g a w) (o : Nat) (v : Value) : Fr p g a (w.setCell ⟨p, o, none⟩ v) :=
  h.trans ⟨rfl, rfl, rfl, by rw [setCell_size]; exact Nat.le_refl _, fun k _ h1 _ => Below.heap_setCell _ _ _ _ h1⟩
theorem Fr.setG {p g : Nat} {a w : World} (h : Fr p g a w) (o : Nat) (v : Value) : Fr p g a (w.setCell ⟨g, o, none⟩ v) :=
  h.trans ⟨rfl, rfl, rfl, by rw [setCell_size]; exact Nat.le_refl _, fun k _ _ h1 => Below.heap_setCell _ _ _ _ h1⟩
theorem Fr.drew {p g : Nat} {a w : World} (h : Fr p g a w) : Fr p g a w.drew := ⟨h.os, h.tape, h.output, h.size, h.block⟩
theorem Fr.below {p g : Nat} {w w' : World} (h : Fr p g w w') (hpg : p ≤ g) (hp : p ≤ w.heap.size) : Below p w w' :=
  ⟨h.os, h.tape, h.output, h.size, fun k hk => h.block k (by omega) (by omega) (by omega)⟩
theorem store3_fr {p g : Nat} {a w : World} (h : Fr p g a w) (i : Nat) (x : Itm) : Fr p g a (store3 w g i x) := ((h.setG _ _).setG _ _).setG _ _
theorem swapW_fr {p g : Nat} {a w : World} (h : Fr p g a w) (i k : Nat) (A B : Itm) : Fr p g a (swapW w g i k A B) := (((((h.setG _ _).setG _ _).setG _ _).setG _ _).setG _ _).setG _ _

/-- What Take of a queue that is not empty says. -/
def Taken (p : Nat) (H : List Itm) (came : Nat) (w : World) (e : Ending) (w' : World) : Prop :=
  e = .returned (.tuple #[.int .i64 (at' H 0).v, .int .i64 (at' H 0).r, .int .i64 0]) ∧ (∃ H', Que p H' came w' ∧ Heap H' ∧ (at' H 0 :: H').Perm H ∧ ∃ g cap, p < g ∧ w.cell? ⟨p, 0, none⟩ = some (.slice (some ⟨g, 0, none⟩) H.length cap) ∧ w'.cell? ⟨p, 0, none⟩ = some (.slice (some ⟨g, 0, none⟩) H'.length cap) ∧ Fr p g w w')

set_option maxRecDepth 100000 in
set_option maxHeartbeats 2000000 in
theorem take_any (p : Nat) (H : List Itm) (came : Nat) (w : World) (h : Que p H came w) (hH : Heap H) (h1 : 1 ≤ H.length) (hl : H.length ≤ 4096) :
    Calls Try.prog 14 #[.pointer (some ⟨p, 0, none⟩)] w (Taken p H came w) := by
  obtain ⟨i0, hi0, hz0, hz1, hz2⟩ := info_parts Try.info84
  obtain ⟨g, cap, h0, hown, hpg, hgl, hcap, hcell, hfr⟩ := h.open (by omega)
  obtain ⟨n, hn⟩ : ∃ n, H.length = n + 1 := ⟨H.length - 1, by omega⟩
  obtain ⟨a0, a1, a2⟩ := hcell 0 (by omega)
  obtain ⟨b0, b1, b2⟩ := hcell n (by omega)
  have hc1 := h.c1
  have hpl := h.sz
  have hf := h.f
  obtain ⟨A, hA⟩ : ∃ A, at' H 0 = A := ⟨_, rfl⟩
  obtain ⟨L, hL⟩ : ∃ L, at' H n = L := ⟨_, rfl⟩
  have h0' := h0
  rw [hn] at h0 hcap hl
  rw [hA] at a0 a1 a2
  rw [hL] at b0 b1 b2
  rw [Nat.zero_mul] at a0 a1 a2
  have HQ := Lib.hid h
  have HS0 := Lib.hid h0'
  clear h0'
  have HP := Lib.hid hH
  have HN := Lib.hid hn
  have HA := Lib.hid hA
  have HL := Lib.hid hL
  have HO := Lib.hid hown
  have hfg := hfr
  clear h hH h1 hown hcell hfr hn hA hL
  go_enter Try.func14, Try.ntmps14
  go_upto_region 6 with fail
  obtain ⟨W1, hW1⟩ : ∃ W1, w.alloc (Obj.cells #[.int .i64 A.v, .int .i64 A.r, .int .i64 A.c] 84) = W1 := ⟨_, rfl⟩
  obtain ⟨b, hb⟩ : ∃ b, w.heap.size = b := ⟨_, rfl⟩
  have hB1 : Below w.heap.size w W1 := by rw [← hW1]; exact (Below.refl _ _).alloc (Nat.le_refl _) _
  have hQ1 := HQ.out.below hB1
  have hs1 : W1.heap.size = b + 1 := by rw [← hW1, ← hb]; simp
  have e0 : W1.cell? ⟨b, 0, none⟩ = some (.int .i64 A.v) := by rw [← hW1, ← hb]; simp [go_sem]
  have e1 : W1.cell? ⟨b, 1, none⟩ = some (.int .i64 A.r) := by rw [← hW1, ← hb]; simp [go_sem]
  have mv : ∀ q o, q < w.heap.size → W1.cell? ⟨q, o, none⟩ = w.cell? ⟨q, o, none⟩ := fun q o hq => hB1.cell (p := ⟨q, o, none⟩) hq
  have mf : ∀ q o, q < w.heap.size → W1.frozen? ⟨q, o, none⟩ = w.frozen? ⟨q, o, none⟩ := fun q o hq => hB1.frozen (p := ⟨q, o, none⟩) hq
  have p0 := (mv p 0 hpl).trans h0
  have c0 := (mv g _ hgl).trans a0
  have c1 := (mv g _ hgl).trans a1
  have c2 := (mv g _ hgl).trans a2
  have d0 := (mv g _ hgl).trans b0
  have d1 := (mv g _ hgl).trans b1
  have d2 := (mv g _ hgl).trans b2
  have fg : ∀ j, W1.frozen? ⟨g, j, none⟩ = false := fun j => (mf g j hgl).trans (hfg j)
  have HQ1 := Lib.hid hQ1
  have HB1 : Hid (Fr p g w W1) := Fr.of_below hB1
  have hgb : g ≠ b := by omega
  have hpb : p ≠ b := by omega
  rw [hW1, hb]
  have HE := Lib.hid (And.intro e0 e1)
  have HP0 := Lib.hid p0
  clear hW1 hb mv mf h0 a0 a1 a2 b0 b1 b2 hc1 hf hfg hB1 hQ1 e0 e1
  go_cut [] (fun wx => Que p (H.set 0 L) came wx ∧ wx.cell? ⟨p, 0, none⟩ = some (.slice (some ⟨g, 0, none⟩) (n + 1) cap) ∧ wx.cell? ⟨b, 0, none⟩ = some (.int .i64 A.v) ∧ wx.cell? ⟨b, 1, none⟩ = some (.int .i64 A.r) ∧ Fr p g w wx)
  case first =>
    go_region
    all_goals
      go_wp2
      go_meet
      have hst : Que p (H.set 0 L) came (store3 W1 g 0 L) := HQ1.out.store (by rw [HN.out]; exact HP0.out) (by rw [HN.out]; omega) L
      refine ⟨hst.drew, ?_, ?_, ?_, (store3_fr HB1.out 0 L).drew⟩
      · exact (store3_cell W1 g 0 L p 0 (by omega)).trans HP0.out
      · exact (store3_cell W1 g 0 L b 0 (by omega)).trans HE.out.1
      · exact (store3_cell W1 g 0 L b 1 (by omega)).trans HE.out.2
  case rest =>
    obtain ⟨hQ, hp0, hb0, hb1, hB⟩ := hcut
    obtain ⟨H1, hH1⟩ : ∃ H1, H.set 0 L = H1 := ⟨_, rfl⟩
    rw [hH1] at hQ
    have hl1 : H1.length = n + 1 := by rw [← hH1, List.length_set]; exact HN.out
    obtain ⟨hpg1, hgl1, _, hcell, hfg1⟩ := hQ.at (g := g) (cap := cap) (by rw [hl1]; exact hp0)
    obtain ⟨n0, n1, n2⟩ := hcell n (by omega)
    have hst : Que p (H1.set n none') came (store3 wc g n none') := hQ.store (by rw [hl1]; exact hp0) (by rw [hl1]; omega) none'
    have hct := hst.cut (n := n) (g := g) (cap := cap) (by rw [store3_cell wc g n none' p 0 (by omega), List.length_set, hl1]; exact hp0) (by rw [List.length_set, hl1]; omega)
    rw [List.take_set_of_le (by omega)] at hct
    have hqf := hQ.f
    have hqs := hQ.sz
    have hcut : ∀ W : World, (Instr.slice 25 (.slice (some ⟨g, 0, none⟩) (n + 1) cap) none (some (.int .i64 (n : Int))) none).run Try.prog W = .ok (.slice (some ⟨g, 0, none⟩) n cap) W := fun W => run_cut W 25 84 _ _ cap n i0 Try.underlying25 hi0 (by omega) (by intro h; cases h)
    have HCT := Lib.hid hct
    have HQ := Lib.hid hQ
    have HB := Lib.hid hB
    have HB01 := Lib.hid (And.intro hb0 hb1)
    have HH1 := Lib.hid hH1
    have HL1 := Lib.hid hl1
    clear hQ hct hst hcell hB hH1 hl1 hb0 hb1 p0 c0 c1 c2 d0 d1 d2 fg
    go_upto_block 0 with fail
    obtain ⟨W3, hW3⟩ : ∃ W3, (store3 wc g n none').setCell ⟨p, 0, none⟩ (.slice (some ⟨g, 0, none⟩) n cap) = W3 := ⟨_, rfl⟩
    have hE3 : W3.cell? ⟨b, 0, none⟩ = some (.int .i64 A.v) ∧ W3.cell? ⟨b, 1, none⟩ = some (.int .i64 A.r) := by
      rw [← hW3]
      constructor
      · rw [World.cell?_setCell_other _ _ _ _ (fun e => hpb (congrArg Addr.block e)), store3_cell _ _ _ _ _ _ (by omega)]; exact HB01.out.1
      · rw [World.cell?_setCell_other _ _ _ _ (fun e => hpb (congrArg Addr.block e)), store3_cell _ _ _ _ _ _ (by omega)]; exact HB01.out.2
    have hG3 : W3.cell? ⟨p, 0, none⟩ = some (.slice (some ⟨g, 0, none⟩) n cap) := by
      rw [← hW3, World.cell?_setCell_same _ _ _ ((store3_cell wc g n none' p 0 (by omega)).trans hp0)]
    have hB3 : Fr p g w W3 := by rw [← hW3]; exact (store3_fr HB.out n none').setP _ _
    have hQ3 : Que p (H1.take n) came W3 := by rw [← hW3]; exact HCT.out
    have hb3 : b < W3.heap.size := World.block_lt_of_cell? W3 _ hE3.1
    have hK0 : Down (H1.take n) 0 ∧ (A :: H1.take n).Perm H ∧ (H1.take n).length = n := by
      rw [← HH1.out, ← HL.out, ← HA.out]
      refine ⟨Down.new HP.out n HN.out.symm, take_perm H n HN.out.symm, ?_⟩
      rw [List.length_take, List.length_set, HN.out]; omega
    change Code.wp Try.prog _ _ _ ((store3 wc g n none').setCell ⟨p, 0, none⟩ (.slice (some ⟨g, 0, none⟩) n cap))
    rw [hW3]
    obtain ⟨J, hJ⟩ : ∃ J, H1.take n = J := ⟨_, rfl⟩
    rw [hJ] at hQ3 hK0
    have HQ3 := Lib.hid hQ3
    have HE3 := Lib.hid hE3
    have HG3 := Lib.hid hG3
    have HB3 := Lib.hid hB3
    have HK0 := Lib.hid hK0
    clear hW3 hE3 hG3 hB3 hQ3 hK0 hJ HCT HQ HB HB01 hp0 n0 n1 n2 hqf hqs hcut hfg1 hgl1
    go_cut [] (fun wx => ∃ K, Que p K came wx ∧ Heap K ∧ (A :: K).Perm H ∧ wx.cell? ⟨b, 0, none⟩ = some (.int .i64 A.v) ∧ wx.cell? ⟨b, 1, none⟩ = some (.int .i64 A.r) ∧ Fr p g w wx ∧ wx.cell? ⟨p, 0, none⟩ = some (.slice (some ⟨g, 0, none⟩) K.length cap))
    case first =>
      go_wp2_with fail
      go_loopw [8, 9] (fun iv _ wr => ∃ (i : Nat) (K : List Itm), iv = .int .i64 i ∧ Que p K came wr ∧ wr.cell? ⟨p, 0, none⟩ = some (.slice (some ⟨g, 0, none⟩) n cap) ∧ Hid (Down K i ∧ (A :: K).Perm H ∧ K.length = n) ∧
        wr.cell? ⟨b, 0, none⟩ = some (.int .i64 A.v) ∧ wr.cell? ⟨b, 1, none⟩ = some (.int .i64 A.r) ∧ Fr p g w wr ∧ i ≤ n ∧ b < wr.heap.size) (fun iv _ _ => n - (intOf iv).toNat)
      case atStart => exact ⟨0, J, rfl, HQ3.out, HG3.out, HK0.out, HE3.out.1, HE3.out.2, HB3.out, by omega, hb3⟩
      case round =>
        obtain ⟨i, K, rfl, hQ, hG, HK, hE0, hE1, hB, hin, hbl⟩ := hrel
        have HQ := Lib.hid hQ
        have HG := Lib.hid hG
        have HE := Lib.hid (And.intro hE0 hE1)
        have HB := Lib.hid hB
        clear hQ hG hE0 hE1 hB
        by_cases hc1 : n ≤ 2 * i + 1
        · go_wp2_with fail
          go_meet
          exact ⟨K, HQ.out, HK.out.1.done (fun j hj1 hj hjp => by rw [HK.out.2.2] at hj; omega), HK.out.2.1, HE.out.1, HE.out.2, HB.out, by rw [HK.out.2.2]; exact HG.out⟩
        · obtain ⟨k1, hk1, hk1i⟩ : ∃ k1 : Nat, 2 * (i : Int) + 1 = (k1 : Int) ∧ k1 = 2 * i + 1 := ⟨2 * i + 1, by omega, rfl⟩
          have hk1n : k1 < n := by omega
          obtain ⟨k2, hk2, hk2i⟩ : ∃ k2 : Nat, (k1 : Int) + 1 = (k2 : Int) ∧ k2 = k1 + 1 := ⟨k1 + 1, by omega, rfl⟩
          have HK1 := Lib.hid hk1i
          have HK2 := Lib.hid hk2i
          clear hk1i hk2i
          by_cases hc2 : k2 < n
          · have hbf0 := before_any p K came k2 k1 wr HQ.out (by rw [HK.out.2.2]; omega) (by rw [HK.out.2.2]; omega) (by rw [HK.out.2.2]; omega)
            obtain ⟨b1, hb1⟩ : ∃ b1, bef (at' K k2) (at' K k1) = b1 := ⟨_, rfl⟩
            rw [hb1] at hbf0
            have HBF0 := Lib.hid hbf0
            have HB1' := Lib.hid hb1
            clear hbf0 hb1
            go_wp2_with fail
            refine HBF0.out.mono ?_
            rintro e wz ⟨rfl, hbb⟩
            have HQz := Lib.hid (HQ.out.below hbb)
            have HGz := Lib.hid ((hbb.cell (p := ⟨p, 0, none⟩) HQ.out.sz).trans HG.out)
            have HEz := Lib.hid (And.intro ((hbb.cell (p := ⟨b, 0, none⟩) hbl).trans HE.out.1) ((hbb.cell (p := ⟨b, 1, none⟩) hbl).trans HE.out.2))
            have HBz := Lib.hid (HB.out.trans (Fr.of_below hbb))
            have hbz : b < wz.heap.size := by have := hbb.size; omega
            clear hbb
            cases b1 with
            | true =>
              obtain ⟨KK, hKKe⟩ : ∃ KK, k2 = KK := ⟨_, rfl⟩
              have HKK : Hid (∀ j, 1 ≤ j → j < K.length → (j - 1) / 2 = i → Le (at' K KK) (at' K j)) := by
                intro j hj1 hj hjp
                rw [← hKKe]
                have h1 := HK1.out
                have h2 := HK2.out
                rcases (show j = k1 ∨ j = k2 by omega) with e | e
                · rw [e]; exact Le_of_bef HB1'.out
                · rw [e]; exact Le_refl _
              have hKn : KK < n := by omega
              have hKi : (KK - 1) / 2 = i ∧ 1 ≤ KK ∧ i < KK := by have h1 := HK1.out; have h2 := HK2.out; omega
              subst hKKe

              have hpar : (k2 - 1) / 2 = i := hKi.1
              have hbf := before_any p K came i k2 wz HQz.out (by rw [HK.out.2.2]; omega) (by rw [HK.out.2.2]; omega) (by rw [HK.out.2.2]; omega)
              obtain ⟨b2, hb2⟩ : ∃ b2, bef (at' K i) (at' K k2) = b2 := ⟨_, rfl⟩
              rw [hb2] at hbf
              have HBF := Lib.hid hbf
              have HB2 := Lib.hid hb2
              have hge : decide (n ≤ k2) = false := by simp; omega
              clear hbf hb2
              go_wp2_with fail
              refine HBF.out.mono ?_
              rintro e w2 ⟨rfl, hbb⟩
              have HQ2 := Lib.hid (HQz.out.below hbb)
              have HG2 := Lib.hid ((hbb.cell (p := ⟨p, 0, none⟩) HQz.out.sz).trans HGz.out)
              have HE2 := Lib.hid (And.intro ((hbb.cell (p := ⟨b, 0, none⟩) hbz).trans HEz.out.1) ((hbb.cell (p := ⟨b, 1, none⟩) hbz).trans HEz.out.2))
              have HBz2 := Lib.hid (HBz.out.trans (Fr.of_below hbb))
              have hbz2 : b < w2.heap.size := by have := hbb.size; omega
              clear hbb
              cases b2 with
              | true =>
                go_wp2_with fail
                go_meet
                refine ⟨K, HQ2.out, ?_, HK.out.2.1, HE2.out.1, HE2.out.2, HBz2.out, by rw [HK.out.2.2]; exact HG2.out⟩
                refine HK.out.1.done fun j hj1 hj hjp => Le_trans (Le_of_bef HB2.out) (HKK.out j hj1 hj hjp)
              | false =>
                have hil : i < K.length := by rw [HK.out.2.2]; omega
                have hkl : k2 < K.length := by rw [HK.out.2.2]; omega
                have z0 := HG2.out
                have hsw := HQ2.out.swap (g := g) (cap := cap) (by rw [HK.out.2.2]; exact z0) hil hkl
                obtain ⟨hpg2, hgl2, _, hcell, hfr2⟩ := HQ2.out.at (g := g) (cap := cap) (by rw [HK.out.2.2]; exact z0)
                obtain ⟨a0, a1, a2⟩ := hcell i hil
                obtain ⟨b0, b1, b2⟩ := hcell k2 hkl
                have hfp := HQ2.out.f
                have hsp := HQ2.out.sz
                have hDn := HK.out.1.step hil hkl (by omega) hpar HB2.out HKK.out
                have hPm : (A :: swap K i k2).Perm H := ((swap_perm K i k2 hil hkl).cons A).trans HK.out.2.1
                have HR : Hid (Down (swap K i k2) k2 ∧ (A :: swap K i k2).Perm H ∧ (swap K i k2).length = n) := ⟨hDn, hPm, by rw [swap_length]; exact HK.out.2.2⟩
                obtain ⟨X, hX⟩ : ∃ X, at' K i = X := ⟨_, rfl⟩
                obtain ⟨Y, hY⟩ : ∃ Y, at' K k2 = Y := ⟨_, rfl⟩
                rw [hX, hY] at hsw
                rw [hX] at a0 a1 a2
                rw [hY] at b0 b1 b2
                have HSW := Lib.hid hsw
                clear hX hY hcell hil hkl hsw hDn hPm
                go_wp2_with fail
                go_region
                go_wp2
                go_roundw
                case rel =>
                  refine ⟨k2, swap K i k2, rfl, HSW.out.drew, ?_, HR.out, ?_, ?_, (swapW_fr HBz2.out i k2 X Y).drew, by omega, ?_⟩
                  · exact (swapW_cell w2 g i k2 X Y p 0 (by omega)).trans HG2.out
                  · exact (swapW_cell w2 g i k2 X Y b 0 (by omega)).trans HE2.out.1
                  · exact (swapW_cell w2 g i k2 X Y b 1 (by omega)).trans HE2.out.2
                  · exact swapW_lt w2 g i k2 b X Y hbz2
                case measure => simp [intOf]; omega

            | false =>
              have HKK : Hid (∀ j, 1 ≤ j → j < K.length → (j - 1) / 2 = i → Le (at' K k1) (at' K j)) := by
                intro j hj1 hj hjp
                have h1 := HK1.out
                have h2 := HK2.out
                rcases (show j = k1 ∨ j = k2 by omega) with e | e
                · rw [e]; exact Le_refl _
                · rw [e]; exact HB1'.out
              have hKi : (k1 - 1) / 2 = i ∧ 1 ≤ k1 ∧ i < k1 := by have h1 := HK1.out; omega

              have hpar : (k1 - 1) / 2 = i := hKi.1
              have hbf := before_any p K came i k1 wz HQz.out (by rw [HK.out.2.2]; omega) (by rw [HK.out.2.2]; omega) (by rw [HK.out.2.2]; omega)
              obtain ⟨b2, hb2⟩ : ∃ b2, bef (at' K i) (at' K k1) = b2 := ⟨_, rfl⟩
              rw [hb2] at hbf
              have HBF := Lib.hid hbf
              have HB2 := Lib.hid hb2
              have hge : decide (n ≤ k1) = false := by simp; omega
              clear hbf hb2
              go_wp2_with fail
              refine HBF.out.mono ?_
              rintro e w2 ⟨rfl, hbb⟩
              have HQ2 := Lib.hid (HQz.out.below hbb)
              have HG2 := Lib.hid ((hbb.cell (p := ⟨p, 0, none⟩) HQz.out.sz).trans HGz.out)
              have HE2 := Lib.hid (And.intro ((hbb.cell (p := ⟨b, 0, none⟩) hbz).trans HEz.out.1) ((hbb.cell (p := ⟨b, 1, none⟩) hbz).trans HEz.out.2))
              have HBz2 := Lib.hid (HBz.out.trans (Fr.of_below hbb))
              have hbz2 : b < w2.heap.size := by have := hbb.size; omega
              clear hbb
              cases b2 with
              | true =>
                go_wp2_with fail
                go_meet
                refine ⟨K, HQ2.out, ?_, HK.out.2.1, HE2.out.1, HE2.out.2, HBz2.out, by rw [HK.out.2.2]; exact HG2.out⟩
                refine HK.out.1.done fun j hj1 hj hjp => Le_trans (Le_of_bef HB2.out) (HKK.out j hj1 hj hjp)
              | false =>
                have hil : i < K.length := by rw [HK.out.2.2]; omega
                have hkl : k1 < K.length := by rw [HK.out.2.2]; omega
                have z0 := HG2.out
                have hsw := HQ2.out.swap (g := g) (cap := cap) (by rw [HK.out.2.2]; exact z0) hil hkl
                obtain ⟨hpg2, hgl2, _, hcell, hfr2⟩ := HQ2.out.at (g := g) (cap := cap) (by rw [HK.out.2.2]; exact z0)
                obtain ⟨a0, a1, a2⟩ := hcell i hil
                obtain ⟨b0, b1, b2⟩ := hcell k1 hkl
                have hfp := HQ2.out.f
                have hsp := HQ2.out.sz
                have hDn := HK.out.1.step hil hkl (by omega) hpar HB2.out HKK.out
                have hPm : (A :: swap K i k1).Perm H := ((swap_perm K i k1 hil hkl).cons A).trans HK.out.2.1
                have HR : Hid (Down (swap K i k1) k1 ∧ (A :: swap K i k1).Perm H ∧ (swap K i k1).length = n) := ⟨hDn, hPm, by rw [swap_length]; exact HK.out.2.2⟩
                obtain ⟨X, hX⟩ : ∃ X, at' K i = X := ⟨_, rfl⟩
                obtain ⟨Y, hY⟩ : ∃ Y, at' K k1 = Y := ⟨_, rfl⟩
                rw [hX, hY] at hsw
                rw [hX] at a0 a1 a2
                rw [hY] at b0 b1 b2
                have HSW := Lib.hid hsw
                clear hX hY hcell hil hkl hsw hDn hPm
                go_wp2_with fail
                go_region
                go_wp2
                go_roundw
                case rel =>
                  refine ⟨k1, swap K i k1, rfl, HSW.out.drew, ?_, HR.out, ?_, ?_, (swapW_fr HBz2.out i k1 X Y).drew, by omega, ?_⟩
                  · exact (swapW_cell w2 g i k1 X Y p 0 (by omega)).trans HG2.out
                  · exact (swapW_cell w2 g i k1 X Y b 0 (by omega)).trans HE2.out.1
                  · exact (swapW_cell w2 g i k1 X Y b 1 (by omega)).trans HE2.out.2
                  · exact swapW_lt w2 g i k1 b X Y hbz2
                case measure => simp [intOf]; omega

          · have HQz := HQ
            have HGz := HG
            have HEz := HE
            have HBz := HB
            obtain ⟨wz, hwz⟩ : ∃ wz, wr = wz := ⟨_, rfl⟩
            subst hwz
            have hbz := hbl
            have HKK : Hid (∀ j, 1 ≤ j → j < K.length → (j - 1) / 2 = i → Le (at' K k1) (at' K j)) := by
              intro j hj1 hj hjp
              rw [HK.out.2.2] at hj
              have h1 := HK1.out
              have h2 := HK2.out
              rw [show j = k1 by omega]; exact Le_refl _
            have hKi : (k1 - 1) / 2 = i ∧ 1 ≤ k1 ∧ i < k1 := by have h1 := HK1.out; omega

            have hpar : (k1 - 1) / 2 = i := hKi.1
            have hbf := before_any p K came i k1 wr HQz.out (by rw [HK.out.2.2]; omega) (by rw [HK.out.2.2]; omega) (by rw [HK.out.2.2]; omega)
            obtain ⟨b2, hb2⟩ : ∃ b2, bef (at' K i) (at' K k1) = b2 := ⟨_, rfl⟩
            rw [hb2] at hbf
            have HBF := Lib.hid hbf
            have HB2 := Lib.hid hb2
            have hge : decide (n ≤ k1) = false := by simp; omega
            clear hbf hb2
            go_wp2_with fail
            refine HBF.out.mono ?_
            rintro e w2 ⟨rfl, hbb⟩
            have HQ2 := Lib.hid (HQz.out.below hbb)
            have HG2 := Lib.hid ((hbb.cell (p := ⟨p, 0, none⟩) HQz.out.sz).trans HGz.out)
            have HE2 := Lib.hid (And.intro ((hbb.cell (p := ⟨b, 0, none⟩) hbz).trans HEz.out.1) ((hbb.cell (p := ⟨b, 1, none⟩) hbz).trans HEz.out.2))
            have HBz2 := Lib.hid (HBz.out.trans (Fr.of_below hbb))
            have hbz2 : b < w2.heap.size := by have := hbb.size; omega
            clear hbb
            cases b2 with
            | true =>
              go_wp2_with fail
              go_meet
              refine ⟨K, HQ2.out, ?_, HK.out.2.1, HE2.out.1, HE2.out.2, HBz2.out, by rw [HK.out.2.2]; exact HG2.out⟩
              refine HK.out.1.done fun j hj1 hj hjp => Le_trans (Le_of_bef HB2.out) (HKK.out j hj1 hj hjp)
            | false =>
              have hil : i < K.length := by rw [HK.out.2.2]; omega
              have hkl : k1 < K.length := by rw [HK.out.2.2]; omega
              have z0 := HG2.out
              have hsw := HQ2.out.swap (g := g) (cap := cap) (by rw [HK.out.2.2]; exact z0) hil hkl
              obtain ⟨hpg2, hgl2, _, hcell, hfr2⟩ := HQ2.out.at (g := g) (cap := cap) (by rw [HK.out.2.2]; exact z0)
              obtain ⟨a0, a1, a2⟩ := hcell i hil
              obtain ⟨b0, b1, b2⟩ := hcell k1 hkl
              have hfp := HQ2.out.f
              have hsp := HQ2.out.sz
              have hDn := HK.out.1.step hil hkl (by omega) hpar HB2.out HKK.out
              have hPm : (A :: swap K i k1).Perm H := ((swap_perm K i k1 hil hkl).cons A).trans HK.out.2.1
              have HR : Hid (Down (swap K i k1) k1 ∧ (A :: swap K i k1).Perm H ∧ (swap K i k1).length = n) := ⟨hDn, hPm, by rw [swap_length]; exact HK.out.2.2⟩
              obtain ⟨X, hX⟩ : ∃ X, at' K i = X := ⟨_, rfl⟩
              obtain ⟨Y, hY⟩ : ∃ Y, at' K k1 = Y := ⟨_, rfl⟩
              rw [hX, hY] at hsw
              rw [hX] at a0 a1 a2
              rw [hY] at b0 b1 b2
              have HSW := Lib.hid hsw
              clear hX hY hcell hil hkl hsw hDn hPm
              go_wp2_with fail
              go_region
              go_wp2
              go_roundw
              case rel =>
                refine ⟨k1, swap K i k1, rfl, HSW.out.drew, ?_, HR.out, ?_, ?_, (swapW_fr HBz2.out i k1 X Y).drew, by omega, ?_⟩
                · exact (swapW_cell w2 g i k1 X Y p 0 (by omega)).trans HG2.out
                · exact (swapW_cell w2 g i k1 X Y b 0 (by omega)).trans HE2.out.1
                · exact (swapW_cell w2 g i k1 X Y b 1 (by omega)).trans HE2.out.2
                · exact swapW_lt w2 g i k1 b X Y hbz2
              case measure => simp [intOf]; omega
    case rest =>
      obtain ⟨K, hQ, hK, hPm, hE0, hE1, hB, hsl⟩ := hcut
      have HQ := Lib.hid hQ
      have HB := Lib.hid hB
      have hbs := World.block_lt_of_cell? wc _ hE0
      clear hQ hB
      go_wp2_with fail
      refine region_grow (by kernel_rfl) (by kernel_rfl) ?_
      repeat (go_big_quiet_step ((fail)))
      refine wpQuiet_nil ?_
      intro _ hw'
      obtain ⟨kk, mm, rfl⟩ := hw'
      go_wp2
      go_ret3
      exact ⟨by rw [HA.out]; rfl, ⟨K, HQ.out.ext _ _, hK, by rw [HA.out]; exact hPm, g, cap, hpg, HS0.out, by rw [cell_ext _ _ _ _ _ HQ.out.sz]; exact hsl, HB.out.trans (Fr.of_below (below_ext _ _ _))⟩⟩
end Go.Proofs.Ytfeibjokifidmaa
