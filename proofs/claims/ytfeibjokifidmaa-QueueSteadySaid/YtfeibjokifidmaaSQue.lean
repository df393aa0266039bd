/- Contracts of queue.Queue[string]: those of Queue[int], turned by wip/tools/gen_str.py; a number v stands for the string str v. -/
import Derived.Test.YtfeibjokifidmaaTake
namespace Go.Proofs.Ytfeibjokifidmaa.S
open Go.RowKit

/-- The string that a number stands for: no letter, or one. -/
def str (v : Int) : ByteArray := if v = 0 then ⟨#[]⟩ else ⟨#[v.toNat.toUInt8]⟩


/-- Items, cell by cell. -/
def flat (H : List Itm) : List Value := H.flatMap fun t => [.string (str t.v), .int .i64 t.r, .int .i64 t.c]
theorem flat_length (H : List Itm) : (flat H).length = H.length * 3 := by
  induction H with
  | nil => rfl
  | cons x r ih => simp only [flat, List.flatMap_cons, List.length_append, List.length_cons, List.length_nil] at *; omega
theorem flat_append (A B : List Itm) : flat (A ++ B) = flat A ++ flat B := by simp [flat]
theorem flat_get (H : List Itm) : ∀ k, k < H.length → (flat H)[k * 3]? = some (.string (str (at' H k).v)) ∧ (flat H)[k * 3 + 1]? = some (.int .i64 (at' H k).r) ∧ (flat H)[k * 3 + 2]? = some (.int .i64 (at' H k).c) := by
  induction H with
  | nil => intro k hk; simp at hk
  | cons x r ih =>
    intro k hk
    have e : flat (x :: r) = [.string (str x.v), .int .i64 x.r, .int .i64 x.c] ++ flat r := by simp [flat]
    rw [e]
    cases k with
    | zero => simp [at']
    | succ k =>
      have := ih k (by simpa using hk)
      have ha : at' (x :: r) (k + 1) = at' r k := by simp [at']
      rw [ha, show (k + 1) * 3 = k * 3 + 3 by omega, show k * 3 + 3 + 1 = k * 3 + 1 + 3 by omega, show k * 3 + 3 + 2 = k * 3 + 2 + 3 by omega]
      simp only [List.getElem?_append_right (show ([Value.string (str x.v), .int .i64 x.r, .int .i64 x.c]).length ≤ k * 3 + 3 by simp), List.getElem?_append_right (show ([Value.string (str x.v), .int .i64 x.r, .int .i64 x.c]).length ≤ k * 3 + 1 + 3 by simp), List.getElem?_append_right (show ([Value.string (str x.v), .int .i64 x.r, .int .i64 x.c]).length ≤ k * 3 + 2 + 3 by simp)]
      simpa using this

/-- Block p is a queue with the items H, of which so many have come. -/
structure Que (p : Nat) (H : List Itm) (came : Nat) (w : World) : Prop where
  ex : ∃ v, w.cell? ⟨p, 0, none⟩ = some v ∧ w.ownsRow (p + 1) 98 3 v H.length (flat H)
  c1 : w.cell? ⟨p, 1, none⟩ = some (.int .i64 came)
  f : ∀ j, w.frozen? ⟨p, j, none⟩ = false
  sz : p < w.heap.size

theorem Que.open {p : Nat} {H : List Itm} {came : Nat} {w : World} (h : Que p H came w) (hH : 1 ≤ H.length) :
    ∃ g cap, w.cell? ⟨p, 0, none⟩ = some (.slice (some ⟨g, 0, none⟩) H.length cap) ∧ w.ownsRow (p + 1) 98 3 (.slice (some ⟨g, 0, none⟩) H.length cap) H.length (flat H) ∧ p < g ∧ g < w.heap.size ∧ H.length ≤ cap ∧
      (∀ k, k < H.length → w.cell? ⟨g, k * 3, none⟩ = some (.string (str (at' H k).v)) ∧ w.cell? ⟨g, k * 3 + 1, none⟩ = some (.int .i64 (at' H k).r) ∧ w.cell? ⟨g, k * 3 + 2, none⟩ = some (.int .i64 (at' H k).c)) ∧ (∀ j, w.frozen? ⟨g, j, none⟩ = false) := by
  obtain ⟨v, h0, ho⟩ := h.ex
  obtain ⟨g, cap, rfl, hg, hgl, hc, _, _, hcl, hf⟩ := owns_open ho hH
  refine ⟨g, cap, h0, ho, by omega, hgl, hc, ?_, hf⟩
  intro k hk
  obtain ⟨a, b, c⟩ := flat_get H k hk
  exact ⟨(hcl _ (by omega)).trans a, (hcl _ (by omega)).trans b, (hcl _ (by omega)).trans c⟩

set_option maxRecDepth 4000 in
theorem before_any (p : Nat) (H : List Itm) (came i k : Nat) (w : World) (h : Que p H came w) (hi : i < H.length) (hk : k < H.length) (hl : H.length ≤ 4096) :
    Calls Try.prog 65 #[.pointer (some ⟨p, 0, none⟩), .int .i64 i, .int .i64 k] w fun e w' => e = .returned (.bool (bef (at' H i) (at' H k))) ∧ Below w.heap.size w w' := by
  obtain ⟨g, cap, h0, _, hpg, hgl, hcap, hcell, _⟩ := h.open (by omega)
  obtain ⟨a0, a1, a2⟩ := hcell i hi
  obtain ⟨b0, b1, b2⟩ := hcell k hk
  have hpl := h.sz
  obtain ⟨n, hn⟩ : ∃ n, H.length = n := ⟨_, rfl⟩
  obtain ⟨A, hA⟩ : ∃ A, at' H i = A := ⟨_, rfl⟩
  obtain ⟨B, hB⟩ : ∃ B, at' H k = B := ⟨_, rfl⟩
  rw [hn] at h0 hi hk hcap hl
  rw [hA] at a0 a1 a2
  rw [hB] at b0 b1 b2
  rw [hA, hB]
  clear h hcell hn hA hB
  go_enter Try.func65, Try.ntmps65
  go_upto_region 1 with fail
  go_cut [7, 8] (fun s7 s8 wx => ∃ x y : Nat, s7 = .pointer (some ⟨x, 0, none⟩) ∧ s8 = .pointer (some ⟨y, 0, none⟩) ∧ wx.cell? ⟨x, 1, none⟩ = some (.int .i64 A.r) ∧ wx.cell? ⟨x, 2, none⟩ = some (.int .i64 A.c) ∧ wx.cell? ⟨y, 1, none⟩ = some (.int .i64 B.r) ∧ wx.cell? ⟨y, 2, none⟩ = some (.int .i64 B.c) ∧ Below w.heap.size w wx)
  case first =>
    go_region
    all_goals
      go_wp2
      go_meet
      exact ⟨_, _, rfl, rfl, by simp [go_sem], by simp [go_sem], by simp [go_sem], by simp [go_sem], by repeat (first | exact Below.refl _ _ | apply Below.drew | apply Below.al | apply Below.ex)⟩
  case rest =>
    obtain ⟨x, y, rfl, rfl, x1, x2, y1, y2, hB⟩ := hcut
    by_cases hr : A.r = B.r
    · have hrb : (A.r != B.r) = false := by simp [hr]
      have hv : Hid (bef A B = decide (A.c < B.c)) := by unfold bef Hid; rw [if_pos hr]
      clear hr
      go_wp2_with fail
      go_ret
      exact ⟨ret_bool hv.out.symm, hB⟩
    · have hrb : (A.r != B.r) = true := by simp [hr]
      have hv : Hid (bef A B = decide (A.r < B.r)) := by unfold bef Hid; rw [if_neg hr]
      clear hr
      go_wp2_with fail
      go_ret
      exact ⟨ret_bool hv.out.symm, hB⟩


theorem Try.info98 : (Try.prog.info? 98).map (fun i => (i.zero, i.size, i.bytes)) = some (some (.agg #[.string ⟨#[]⟩, .int .i64 0, .int .i64 0]), 3, 32) := by kernel_rfl

theorem Que.below {p : Nat} {H : List Itm} {came : Nat} {w w' : World} (h : Que p H came w) (hb : Below w.heap.size w w') : Que p H came w' := by
  obtain ⟨v, h0, ho⟩ := h.ex
  have hs := h.sz
  exact ⟨⟨v, (hb.cell (p := ⟨p, 0, none⟩) hs).trans h0, owns_below ho hb (Nat.le_refl _)⟩, (hb.cell (p := ⟨p, 1, none⟩) hs).trans h.c1, fun j => (hb.frozen (p := ⟨p, j, none⟩) hs).trans (h.f j), by have := hb.size; omega⟩

theorem que_mid {p n came g cap : Nat} {H : List Itm} {v r : Int} {u : Value} {w : World} (hn : H.length = n) (own : w.ownsRow (p + 1) 98 3 (.slice (some ⟨g, 0, none⟩) (n + 1) cap) (n + 1) (flat H ++ [.string (str v), .int .i64 r, .int .i64 came]))
    (d0 : w.cell? ⟨p, 0, none⟩ = some u) (d1 : w.cell? ⟨p, 1, none⟩ = some (.int .i64 came)) (d2 : ∀ j, w.frozen? ⟨p, j, none⟩ = false) (hp : p < w.heap.size) :
    Que p (H ++ [⟨v, r, came⟩]) came (w.setCell ⟨p, 0, none⟩ (.slice (some ⟨g, 0, none⟩) (n + 1) cap)) := by
  refine ⟨⟨_, World.cell?_setCell_same _ _ _ d0, ?_⟩, ?_, ?_, by simpa [World.setCell] using hp⟩
  · have e : flat (H ++ [⟨v, r, came⟩]) = flat H ++ [.string (str v), .int .i64 r, .int .i64 came] := by rw [flat_append]; rfl
    rw [e, List.length_append, hn]
    exact ownsRow_setCell_below own (by simp) _
  · rw [World.cell?_setCell_other _ _ _ _ (by intro e; cases e)]; exact d1
  · intro j; rw [World.frozen?_setCell]; exact d2 j
theorem Que.came {p n : Nat} {H : List Itm} {w : World} (h : Que p H n w) : Que p H (n + 1) (w.setCell ⟨p, 1, none⟩ (.int .i64 ((n : Int) + 1))) := by
  obtain ⟨v, h0, ho⟩ := h.ex
  refine ⟨⟨v, ?_, ownsRow_setCell_below ho (by simp) _⟩, ?_, ?_, by simpa [World.setCell] using h.sz⟩
  · rw [World.cell?_setCell_other _ _ _ _ (by intro e; cases e)]; exact h0
  · rw [World.cell?_setCell_same _ _ _ h.c1]; simp
  · intro j; rw [World.frozen?_setCell]; exact h.f j

theorem flat_set (H : List Itm) (x : Itm) : ∀ i, i < H.length → flat (H.set i x) = (((flat H).set (i * 3) (.string (str x.v))).set (i * 3 + 1) (.int .i64 x.r)).set (i * 3 + 2) (.int .i64 x.c) := by
  induction H with
  | nil => intro i hi; simp at hi
  | cons y r ih =>
    intro i hi
    have e : ∀ (z : Itm) (q : List Itm), flat (z :: q) = .string (str z.v) :: .int .i64 z.r :: .int .i64 z.c :: flat q := by intro z q; simp [flat]
    cases i with
    | zero => rw [List.set_cons_zero, e, e]; rfl
    | succ i =>
      rw [List.set_cons_succ, e, e, ih i (by simpa using hi), show (i + 1) * 3 = i * 3 + 3 by omega, show i * 3 + 3 + 1 = i * 3 + 1 + 3 by omega, show i * 3 + 3 + 2 = i * 3 + 2 + 3 by omega]
      rfl

/-- An item stored. -/
theorem Que.store {p came g cap i : Nat} {H : List Itm} {w : World} (h : Que p H came w) (hg : w.cell? ⟨p, 0, none⟩ = some (.slice (some ⟨g, 0, none⟩) H.length cap)) (hi : i < H.length) (x : Itm) :
    Que p (H.set i x) came (((w.setCell ⟨g, i * 3, none⟩ (.string (str x.v))).setCell ⟨g, i * 3 + 1, none⟩ (.int .i64 x.r)).setCell ⟨g, i * 3 + 2, none⟩ (.int .i64 x.c)) := by
  obtain ⟨v, h0, ho⟩ := h.ex
  rw [hg] at h0
  injection h0 with h0
  subst h0
  have hpg : p + 1 ≤ g := (owns_at ho).1
  have o1 := (ho.stored (i * 3) (.string (str x.v))).1
  have o2 := (o1.stored (i * 3 + 1) (.int .i64 x.r)).1
  have o3 := (o2.stored (i * 3 + 2) (.int .i64 x.c)).1
  rw [← flat_set H x i hi] at o3
  have hne : ∀ o, (⟨g, o, none⟩ : Addr) ≠ ⟨p, 0, none⟩ ∧ (⟨g, o, none⟩ : Addr) ≠ ⟨p, 1, none⟩ := by
    intro o
    exact ⟨fun e => by have := congrArg Addr.block e; simp at this; omega, fun e => by have := congrArg Addr.block e; simp at this; omega⟩
  refine ⟨⟨_, ?_, by rw [List.length_set]; exact o3⟩, ?_, ?_, by simpa [World.setCell] using h.sz⟩
  · rw [World.cell?_setCell_other _ _ _ _ (hne _).1, World.cell?_setCell_other _ _ _ _ (hne _).1, World.cell?_setCell_other _ _ _ _ (hne _).1]; exact hg
  · rw [World.cell?_setCell_other _ _ _ _ (hne _).2, World.cell?_setCell_other _ _ _ _ (hne _).2, World.cell?_setCell_other _ _ _ _ (hne _).2]; exact h.c1
  · intro j; rw [World.frozen?_setCell, World.frozen?_setCell, World.frozen?_setCell]; exact h.f j
theorem Que.ext {p came : Nat} {H : List Itm} {w : World} (h : Que p H came w) (l : List Obj) (m : Nat) : Que p H came (ext w l m) := h.below (below_ext w l m)
theorem Que.drew {p came : Nat} {H : List Itm} {w : World} (h : Que p H came w) : Que p H came w.drew := ⟨h.ex, h.c1, h.f, h.sz⟩
/-- The world behind two items' exchange. -/
def swapW (w : World) (g i k : Nat) (A B : Itm) : World :=
  (((((w.setCell ⟨g, i * 3, none⟩ (.string (str B.v))).setCell ⟨g, i * 3 + 1, none⟩ (.int .i64 B.r)).setCell ⟨g, i * 3 + 2, none⟩ (.int .i64 B.c)).setCell
      ⟨g, k * 3, none⟩ (.string (str A.v))).setCell ⟨g, k * 3 + 1, none⟩ (.int .i64 A.r)).setCell ⟨g, k * 3 + 2, none⟩ (.int .i64 A.c)
theorem swapW_below {p g : Nat} (hpg : p ≤ g) {a w : World} (h : Below p a w) (i k : Nat) (A B : Itm) : Below p a (swapW w g i k A B) :=
  (((((h.setCell (p := ⟨g, i * 3, none⟩) hpg _).setCell (p := ⟨g, i * 3 + 1, none⟩) hpg _).setCell (p := ⟨g, i * 3 + 2, none⟩) hpg _).setCell (p := ⟨g, k * 3, none⟩) hpg _).setCell (p := ⟨g, k * 3 + 1, none⟩) hpg _).setCell (p := ⟨g, k * 3 + 2, none⟩) hpg _
/-- Two items exchanged. -/
theorem Que.swap {p came g cap i k : Nat} {H : List Itm} {w : World} (h : Que p H came w) (hg : w.cell? ⟨p, 0, none⟩ = some (.slice (some ⟨g, 0, none⟩) H.length cap)) (hi : i < H.length) (hk : k < H.length) :
    Que p (swap H i k) came (swapW w g i k (at' H i) (at' H k)) := by
  have h1 := h.store hg hi (at' H k)
  have hg1 := hg
  obtain ⟨v, h0, ho⟩ := h.ex
  rw [hg] at h0
  injection h0 with h0
  subst h0
  have hpg : p + 1 ≤ g := (owns_at ho).1
  have hne : ∀ o, (⟨g, o, none⟩ : Addr) ≠ ⟨p, 0, none⟩ := fun o e => by have := congrArg Addr.block e; simp at this; omega
  refine h1.store (g := g) (cap := cap) ?_ (by simpa using hk) (at' H i)
  rw [World.cell?_setCell_other _ _ _ _ (hne _), World.cell?_setCell_other _ _ _ _ (hne _), World.cell?_setCell_other _ _ _ _ (hne _), List.length_set]; exact hg

set_option maxRecDepth 100000 in
set_option maxHeartbeats 1000000 in
theorem put_any (p : Nat) (H : List Itm) (came : Nat) (v r : Int) (w : World) (h : Que p H came w) (hH : Heap H) (hl : H.length < 4096) (hcm : came ≤ 1000000) :
    Calls Try.prog 48 #[.pointer (some ⟨p, 0, none⟩), .string (str v), .int .i64 r] w fun e w' => e = .returned (.int .i64 0) ∧ Hid (∃ H', Que p H' (came + 1) w' ∧ Heap H' ∧ H'.Perm (H ++ [⟨v, r, came⟩])) ∧ Below p w w' := by
  obtain ⟨i0, hi0, hz0, hz1, hz2⟩ := info_parts Try.info98
  obtain ⟨v0, h0, hown⟩ := h.ex
  obtain ⟨ao, cap, rfl, hn0, _, _⟩ := owns_source hown
  have hc1 := h.c1
  have hf := h.f
  have hsz := h.sz
  have HH := Lib.hid h
  have HP := Lib.hid hH
  obtain ⟨n, hn⟩ : ∃ n, H.length = n := ⟨_, rfl⟩
  rw [hn] at h0 hown hl
  have HN := Lib.hid hn
  have HO := Lib.hid hown
  have hsp : w.heap.size ≠ p := by omega
  clear h hH hn hown hn0
  go_enter Try.func48, Try.ntmps48
  go_upto_region 3 with fail
  go_cut [] (fun wx => Que p (H ++ [⟨v, r, came⟩]) came wx ∧ Below p w wx)
  case first =>
    obtain ⟨w1, hw1⟩ : ∃ w1, w.alloc (Obj.cells #[.string (str v), .int .i64 r, .int .i64 came] 98) = w1 := ⟨_, rfl⟩
    have ho1 : w1.ownsRow (p + 1) 98 3 (.slice ao n cap) n (flat H) := by rw [← hw1]; exact HO.out.alloc _
    have hs1 : w1.heap.size = w.heap.size + 1 := by rw [← hw1]; simp
    have hc0' : w1.cell? ⟨p, 0, none⟩ = some (.slice ao n cap) := by rw [← hw1, World.cell?_alloc_lt _ _ _ hsz]; exact h0
    have hc1' : w1.cell? ⟨p, 1, none⟩ = some (.int .i64 came) := by rw [← hw1, World.cell?_alloc_lt _ _ _ hsz]; exact hc1
    have hb1 : Below w.heap.size w w1 := by rw [← hw1]; exact (Below.refl _ _).alloc (Nat.le_refl _) _
    have HF1 : Hid (∀ j, w1.frozen? ⟨p, j, none⟩ = false) := fun j => (hb1.frozen (p := ⟨p, j, none⟩) hsz).trans (hf j)
    have hnew : ∀ j u, [Value.string (str v), .int .i64 r, .int .i64 came][j]? = some u → w1.drew.cell? ((⟨w.heap.size, 0, none⟩ : Addr).add j) = some u := by
      intro j u hj
      show w1.cell? _ = _
      rw [← hw1, Addr.add_lit]
      match j, hj with
      | 0, hj => simp at hj; subst hj; simp [go_sem]
      | 1, hj => simp at hj; subst hj; simp [go_sem]
      | 2, hj => simp at hj; subst hj; simp [go_sem]
    have HNEW := Lib.hid hnew
    have h1c : ∀ u ∈ [Value.string (str v), .int .i64 r, .int .i64 came], u.oneCell' = true := by
      intro u hu
      simp at hu
      rcases hu with rfl | rfl | rfl <;> rfl
    have H1C := Lib.hid h1c
    have HO1 := Lib.hid ho1
    have HC0 := Lib.hid hc0'
    have HC1 := Lib.hid hc1'
    have HB1 := Lib.hid hb1
    have hrow : Hid (∀ q, (Value.slice ao n cap).ownBlock = some q → p + 1 ≤ q) := fun q hq => (HO.out.lt q hq).1
    clear hnew h1c ho1 hb1
    go_region_law ((refine step_append_lies _ rfl _ _ 76 rfl (p + 1) 98 i0 (.agg #[.string ⟨#[]⟩, .int .i64 0, .int .i64 0]) 3 32 Try.underlying76 hi0 hz0 hz1 hz2 rfl (by decide) _ n (flat H) rfl HO1.out.drew ⟨w.heap.size, 0, none⟩ 1 1 [.string (str v), .int .i64 r, .int .i64 came] rfl rfl HNEW.out H1C.out (by omega) (by unfold maxLen; omega) (by omega) (by simp; omega) _ rfl ?_); intro g cap' w2 own2 hg2 hor hgl; have d0 : w2.cell? ⟨p, 0, none⟩ = some (.slice ao n cap) := hg2.cell (a := ⟨p, 0, none⟩) HC0.out (fun e => by have := hrow.out _ e.symm; simp at this; omega); have d1 : w2.cell? ⟨p, 1, none⟩ = some (.int .i64 came) := hg2.cell (a := ⟨p, 1, none⟩) HC1.out (fun e => by have := hrow.out _ e.symm; simp at this; omega); have hb2 : Below (p + 1) w1.drew w2 := (Below.refl _ _).grown hg2 (by simp; omega) hrow.out; have d2 : ∀ j, w2.frozen? ⟨p, j, none⟩ = false := (fun j => (hb2.frozen (p := ⟨p, j, none⟩) (by simp)).trans (HF1.out j)); have OWN2 := Lib.hid own2; have HB2 := Lib.hid hb2; clear own2 hg2 hb2 hor)
    all_goals
      go_wp2
      go_meet
      refine ⟨que_mid HN.out OWN2.out d0 d1 d2 (by have := HB2.out.size; simp at this; omega), ?_⟩
      have r1 : Below p w w1 := HB1.out.mono (by omega)
      have r2 : Below p w1 w2 := Below.trans ((Below.refl p w1).drew) (HB2.out.mono (by omega))
      exact (r1.trans r2).setCell (p := ⟨p, 0, none⟩) (Nat.le_refl _) _
  case rest =>
    obtain ⟨hQ, hB⟩ := hcut
    have hq1 := hQ.c1
    have hqf := hQ.f
    have hqs := hQ.sz
    obtain ⟨g, gc, q0, _, _, _, _, _, _⟩ := hQ.open (by simp)
    have HQ := Lib.hid hQ
    have HB := Lib.hid hB
    have hlen : (H ++ [(⟨v, r, came⟩ : Itm)]).length = n + 1 := by rw [List.length_append, HN.out]; rfl
    rw [hlen] at q0
    have HL := Lib.hid hlen
    clear hQ hB hlen hc1 hf hsz h0
    have hcm : Hid ((H ++ [(⟨v, r, came⟩ : Itm)]).length = n + 1 ∧ Up (H ++ [⟨v, r, came⟩]) n) := ⟨HL.out, by have := Up.new HP.out (⟨v, r, came⟩ : Itm); rwa [HN.out] at this⟩
    have HQC := Lib.hid HQ.out.came
    go_wp2_with fail
    obtain ⟨W2, hW2⟩ : ∃ W2, wc.setCell ⟨p, 1, none⟩ (.int .i64 ((came : Int) + 1)) = W2 := ⟨_, rfl⟩
    rw [hW2]
    rw [hW2] at HQC
    have HB2 : Hid (Below p w W2) := by rw [← hW2]; exact HB.out.setCell (p := ⟨p, 1, none⟩) (Nat.le_refl _) _
    clear hW2 hq1 hqf hqs q0 HQ HB
    go_loopw [7] (fun i wr => ∃ (k : Nat) (K : List Itm), i = .int .i64 k ∧ Que p K (came + 1) wr ∧ Hid (Up K k ∧ K.Perm (H ++ [⟨v, r, came⟩])) ∧ k ≤ n ∧ Below p w wr) (fun i _ => (intOf i).toNat)
    case atStart => exact ⟨n, _, rfl, HQC.out, ⟨hcm.out.2, List.Perm.refl _⟩, Nat.le_refl _, HB2.out⟩
    case round =>
      obtain ⟨k, K, rfl, hQ, hK, hkn, hB⟩ := hrel
      have hKl : Hid (K.length = n + 1) := by have := hK.out.2.length_eq; rw [hcm.out.1] at this; exact this
      have HQ := Lib.hid hQ
      have HB := Lib.hid hB
      clear hQ hB
      by_cases hk0 : k = 0
      · subst hk0
        go_wp2_with fail
        go_ret
        exact ⟨rfl, ⟨K, HQ.out, hK.out.1.done (.inl rfl), hK.out.2⟩, HB.out⟩
      · obtain ⟨P, hP, hPk⟩ : ∃ P : Nat, ((k : Int) - 1) / 2 = (P : Int) ∧ (k - 1) / 2 = P := ⟨(k - 1) / 2, by omega, rfl⟩
        have hPl : P < k := by omega
        have HPK := Lib.hid hPk
        clear hPk
        have hbf := before_any p K (came + 1) k P wr HQ.out (by rw [hKl.out]; omega) (by rw [hKl.out]; omega) (by rw [hKl.out]; omega)
        obtain ⟨bb, hbb⟩ : ∃ bb, bef (at' K k) (at' K P) = bb := ⟨_, rfl⟩
        rw [hbb] at hbf
        have HBF := Lib.hid hbf
        have HBB := Lib.hid hbb
        clear hbf hbb
        go_wp2_with fail
        refine HBF.out.mono ?_
        rintro e w1 ⟨rfl, hb1⟩
        cases bb with
        | false =>
          have HB1 := Lib.hid hb1
          clear hb1
          go_wp2_with fail
          go_ret
          exact ⟨rfl, ⟨K, HQ.out.below HB1.out, hK.out.1.done (.inr (by rw [HPK.out]; exact HBB.out)), hK.out.2⟩, HB.out.trans (HB1.out.mono (by have := HQ.out.sz; omega))⟩
        | true =>
          have HQ1 := Lib.hid (HQ.out.below hb1)
          have HB1 := Lib.hid (HB.out.trans (hb1.mono (by have := HQ.out.sz; omega)))
          clear hb1
          go_wp2_with fail
          have hkl : k < K.length := by rw [hKl.out]; omega
          have hPl2 : P < K.length := by rw [hKl.out]; omega
          obtain ⟨g1, cap1, z0, _, hpg, hgl, hcap, hcell, hfr⟩ := HQ1.out.open (by omega)
          have HSW := Lib.hid (HQ1.out.swap z0 hkl hPl2)
          obtain ⟨a0, a1, a2⟩ := hcell k hkl
          obtain ⟨b0, b1, b2⟩ := hcell P hPl2
          have hfp := HQ1.out.f
          have hsp := HQ1.out.sz
          have hUp : Hid (Up (swap K k P) P) := by
            have := hK.out.1.step (by omega) hkl (by rw [HPK.out]; exact HBB.out)
            rw [HPK.out] at this; exact this
          have hPm := Lib.hid ((swap_perm K k P hkl hPl2).trans hK.out.2)
          obtain ⟨A, hA⟩ : ∃ A, at' K k = A := ⟨_, rfl⟩
          obtain ⟨B, hB⟩ : ∃ B, at' K P = B := ⟨_, rfl⟩
          rw [hA, hB] at HSW
          rw [hA] at a0 a1 a2
          rw [hB] at b0 b1 b2
          rw [hKl.out] at z0 hcap
          clear hA hB hcell hkl hPl2
          go_region
          go_wp2
          go_roundw
          case rel =>
            refine ⟨P, swap K k P, by rw [hP], ?_, ⟨hUp.out, hPm.out⟩, by omega, ?_⟩
            · exact HSW.out.drew
            · exact (swapW_below (by omega) HB1.out k P A B).drew
          case measure => simp [intOf]; omega


theorem qlen_any (p : Nat) (H : List Itm) (came : Nat) (w : World) (h : Que p H came w) :
    Calls Try.prog 50 #[.pointer (some ⟨p, 0, none⟩)] w fun e w' => e = .returned (.int .i64 H.length) ∧ w = w' := by
  obtain ⟨v0, h0, hown⟩ := h.ex
  obtain ⟨ao, cap, rfl, _, _, _⟩ := owns_source hown
  clear h hown
  obtain ⟨n, hn⟩ : ∃ n, H.length = n := ⟨_, rfl⟩
  rw [hn] at h0 ⊢
  clear hn
  go_enter Try.func50, Try.ntmps50
  go_wp2
  go_ret
  exact ⟨rfl, rfl⟩

theorem flat_take (H : List Itm) : ∀ m, (flat H).take (m * 3) = flat (H.take m) := by
  induction H with
  | nil => intro m; simp [flat]
  | cons x r ih =>
    intro m
    have e : ∀ (z : Itm) (q : List Itm), flat (z :: q) = .string (str z.v) :: .int .i64 z.r :: .int .i64 z.c :: flat q := by intro z q; simp [flat]
    cases m with
    | zero => simp [flat]
    | succ m => rw [e, List.take_succ_cons, e, show (m + 1) * 3 = m * 3 + 1 + 1 + 1 by omega, List.take_succ_cons, List.take_succ_cons, List.take_succ_cons, ih m]

/-- The queue's slice, cut. -/
theorem Que.cut {p came g cap n : Nat} {H : List Itm} {w : World} (h : Que p H came w) (hg : w.cell? ⟨p, 0, none⟩ = some (.slice (some ⟨g, 0, none⟩) H.length cap)) (hn : n ≤ H.length) :
    Que p (H.take n) came (w.setCell ⟨p, 0, none⟩ (.slice (some ⟨g, 0, none⟩) n cap)) := by
  obtain ⟨v, h0, ho⟩ := h.ex
  rw [hg] at h0
  injection h0 with h0
  subst h0
  have o := owns_take ho hn
  rw [flat_take] at o
  refine ⟨⟨_, World.cell?_setCell_same _ _ _ hg, ?_⟩, ?_, ?_, by simpa [World.setCell] using h.sz⟩
  · rw [List.length_take, Nat.min_eq_left hn]
    exact ownsRow_setCell_below o (by simp) _
  · rw [World.cell?_setCell_other _ _ _ _ (by intro e; cases e)]; exact h.c1
  · intro j; rw [World.frozen?_setCell]; exact h.f j
theorem Que.at {p came g cap : Nat} {H : List Itm} {w : World} (h : Que p H came w) (hg : w.cell? ⟨p, 0, none⟩ = some (.slice (some ⟨g, 0, none⟩) H.length cap)) :
    p < g ∧ g < w.heap.size ∧ H.length ≤ cap ∧ (∀ k, k < H.length → w.cell? ⟨g, k * 3, none⟩ = some (.string (str (at' H k).v)) ∧ w.cell? ⟨g, k * 3 + 1, none⟩ = some (.int .i64 (at' H k).r) ∧ w.cell? ⟨g, k * 3 + 2, none⟩ = some (.int .i64 (at' H k).c)) ∧ (∀ j, w.frozen? ⟨g, j, none⟩ = false) := by
  obtain ⟨v, h0, ho⟩ := h.ex
  rw [hg] at h0
  injection h0 with h0
  subst h0
  obtain ⟨a, b, c, _, hc, hf⟩ := owns_at ho
  refine ⟨by omega, b, c, ?_, hf⟩
  intro k hk
  obtain ⟨x, y, z⟩ := flat_get H k hk
  exact ⟨(hc _ (by omega)).trans x, (hc _ (by omega)).trans y, (hc _ (by omega)).trans z⟩

/-- What of a world's cells the three stores of an item leave alone. -/
def store3 (w : World) (g i : Nat) (x : Itm) : World := ((w.setCell ⟨g, i * 3, none⟩ (.string (str x.v))).setCell ⟨g, i * 3 + 1, none⟩ (.int .i64 x.r)).setCell ⟨g, i * 3 + 2, none⟩ (.int .i64 x.c)
theorem store3_cell (w : World) (g i : Nat) (x : Itm) (b o : Nat) (h : b ≠ g) : (store3 w g i x).cell? ⟨b, o, none⟩ = w.cell? ⟨b, o, none⟩ := by
  have hne : ∀ q, (⟨g, q, none⟩ : Addr) ≠ ⟨b, o, none⟩ := fun q e => h (congrArg Addr.block e).symm
  unfold store3
  rw [World.cell?_setCell_other _ _ _ _ (hne _), World.cell?_setCell_other _ _ _ _ (hne _), World.cell?_setCell_other _ _ _ _ (hne _)]
theorem store3_below {p g : Nat} (hpg : p ≤ g) {a w : World} (h : Below p a w) (i : Nat) (x : Itm) : Below p a (store3 w g i x) :=
  ((h.setCell (p := ⟨g, i * 3, none⟩) hpg _).setCell (p := ⟨g, i * 3 + 1, none⟩) hpg _).setCell (p := ⟨g, i * 3 + 2, none⟩) hpg _
theorem store3_size (w : World) (g i : Nat) (x : Itm) : (store3 w g i x).heap.size = w.heap.size := by simp [store3, World.setCell]
theorem swapW_cell (w : World) (g i k : Nat) (A B : Itm) (b o : Nat) (h : b ≠ g) : (swapW w g i k A B).drew.cell? ⟨b, o, none⟩ = w.cell? ⟨b, o, none⟩ := by
  rw [drew_cell]
  unfold swapW
  rw [far _ g _ b o _ h, far _ g _ b o _ h, far _ g _ b o _ h, far _ g _ b o _ h, far _ g _ b o _ h, far _ g _ b o _ h]

theorem swapW_lt (w : World) (g i k b : Nat) (A B : Itm) (h : b < w.heap.size) : b < (swapW w g i k A B).drew.heap.size := by
  rw [drew_size]
  unfold swapW
  rw [setCell_size, setCell_size, setCell_size, setCell_size, setCell_size, setCell_size]
  exact h

theorem store3_fr {p g : Nat} {a w : World} (h : Fr p g a w) (i : Nat) (x : Itm) : Fr p g a (store3 w g i x) := ((h.setG _ _).setG _ _).setG _ _
theorem swapW_fr {p g : Nat} {a w : World} (h : Fr p g a w) (i k : Nat) (A B : Itm) : Fr p g a (swapW w g i k A B) := (((((h.setG _ _).setG _ _).setG _ _).setG _ _).setG _ _).setG _ _

/-- What Take of a queue that is not empty says. -/
def Taken (p : Nat) (H : List Itm) (came : Nat) (w : World) (e : Ending) (w' : World) : Prop :=
  e = .returned (.tuple #[.string (str (at' H 0).v), .int .i64 (at' H 0).r, .int .i64 0]) ∧ (∃ H', Que p H' came w' ∧ Heap H' ∧ (at' H 0 :: H').Perm H ∧ ∃ g cap, p < g ∧ w.cell? ⟨p, 0, none⟩ = some (.slice (some ⟨g, 0, none⟩) H.length cap) ∧ w'.cell? ⟨p, 0, none⟩ = some (.slice (some ⟨g, 0, none⟩) H'.length cap) ∧ Fr p g w w')

set_option maxRecDepth 100000 in
set_option maxHeartbeats 2000000 in
theorem take_any (p : Nat) (H : List Itm) (came : Nat) (w : World) (h : Que p H came w) (hH : Heap H) (h1 : 1 ≤ H.length) (hl : H.length ≤ 4096) :
    Calls Try.prog 49 #[.pointer (some ⟨p, 0, none⟩)] w (Taken p H came w) := by
  obtain ⟨i0, hi0, hz0, hz1, hz2⟩ := info_parts Try.info98
  obtain ⟨g, cap, h0, hown, hpg, hgl, hcap, hcell, hfr⟩ := h.open (by omega)
  obtain ⟨n, hn⟩ : ∃ n, H.length = n + 1 := ⟨H.length - 1, by omega⟩
  obtain ⟨a0, a1, a2⟩ := hcell 0 (by omega)
  obtain ⟨b0, b1, b2⟩ := hcell n (by omega)
  have hc1 := h.c1
  have hpl := h.sz
  have hf := h.f
  obtain ⟨A, hA⟩ : ∃ A, at' H 0 = A := ⟨_, rfl⟩
  obtain ⟨L, hL⟩ : ∃ L, at' H n = L := ⟨_, rfl⟩
  have h0' := h0
  rw [hn] at h0 hcap hl
  rw [hA] at a0 a1 a2
  rw [hL] at b0 b1 b2
  rw [Nat.zero_mul] at a0 a1 a2
  have HQ := Lib.hid h
  have HS0 := Lib.hid h0'
  clear h0'
  have HP := Lib.hid hH
  have HN := Lib.hid hn
  have HA := Lib.hid hA
  have HL := Lib.hid hL
  have HO := Lib.hid hown
  have hfg := hfr
  clear h hH h1 hown hcell hfr hn hA hL
  go_enter Try.func49, Try.ntmps49
  go_upto_region 6 with fail
  obtain ⟨W1, hW1⟩ : ∃ W1, w.alloc (Obj.cells #[.string (str A.v), .int .i64 A.r, .int .i64 A.c] 98) = W1 := ⟨_, rfl⟩
  obtain ⟨b, hb⟩ : ∃ b, w.heap.size = b := ⟨_, rfl⟩
  have hB1 : Below w.heap.size w W1 := by rw [← hW1]; exact (Below.refl _ _).alloc (Nat.le_refl _) _
  have hQ1 := HQ.out.below hB1
  have hs1 : W1.heap.size = b + 1 := by rw [← hW1, ← hb]; simp
  have e0 : W1.cell? ⟨b, 0, none⟩ = some (.string (str A.v)) := by rw [← hW1, ← hb]; simp [go_sem]
  have e1 : W1.cell? ⟨b, 1, none⟩ = some (.int .i64 A.r) := by rw [← hW1, ← hb]; simp [go_sem]
  have mv : ∀ q o, q < w.heap.size → W1.cell? ⟨q, o, none⟩ = w.cell? ⟨q, o, none⟩ := fun q o hq => hB1.cell (p := ⟨q, o, none⟩) hq
  have mf : ∀ q o, q < w.heap.size → W1.frozen? ⟨q, o, none⟩ = w.frozen? ⟨q, o, none⟩ := fun q o hq => hB1.frozen (p := ⟨q, o, none⟩) hq
  have p0 := (mv p 0 hpl).trans h0
  have c0 := (mv g _ hgl).trans a0
  have c1 := (mv g _ hgl).trans a1
  have c2 := (mv g _ hgl).trans a2
  have d0 := (mv g _ hgl).trans b0
  have d1 := (mv g _ hgl).trans b1
  have d2 := (mv g _ hgl).trans b2
  have fg : ∀ j, W1.frozen? ⟨g, j, none⟩ = false := fun j => (mf g j hgl).trans (hfg j)
  have HQ1 := Lib.hid hQ1
  have HB1 : Hid (Fr p g w W1) := Fr.of_below hB1
  have hgb : g ≠ b := by omega
  have hpb : p ≠ b := by omega
  rw [hW1, hb]
  have HE := Lib.hid (And.intro e0 e1)
  have HP0 := Lib.hid p0
  clear hW1 hb mv mf h0 a0 a1 a2 b0 b1 b2 hc1 hf hfg hB1 hQ1 e0 e1
  go_cut [] (fun wx => Que p (H.set 0 L) came wx ∧ wx.cell? ⟨p, 0, none⟩ = some (.slice (some ⟨g, 0, none⟩) (n + 1) cap) ∧ wx.cell? ⟨b, 0, none⟩ = some (.string (str A.v)) ∧ wx.cell? ⟨b, 1, none⟩ = some (.int .i64 A.r) ∧ Fr p g w wx)
  case first =>
    go_region
    all_goals
      go_wp2
      go_meet
      have hst : Que p (H.set 0 L) came (store3 W1 g 0 L) := HQ1.out.store (by rw [HN.out]; exact HP0.out) (by rw [HN.out]; omega) L
      refine ⟨hst.drew, ?_, ?_, ?_, (store3_fr HB1.out 0 L).drew⟩
      · exact (store3_cell W1 g 0 L p 0 (by omega)).trans HP0.out
      · exact (store3_cell W1 g 0 L b 0 (by omega)).trans HE.out.1
      · exact (store3_cell W1 g 0 L b 1 (by omega)).trans HE.out.2
  case rest =>
    obtain ⟨hQ, hp0, hb0, hb1, hB⟩ := hcut
    obtain ⟨H1, hH1⟩ : ∃ H1, H.set 0 L = H1 := ⟨_, rfl⟩
    rw [hH1] at hQ
    have hl1 : H1.length = n + 1 := by rw [← hH1, List.length_set]; exact HN.out
    obtain ⟨hpg1, hgl1, _, hcell, hfg1⟩ := hQ.at (g := g) (cap := cap) (by rw [hl1]; exact hp0)
    obtain ⟨n0, n1, n2⟩ := hcell n (by omega)
    have hst : Que p (H1.set n none') came (store3 wc g n none') := hQ.store (by rw [hl1]; exact hp0) (by rw [hl1]; omega) none'
    have hct := hst.cut (n := n) (g := g) (cap := cap) (by rw [store3_cell wc g n none' p 0 (by omega), List.length_set, hl1]; exact hp0) (by rw [List.length_set, hl1]; omega)
    rw [List.take_set_of_le (by omega)] at hct
    have hqf := hQ.f
    have hqs := hQ.sz
    have hcut : ∀ W : World, (Instr.slice 76 (.slice (some ⟨g, 0, none⟩) (n + 1) cap) none (some (.int .i64 (n : Int))) none).run Try.prog W = .ok (.slice (some ⟨g, 0, none⟩) n cap) W := fun W => run_cut W 76 98 _ _ cap n i0 Try.underlying76 hi0 (by omega) (by intro h; cases h)
    have HCT := Lib.hid hct
    have HQ := Lib.hid hQ
    have HB := Lib.hid hB
    have HB01 := Lib.hid (And.intro hb0 hb1)
    have HH1 := Lib.hid hH1
    have HL1 := Lib.hid hl1
    clear hQ hct hst hcell hB hH1 hl1 hb0 hb1 p0 c0 c1 c2 d0 d1 d2 fg
    go_upto_block 0 with fail
    obtain ⟨W3, hW3⟩ : ∃ W3, (store3 wc g n none').setCell ⟨p, 0, none⟩ (.slice (some ⟨g, 0, none⟩) n cap) = W3 := ⟨_, rfl⟩
    have hE3 : W3.cell? ⟨b, 0, none⟩ = some (.string (str A.v)) ∧ W3.cell? ⟨b, 1, none⟩ = some (.int .i64 A.r) := by
      rw [← hW3]
      constructor
      · rw [World.cell?_setCell_other _ _ _ _ (fun e => hpb (congrArg Addr.block e)), store3_cell _ _ _ _ _ _ (by omega)]; exact HB01.out.1
      · rw [World.cell?_setCell_other _ _ _ _ (fun e => hpb (congrArg Addr.block e)), store3_cell _ _ _ _ _ _ (by omega)]; exact HB01.out.2
    have hG3 : W3.cell? ⟨p, 0, none⟩ = some (.slice (some ⟨g, 0, none⟩) n cap) := by
      rw [← hW3, World.cell?_setCell_same _ _ _ ((store3_cell wc g n none' p 0 (by omega)).trans hp0)]
    have hB3 : Fr p g w W3 := by rw [← hW3]; exact (store3_fr HB.out n none').setP _ _
    have hQ3 : Que p (H1.take n) came W3 := by rw [← hW3]; exact HCT.out
    have hb3 : b < W3.heap.size := World.block_lt_of_cell? W3 _ hE3.1
    have hK0 : Down (H1.take n) 0 ∧ (A :: H1.take n).Perm H ∧ (H1.take n).length = n := by
      rw [← HH1.out, ← HL.out, ← HA.out]
      refine ⟨Down.new HP.out n HN.out.symm, take_perm H n HN.out.symm, ?_⟩
      rw [List.length_take, List.length_set, HN.out]; omega
    change Code.wp Try.prog _ _ _ ((store3 wc g n none').setCell ⟨p, 0, none⟩ (.slice (some ⟨g, 0, none⟩) n cap))
    rw [hW3]
    obtain ⟨J, hJ⟩ : ∃ J, H1.take n = J := ⟨_, rfl⟩
    rw [hJ] at hQ3 hK0
    have HQ3 := Lib.hid hQ3
    have HE3 := Lib.hid hE3
    have HG3 := Lib.hid hG3
    have HB3 := Lib.hid hB3
    have HK0 := Lib.hid hK0
    clear hW3 hE3 hG3 hB3 hQ3 hK0 hJ HCT HQ HB HB01 hp0 n0 n1 n2 hqf hqs hcut hfg1 hgl1
    go_cut [] (fun wx => ∃ K, Que p K came wx ∧ Heap K ∧ (A :: K).Perm H ∧ wx.cell? ⟨b, 0, none⟩ = some (.string (str A.v)) ∧ wx.cell? ⟨b, 1, none⟩ = some (.int .i64 A.r) ∧ Fr p g w wx ∧ wx.cell? ⟨p, 0, none⟩ = some (.slice (some ⟨g, 0, none⟩) K.length cap))
    case first =>
      go_wp2_with fail
      go_loopw [8, 9] (fun iv _ wr => ∃ (i : Nat) (K : List Itm), iv = .int .i64 i ∧ Que p K came wr ∧ wr.cell? ⟨p, 0, none⟩ = some (.slice (some ⟨g, 0, none⟩) n cap) ∧ Hid (Down K i ∧ (A :: K).Perm H ∧ K.length = n) ∧
        wr.cell? ⟨b, 0, none⟩ = some (.string (str A.v)) ∧ wr.cell? ⟨b, 1, none⟩ = some (.int .i64 A.r) ∧ Fr p g w wr ∧ i ≤ n ∧ b < wr.heap.size) (fun iv _ _ => n - (intOf iv).toNat)
      case atStart => exact ⟨0, J, rfl, HQ3.out, HG3.out, HK0.out, HE3.out.1, HE3.out.2, HB3.out, by omega, hb3⟩
      case round =>
        obtain ⟨i, K, rfl, hQ, hG, HK, hE0, hE1, hB, hin, hbl⟩ := hrel
        have HQ := Lib.hid hQ
        have HG := Lib.hid hG
        have HE := Lib.hid (And.intro hE0 hE1)
        have HB := Lib.hid hB
        clear hQ hG hE0 hE1 hB
        by_cases hc1 : n ≤ 2 * i + 1
        · go_wp2_with fail
          go_meet
          exact ⟨K, HQ.out, HK.out.1.done (fun j hj1 hj hjp => by rw [HK.out.2.2] at hj; omega), HK.out.2.1, HE.out.1, HE.out.2, HB.out, by rw [HK.out.2.2]; exact HG.out⟩
        · obtain ⟨k1, hk1, hk1i⟩ : ∃ k1 : Nat, 2 * (i : Int) + 1 = (k1 : Int) ∧ k1 = 2 * i + 1 := ⟨2 * i + 1, by omega, rfl⟩
          have hk1n : k1 < n := by omega
          obtain ⟨k2, hk2, hk2i⟩ : ∃ k2 : Nat, (k1 : Int) + 1 = (k2 : Int) ∧ k2 = k1 + 1 := ⟨k1 + 1, by omega, rfl⟩
          have HK1 := Lib.hid hk1i
          have HK2 := Lib.hid hk2i
          clear hk1i hk2i
          by_cases hc2 : k2 < n
          · have hbf0 := before_any p K came k2 k1 wr HQ.out (by rw [HK.out.2.2]; omega) (by rw [HK.out.2.2]; omega) (by rw [HK.out.2.2]; omega)
            obtain ⟨b1, hb1⟩ : ∃ b1, bef (at' K k2) (at' K k1) = b1 := ⟨_, rfl⟩
            rw [hb1] at hbf0
            have HBF0 := Lib.hid hbf0
            have HB1' := Lib.hid hb1
            clear hbf0 hb1
            go_wp2_with fail
            refine HBF0.out.mono ?_
            rintro e wz ⟨rfl, hbb⟩
            have HQz := Lib.hid (HQ.out.below hbb)
            have HGz := Lib.hid ((hbb.cell (p := ⟨p, 0, none⟩) HQ.out.sz).trans HG.out)
            have HEz := Lib.hid (And.intro ((hbb.cell (p := ⟨b, 0, none⟩) hbl).trans HE.out.1) ((hbb.cell (p := ⟨b, 1, none⟩) hbl).trans HE.out.2))
            have HBz := Lib.hid (HB.out.trans (Fr.of_below hbb))
            have hbz : b < wz.heap.size := by have := hbb.size; omega
            clear hbb
            cases b1 with
            | true =>
              obtain ⟨KK, hKKe⟩ : ∃ KK, k2 = KK := ⟨_, rfl⟩
              have HKK : Hid (∀ j, 1 ≤ j → j < K.length → (j - 1) / 2 = i → Le (at' K KK) (at' K j)) := by
                intro j hj1 hj hjp
                rw [← hKKe]
                have h1 := HK1.out
                have h2 := HK2.out
                rcases (show j = k1 ∨ j = k2 by omega) with e | e
                · rw [e]; exact Le_of_bef HB1'.out
                · rw [e]; exact Le_refl _
              have hKn : KK < n := by omega
              have hKi : (KK - 1) / 2 = i ∧ 1 ≤ KK ∧ i < KK := by have h1 := HK1.out; have h2 := HK2.out; omega
              subst hKKe

              have hpar : (k2 - 1) / 2 = i := hKi.1
              have hbf := before_any p K came i k2 wz HQz.out (by rw [HK.out.2.2]; omega) (by rw [HK.out.2.2]; omega) (by rw [HK.out.2.2]; omega)
              obtain ⟨b2, hb2⟩ : ∃ b2, bef (at' K i) (at' K k2) = b2 := ⟨_, rfl⟩
              rw [hb2] at hbf
              have HBF := Lib.hid hbf
              have HB2 := Lib.hid hb2
              have hge : decide (n ≤ k2) = false := by simp; omega
              clear hbf hb2
              go_wp2_with fail
              refine HBF.out.mono ?_
              rintro e w2 ⟨rfl, hbb⟩
              have HQ2 := Lib.hid (HQz.out.below hbb)
              have HG2 := Lib.hid ((hbb.cell (p := ⟨p, 0, none⟩) HQz.out.sz).trans HGz.out)
              have HE2 := Lib.hid (And.intro ((hbb.cell (p := ⟨b, 0, none⟩) hbz).trans HEz.out.1) ((hbb.cell (p := ⟨b, 1, none⟩) hbz).trans HEz.out.2))
              have HBz2 := Lib.hid (HBz.out.trans (Fr.of_below hbb))
              have hbz2 : b < w2.heap.size := by have := hbb.size; omega
              clear hbb
              cases b2 with
              | true =>
                go_wp2_with fail
                go_meet
                refine ⟨K, HQ2.out, ?_, HK.out.2.1, HE2.out.1, HE2.out.2, HBz2.out, by rw [HK.out.2.2]; exact HG2.out⟩
                refine HK.out.1.done fun j hj1 hj hjp => Le_trans (Le_of_bef HB2.out) (HKK.out j hj1 hj hjp)
              | false =>
                have hil : i < K.length := by rw [HK.out.2.2]; omega
                have hkl : k2 < K.length := by rw [HK.out.2.2]; omega
                have z0 := HG2.out
                have hsw := HQ2.out.swap (g := g) (cap := cap) (by rw [HK.out.2.2]; exact z0) hil hkl
                obtain ⟨hpg2, hgl2, _, hcell, hfr2⟩ := HQ2.out.at (g := g) (cap := cap) (by rw [HK.out.2.2]; exact z0)
                obtain ⟨a0, a1, a2⟩ := hcell i hil
                obtain ⟨b0, b1, b2⟩ := hcell k2 hkl
                have hfp := HQ2.out.f
                have hsp := HQ2.out.sz
                have hDn := HK.out.1.step hil hkl (by omega) hpar HB2.out HKK.out
                have hPm : (A :: swap K i k2).Perm H := ((swap_perm K i k2 hil hkl).cons A).trans HK.out.2.1
                have HR : Hid (Down (swap K i k2) k2 ∧ (A :: swap K i k2).Perm H ∧ (swap K i k2).length = n) := ⟨hDn, hPm, by rw [swap_length]; exact HK.out.2.2⟩
                obtain ⟨X, hX⟩ : ∃ X, at' K i = X := ⟨_, rfl⟩
                obtain ⟨Y, hY⟩ : ∃ Y, at' K k2 = Y := ⟨_, rfl⟩
                rw [hX, hY] at hsw
                rw [hX] at a0 a1 a2
                rw [hY] at b0 b1 b2
                have HSW := Lib.hid hsw
                clear hX hY hcell hil hkl hsw hDn hPm
                go_wp2_with fail
                go_region
                go_wp2
                go_roundw
                case rel =>
                  refine ⟨k2, swap K i k2, rfl, HSW.out.drew, ?_, HR.out, ?_, ?_, (swapW_fr HBz2.out i k2 X Y).drew, by omega, ?_⟩
                  · exact (swapW_cell w2 g i k2 X Y p 0 (by omega)).trans HG2.out
                  · exact (swapW_cell w2 g i k2 X Y b 0 (by omega)).trans HE2.out.1
                  · exact (swapW_cell w2 g i k2 X Y b 1 (by omega)).trans HE2.out.2
                  · exact swapW_lt w2 g i k2 b X Y hbz2
                case measure => simp [intOf]; omega

            | false =>
              have HKK : Hid (∀ j, 1 ≤ j → j < K.length → (j - 1) / 2 = i → Le (at' K k1) (at' K j)) := by
                intro j hj1 hj hjp
                have h1 := HK1.out
                have h2 := HK2.out
                rcases (show j = k1 ∨ j = k2 by omega) with e | e
                · rw [e]; exact Le_refl _
                · rw [e]; exact HB1'.out
              have hKi : (k1 - 1) / 2 = i ∧ 1 ≤ k1 ∧ i < k1 := by have h1 := HK1.out; omega

              have hpar : (k1 - 1) / 2 = i := hKi.1
              have hbf := before_any p K came i k1 wz HQz.out (by rw [HK.out.2.2]; omega) (by rw [HK.out.2.2]; omega) (by rw [HK.out.2.2]; omega)
              obtain ⟨b2, hb2⟩ : ∃ b2, bef (at' K i) (at' K k1) = b2 := ⟨_, rfl⟩
              rw [hb2] at hbf
              have HBF := Lib.hid hbf
              have HB2 := Lib.hid hb2
              have hge : decide (n ≤ k1) = false := by simp; omega
              clear hbf hb2
              go_wp2_with fail
              refine HBF.out.mono ?_
              rintro e w2 ⟨rfl, hbb⟩
              have HQ2 := Lib.hid (HQz.out.below hbb)
              have HG2 := Lib.hid ((hbb.cell (p := ⟨p, 0, none⟩) HQz.out.sz).trans HGz.out)
              have HE2 := Lib.hid (And.intro ((hbb.cell (p := ⟨b, 0, none⟩) hbz).trans HEz.out.1) ((hbb.cell (p := ⟨b, 1, none⟩) hbz).trans HEz.out.2))
              have HBz2 := Lib.hid (HBz.out.trans (Fr.of_below hbb))
              have hbz2 : b < w2.heap.size := by have := hbb.size; omega
              clear hbb
              cases b2 with
              | true =>
                go_wp2_with fail
                go_meet
                refine ⟨K, HQ2.out, ?_, HK.out.2.1, HE2.out.1, HE2.out.2, HBz2.out, by rw [HK.out.2.2]; exact HG2.out⟩
                refine HK.out.1.done fun j hj1 hj hjp => Le_trans (Le_of_bef HB2.out) (HKK.out j hj1 hj hjp)
              | false =>
                have hil : i < K.length := by rw [HK.out.2.2]; omega
                have hkl : k1 < K.length := by rw [HK.out.2.2]; omega
                have z0 := HG2.out
                have hsw := HQ2.out.swap (g := g) (cap := cap) (by rw [HK.out.2.2]; exact z0) hil hkl
                obtain ⟨hpg2, hgl2, _, hcell, hfr2⟩ := HQ2.out.at (g := g) (cap := cap) (by rw [HK.out.2.2]; exact z0)
                obtain ⟨a0, a1, a2⟩ := hcell i hil
                obtain ⟨b0, b1, b2⟩ := hcell k1 hkl
                have hfp := HQ2.out.f
                have hsp := HQ2.out.sz
                have hDn := HK.out.1.step hil hkl (by omega) hpar HB2.out HKK.out
                have hPm : (A :: swap K i k1).Perm H := ((swap_perm K i k1 hil hkl).cons A).trans HK.out.2.1
                have HR : Hid (Down (swap K i k1) k1 ∧ (A :: swap K i k1).Perm H ∧ (swap K i k1).length = n) := ⟨hDn, hPm, by rw [swap_length]; exact HK.out.2.2⟩
                obtain ⟨X, hX⟩ : ∃ X, at' K i = X := ⟨_, rfl⟩
                obtain ⟨Y, hY⟩ : ∃ Y, at' K k1 = Y := ⟨_, rfl⟩
                rw [hX, hY] at hsw
                rw [hX] at a0 a1 a2
                rw [hY] at b0 b1 b2
                have HSW := Lib.hid hsw
                clear hX hY hcell hil hkl hsw hDn hPm
                go_wp2_with fail
                go_region
                go_wp2
                go_roundw
                case rel =>
                  refine ⟨k1, swap K i k1, rfl, HSW.out.drew, ?_, HR.out, ?_, ?_, (swapW_fr HBz2.out i k1 X Y).drew, by omega, ?_⟩
                  · exact (swapW_cell w2 g i k1 X Y p 0 (by omega)).trans HG2.out
                  · exact (swapW_cell w2 g i k1 X Y b 0 (by omega)).trans HE2.out.1
                  · exact (swapW_cell w2 g i k1 X Y b 1 (by omega)).trans HE2.out.2
                  · exact swapW_lt w2 g i k1 b X Y hbz2
                case measure => simp [intOf]; omega

          · have HQz := HQ
            have HGz := HG
            have HEz := HE
            have HBz := HB
            obtain ⟨wz, hwz⟩ : ∃ wz, wr = wz := ⟨_, rfl⟩
            subst hwz
            have hbz := hbl
            have HKK : Hid (∀ j, 1 ≤ j → j < K.length → (j - 1) / 2 = i → Le (at' K k1) (at' K j)) := by
              intro j hj1 hj hjp
              rw [HK.out.2.2] at hj
              have h1 := HK1.out
              have h2 := HK2.out
              rw [show j = k1 by omega]; exact Le_refl _
            have hKi : (k1 - 1) / 2 = i ∧ 1 ≤ k1 ∧ i < k1 := by have h1 := HK1.out; omega

            have hpar : (k1 - 1) / 2 = i := hKi.1
            have hbf := before_any p K came i k1 wr HQz.out (by rw [HK.out.2.2]; omega) (by rw [HK.out.2.2]; omega) (by rw [HK.out.2.2]; omega)
            obtain ⟨b2, hb2⟩ : ∃ b2, bef (at' K i) (at' K k1) = b2 := ⟨_, rfl⟩
            rw [hb2] at hbf
            have HBF := Lib.hid hbf
            have HB2 := Lib.hid hb2
            have hge : decide (n ≤ k1) = false := by simp; omega
            clear hbf hb2
            go_wp2_with fail
            refine HBF.out.mono ?_
            rintro e w2 ⟨rfl, hbb⟩
            have HQ2 := Lib.hid (HQz.out.below hbb)
            have HG2 := Lib.hid ((hbb.cell (p := ⟨p, 0, none⟩) HQz.out.sz).trans HGz.out)
            have HE2 := Lib.hid (And.intro ((hbb.cell (p := ⟨b, 0, none⟩) hbz).trans HEz.out.1) ((hbb.cell (p := ⟨b, 1, none⟩) hbz).trans HEz.out.2))
            have HBz2 := Lib.hid (HBz.out.trans (Fr.of_below hbb))
            have hbz2 : b < w2.heap.size := by have := hbb.size; omega
            clear hbb
            cases b2 with
            | true =>
              go_wp2_with fail
              go_meet
              refine ⟨K, HQ2.out, ?_, HK.out.2.1, HE2.out.1, HE2.out.2, HBz2.out, by rw [HK.out.2.2]; exact HG2.out⟩
              refine HK.out.1.done fun j hj1 hj hjp => Le_trans (Le_of_bef HB2.out) (HKK.out j hj1 hj hjp)
            | false =>
              have hil : i < K.length := by rw [HK.out.2.2]; omega
              have hkl : k1 < K.length := by rw [HK.out.2.2]; omega
              have z0 := HG2.out
              have hsw := HQ2.out.swap (g := g) (cap := cap) (by rw [HK.out.2.2]; exact z0) hil hkl
              obtain ⟨hpg2, hgl2, _, hcell, hfr2⟩ := HQ2.out.at (g := g) (cap := cap) (by rw [HK.out.2.2]; exact z0)
              obtain ⟨a0, a1, a2⟩ := hcell i hil
              obtain ⟨b0, b1, b2⟩ := hcell k1 hkl
              have hfp := HQ2.out.f
              have hsp := HQ2.out.sz
              have hDn := HK.out.1.step hil hkl (by omega) hpar HB2.out HKK.out
              have hPm : (A :: swap K i k1).Perm H := ((swap_perm K i k1 hil hkl).cons A).trans HK.out.2.1
              have HR : Hid (Down (swap K i k1) k1 ∧ (A :: swap K i k1).Perm H ∧ (swap K i k1).length = n) := ⟨hDn, hPm, by rw [swap_length]; exact HK.out.2.2⟩
              obtain ⟨X, hX⟩ : ∃ X, at' K i = X := ⟨_, rfl⟩
              obtain ⟨Y, hY⟩ : ∃ Y, at' K k1 = Y := ⟨_, rfl⟩
              rw [hX, hY] at hsw
              rw [hX] at a0 a1 a2
              rw [hY] at b0 b1 b2
              have HSW := Lib.hid hsw
              clear hX hY hcell hil hkl hsw hDn hPm
              go_wp2_with fail
              go_region
              go_wp2
              go_roundw
              case rel =>
                refine ⟨k1, swap K i k1, rfl, HSW.out.drew, ?_, HR.out, ?_, ?_, (swapW_fr HBz2.out i k1 X Y).drew, by omega, ?_⟩
                · exact (swapW_cell w2 g i k1 X Y p 0 (by omega)).trans HG2.out
                · exact (swapW_cell w2 g i k1 X Y b 0 (by omega)).trans HE2.out.1
                · exact (swapW_cell w2 g i k1 X Y b 1 (by omega)).trans HE2.out.2
                · exact swapW_lt w2 g i k1 b X Y hbz2
              case measure => simp [intOf]; omega
    case rest =>
      obtain ⟨K, hQ, hK, hPm, hE0, hE1, hB, hsl⟩ := hcut
      have HQ := Lib.hid hQ
      have HB := Lib.hid hB
      have hbs := World.block_lt_of_cell? wc _ hE0
      clear hQ hB
      go_wp2_with fail
      refine region_grow (by kernel_rfl) (by kernel_rfl) ?_
      repeat (go_big_quiet_step ((fail)))
      refine wpQuiet_nil ?_
      intro _ hw'
      obtain ⟨kk, mm, rfl⟩ := hw'
      go_wp2
      go_ret3
      exact ⟨by rw [HA.out]; rfl, ⟨K, HQ.out.ext _ _, hK, by rw [HA.out]; exact hPm, g, cap, hpg, HS0.out, by rw [cell_ext _ _ _ _ _ HQ.out.sz]; exact hsl, HB.out.trans (Fr.of_below (below_ext _ _ _))⟩⟩
end Go.Proofs.Ytfeibjokifidmaa.S
