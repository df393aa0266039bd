/- mesh.turn. -/
import Derived.Test.YtaiflkjchbpphaaPi
import Derived.Deep.DeepCutAuto
import Derived.RegionTactic
import Derived.Deep.RegionWith
import Derived.BigRegion
namespace Go.Proofs.Ytaiflkjchbpphaa.P
open Go.RowKit

/-- Gates in a block. -/
def Gts (w : World) (g n : Nat) (G : Nat → Pt × Pt) : Prop := ∀ j, j < n → w.cell? ⟨g, j * 4, none⟩ = some (.int .i64 (G j).1.1) ∧ w.cell? ⟨g, j * 4 + 1, none⟩ = some (.int .i64 (G j).1.2) ∧ w.cell? ⟨g, j * 4 + 2, none⟩ = some (.int .i64 (G j).2.1) ∧ w.cell? ⟨g, j * 4 + 3, none⟩ = some (.int .i64 (G j).2.2)
theorem Gts.on {w w' : World} {g n : Nat} {G : Nat → Pt × Pt} (h : Gts w g n G) (hb : Below w.heap.size w w') (hg : g < w.heap.size) : Gts w' g n G := fun j hj =>
  ⟨(hb.cell (p := ⟨g, j * 4, none⟩) hg).trans (h j hj).1, (hb.cell (p := ⟨g, j * 4 + 1, none⟩) hg).trans (h j hj).2.1, (hb.cell (p := ⟨g, j * 4 + 2, none⟩) hg).trans (h j hj).2.2.1, (hb.cell (p := ⟨g, j * 4 + 3, none⟩) hg).trans (h j hj).2.2.2⟩
def SmallG (G : Nat → Pt × Pt) (n : Nat) : Prop := ∀ j, j < n → Small (G j).1 ∧ Small (G j).2

/-- A point in a block of its own. -/
structure At (w : World) (b : Nat) (P : Pt) : Prop where
  c0 : w.cell? ⟨b, 0, none⟩ = some (.int .i64 P.1)
  c1 : w.cell? ⟨b, 1, none⟩ = some (.int .i64 P.2)
  f0 : w.frozen? ⟨b, 0, none⟩ = false
  f1 : w.frozen? ⟨b, 1, none⟩ = false
  lt : b < w.heap.size
theorem At.on {w w' : World} {b : Nat} {P : Pt} (h : At w b P) (hb : Below w.heap.size w w') : At w' b P :=
  ⟨(hb.cell (p := ⟨b, 0, none⟩) h.lt).trans h.c0, (hb.cell (p := ⟨b, 1, none⟩) h.lt).trans h.c1, (hb.frozen (p := ⟨b, 0, none⟩) h.lt).trans h.f0, (hb.frozen (p := ⟨b, 1, none⟩) h.lt).trans h.f1, Nat.lt_of_lt_of_le h.lt hb.size⟩
theorem At.other {w : World} {b c : Nat} {P : Pt} (h : At w b P) (hc : b ≠ c) (j : Nat) (v : Value) : At (w.setCell ⟨c, j, none⟩ v) b P := by
  have e : ∀ i, (w.setCell ⟨c, j, none⟩ v).cell? ⟨b, i, none⟩ = w.cell? ⟨b, i, none⟩ := fun i => World.cell?_setCell_other _ _ _ _ (fun e => hc (congrArg Addr.block e).symm)
  exact ⟨(e 0).trans h.c0, (e 1).trans h.c1, by rw [World.frozen?_setCell]; exact h.f0, by rw [World.frozen?_setCell]; exact h.f1, by simpa [World.setCell] using h.lt⟩
theorem At.put {w : World} {b : Nat} {P : Pt} (h : At w b P) (Q : Pt) : At ((w.setCell ⟨b, 0, none⟩ (.int .i64 Q.1)).setCell ⟨b, 1, none⟩ (.int .i64 Q.2)) b Q := by
  refine ⟨?_, ?_, by rw [World.frozen?_setCell, World.frozen?_setCell]; exact h.f0, by rw [World.frozen?_setCell, World.frozen?_setCell]; exact h.f1, by simpa [World.setCell] using h.lt⟩
  · rw [World.cell?_setCell_other _ _ _ _ (fun e => by have := congrArg Addr.off e; simp only [] at this; omega)]
    exact World.cell?_setCell_same _ _ _ h.c0
  · exact World.cell?_setCell_same _ _ _ ((World.cell?_setCell_other _ _ _ _ (fun e => by have := congrArg Addr.off e; simp only [] at this; omega)).trans h.c1)

theorem at_two1 (V : World) (P Q : Pt) : At ((V.alloc (.cells #[.int .i64 P.1, .int .i64 P.2] 24)).alloc (.cells #[.int .i64 Q.1, .int .i64 Q.2] 24)).drew V.heap.size P := by
  refine ⟨?_, ?_, ?_, ?_, by simp; omega⟩ <;> simp [go_sem]
theorem at_two2 (V : World) (P Q : Pt) : At ((V.alloc (.cells #[.int .i64 P.1, .int .i64 P.2] 24)).alloc (.cells #[.int .i64 Q.1, .int .i64 Q.2] 24)).drew (V.heap.size + 1) Q := by
  refine ⟨?_, ?_, ?_, ?_, by simp⟩ <;> simp [go_sem]
theorem below_two (V : World) {B : Nat} (hB : B ≤ V.heap.size) (x y : Obj) : Below B V ((V.alloc x).alloc y).drew := (((Below.refl B V).alloc hB _).alloc (by simp; omega) _).drew

/-- The funnel in memory: l in block bl, r in block br. -/
structure Tst (B : Nat) (V : World) (G : Nat → Pt × Pt) (n i : Nat) (A : Pt) (bl br k li ri : Nat) (l r : Pt) (w : World) : Prop where
  atl : At w bl l
  atr : At w br r
  bel : Below B V w
  sl : Small l
  sr : Small r
  go : ∀ P x, Trn G n A k l r li ri P x → Trn G n A (i + 1) (G i).1 (G i).2 i i P x

theorem Tst.next {B : Nat} {V : World} {G : Nat → Pt × Pt} {n i : Nat} {A : Pt} {bl br k li ri : Nat} {l r a b : Pt} {w w' : World} (h : Tst B V G n i A bl br k li ri l r w) (hk : k < n) (hG : G k = (a, b)) (h1 : ¬ 0 < cr A l b) (h2 : ¬ cr A r a < 0) {l' r' : Pt} {li' ri' : Nat}
    (hl : (cr A l a ≤ 0 ∧ l' = a ∧ li' = k) ∨ (¬ cr A l a ≤ 0 ∧ l' = l ∧ li' = li)) (hr : (0 ≤ cr A r b ∧ r' = b ∧ ri' = k) ∨ (¬ 0 ≤ cr A r b ∧ r' = r ∧ ri' = ri))
    (hal : At w' bl l') (har : At w' br r') (hb : Below B V w') (sa : Small a) (sb : Small b) : Tst B V G n i A bl br (k + 1) li' ri' l' r' w' := by
  refine ⟨hal, har, hb, ?_, ?_, fun P x hT => h.go P x ?_⟩
  · rcases hl with ⟨_, rfl, _⟩ | ⟨_, rfl, _⟩
    · exact sa
    · exact h.sl
  · rcases hr with ⟨_, rfl, _⟩ | ⟨_, rfl, _⟩
    · exact sb
    · exact h.sr
  · refine .go k l r li ri P x hk (by rw [hG]; omega) (by rw [hG]; omega) ?_
    rw [hG]
    simp only
    rcases hl with ⟨e1, rfl, rfl⟩ | ⟨e1, rfl, rfl⟩ <;> rcases hr with ⟨e2, rfl, rfl⟩ | ⟨e2, rfl, rfl⟩
    · rw [if_pos e1, if_pos e1, if_pos e2, if_pos e2]; exact hT
    · rw [if_pos e1, if_pos e1, if_neg e2, if_neg e2]; exact hT
    · rw [if_neg e1, if_neg e1, if_pos e2, if_pos e2]; exact hT
    · rw [if_neg e1, if_neg e1, if_neg e2, if_neg e2]; exact hT

/-- What turn answers. -/
def Trnd (G : Nat → Pt × Pt) (n i : Nat) (A : Pt) (w : World) (e : Ending) (w' : World) : Prop := (∃ (P : Pt) (x : Nat), e = .returned (.tuple #[vec P, .int .i64 x]) ∧ Trn G n A (i + 1) (G i).1 (G i).2 i i P x) ∧ Below w.heap.size w w'

set_option maxRecDepth 8000 in
set_option maxHeartbeats 4000000 in
theorem turn_any (g n cap i : Nat) (G : Nat → Pt × Pt) (A : Pt) (w : World) (h : Gts w g n G) (hg : g < w.heap.size) (hn : n ≤ 200) (hs : SmallG G n) (hA : Small A) (hi : i < n) :
    Calls Try.prog 37 #[.slice (some ⟨g, 0, none⟩) n cap, .int .i64 i, vec A] w (Trnd G n i A w) := by
  have HG := Lib.hid h
  have HS := Lib.hid hs
  obtain ⟨g0, g1, g2, g3⟩ := h i hi
  obtain ⟨⟨⟨xl, yl⟩, ⟨xr, yr⟩⟩, hGi⟩ : ∃ y, G i = y := ⟨_, rfl⟩
  rw [hGi] at g0 g1 g2 g3
  simp only at g0 g1 g2 g3
  have HGI := Lib.hid hGi
  obtain ⟨ax, ay⟩ := A
  have i1 : (i : Int) < n := by omega
  obtain ⟨⟨sl1, sl2⟩, ⟨sr1, sr2⟩⟩ := (by have := hs i hi; rw [hGi] at this; exact this : Small (xl, yl) ∧ Small (xr, yr))
  clear h hs hGi
  go_enter Try.func37, Try.ntmps37
  obtain ⟨o, ho⟩ : ∃ o, w.heap.size = o := ⟨_, rfl⟩
  go_upto_region 1 with fail
  obtain ⟨V, hV⟩ : ∃ V, (w.alloc (Obj.cells #[.int .i64 ax, .int .i64 ay] 24)).alloc (Obj.cells #[.int .i64 0, .int .i64 0] 24) = V := ⟨_, rfl⟩
  have hVb := Lib.hid (show Below w.heap.size w V from hV ▸ Below.al (Below.al (Below.refl _ _) _) _)
  have hVs : V.heap.size = o + 2 := by rw [← hV, ← ho]; simp
  have va0 : V.cell? ⟨o, 0, none⟩ = some (.int .i64 ax) := by rw [← hV, ← ho]; simp [go_sem]
  have va1 : V.cell? ⟨o, 1, none⟩ = some (.int .i64 ay) := by rw [← hV, ← ho]; simp [go_sem]
  have hres : Hid (At V (o + 1) (0, 0)) := by
    refine ⟨?_, ?_, ?_, ?_, by omega⟩
    all_goals rw [← hV, ← ho]; simp [go_sem]
  have vg0 := (hVb.out.cell (p := ⟨g, i * 4, none⟩) hg).trans g0
  have vg1 := (hVb.out.cell (p := ⟨g, i * 4 + 1, none⟩) hg).trans g1
  have vg2 := (hVb.out.cell (p := ⟨g, i * 4 + 2, none⟩) hg).trans g2
  have vg3 := (hVb.out.cell (p := ⟨g, i * 4 + 3, none⟩) hg).trans g3
  rw [hV]
  have vg3' : V.cell? ⟨g, i * 4 + 2 + 1, none⟩ = some (.int .i64 yr) := vg3
  have hgV : g < V.heap.size := Nat.lt_of_lt_of_le hg hVb.out.size
  have HVS := Lib.hid hVs
  clear hV g0 g1 g2 g3 hVs
  go_cut [8, 9] (fun s8 s9 wx => ∃ bl br : Nat, s8 = .pointer (some ⟨bl, 0, none⟩) ∧ s9 = .pointer (some ⟨br, 0, none⟩) ∧ bl ≠ br ∧ o + 2 ≤ bl ∧ o + 2 ≤ br ∧ At wx bl (xl, yl) ∧ At wx br (xr, yr) ∧ Below (o + 2) V wx)
  case first =>
    go_region
    all_goals
      go_wp2_with fail
      go_meet
      have hsz := HVS.out
      first
        | exact ⟨_, _, rfl, rfl, by omega, by omega, by omega, at_two1 V (xl, yl) (xr, yr), at_two2 V (xl, yl) (xr, yr), below_two V (by omega) _ _⟩
        | exact ⟨_, _, rfl, rfl, by omega, by omega, by omega, at_two2 V (xr, yr) (xl, yl), at_two1 V (xr, yr) (xl, yl), below_two V (by omega) _ _⟩
  case rest =>
    obtain ⟨bl, br, rfl, rfl, hne, hbl, hbr, hal, har, hbe⟩ := hcut
    have HT0 : Hid (Tst (o + 2) V G n i (ax, ay) bl br (i + 1) i i (xl, yl) (xr, yr) wc) := by
      show Tst (o + 2) V G n i (ax, ay) bl br (i + 1) i i (xl, yl) (xr, yr) wc
      refine ⟨hal, har, hbe, ⟨sl1, sl2⟩, ⟨sr1, sr2⟩, fun P x hT => ?_⟩
      rw [HGI.out]
      exact hT
    clear hal har hbe vg0 vg1 vg2 vg3 vg3'
    go_wp2_with fail
    go_loopw [10, 11, 12] (fun v10 v11 v12 wx => ∃ (k li ri : Nat) (l r : Pt), v12 = .int .i64 k ∧ v10 = .int .i64 li ∧ v11 = .int .i64 ri ∧ i + 1 ≤ k ∧ k ≤ n ∧ li < n ∧ ri < n ∧ Hid (Tst (o + 2) V G n i (ax, ay) bl br k li ri l r wx)) (fun _ _ v12 _ => n - (intOf v12).toNat)
    case atStart => exact ⟨i + 1, i, i, (xl, yl), (xr, yr), by push_cast; rfl, rfl, rfl, Nat.le_refl _, hi, hi, hi, HT0.out⟩
    case round =>
      obtain ⟨k, li, ri, l, r, rfl, rfl, rfl, hik, hkn, hli, hri, hR⟩ := hrel
      have hsV := HVS.out
      have hVw : Hid (Below w.heap.size w wr) := hVb.out.trans (hR.out.bel.mono (by omega))
      have hor : o + 2 ≤ wr.heap.size := by have := hR.out.bel.size; omega
      have wa0 := (hR.out.bel.cell (p := ⟨o, 0, none⟩) (by simp only []; omega)).trans va0
      have wa1 := (hR.out.bel.cell (p := ⟨o, 1, none⟩) (by simp only []; omega)).trans va1
      have hgw : g < wr.heap.size := Nat.lt_of_lt_of_le hg hVw.out.size
      have HRES : Hid (At wr (o + 1) (0, 0)) :=
        ⟨(hR.out.bel.cell (p := ⟨o + 1, 0, none⟩) (by simp only []; omega)).trans hres.out.c0, (hR.out.bel.cell (p := ⟨o + 1, 1, none⟩) (by simp only []; omega)).trans hres.out.c1, (hR.out.bel.frozen (p := ⟨o + 1, 0, none⟩) (by simp only []; omega)).trans hres.out.f0, (hR.out.bel.frozen (p := ⟨o + 1, 1, none⟩) (by simp only []; omega)).trans hres.out.f1, by omega⟩
      clear hsV
      by_cases hk0 : k = n
      · obtain ⟨t, ht⟩ : ∃ t, t + 1 = n := ⟨n - 1, by omega⟩
        have k1 : ¬ (k : Int) < n := by omega
        have k2 : (n : Int) - 1 = (t : Int) := by omega
        have k3 : (t : Int) < n := by omega
        have htn : t < n := by omega
        have ht1 : n - 1 = t := by omega
        obtain ⟨g0, g1, _, _⟩ := HG.out t htn
        have c0 := (hVw.out.cell (p := ⟨g, t * 4, none⟩) hg).trans g0
        have c1 := (hVw.out.cell (p := ⟨g, t * 4 + 1, none⟩) hg).trans g1
        obtain ⟨⟨px, py⟩, hP⟩ : ∃ P, (G t).1 = P := ⟨_, rfl⟩
        rw [hP] at c0 c1
        simp only at c0 c1
        have HP := Lib.hid hP
        have HT1 := Lib.hid ht1
        have HK := Lib.hid hk0
        have rc0 := HRES.out.c0
        have rc1 := HRES.out.c1
        have rf0 := HRES.out.f0
        have rf1 := HRES.out.f1
        have hor1 : o + 1 < wr.heap.size := by omega
        clear g0 g1 hP ht ht1 hk0
        go_wp2_with fail
        refine bodyPost_ret (v := .tuple #[vec (px, py), .int .i64 n]) (by simp [results, Try.results37, go_sem, rc0, rc1]) rfl ⟨⟨(px, py), n, rfl, ?_⟩, ?_⟩
        · have := hR.out.go (px, py) n (by
            have := Trn.done (G := G) (n := n) (A := (ax, ay)) l r li ri
            rw [HT1.out, HP.out] at this
            rw [HK.out]
            exact this)
          exact this
        · exact (hVw.out.setCell (p := ⟨o + 1, 0, none⟩) (by simp only []; omega) _).setCell (p := ⟨o + 1, 1, none⟩) (by simp only []; omega) _
      · have hkl : k < n := by omega
        have k1 : (k : Int) < n := by omega
        obtain ⟨g0, g1, g2, g3⟩ := HG.out k hkl
        have c0 := (hVw.out.cell (p := ⟨g, k * 4, none⟩) hg).trans g0
        have c1 := (hVw.out.cell (p := ⟨g, k * 4 + 1, none⟩) hg).trans g1
        have c2 := (hVw.out.cell (p := ⟨g, k * 4 + 2, none⟩) hg).trans g2
        have c3 := (hVw.out.cell (p := ⟨g, k * 4 + 3, none⟩) hg).trans g3
        obtain ⟨hSa, hSb⟩ := HS.out k hkl
        obtain ⟨⟨⟨pa, qa⟩, ⟨pb, qb⟩⟩, hGk⟩ : ∃ y, G k = y := ⟨_, rfl⟩
        rw [hGk] at c0 c1 c2 c3 hSa hSb
        simp only at c0 c1 c2 c3 hSa hSb
        have c3' : wr.cell? ⟨g, k * 4 + 2 + 1, none⟩ = some (.int .i64 qb) := c3
        have HGK := Lib.hid hGk
        clear g0 g1 g2 g3 hk0 hGk
        go_upto_region 6 with fail
        go_cut [13, 14] from 29 to 76 (fun s13 s14 wx => ∃ x y : Nat, s13 = .pointer (some ⟨x, 0, none⟩) ∧ s14 = .pointer (some ⟨y, 0, none⟩) ∧ wr.heap.size ≤ x ∧ wr.heap.size ≤ y ∧ At wx x (pa, qa) ∧ At wx y (pb, qb) ∧ Below wr.heap.size wr wx)
        case first =>
          go_region
          all_goals
            go_wp2_with fail
            go_meet
            first
              | exact ⟨_, _, rfl, rfl, by omega, by omega, at_two1 wr (pa, qa) (pb, qb), at_two2 wr (pa, qa) (pb, qb), below_two wr (Nat.le_refl _) _ _⟩
              | exact ⟨_, _, rfl, rfl, by omega, by omega, at_two2 wr (pb, qb) (pa, qa), at_two1 wr (pb, qb) (pa, qa), below_two wr (Nat.le_refl _) _ _⟩
        case rest =>
          obtain ⟨x, y, rfl, rfl, hx, hy, hAx, hAy, hbe⟩ := hcut
          have hAL := hR.out.atl.on hbe
          have hAR := hR.out.atr.on hbe
          have HB := Lib.hid (hR.out.bel.trans (hbe.mono hor))
          have HSt := Lib.hid hR.out
          have hll := hR.out.atl.lt
          have hrl := hR.out.atr.lt
          have hsl := hR.out.sl
          have hsr := hR.out.sr
          have hcz := hbe.size
          have HRS : Hid (At wc (o + 1) (0, 0)) := HRES.out.on hbe
          have a0 := (hbe.cell (p := ⟨o, 0, none⟩) (by simp only []; omega)).trans wa0
          have a1 := (hbe.cell (p := ⟨o, 1, none⟩) (by simp only []; omega)).trans wa1
          have hm1 := fun w' => mside_any (ax, ay) l (pb, qb) w' hA hsl hSb
          have hm2 := fun w' => mside_any (ax, ay) r (pa, qa) w' hA hsr hSa
          have hm3 := fun w' => mside_any (ax, ay) l (pa, qa) w' hA hsl hSa
          have hm4 := fun w' => mside_any (ax, ay) r (pb, qb) w' hA hsr hSb
          have HSA := Lib.hid (And.intro hSa hSb)
          have HVW := Lib.hid (hVw.out.trans (hbe.mono hVw.out.size))
          obtain ⟨lx, ly⟩ := l
          obtain ⟨rx, ry⟩ := r
          have lc0 := hAL.c0
          have lc1 := hAL.c1
          have lf0 := hAL.f0
          have lf1 := hAL.f1
          have rc0 := hAR.c0
          have rc1 := hAR.c1
          have rf0 := hAR.f0
          have rf1 := hAR.f1
          have xc0 := hAx.c0
          have xc1 := hAx.c1
          have yc0 := hAy.c0
          have yc1 := hAy.c1
          have xl' := hAx.lt
          have yl' := hAy.lt
          have ll' := hAL.lt
          have rl' := hAR.lt
          have ol' : o < wc.heap.size := by omega
          have ol2 : o + 1 < wc.heap.size := by omega
          have HAL := Lib.hid hAL
          have HAR := Lib.hid hAR
          have HNE := Lib.hid hne
          have hn1 : bl ≠ o + 1 := by omega
          have hn2 : br ≠ o + 1 := by omega
          have hn3 : x ≠ bl := by omega
          have hn4 : x ≠ br := by omega
          have hn5 : y ≠ bl := by omega
          have hn6 : y ≠ br := by omega
          have hn7 : o ≠ bl := by omega
          have hn8 : o ≠ br := by omega
          have HBL := Lib.hid (And.intro hbl hbr)
          have hn9 : bl ≠ br := hne
          have hn10 : br ≠ bl := hne.symm
          simp only at lc0 lc1 rc0 rc1 xc0 xc1 yc0 yc1
          obtain ⟨S1, hS1⟩ : ∃ S, cr (ax, ay) (lx, ly) (pb, qb) = S := ⟨_, rfl⟩
          obtain ⟨S2, hS2⟩ : ∃ S, cr (ax, ay) (rx, ry) (pa, qa) = S := ⟨_, rfl⟩
          obtain ⟨S3, hS3⟩ : ∃ S, cr (ax, ay) (lx, ly) (pa, qa) = S := ⟨_, rfl⟩
          obtain ⟨S4, hS4⟩ : ∃ S, cr (ax, ay) (rx, ry) (pb, qb) = S := ⟨_, rfl⟩
          simp only [hS1] at hm1
          simp only [hS2] at hm2
          simp only [hS3] at hm3
          simp only [hS4] at hm4
          have HS4 := Lib.hid (And.intro hS1 (And.intro hS2 (And.intro hS3 hS4)))
          have HAT := Lib.hid fun (P : Pt) (l : List Obj) (m : Nat) => (HRS.out.put P).on (below_ext _ l m)
          have rs0 := HRS.out.c0
          have rs1 := HRS.out.c1
          have rz0 := HRS.out.f0
          have rz1 := HRS.out.f1
          clear hS1 hS2 hS3 hS4 hAL hAR hAx hAy hbe hR hsl hsr hSa hSb c0 c1 c2 c3 c3' wa0 wa1 HRES hres HRS hne hbl hbr hx hy hll hrl hcz
          by_cases h1 : 0 < S1
          · go_wp2_with (first | (go_at_call 49; (with_reducible refine (hm1 _).mono ?_); rintro e w1 ⟨rfl, hb1⟩; obtain ⟨l0, n0, rfl⟩ := ext_of hb1; clear hb1) | (go_at_call 49; (with_reducible refine (hm2 _).mono ?_); rintro e w1 ⟨rfl, hb1⟩; obtain ⟨l0, n0, rfl⟩ := ext_of hb1; clear hb1) | (go_at_call 49; (with_reducible refine (hm3 _).mono ?_); rintro e w1 ⟨rfl, hb1⟩; obtain ⟨l0, n0, rfl⟩ := ext_of hb1; clear hb1) | (go_at_call 49; (with_reducible refine (hm4 _).mono ?_); rintro e w1 ⟨rfl, hb1⟩; obtain ⟨l0, n0, rfl⟩ := ext_of hb1; clear hb1))
            have ht0 := fun l m => (HAT.out (lx, ly) l m).c0
            have ht1 := fun l m => (HAT.out (lx, ly) l m).c1
            refine bodyPost_ret (v := .tuple #[vec (lx, ly), .int .i64 ((li + 1 : Nat) : Int)]) (by simp [results, Try.results37, go_sem, ht0, ht1]) rfl ⟨⟨(lx, ly), li + 1, rfl, ?_⟩, ?_⟩
            · exact HSt.out.go _ _ (.left k _ _ _ _ hkl (by rw [HGK.out, HS4.out.1]; omega))
            · exact Below.ext' ((HVW.out.setCell (p := ⟨o + 1, 0, none⟩) (by simp only []; omega) _).setCell (p := ⟨o + 1, 1, none⟩) (by simp only []; omega) _) (by have := HVW.out.size; simpa [World.setCell] using this) _ _
          · by_cases h2 : S2 < 0
            · go_wp2_with (first | (go_at_call 49; (with_reducible refine (hm1 _).mono ?_); rintro e w1 ⟨rfl, hb1⟩; obtain ⟨l0, n0, rfl⟩ := ext_of hb1; clear hb1) | (go_at_call 49; (with_reducible refine (hm2 _).mono ?_); rintro e w1 ⟨rfl, hb1⟩; obtain ⟨l0, n0, rfl⟩ := ext_of hb1; clear hb1) | (go_at_call 49; (with_reducible refine (hm3 _).mono ?_); rintro e w1 ⟨rfl, hb1⟩; obtain ⟨l0, n0, rfl⟩ := ext_of hb1; clear hb1) | (go_at_call 49; (with_reducible refine (hm4 _).mono ?_); rintro e w1 ⟨rfl, hb1⟩; obtain ⟨l0, n0, rfl⟩ := ext_of hb1; clear hb1))
              have ht0 := fun l m => (HAT.out (rx, ry) l m).c0
              have ht1 := fun l m => (HAT.out (rx, ry) l m).c1
              refine bodyPost_ret (v := .tuple #[vec (rx, ry), .int .i64 ((ri + 1 : Nat) : Int)]) (by simp [results, Try.results37, go_sem, ht0, ht1]) rfl ⟨⟨(rx, ry), ri + 1, rfl, ?_⟩, ?_⟩
              · exact HSt.out.go _ _ (.right k _ _ _ _ hkl (by rw [HGK.out, HS4.out.2.1]; omega))
              · exact Below.ext' ((HVW.out.setCell (p := ⟨o + 1, 0, none⟩) (by simp only []; omega) _).setCell (p := ⟨o + 1, 1, none⟩) (by simp only []; omega) _) (by have := HVW.out.size; simpa [World.setCell] using this) _ _
            · by_cases h3 : S3 ≤ 0
              · by_cases h4 : 0 ≤ S4
                · skip
                  go_wp2_with (first | (go_at_call 49; (with_reducible refine (hm1 _).mono ?_); rintro e w1 ⟨rfl, hb1⟩; obtain ⟨l0, n0, rfl⟩ := ext_of hb1; clear hb1) | (go_at_call 49; (with_reducible refine (hm2 _).mono ?_); rintro e w1 ⟨rfl, hb1⟩; obtain ⟨l0, n0, rfl⟩ := ext_of hb1; clear hb1) | (go_at_call 49; (with_reducible refine (hm3 _).mono ?_); rintro e w1 ⟨rfl, hb1⟩; obtain ⟨l0, n0, rfl⟩ := ext_of hb1; clear hb1) | (go_at_call 49; (with_reducible refine (hm4 _).mono ?_); rintro e w1 ⟨rfl, hb1⟩; obtain ⟨l0, n0, rfl⟩ := ext_of hb1; clear hb1))
                  go_roundw
                  case rel => exact ⟨k + 1, k, k, (pa, qa), (pb, qb), by push_cast; rfl, rfl, rfl, by omega, by omega, by omega, by omega, HSt.out.next hkl HGK.out (by rw [HS4.out.1]; omega) (by rw [HS4.out.2.1]; omega) (.inl ⟨by rw [HS4.out.2.2.1]; omega, rfl, rfl⟩) (.inl ⟨by rw [HS4.out.2.2.2]; omega, rfl, rfl⟩) ((((HAL.out.put (pa, qa)).other HNE.out 0 _).other HNE.out 1 _).on (below_ext _ _ _)) ((((HAR.out.other HNE.out.symm 0 _).other HNE.out.symm 1 _).put (pb, qb)).on (below_ext _ _ _)) (Below.ext' ((((HB.out.setCell (p := ⟨bl, 0, none⟩) HBL.out.1 _).setCell (p := ⟨bl, 1, none⟩) HBL.out.1 _).setCell (p := ⟨br, 0, none⟩) HBL.out.2 _).setCell (p := ⟨br, 1, none⟩) HBL.out.2 _) (by simp [World.setCell]; omega) _ _) HSA.out.1 HSA.out.2⟩
                  case measure => simp [intOf] <;> omega
                · skip
                  go_wp2_with (first | (go_at_call 49; (with_reducible refine (hm1 _).mono ?_); rintro e w1 ⟨rfl, hb1⟩; obtain ⟨l0, n0, rfl⟩ := ext_of hb1; clear hb1) | (go_at_call 49; (with_reducible refine (hm2 _).mono ?_); rintro e w1 ⟨rfl, hb1⟩; obtain ⟨l0, n0, rfl⟩ := ext_of hb1; clear hb1) | (go_at_call 49; (with_reducible refine (hm3 _).mono ?_); rintro e w1 ⟨rfl, hb1⟩; obtain ⟨l0, n0, rfl⟩ := ext_of hb1; clear hb1) | (go_at_call 49; (with_reducible refine (hm4 _).mono ?_); rintro e w1 ⟨rfl, hb1⟩; obtain ⟨l0, n0, rfl⟩ := ext_of hb1; clear hb1))
                  go_roundw
                  case rel => exact ⟨k + 1, k, ri, (pa, qa), (rx, ry), by push_cast; rfl, rfl, rfl, by omega, by omega, by omega, by omega, HSt.out.next hkl HGK.out (by rw [HS4.out.1]; omega) (by rw [HS4.out.2.1]; omega) (.inl ⟨by rw [HS4.out.2.2.1]; omega, rfl, rfl⟩) (.inr ⟨by rw [HS4.out.2.2.2]; omega, rfl, rfl⟩) ((HAL.out.put (pa, qa)).on (below_ext _ _ _)) (((HAR.out.other HNE.out.symm 0 _).other HNE.out.symm 1 _).on (below_ext _ _ _)) (Below.ext' ((HB.out.setCell (p := ⟨bl, 0, none⟩) HBL.out.1 _).setCell (p := ⟨bl, 1, none⟩) HBL.out.1 _) (by simp [World.setCell]; omega) _ _) HSA.out.1 HSA.out.2⟩
                  case measure => simp [intOf] <;> omega
              · by_cases h4 : 0 ≤ S4
                · skip
                  go_wp2_with (first | (go_at_call 49; (with_reducible refine (hm1 _).mono ?_); rintro e w1 ⟨rfl, hb1⟩; obtain ⟨l0, n0, rfl⟩ := ext_of hb1; clear hb1) | (go_at_call 49; (with_reducible refine (hm2 _).mono ?_); rintro e w1 ⟨rfl, hb1⟩; obtain ⟨l0, n0, rfl⟩ := ext_of hb1; clear hb1) | (go_at_call 49; (with_reducible refine (hm3 _).mono ?_); rintro e w1 ⟨rfl, hb1⟩; obtain ⟨l0, n0, rfl⟩ := ext_of hb1; clear hb1) | (go_at_call 49; (with_reducible refine (hm4 _).mono ?_); rintro e w1 ⟨rfl, hb1⟩; obtain ⟨l0, n0, rfl⟩ := ext_of hb1; clear hb1))
                  go_roundw
                  case rel => exact ⟨k + 1, li, k, (lx, ly), (pb, qb), by push_cast; rfl, rfl, rfl, by omega, by omega, by omega, by omega, HSt.out.next hkl HGK.out (by rw [HS4.out.1]; omega) (by rw [HS4.out.2.1]; omega) (.inr ⟨by rw [HS4.out.2.2.1]; omega, rfl, rfl⟩) (.inl ⟨by rw [HS4.out.2.2.2]; omega, rfl, rfl⟩) (((HAL.out.other HNE.out 0 _).other HNE.out 1 _).on (below_ext _ _ _)) ((HAR.out.put (pb, qb)).on (below_ext _ _ _)) (Below.ext' ((HB.out.setCell (p := ⟨br, 0, none⟩) HBL.out.2 _).setCell (p := ⟨br, 1, none⟩) HBL.out.2 _) (by simp [World.setCell]; omega) _ _) HSA.out.1 HSA.out.2⟩
                  case measure => simp [intOf] <;> omega
                · skip
                  go_wp2_with (first | (go_at_call 49; (with_reducible refine (hm1 _).mono ?_); rintro e w1 ⟨rfl, hb1⟩; obtain ⟨l0, n0, rfl⟩ := ext_of hb1; clear hb1) | (go_at_call 49; (with_reducible refine (hm2 _).mono ?_); rintro e w1 ⟨rfl, hb1⟩; obtain ⟨l0, n0, rfl⟩ := ext_of hb1; clear hb1) | (go_at_call 49; (with_reducible refine (hm3 _).mono ?_); rintro e w1 ⟨rfl, hb1⟩; obtain ⟨l0, n0, rfl⟩ := ext_of hb1; clear hb1) | (go_at_call 49; (with_reducible refine (hm4 _).mono ?_); rintro e w1 ⟨rfl, hb1⟩; obtain ⟨l0, n0, rfl⟩ := ext_of hb1; clear hb1))
                  go_roundw
                  case rel => exact ⟨k + 1, li, ri, (lx, ly), (rx, ry), by push_cast; rfl, rfl, rfl, by omega, by omega, by omega, by omega, HSt.out.next hkl HGK.out (by rw [HS4.out.1]; omega) (by rw [HS4.out.2.1]; omega) (.inr ⟨by rw [HS4.out.2.2.1]; omega, rfl, rfl⟩) (.inr ⟨by rw [HS4.out.2.2.2]; omega, rfl, rfl⟩) (HAL.out.on (below_ext _ _ _)) (HAR.out.on (below_ext _ _ _)) (Below.ext' HB.out (by omega) _ _) HSA.out.1 HSA.out.2⟩
                  case measure => simp [intOf] <;> omega
end Go.Proofs.Ytaiflkjchbpphaa.P
