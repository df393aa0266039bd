/- mesh.gatesOf, mesh.Gates. -/
import Derived.Test.YtaiflkjchbpphaaPi
namespace Go.Proofs.Ytaiflkjchbpphaa.P
open Go.RowKit

theorem Try.info41 : (Try.prog.info? 41).map (fun i => (i.zero, i.size, i.bytes)) = some (some (.agg #[.int .i64 0, .int .i64 0, .int .i64 0, .int .i64 0]), 4, 32) := by kernel_rfl

set_option maxRecDepth 8000 in
set_option maxHeartbeats 4000000 in
theorem gatesOf_any (pp np pcap cc nc ccap gw wcap m : Nat) (X Y : Nat → Int) (z qc q : Nat → Nat) (K : Nat → Nat → Nat) (l k : Nat → Nat) (w : World) (h : Msh pp np cc nc X Y z qc q K w) (hgood : Good np nc X Y z K) (hl : Steps nc z K l k m)
    (hw : Nums w gw (m + 1) (fun i => (l i : Int))) (hgw : gw < w.heap.size) (hm : m ≤ 100) :
    Calls Try.prog 18 #[.agg #[.slice (some ⟨pp, 0, none⟩) np pcap, .slice (some ⟨cc, 0, none⟩) nc ccap], .slice (some ⟨gw, 0, none⟩) (m + 1) wcap] w fun e w' => ∃ v, e = .returned v ∧ w'.ownsRow w.heap.size 41 4 v m (flat4 (fun i => gateOf X Y z K (l i) (k i)) m) ∧ Below w.heap.size w w' := by
  obtain ⟨i0, hi0, hz0, hz1, hz2⟩ := info_parts Try.info41
  have hgat := fun w' (hb : Below w.heap.size w w') => gates_any pp np pcap cc nc ccap gw wcap m X Y z qc q K l k w' (h.on hb) hgood hl (fun j hj => (hb.cell (p := ⟨gw, j, none⟩) hgw).trans (hw j hj)) (Nat.lt_of_lt_of_le hgw hb.size) hm
  obtain ⟨G, hG⟩ : ∃ G : Nat → Pt × Pt, (fun i => gateOf X Y z K (l i) (k i)) = G := ⟨_, rfl⟩
  simp only [hG] at hgat ⊢
  clear h hgood hl hw hG
  go_enter Try.func18, Try.ntmps18
  go_wp2_with fail
  obtain ⟨V, hV⟩ : ∃ V, w.alloc (Obj.cells #[.slice (some ⟨pp, 0, none⟩) np pcap, .slice (some ⟨cc, 0, none⟩) nc ccap] 28) = V := ⟨_, rfl⟩
  have hVb := Lib.hid (show Below w.heap.size w V from hV ▸ Below.al (Below.refl _ _) _)
  have hgV := hgat V hVb.out
  try rw [hV]
  clear hV hgat
  refine hgV.mono ?_
  rintro e w1 ⟨v, rfl, hown, hb1⟩
  have HB := Lib.hid (hVb.out.trans (hb1.mono hVb.out.size))
  obtain ⟨ao, cap, hv, hcl, hbl⟩ : ∃ (ao : Option Addr) (cap : Nat), v = .slice ao m cap ∧ (∀ x, ao = some x → ∃ g, x = ⟨g, 0, none⟩ ∧ g < w1.heap.size ∧ ∀ j, j < m → (w1.cell? ⟨g, j * 4, none⟩ = some (.int .i64 (G j).1.1) ∧ w1.cell? ⟨g, j * 4 + 1, none⟩ = some (.int .i64 (G j).1.2) ∧ w1.cell? ⟨g, j * 4 + 2, none⟩ = some (.int .i64 (G j).2.1) ∧ w1.cell? ⟨g, j * 4 + 3, none⟩ = some (.int .i64 (G j).2.2))) ∧ (ao = none → m = 0) := by
    by_cases h0 : m = 0
    · subst h0
      rcases hown.2 with ⟨h1, _⟩ | ⟨g, cap, cur, h1, _, h3, _⟩
      · exact ⟨none, 0, h1, fun x hx => (by cases hx), fun _ => rfl⟩
      · refine ⟨_, _, h1, fun x hx => ?_, fun h => (by cases h)⟩
        injection hx with hx
        refine ⟨g, hx.symm, ?_, fun j hj => by omega⟩
        rcases Nat.lt_or_ge g w1.heap.size with h | h
        · exact h
        · rw [Array.getElem?_eq_none h] at h3; cases h3
    · obtain ⟨g, cap, rfl, _, hg2, _, _, _, hcl, _⟩ := owns_open hown (by omega)
      refine ⟨_, _, rfl, fun x hx => ?_, fun h => (by cases h)⟩
      injection hx with hx
      refine ⟨g, hx.symm, hg2, fun j hj => ?_⟩
      obtain ⟨a, b, c, d⟩ := flat4_get G m j hj
      refine ⟨?_, ?_, ?_, ?_⟩
      · rw [hcl _ (by omega), show j * 4 = 4 * j by omega]; exact a
      · rw [hcl _ (by omega), show j * 4 + 1 = 4 * j + 1 by omega]; exact b
      · rw [hcl _ (by omega), show j * 4 + 2 = 4 * j + 2 by omega]; exact c
      · rw [hcl _ (by omega), show j * 4 + 3 = 4 * j + 3 by omega]; exact d
  subst hv
  have HCL := Lib.hid hcl
  have HBL := Lib.hid hbl
  obtain ⟨B, hB⟩ : ∃ B, w1.heap.size = B := ⟨_, rfl⟩
  have hwB : Hid (w.heap.size ≤ B) := by have := HB.out.size; rw [hB] at this; exact this
  clear hcl hbl hown hb1 hgV
  go_wp2_with fail
  go_loopw [5, 12] (fun v5 v12 wr => ∃ j : Nat, v12 = .int .i64 j ∧ j ≤ m ∧ Hid (wr.ownsRow B 41 4 v5 j (flat4 G j) ∧ Below B w1 wr)) (fun _ v12 _ => m - (intOf v12).toNat)
  case atStart => exact ⟨0, rfl, Nat.zero_le _, World.ownsRow_nil _ _ _ _, Below.refl _ _⟩
  case round =>
    obtain ⟨j, rfl, hj, hR⟩ := hrel
    by_cases h0 : j = m
    · have i1 : ¬ (j : Int) < (m : Int) := by omega
      subst h0
      go_wp2_with fail
      go_ret
      exact ⟨_, rfl, owns_mono hR.out.1 hwB.out, HB.out.trans (hR.out.2.mono hwB.out)⟩
    · have hjm : j < m := by omega
      have i1 : (j : Int) < (m : Int) := by omega
      obtain ⟨x, rfl⟩ : ∃ x, ao = some x := by
        cases ao with
        | some x => exact ⟨x, rfl⟩
        | none => have := HBL.out rfl; omega
      obtain ⟨g, rfl, hg, hcs⟩ := HCL.out x rfl
      obtain ⟨c0, c1, c2, c3⟩ := hcs j hjm
      have hgB : g < B := by omega
      have d0 := (hR.out.2.cell (p := ⟨g, j * 4, none⟩) hgB).trans c0
      have d1 := (hR.out.2.cell (p := ⟨g, j * 4 + 1, none⟩) hgB).trans c1
      have d2 := (hR.out.2.cell (p := ⟨g, j * 4 + 2, none⟩) hgB).trans c2
      have d3 := (hR.out.2.cell (p := ⟨g, j * 4 + 3, none⟩) hgB).trans c3
      have hsz := hR.out.2.size
      rw [hB] at hsz
      obtain ⟨⟨⟨xl, yl⟩, ⟨xr, yr⟩⟩, hGj⟩ : ∃ y, G j = y := ⟨_, rfl⟩
      rw [hGj] at d0 d1 d2 d3
      simp only at d0 d1 d2 d3
      have HGJ := Lib.hid hGj
      have hgr : g < wr.heap.size := by omega
      clear hcs c0 c1 c2 c3 h0 hGj
      go_wp2_with (at_builtin; refine wpList_append_own _ rfl _ _ 38 rfl B 41 i0 (.agg #[.int .i64 0, .int .i64 0, .int .i64 0, .int .i64 0]) 4 32 Try.underlying38 hi0 hz0 hz1 hz2 rfl (by decide) _ j _ rfl ((hR.out.1.alloc _).alloc _) ⟨wr.heap.size + 1, 0, none⟩ 1 1 [.int .i64 xl, .int .i64 yl, .int .i64 xr, .int .i64 yr] rfl rfl (fun a b hab => by have := new_four (wr.alloc (Obj.cells #[.int .i64 xl, .int .i64 yl, .int .i64 xr, .int .i64 yr] 85)) (.int .i64 xl) (.int .i64 yl) (.int .i64 xr) (.int .i64 yr) 41 a b hab; simpa using this) four_ok (by unfold maxLen; omega) (by omega) (by simp; omega) ?_)
      intro v' w' own' hgr2 _
      have HN : Hid (w'.ownsRow B 41 4 v' (j + 1) (flat4 G (j + 1)) ∧ Below B w1 w') := by
        refine ⟨?_, ?_⟩
        · rw [flat4, HGJ.out]; exact own'
        · exact ((hR.out.2.alloc (by omega) _).alloc (by simp; omega) _).grown hgr2 (by simp; omega) (fun k hk => (hR.out.1.lt k hk).1)
      clear own' hgr2
      go_wp2_with fail
      go_roundw
      case rel => exact ⟨j + 1, rfl, by omega, HN.out⟩
      case measure => simp [intOf] <;> omega

set_option maxRecDepth 8000 in
set_option maxHeartbeats 4000000 in
theorem Gates_any (pp np pcap cc nc ccap gw wcap m : Nat) (X Y : Nat → Int) (z qc q : Nat → Nat) (K : Nat → Nat → Nat) (l k : Nat → Nat) (w : World) (h : Msh pp np cc nc X Y z qc q K w) (hgood : Good np nc X Y z K) (hl : Steps nc z K l k m)
    (hw : Nums w gw (m + 1) (fun i => (l i : Int))) (hgw : gw < w.heap.size) (hm : m ≤ 100) :
    Calls Try.prog 10 #[.agg #[.slice (some ⟨pp, 0, none⟩) np pcap, .slice (some ⟨cc, 0, none⟩) nc ccap], .slice (some ⟨gw, 0, none⟩) (m + 1) wcap] w fun e w' => ∃ v, e = .returned (.tuple #[v, .int .i64 0]) ∧ w'.ownsRow w.heap.size 41 4 v m (flat4 (fun i => gateOf X Y z K (l i) (k i)) m) ∧ Below w.heap.size w w' := by
  have hnext := fun w' (hb : Below w.heap.size w w') => next_any pp np pcap cc nc ccap X Y z qc q K w' (h.on hb) hgood
  have hgof := Lib.hid fun w' (hb : Below w.heap.size w w') => gatesOf_any pp np pcap cc nc ccap gw wcap m X Y z qc q K l k w' (h.on hb) hgood hl (fun j hj => (hb.cell (p := ⟨gw, j, none⟩) hgw).trans (hw j hj)) (Nat.lt_of_lt_of_le hgw hb.size) hm
  have HL := Lib.hid hl
  have HNW := Lib.hid hw
  have n2 := hgood.hnc
  have hz34 := Lib.hid h.z3
  clear h hgood hl hw
  go_enter Try.func10, Try.ntmps10
  go_wp2_with fail
  obtain ⟨o, ho⟩ : ∃ o, w.heap.size = o := ⟨_, rfl⟩
  obtain ⟨V, hV⟩ : ∃ V, w.alloc (Obj.cells #[.slice (some ⟨pp, 0, none⟩) np pcap, .slice (some ⟨cc, 0, none⟩) nc ccap] 28) = V := ⟨_, rfl⟩
  have hVb := Lib.hid (show Below w.heap.size w V from hV ▸ Below.al (Below.refl _ _) _)
  have v0 : V.cell? ⟨o, 0, none⟩ = some (.slice (some ⟨pp, 0, none⟩) np pcap) := by rw [← hV, ← ho]; simp [go_sem]
  have v1 : V.cell? ⟨o, 1, none⟩ = some (.slice (some ⟨cc, 0, none⟩) nc ccap) := by rw [← hV, ← ho]; simp [go_sem]
  have hVs : V.heap.size = o + 1 := by rw [← hV, ← ho]; simp
  try rw [hV]
  clear hV
  refine (hnext _ hVb.out).mono ?_
  rintro e w1 ⟨v, r, cp, N, rfl, hN, hown1, hown2, hbl⟩
  have hnc0 : 0 < nc := by have := HL.out.lt 0 (by omega); omega
  obtain ⟨gx, cx, rfl, hgx, _⟩ := owns_open hown1 (by omega)
  have HT := Lib.hid (Tab.of hown1 hown2)
  have HN := Lib.hid hN
  have HB1 := Lib.hid (hVb.out.trans (hbl.mono hVb.out.size))
  have u0 := (hbl.cell (p := ⟨o, 0, none⟩) (by simp only []; omega)).trans v0
  have u1 := (hbl.cell (p := ⟨o, 1, none⟩) (by simp only []; omega)).trans v1
  have hos : o < w1.heap.size := by have := hbl.size; omega
  have hgw1 : gw < w1.heap.size := Nat.lt_of_lt_of_le hgw HB1.out.size
  clear hown1 hown2 hbl hN hnext v0 v1 hgx
  simp only [ho]
  go_wp2_with fail
  go_loopw [20] (fun v20 wr => ∃ i : Nat, v20 = .int .i64 i ∧ i ≤ m + 1 ∧ Hid (Below w1.heap.size w1 wr)) (fun v20 _ => m + 1 - (intOf v20).toNat)
  case atStart => exact ⟨0, rfl, by omega, Below.refl _ _⟩
  case round =>
    obtain ⟨i, rfl, hi, hR⟩ := hrel
    have HW := Lib.hid (HB1.out.trans (hR.out.mono HB1.out.size))
    have c0 := (hR.out.cell (p := ⟨o, 0, none⟩) hos).trans u0
    have c1 := (hR.out.cell (p := ⟨o, 1, none⟩) hos).trans u1
    have hor : o < wr.heap.size := Nat.lt_of_lt_of_le hos hR.out.size
    have hgwr : gw < wr.heap.size := Nat.lt_of_lt_of_le hgw1 hR.out.size
    by_cases h0 : i = m + 1
    · have i1 : ¬ (i : Int) < (m : Int) + 1 := by omega
      clear h0
      go_wp2_with fail
      refine (hgof.out _ HW.out).mono ?_
      rintro e w5 ⟨v, rfl, hown, hb5⟩
      have HO := Lib.hid (And.intro (owns_mono hown HW.out.size) (HW.out.trans (hb5.mono HW.out.size)))
      clear hown hb5
      go_wp2_with fail
      exact bodyPost_ret (v := .tuple #[v, .int .i64 0]) (by simp [results, Try.results10, go_sem]) rfl ⟨v, rfl, HO.out.1, HO.out.2⟩
    · have hil : i < m + 1 := by omega
      have i1 : (i : Int) < (m : Int) + 1 := by omega
      have hlb := HL.out.lt i (by omega)
      have wb : wr.cell? ⟨gw, i, none⟩ = some (.int .i64 (l i : Int)) := (HW.out.cell (p := ⟨gw, i, none⟩) hgw).trans (HNW.out i (by omega))
      obtain ⟨b, hb⟩ : ∃ b, l i = b := ⟨_, rfl⟩
      rw [hb] at wb hlb
      have HB := Lib.hid hb
      have b1 : ¬ (b : Int) < 0 := by omega
      have b2 : ¬ (nc : Int) ≤ (b : Int) := by omega
      clear hb
      by_cases hi0 : i = 0
      · have e1 : ¬ (0 : Int) < (i : Int) := by omega
        have e2 : decide ((0 : Int) < (i : Int)) = false := by simp; omega
        have e3 : decide ((i : Int) > 0) = false := by simp; omega
        clear hi0 h0
        go_wp2_with fail
        go_roundw
        case rel => exact ⟨i + 1, rfl, by omega, hR.out⟩
        case measure => simp [intOf] <;> omega
      · obtain ⟨s, hs⟩ : ∃ s, s + 1 = i := ⟨i - 1, by omega⟩
        have e1 : (0 : Int) < (i : Int) := by omega
        have e3 : decide ((i : Int) > 0) = true := by simp; omega
        have e4 : (i : Int) - 1 = (s : Int) := by omega
        have hsm : s < m := by omega
        have hsm1 : s < m + 1 := by omega
        have hla := HL.out.lt s (by omega)
        have HF := HL.out.first s hsm
        rw [hs, HB.out] at HF
        have wa : wr.cell? ⟨gw, s, none⟩ = some (.int .i64 (l s : Int)) := (HW.out.cell (p := ⟨gw, s, none⟩) hgw).trans (HNW.out s (by omega))
        obtain ⟨a, ha⟩ : ∃ a, l s = a := ⟨_, rfl⟩
        rw [ha] at wa hla HF
        have HTw : Hid (Tab gx nc z r cp N wr) := HT.out.on hR.out
        have ra := HTw.out.row a hla
        have hgl := HTw.out.gl
        have a2 : ¬ (nc : Int) ≤ (a : Int) := by omega
        have hcon := contains2_any (r a) (z a) (cp a) (fun j => N a j) (b : Int) wr (fun j hj => HTw.out.num a j hla hj) (HTw.out.rl a hla) (by have := hz34.out a hla; omega) (by
          obtain ⟨f1, ⟨j, f2, f3, _, f4⟩, _⟩ := HF
          exact ⟨k s, f1, HN.out.yes a (k s) b j hla f1 hlb f2 f3 f4⟩)
        have HS := Lib.hid hs
        clear HF ha hs hi0 h0
        go_wp2_with (go_at_call 27; (with_reducible refine hcon.mono ?_); rintro e w5 ⟨rfl, rfl⟩)
        go_roundw
        case rel => exact ⟨i + 1, rfl, by omega, hR.out⟩
        case measure => simp [intOf] <;> omega
end Go.Proofs.Ytaiflkjchbpphaa.P
