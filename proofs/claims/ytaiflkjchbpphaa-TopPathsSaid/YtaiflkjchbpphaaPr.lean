/- tourtop.haNear. -/
import Derived.Test.YtaiflkjchbpphaaPA
import Derived.Deep.RegionHeld3
import Derived.Deep.DrawnRows
namespace Go.Proofs.Ytaiflkjchbpphaa.P
open Go.RowKit

set_option maxRecDepth 8000 in
set_option maxHeartbeats 8000000 in
theorem near_any (pp np pcap cc nc ccap : Nat) (X Y : Nat → Int) (z qc q : Nat → Nat) (K : Nat → Nat → Nat) (P : Pt) (w : World) (h : Msh pp np cc nc X Y z qc q K w) (hgood : Good np nc X Y z K) (hP : (-65535000 ≤ P.1 ∧ P.1 ≤ 65535000) ∧ (-65535000 ≤ P.2 ∧ P.2 ≤ 65535000))
    (hin : ∃ x y : Int, (-1 ≤ x ∧ x ≤ 1) ∧ (-1 ≤ y ∧ y ≤ 1) ∧ ∃ c, c < nc ∧ InCell X Y z K c (P.1 + x, P.2 + y)) :
    Calls Try.prog 12 #[.agg #[.slice (some ⟨pp, 0, none⟩) np pcap, .slice (some ⟨cc, 0, none⟩) nc ccap], vec P] w fun e w' => e = .returned (.bool true) ∧ Below w.heap.size w w' := by
  have hcor := Lib.hid fun w' (hb : Below w.heap.size w w') i (hi : i < nc) => corners_any pp np pcap cc nc ccap i X Y z qc q K w' (h.on hb) hi
  have hhas := Lib.hid fun (P : Pt) (hP : Small P) i (hi : i < nc) (w' : World) (g cap : Nat) hp hg => cell_has h hgood hi hP (g := g) (cap := cap) (w' := w') hp hg
  have n2 := hgood.hnc
  have HIN := Lib.hid hin
  obtain ⟨px, py⟩ := P
  simp only at hP
  obtain ⟨⟨hp1, hp2⟩, ⟨hp3, hp4⟩⟩ := hP
  clear h hgood hin
  go_enter Try.func12, Try.ntmps12
  go_wp2_with fail
  obtain ⟨o, ho⟩ : ∃ o, w.heap.size = o := ⟨_, rfl⟩
  obtain ⟨o1, ho1⟩ : ∃ o1, o + 1 = o1 := ⟨_, rfl⟩
  obtain ⟨V, hV⟩ : ∃ V, (w.alloc (Obj.cells #[.slice (some ⟨pp, 0, none⟩) np pcap, .slice (some ⟨cc, 0, none⟩) nc ccap] 28)).alloc (Obj.cells #[Value.int IntKind.i64 px, Value.int IntKind.i64 py] 24) = V := ⟨_, rfl⟩
  have hVb := Lib.hid (show Below w.heap.size w V from hV ▸ Below.al (Below.al (Below.refl _ _) _) _)
  have HV : Hid (V.cell? ⟨o, 0, none⟩ = some (.slice (some ⟨pp, 0, none⟩) np pcap) ∧ V.cell? ⟨o, 1, none⟩ = some (.slice (some ⟨cc, 0, none⟩) nc ccap) ∧ V.cell? ⟨o1, 0, none⟩ = some (.int .i64 px) ∧ V.cell? ⟨o1, 1, none⟩ = some (.int .i64 py) ∧ o1 < V.heap.size) := by
    rw [← hV, ← ho1, ← ho]
    refine ⟨?_, ?_, ?_, ?_, ?_⟩ <;> simp [go_sem]
  try rw [hV]
  try simp only [ho]
  try simp only [ho1]
  clear hV
  go_loopw [5] (fun v5 wr => ∃ x : Int, v5 = .int .i64 x ∧ -1 ≤ x ∧ x ≤ 2 ∧ Hid (Below V.heap.size V wr ∧ ∀ x' y' : Int, -1 ≤ x' → x' < x → -1 ≤ y' → y' ≤ 1 → ∀ c, c < nc → ¬ InCell X Y z K c (px + x', py + y'))) (fun v5 _ => (2 - intOf v5).toNat)
  case atStart => exact ⟨-1, rfl, by omega, by omega, Below.refl _ _, fun x' y' h1 h2 => by omega⟩
  case round =>
    obtain ⟨x, rfl, hx1, hx2, hR⟩ := hrel
    by_cases h0 : x = 2
    · exfalso
      obtain ⟨x', y', h1, h2, c, hc, h3⟩ := HIN.out
      exact hR.out.2 x' y' h1.1 (by omega) h2.1 h2.2 c hc h3
    · have x1 : x ≤ 1 := by omega
      obtain ⟨W1, rfl⟩ : ∃ W, W = wr := ⟨wr, rfl⟩
      clear h0
      go_wp2_with fail
      go_loopw [6] (fun v6 wy => ∃ y : Int, v6 = .int .i64 y ∧ -1 ≤ y ∧ y ≤ 2 ∧ Hid (Below V.heap.size V wy ∧ ∀ y' : Int, -1 ≤ y' → y' < y → ∀ c, c < nc → ¬ InCell X Y z K c (px + x, py + y'))) (fun v6 _ => (2 - intOf v6).toNat)
      case atStart => exact ⟨-1, rfl, by omega, by omega, hR.out.1, fun y' h1 h2 => by omega⟩
      case round =>
        obtain ⟨y, rfl, hy1, hy2, hS⟩ := hrel
        by_cases h0 : y = 2
        · have y1 : ¬ y ≤ 1 := by omega
          have HY := Lib.hid h0
          clear h0
          go_wp2_with fail
          go_roundw
          case rel => exact ⟨x + 1, rfl, by omega, by omega, hS.out.1, fun x' y' g1 g2 g3 g4 c hc => by
            by_cases hxx : x' < x
            · exact hR.out.2 x' y' g1 hxx g3 g4 c hc
            · obtain rfl : x' = x := by omega
              exact hS.out.2 y' g3 (by rw [HY.out]; omega) c hc⟩
          case measure => simp [intOf] <;> omega
        · have y1 : y ≤ 1 := by omega
          have HW := Lib.hid (hVb.out.trans (hS.out.1.mono hVb.out.size))
          have HVW : Hid (wr.cell? ⟨o, 0, none⟩ = some (.slice (some ⟨pp, 0, none⟩) np pcap) ∧ wr.cell? ⟨o, 1, none⟩ = some (.slice (some ⟨cc, 0, none⟩) nc ccap) ∧ wr.cell? ⟨o1, 0, none⟩ = some (.int .i64 px) ∧ wr.cell? ⟨o1, 1, none⟩ = some (.int .i64 py) ∧ o1 < wr.heap.size) := by
            obtain ⟨a, b, c, d, e⟩ := HV.out
            exact ⟨(hS.out.1.cell (p := ⟨o, 0, none⟩) (by simp only []; omega)).trans a, (hS.out.1.cell (p := ⟨o, 1, none⟩) (by simp only []; omega)).trans b, (hS.out.1.cell (p := ⟨o1, 0, none⟩) e).trans c, (hS.out.1.cell (p := ⟨o1, 1, none⟩) e).trans d, Nat.lt_of_lt_of_le e hS.out.1.size⟩
          have c1 := HVW.out.2.1
          have cs := HVW.out.2.2.2.2
          have cs0 : o < wr.heap.size := by omega
          obtain ⟨W2, rfl⟩ : ∃ W, W = wr := ⟨wr, rfl⟩
          have hPS : Small (px + x, py + y) := by
            show ((-65536000 ≤ px + x ∧ px + x ≤ 65536000) ∧ (-65536000 ≤ py + y ∧ py + y ≤ 65536000))
            omega
          have HH2 := Lib.hid (hhas.out _ hPS)
          clear h0 hPS
          go_wp2_with fail
          go_loopw [19] (fun v19 wz => ∃ c : Nat, v19 = .int .i64 c ∧ c ≤ nc ∧ Hid (Below W2.heap.size W2 wz ∧ ∀ k, k < c → ¬ InCell X Y z K k (px + x, py + y))) (fun v19 _ => nc - (intOf v19).toNat)
          case atStart => exact ⟨0, rfl, Nat.zero_le _, Below.refl _ _, fun k hk => by omega⟩
          case round =>
            obtain ⟨c, rfl, hc, hT⟩ := hrel
            have HB := Lib.hid (hS.out.1.trans (hT.out.1.mono hS.out.1.size))
            have HWw := Lib.hid (HW.out.trans (hT.out.1.mono HW.out.size))
            obtain ⟨z0, z1, z2, z3, zs⟩ := HVW.out
            have d0 := (hT.out.1.cell (p := ⟨o, 0, none⟩) cs0).trans z0
            have d1 := (hT.out.1.cell (p := ⟨o, 1, none⟩) cs0).trans z1
            have d2 := (hT.out.1.cell (p := ⟨o1, 0, none⟩) cs).trans z2
            have d3 := (hT.out.1.cell (p := ⟨o1, 1, none⟩) cs).trans z3
            have ds := Nat.lt_of_lt_of_le cs hT.out.1.size
            have ds0 : o < wr.heap.size := by omega
            clear z0 z1 z2 z3 zs
            by_cases h0 : c = nc
            · have i1 : ¬ (c : Int) < (nc : Int) := by omega
              have HC := Lib.hid h0
              clear h0
              go_wp2_with fail
              go_roundw
              case rel => exact ⟨y + 1, rfl, by omega, by omega, HB.out, fun y' g1 g2 k hk => by
                by_cases hyy : y' < y
                · exact hS.out.2 y' g1 hyy k hk
                · obtain rfl : y' = y := by omega
                  exact hT.out.2 k (by rw [HC.out]; exact hk)⟩
              case measure => simp [intOf] <;> omega
            · have hcl : c < nc := by omega
              have i1 : (c : Int) < (nc : Int) := by omega
              have hwd := Lib.hid HWw.out.drew
              have hh := Lib.hid (HH2.out c hcl)
              clear h0
              have hw1 : IntKind.i64.wrap (px + x) = px + x := IntWalk.i64_in _ (by omega)
              have hw2 : IntKind.i64.wrap (py + y) = py + y := IntWalk.i64_in _ (by omega)
              go_upto_region 10 with fail
              go_cut [19, 34] from 19 to 35 (fun v19 v34 wx => ∃ b : Bool, v19 = .int .i64 c ∧ v34 = .bool b ∧ (b = true ↔ InCell X Y z K c (px + x, py + y)) ∧ Below wr.heap.size wr wx)
              case first =>
                have HCc := Lib.hid fun (W : World) (h : Below wr.heap.size wr W) => (show W.cell? ⟨o, 0, none⟩ = some (.slice (some ⟨pp, 0, none⟩) np pcap) ∧ W.cell? ⟨o, 1, none⟩ = some (.slice (some ⟨cc, 0, none⟩) nc ccap) ∧ W.cell? ⟨o1, 0, none⟩ = some (.int .i64 px) ∧ W.cell? ⟨o1, 1, none⟩ = some (.int .i64 py) from ⟨(h.cell (p := ⟨o, 0, none⟩) ds0).trans d0, (h.cell (p := ⟨o, 1, none⟩) ds0).trans d1, (h.cell (p := ⟨o1, 0, none⟩) ds).trans d2, (h.cell (p := ⟨o1, 1, none⟩) ds).trans d3⟩)
                go_region_held3 (fun w' => w'.cell? ⟨o, 0, none⟩ = some (.slice (some ⟨pp, 0, none⟩) np pcap) ∧ w'.cell? ⟨o, 1, none⟩ = some (.slice (some ⟨cc, 0, none⟩) nc ccap) ∧ w'.cell? ⟨o1, 0, none⟩ = some (.int .i64 px) ∧ w'.cell? ⟨o1, 1, none⟩ = some (.int .i64 py)) (go_keep)
                  ((first
                    | (go_at_call 24; refine (hcor.out _ ?_ c hcl).mono ?_; exact hwd.out; rintro e w1 ⟨⟨g, cap, rfl, hp, hg1, hg2⟩, hb⟩; have hb1 : Below wr.heap.size wr w1 := (Below.refl wr.heap.size wr).drew.trans hb; obtain ⟨k0, k1, k2, k3⟩ := HCc.out _ hb1)
                    | (go_at_call 23; refine (hh.out _ _ _ hp hg2).mono ?_; rintro e w2 ⟨b, rfl, hbb⟩; have hb2 : Below wr.heap.size wr w2 := hb1.trans (hbb.out.2.mono hb1.size); obtain ⟨l0, l1, l2, l3⟩ := HCc.out _ hb2)))
                all_goals go_wp2_with fail
                all_goals go_meet
                all_goals exact ⟨b, rfl, rfl, hbb.out.1, hb2⟩
              case rest =>
                obtain ⟨b, rfl, rfl, hb1, hb2⟩ := hcut
                have HB2 := Lib.hid hb2
                clear hb2
                cases b
                · have HT : Hid (¬ InCell X Y z K c (px + x, py + y)) := fun h => by have := hb1.2 h; cases this
                  clear hb1
                  go_wp2_with fail
                  go_roundw
                  case rel =>
                    exact ⟨c + 1, rfl, by omega, hT.out.1.trans (HB2.out.mono hT.out.1.size), fun k hk => by
                      by_cases hki : k < c
                      · exact hT.out.2 k hki
                      · obtain rfl : k = c := by omega
                        exact HT.out⟩
                  case measure => simp [intOf] <;> omega
                · clear hb1
                  go_wp2_with fail
                  go_ret
                  exact ⟨rfl, ho ▸ HWw.out.trans (HB2.out.mono HWw.out.size)⟩
end Go.Proofs.Ytaiflkjchbpphaa.P
