/- mesh.Path. -/
import Derived.Test.YtaiflkjchbpphaaPo
import Derived.Deep.DeepCutAuto
import Derived.Deep.RegionWith
import Derived.Deep.RegionHeld3
import Derived.Deep.DrawnRows
namespace Go.Proofs.Ytaiflkjchbpphaa.P
open Go.RowKit

/-- A way over the floor, as Find and Cells see it. -/
structure Route (nc : Nat) (X Y : Nat → Int) (z : Nat → Nat) (K : Nat → Nat → Nat) (fr tp : Pt) (i k m : Nat) (N : Nat → Nat → Int) (F : Nat → Int) (l : List Nat) (kf : Nat → Nat) : Prop where
  hi : i < nc
  hk : k < nc
  fi : InCell X Y z K i fr
  fn : ∀ j, j < i → ¬ InCell X Y z K j fr
  ti : InCell X Y z K k tp
  tn : ∀ j, j < k → ¬ InCell X Y z K j tp
  nbr : Nbr nc z K N
  bfs : Bfs nc (fun _ => True) (NA N) k F
  way : Way nc N F k i l
  len : l.length = m + 1
  mn : m < nc
  st : Steps nc z K (wf l) kf m
/-- Why there is no path. -/
def Lost (nc : Nat) (X Y : Nat → Int) (z : Nat → Nat) (K : Nat → Nat → Nat) (fr tp : Pt) : Prop := (∀ k, k < nc → ¬ InCell X Y z K k fr) ∨ (∀ k, k < nc → ¬ InCell X Y z K k tp) ∨ ∃ i k, i < nc ∧ k < nc ∧ i ≠ k
/-- What Path answers. -/
def Pathed (nc : Nat) (X Y : Nat → Int) (z : Nat → Nat) (K : Nat → Nat → Nat) (fr tp : Pt) (w : World) (e : Ending) (w' : World) : Prop :=
  ((e = .returned (.tuple #[.slice none 0 0, .int .i64 4]) ∧ Lost nc X Y z K fr tp) ∨ ∃ (i k m : Nat) (N : Nat → Nat → Int) (F : Nat → Int) (l : List Nat) (kf : Nat → Nat) (raw : List Pt) (v : Value), e = .returned (.tuple #[v, .int .i64 0]) ∧ Route nc X Y z K fr tp i k m N F l kf ∧ Pul (gts X Y z K (wf l) kf m tp) (m + 1) fr 0 raw ∧ SmallL raw ∧ w'.ownsRow w.heap.size 24 2 v (pln raw).length (fl (pln raw))) ∧ Below w.heap.size w w'

set_option maxRecDepth 8000 in
set_option maxHeartbeats 8000000 in
theorem path_any (pp np pcap cc nc ccap : Nat) (X Y : Nat → Int) (z qc q : Nat → Nat) (K : Nat → Nat → Nat) (fr tp : Pt) (w : World) (h : Msh pp np cc nc X Y z qc q K w) (hgood : Good np nc X Y z K) (hfr : Small fr) (htp : Small tp) :
    Calls Try.prog 5 #[.agg #[.slice (some ⟨pp, 0, none⟩) np pcap, .slice (some ⟨cc, 0, none⟩) nc ccap], vec fr, vec tp] w (Pathed nc X Y z K fr tp w) := by
  obtain ⟨i0, hi0, hz0, hz1, hz2⟩ := info_parts Try.info41
  have HM := Lib.hid h
  have HG := Lib.hid hgood
  have HFS := Lib.hid hfr
  have HTS := Lib.hid htp
  have hncn := hgood.hnc
  obtain ⟨fx, fy⟩ := fr
  obtain ⟨tx, ty⟩ := tp
  clear h hgood hfr htp
  go_enter Try.func5, Try.ntmps5
  go_wp2_with fail
  obtain ⟨o, ho⟩ : ∃ o, w.heap.size = o := ⟨_, rfl⟩
  obtain ⟨o1, ho1⟩ : ∃ o1, o + 1 = o1 := ⟨_, rfl⟩
  obtain ⟨o2, ho2⟩ : ∃ o2, o1 + 1 = o2 := ⟨_, rfl⟩
  obtain ⟨V, hV⟩ : ∃ V, ((w.alloc (Obj.cells #[.slice (some ⟨pp, 0, none⟩) np pcap, .slice (some ⟨cc, 0, none⟩) nc ccap] 28)).alloc (Obj.cells #[Value.int IntKind.i64 fx, Value.int IntKind.i64 fy] 24)).alloc (Obj.cells #[Value.int IntKind.i64 tx, Value.int IntKind.i64 ty] 24) = V := ⟨_, rfl⟩
  have hVb := Lib.hid (show Below w.heap.size w V from hV ▸ Below.al (Below.al (Below.al (Below.refl _ _) _) _) _)
  have HV : Hid (V.cell? ⟨o, 0, none⟩ = some (.slice (some ⟨pp, 0, none⟩) np pcap) ∧ V.cell? ⟨o, 1, none⟩ = some (.slice (some ⟨cc, 0, none⟩) nc ccap) ∧ V.cell? ⟨o1, 0, none⟩ = some (.int .i64 fx) ∧ V.cell? ⟨o1, 1, none⟩ = some (.int .i64 fy) ∧ V.cell? ⟨o2, 0, none⟩ = some (.int .i64 tx) ∧ V.cell? ⟨o2, 1, none⟩ = some (.int .i64 ty) ∧ o2 < V.heap.size) := by
    rw [← hV, ← ho2, ← ho1, ← ho]
    refine ⟨?_, ?_, ?_, ?_, ?_, ?_, ?_⟩ <;> simp [go_sem]
  try rw [hV]
  try simp only [ho]
  try simp only [ho1]
  try simp only [ho2]
  clear hV
  refine (find_any pp np pcap cc nc ccap X Y z qc q K (fx, fy) V (HM.out.on hVb.out) HG.out HFS.out).mono ?_
  rintro e w1 ⟨⟨i, rfl, hi, hin, hno⟩ | ⟨rfl, hno⟩, hb1⟩
  · have HB1 := Lib.hid (hVb.out.trans (hb1.mono hVb.out.size))
    have HI := Lib.hid (And.intro hin hno)
    obtain ⟨v0, v1, v2, v3, v4, v5, vs⟩ := HV.out
    have c0 := (hb1.cell (p := ⟨o, 0, none⟩) (by simp only []; omega)).trans v0
    have c1 := (hb1.cell (p := ⟨o, 1, none⟩) (by simp only []; omega)).trans v1
    have c2 := (hb1.cell (p := ⟨o1, 0, none⟩) (by simp only []; omega)).trans v2
    have c3 := (hb1.cell (p := ⟨o1, 1, none⟩) (by simp only []; omega)).trans v3
    have c4 := (hb1.cell (p := ⟨o2, 0, none⟩) (by simp only []; omega)).trans v4
    have c5 := (hb1.cell (p := ⟨o2, 1, none⟩) (by simp only []; omega)).trans v5
    have cs := Nat.lt_of_lt_of_le vs hb1.size
    have cs1 : o1 < w1.heap.size := by omega
    have cs0 : o < w1.heap.size := by omega
    clear v0 v1 v2 v3 v4 v5 vs hb1 hin hno HV
    go_wp2_with fail
    refine (find_any pp np pcap cc nc ccap X Y z qc q K (tx, ty) w1 (HM.out.on HB1.out) HG.out HTS.out).mono ?_
    rintro e w2 ⟨⟨k, rfl, hk, hin, hno⟩ | ⟨rfl, hno⟩, hb1⟩
    · have HB2 := Lib.hid (HB1.out.trans (hb1.mono HB1.out.size))
      have HK := Lib.hid (And.intro hin hno)
      have d0 := (hb1.cell (p := ⟨o, 0, none⟩) cs0).trans c0
      have d1 := (hb1.cell (p := ⟨o, 1, none⟩) cs0).trans c1
      have d2 := (hb1.cell (p := ⟨o1, 0, none⟩) cs1).trans c2
      have d3 := (hb1.cell (p := ⟨o1, 1, none⟩) cs1).trans c3
      have d4 := (hb1.cell (p := ⟨o2, 0, none⟩) cs).trans c4
      have d5 := (hb1.cell (p := ⟨o2, 1, none⟩) cs).trans c5
      have ds := Nat.lt_of_lt_of_le cs hb1.size
      have ds1 : o1 < w2.heap.size := by omega
      have ds0 : o < w2.heap.size := by omega
      clear c0 c1 c2 c3 c4 c5 cs cs1 cs0 hb1 hin hno
      go_wp2_with fail
      refine (cells_any pp np pcap cc nc ccap i k X Y z qc q K w2 (HM.out.on HB2.out) HG.out hi hk).mono ?_
      rintro e w3 ⟨N, F, hN, hF, hcase, hb1⟩
      have HB3 := Lib.hid (HB2.out.trans (hb1.mono HB2.out.size))
      have c0 := (hb1.cell (p := ⟨o, 0, none⟩) ds0).trans d0
      have c1 := (hb1.cell (p := ⟨o, 1, none⟩) ds0).trans d1
      have c2 := (hb1.cell (p := ⟨o1, 0, none⟩) ds1).trans d2
      have c3 := (hb1.cell (p := ⟨o1, 1, none⟩) ds1).trans d3
      have c4 := (hb1.cell (p := ⟨o2, 0, none⟩) ds).trans d4
      have c5 := (hb1.cell (p := ⟨o2, 1, none⟩) ds).trans d5
      have cs := Nat.lt_of_lt_of_le ds hb1.size
      have cs1 : o1 < w3.heap.size := by omega
      have cs0 : o < w3.heap.size := by omega
      clear d0 d1 d2 d3 d4 d5 ds ds1 ds0
      rcases hcase with ⟨hneg, rfl⟩ | ⟨m, gw, wcap, l, hFm, rfl, hlen, hway, hat, hgl, _⟩
      · have HLO : Hid (Lost nc X Y z K (fx, fy) (tx, ty)) := .inr (.inr ⟨i, k, hi, hk, fun e => by subst e; have := hF.goal trivial; omega⟩)
        clear hN hF hb1 hneg
        go_wp2_with fail
        exact bodyPost_ret (v := .tuple #[.slice none 0 0, .int .i64 4]) (by simp [results, Try.results5, go_sem]) rfl ⟨.inl ⟨rfl, HLO.out⟩, HB3.out⟩
      · have hmn := bfs_bound hF m i hi hFm
        obtain ⟨kf, hst⟩ := way_steps HG.out HM.out.z3 hN hi hway hlen
        have HRT : Hid (Route nc X Y z K (fx, fy) (tx, ty) i k m N F l kf) := ⟨hi, hk, HI.out.1, HI.out.2, HK.out.1, HK.out.2, hN, hF, hway, hlen, hmn, hst⟩
        have hnums : Nums w3 gw (m + 1) (fun i => (wf l i : Int)) := fun j hj => by
          have : l[j]? = some (wf l j) := by
            unfold wf
            rw [List.getElem?_eq_getElem (by omega)]; rfl
          exact hat j _ this
        have hgo := Lib.hid fun w' (hb : Below w3.heap.size w3 w') => gatesOf_any pp np pcap cc nc ccap gw wcap m X Y z qc q K (wf l) kf w' (HM.out.on (HB3.out.trans (hb.mono HB3.out.size))) HG.out hst (fun j hj => (hb.cell (p := ⟨gw, j, none⟩) hgl).trans (hnums j hj)) (Nat.lt_of_lt_of_le hgl hb.size) (by omega)
        have hsm := Lib.hid (gts_small (tp := (tx, ty)) HG.out HM.out.lt HM.out.z3 hst HTS.out)
        clear hN hF hb1 hst hway hat hFm hlen
        have HC := Lib.hid fun (W : World) (h : Below w3.heap.size w3 W) => (show W.cell? ⟨o, 0, none⟩ = some (.slice (some ⟨pp, 0, none⟩) np pcap) ∧ W.cell? ⟨o, 1, none⟩ = some (.slice (some ⟨cc, 0, none⟩) nc ccap) ∧ W.cell? ⟨o1, 0, none⟩ = some (.int .i64 fx) ∧ W.cell? ⟨o1, 1, none⟩ = some (.int .i64 fy) ∧ W.cell? ⟨o2, 0, none⟩ = some (.int .i64 tx) ∧ W.cell? ⟨o2, 1, none⟩ = some (.int .i64 ty) from ⟨(h.cell (p := ⟨o, 0, none⟩) cs0).trans c0, (h.cell (p := ⟨o, 1, none⟩) cs0).trans c1, (h.cell (p := ⟨o1, 0, none⟩) cs1).trans c2, (h.cell (p := ⟨o1, 1, none⟩) cs1).trans c3, (h.cell (p := ⟨o2, 0, none⟩) cs).trans c4, (h.cell (p := ⟨o2, 1, none⟩) cs).trans c5⟩)
        have HQ1 := Lib.hid fun (W : World) (h : Below w3.heap.size w3 W) => hgo.out W h
        have HPL := Lib.hid fun (W : World) (g cap : Nat) (hO : W.ownsRow w3.heap.size 41 4 (.slice (some ⟨g, 0, none⟩) (m + 1) cap) (m + 1) (flat4 (fun i => gateOf X Y z K (wf l i) (kf i)) m ++ [Value.int .i64 tx, .int .i64 ty, .int .i64 tx, .int .i64 ty])) => pull_any g (m + 1) cap (gts X Y z K (wf l) kf m (tx, ty)) (fx, fy) W (gts_of (by rw [flat4_gts]; exact hO)) (owns_at hO).2.1 (by omega) (by omega) hsm.out HFS.out
        have H1C : Hid (∀ x ∈ [Value.int .i64 tx, .int .i64 ty, .int .i64 tx, .int .i64 ty], x.oneCell' = true) := four_ok
        have HN3 : Hid (∀ (W : World), Below (w3.heap.size + 1) ((w3.alloc (Obj.cells #[.int .i64 tx, .int .i64 ty, .int .i64 tx, .int .i64 ty] 41)).drew) W → ∀ j x, [Value.int .i64 tx, .int .i64 ty, .int .i64 tx, .int .i64 ty][j]? = some x → W.cell? ((⟨w3.heap.size, 0, none⟩ : Addr).add j) = some x) := fun W hW j x hj => by
          have h1 := new_four w3 (.int .i64 tx) (.int .i64 ty) (.int .i64 tx) (.int .i64 ty) 41 j x hj
          rw [← h1]
          exact hW.cell (p := (⟨w3.heap.size, 0, none⟩ : Addr).add j) (by rw [add_block]; exact Nat.lt_succ_self _)
        go_upto_region 10 with fail
        go_region_held3 (fun w' => w'.cell? ⟨o, 0, none⟩ = some (.slice (some ⟨pp, 0, none⟩) np pcap) ∧ w'.cell? ⟨o, 1, none⟩ = some (.slice (some ⟨cc, 0, none⟩) nc ccap) ∧ w'.cell? ⟨o1, 0, none⟩ = some (.int .i64 fx) ∧ w'.cell? ⟨o1, 1, none⟩ = some (.int .i64 fy) ∧ w'.cell? ⟨o2, 0, none⟩ = some (.int .i64 tx) ∧ w'.cell? ⟨o2, 1, none⟩ = some (.int .i64 ty)) (go_keep)
          ((first
            | (go_at_call 18; refine (HQ1.out _ ?_).mono ?_; (first | exact (Below.refl _ _).drew | exact ((Below.refl _ _).alloc (Nat.le_refl _) _).drew); rintro e w5 ⟨v5, rfl, hown5, hx5⟩; have hb5 : Below w3.heap.size w3 w5 := Below.trans (by first | exact (Below.refl _ _).drew | exact ((Below.refl _ _).alloc (Nat.le_refl _) _).drew) (hx5.mono (by first | exact Nat.le_refl _ | (simp; done) | (simp; omega))); have ho5 : w5.ownsRow w3.heap.size 41 4 v5 m (flat4 (fun i => gateOf X Y z K (wf l i) (kf i)) m) := owns_mono hown5 (by first | exact Nat.le_refl _ | (simp; done) | (simp; omega)); obtain ⟨k0, k1, k2, k3, k4, k5⟩ := HC.out _ hb5; (try (have hn5 := HN3.out w5 (hx5.mono (by simp)))); clear hown5)
            | (refine step_append_lies _ (by rfl) _ _ 38 (by rfl) w3.heap.size 41 i0 (.agg #[.int .i64 0, .int .i64 0, .int .i64 0, .int .i64 0]) 4 32 Try.underlying38 hi0 hz0 hz1 hz2 rfl (by decide) _ m _ (by rfl) (ho5.alloc _) ⟨w5.heap.size, 0, none⟩ 1 1 [Value.int .i64 tx, .int .i64 ty, .int .i64 tx, .int .i64 ty] (by rfl) (by rfl) (new_four w5 _ _ _ _ _) H1C.out (by omega) (by unfold maxLen; omega) (by omega) (by have := hb5.size; first | exact this | (simp; omega)) _ rfl ?_; intro gg cap6 w6 hO6 hg6 hat6 hlt6; have hb6 : Below w3.heap.size w3 w6 := (hb5.alloc hb5.size _).grown hg6 (by have := hb5.size; first | exact this | (simp; omega)) (fun k hk => (ho5.lt k hk).1); obtain ⟨j0, j1, j2, j3, j4, j5⟩ := HC.out _ hb6)
            | (refine step_append_lies _ (by rfl) _ _ 38 (by rfl) w3.heap.size 41 i0 (.agg #[.int .i64 0, .int .i64 0, .int .i64 0, .int .i64 0]) 4 32 Try.underlying38 hi0 hz0 hz1 hz2 rfl (by decide) _ m _ (by rfl) ho5 ⟨w3.heap.size, 0, none⟩ 1 1 [Value.int .i64 tx, .int .i64 ty, .int .i64 tx, .int .i64 ty] (by rfl) (by rfl) hn5 H1C.out (by omega) (by unfold maxLen; omega) (by omega) (by have := hb5.size; first | exact this | (simp; omega)) _ rfl ?_; intro gg cap6 w6 hO6 hg6 hat6 hlt6; have hb6 : Below w3.heap.size w3 w6 := hb5.grown hg6 (by have := hb5.size; first | exact this | (simp; omega)) (fun k hk => (ho5.lt k hk).1); obtain ⟨j0, j1, j2, j3, j4, j5⟩ := HC.out _ hb6)
            | (go_at_call 17; refine (HPL.out w6 gg cap6 hO6).mono ?_; rintro e w7 ⟨v7, raw, rfl, hpul, hsr, hown7, hx7⟩; have hb7 : Below w3.heap.size w3 w7 := hb6.trans (hx7.mono hb6.size); obtain ⟨l0, l1, l2, l3, l4, l5⟩ := HC.out _ hb7)))
        all_goals
          have hs6 := hb6.size
          go_wp2_with fail
          exact bodyPost_ret (v := .tuple #[v7, .int .i64 0]) (by simp [results, Try.results5, go_sem]) rfl ⟨.inr ⟨i, k, m, N, F, l, kf, raw, v7, rfl, HRT.out, hpul, hsr, owns_mono hown7 (by have := HB3.out.size; omega)⟩, HB3.out.trans ((hb6.mono (by have := HB3.out.size; omega)).trans (hx7.mono (by have := HB3.out.size; omega)))⟩
    · have HB2 := Lib.hid (HB1.out.trans (hb1.mono HB1.out.size))
      have HLO : Hid (Lost nc X Y z K (fx, fy) (tx, ty)) := .inr (.inl hno)
      clear hb1 hno
      go_wp2_with fail
      exact bodyPost_ret (v := .tuple #[.slice none 0 0, .int .i64 4]) (by simp [results, Try.results5, go_sem]) rfl ⟨.inl ⟨rfl, HLO.out⟩, HB2.out⟩
  · have HB1 := Lib.hid (hVb.out.trans (hb1.mono hVb.out.size))
    have HLO : Hid (Lost nc X Y z K (fx, fy) (tx, ty)) := .inl hno
    clear hb1 hno
    go_wp2_with fail
    exact bodyPost_ret (v := .tuple #[.slice none 0 0, .int .i64 4]) (by simp [results, Try.results5, go_sem]) rfl ⟨.inl ⟨rfl, HLO.out⟩, HB1.out⟩
end Go.Proofs.Ytaiflkjchbpphaa.P
