/- For every input, SlotsLeast returns true. No condition. -/
import Derived.Test.YtfeibjokifidmaaSlotsG
import Derived.OpenShut
import Derived.Deep.CutBlock
namespace Go.Proofs.Ytfeibjokifidmaa.Z
open Go.RowKit Go.Shelf Go.Proofs.Ytfeibjokifidmaa.M

attribute [local go_sem] Oper.semAt_some

/-- The elements that are slots. -/
def low (l : List Nat) : List Nat := l.filter (fun x => decide (x < 256))
theorem low_snoc (l : List Nat) (x : Nat) : low (l ++ [x]) = if x < 256 then low l ++ [x] else low l := by
  unfold low
  rw [List.filter_append]
  by_cases h : x < 256 <;> simp [h]
theorem low_sorted {l : List Nat} (h : l.Pairwise (· < ·)) : (low l).Pairwise (· < ·) := h.filter _
theorem low_lt {l : List Nat} {x : Nat} (h : x ∈ low l) : x < 256 := by unfold low at h; simpa using (List.mem_filter.1 h).2
theorem low_len {l : List Nat} (h : l.Pairwise (· < ·)) : (low l).length ≤ 256 := by
  have := sorted_len (low l) 0 256 (by omega) (low_sorted h) (fun x hx => ⟨Nat.zero_le _, low_lt hx⟩)
  omega

theorem row_keeps {W W6 : World} {C N : Nat} {ao : Option Addr} {cap b : Nat} {xs : List Value} {u : Value} (hO : W.ownsRow C 3 1 (.slice ao N cap) N xs) {d : Array Value} (hg : (W.alloc (.cells d 3)).grownBy W6 (Value.slice ao N cap).ownBlock) :
    KeepsOthers W (W6.setCell ⟨b, 0, none⟩ u) := by
  refine ((KeepsOthers.alloc _ _).trans (KeepsOthers.of_grownBy hg fun j o hj ho => ?_)).trans (KeepsOthers.setCell _ _ _)
  obtain ⟨_, h2⟩ := hO.alloc (.cells d 3)
  rcases h2 with ⟨e, _⟩ | ⟨g, cap', cur, e, _, hh, _⟩
  · rw [e] at hj; cases hj
  · rw [e] at hj
    injection hj with hj
    subst hj
    rw [hh] at ho
    injection ho with ho
    subst ho
    rfl
theorem row_keepG {W W6 : World} {g b : Nat} {row : Option Nat} {u : Value} {d : Array Value} (hne : some g ≠ row) (hb : g ≠ b) (hgs : g < W.heap.size) (hg : (W.alloc (.cells d 3)).grownBy W6 row) : KeepG g W (W6.setCell ⟨b, 0, none⟩ u) :=
  keepG_t (keepG_t (keepG_below ((Below.refl _ _).alloc (Nat.le_refl _) _) hgs) (fun _ _ hv => hg.cell hv hne)) (keepG_set hb)

/-- A variable that holds a row of numbers. -/
def RowBox (W : World) (b C : Nat) (L : List Nat) : Prop := ∃ v, Box W b v ∧ W.ownsRow C 3 1 v L.length (ints L)

/-- The memory ahead of Of: the list's variable, its row, the row of zeros, the loop's object. -/
structure Now (w W : World) (B C P D m q : Nat) (ua : Option Addr) (uc : Nat) (L : List Nat) : Prop where
  box : Box W B (.slice ua q uc)
  row : W.ownsRow C 3 1 (.slice ua L.length uc) L.length (ints L)
  gens : W.ownsRow P 3 1 (.slice (some ⟨P, 0, none⟩) m m) m (ints (List.replicate m 0))
  dead : W.heap[D]? = some (.deferred (some []))
  below : Below w.heap.size w W
/-- The length of the list, as the memory has it. -/
def llen (B : Nat) (W : World) : Nat := match W.cell? ⟨B, 0, none⟩ with | some (.slice _ n _) => n | _ => 0
theorem Now.len {w W : World} {B C P D m q : Nat} {ua : Option Addr} {uc : Nat} {L : List Nat} (h : Now w W B C P D m q ua uc L) : llen B W = q := by
  unfold llen
  rw [h.box.1]
theorem Now.cut {w W : World} {B C P D m q q' : Nat} {ua : Option Addr} {uc : Nat} {L : List Nat} (h : Now w W B C P D m q ua uc L) (h1 : w.heap.size ≤ B) (h2 : B < C) (h3 : B < P) (h4 : B < D) : Now w (W.setCell ⟨B, 0, none⟩ (.slice ua q' uc)) B C P D m q' ua uc L :=
  ⟨h.box.set _, owns_setP h.row (fun e => by have := (h.row.lt _ e).1; omega) _ _, owns_setP h.gens (fun e => by have := (h.gens.lt _ e).1; omega) _ _,
    (Below.heap_setCell _ _ _ _ (show D ≠ B by omega)).trans h.dead, h.below.setCell (p := ⟨B, 0, none⟩) h1 _⟩

/-- The first number that is not in the list is the slot that is taken. -/
theorem least_eq {G K : List Nat} {U F : Sets} (hI : Inv G U F) (hU : ∀ i, has U i = decide (i ∈ K)) (hs : K.Pairwise (· < ·)) {k : Nat} (hk : k ≤ K.length) (h1 : ∀ i, i < k → K[i]? = some i) (h2 : k < K.length → K[k]? ≠ some k) : next F G.length = k := by
  obtain ⟨n1, n2, n3⟩ := next_spec hI
  have hin : ∀ i, i < k → i ∈ K := fun i hi => List.mem_of_getElem? (h1 i hi)
  have hout : k ∉ K := by
    intro hm
    obtain ⟨j, hj, he⟩ := List.getElem_of_mem hm
    have hlow : ∀ i, (hi : i < K.length) → i ≤ K[i] := by
      intro i
      induction i with
      | zero => intro _; exact Nat.zero_le _
      | succ i ih =>
        intro hi
        have := ih (by omega)
        have := List.pairwise_iff_getElem.1 hs i (i + 1) (by omega) hi (Nat.lt_succ_self _)
        omega
    rcases Nat.lt_trichotomy j k with h | h | h
    · have := h1 j h
      rw [List.getElem?_eq_getElem hj] at this
      injection this with this
      omega
    · subst h
      exact h2 hj (by rw [List.getElem?_eq_getElem hj, he])
    · have h3 := hlow k (by omega)
      have := List.pairwise_iff_getElem.1 hs k j (by omega) hj h
      omega
  rcases Nat.lt_trichotomy (next F G.length) k with h | h | h
  · have := hin _ h
    rw [hU, decide_eq_false_iff_not] at n3
    exact absurd this n3
  · exact h
  · have := n2 k h
    rw [hU, decide_eq_true_iff] at this
    exact absurd this hout

set_option maxRecDepth 100000 in
set_option maxHeartbeats 8000000 in
theorem walk10 (a : Option Addr) (zs : List Int) (len cap : Nat) (c : Int) (w : World) (hl : zs.length = len) (hn : a = none → len = 0 ∧ cap = 0)
    (hc : ∀ x, a = some x → ∀ j u, (zs.map (Value.int .i64))[j]? = some u → w.cell? (x.add j) = some u) (hr : len * 8 ≤ 140737488351232)
    (hw : ∀ z ∈ zs, -9223372036854775808 ≤ z ∧ z ≤ 9223372036854775807) (hc1 : -9223372036854775808 ≤ c ∧ c ≤ 9223372036854775807) :
    Calls Try.prog 10 #[.slice a len cap, .int .i64 c] w fun e w' => e = .returned (.bool true) ∧ Below w.heap.size w w' := by
  obtain ⟨i0, hi0, hz0, hz1, hz2⟩ := info_parts Try.info3
  have hso := fun (W : World) (h : Below w.heap.size w W) => setOf_any a zs len cap W hl hn (fun x hx j u hu => (h.cell (World.block_lt_of_cell? w _ (hc x hx j u hu))).trans (hc x hx j u hu)) hr hw
  have HSO := Lib.hid hso
  have hbl := fun W => below_any c 257 W (by omega) (by omega) hc1.1 hc1.2
  obtain ⟨m, hm⟩ : ∃ m : Nat, c % 257 = (m : Int) := ⟨(c % 257).toNat, by have := Int.emod_nonneg c (show (257 : Int) ≠ 0 by omega); omega⟩
  have hm256 : m ≤ 256 := by have := Int.emod_lt_of_pos c (show (0 : Int) < 257 by omega); omega
  rw [hm] at hbl
  have HBL := Lib.hid hbl
  clear hso hbl hm hc1 hl hn hc hr hw
  refine (callsIn_wide (n := 6)).1 ?_
  refine callsIn_of_wp_marks Try.func10 rfl trivial ?_ rfl
  simp only [Try.ntmps10, List.size_toArray, List.length_cons, List.length_nil, Nat.reduceAdd, Nat.reduceSub, Array.replicate_succ, Array.replicate_zero, List.push_toArray, List.append_toArray, List.nil_append, List.cons_append]
  refine (wpIn_wide (n := 6)).2 ?_
  go_wp2_with fail
  with_reducible refine (begun_any w).mono ?_
  rintro e w1 ⟨rfl, hb1⟩
  have HB1 := Lib.hid hb1
  clear hb1
  go_wp2_with fail
  with_reducible refine (HSO.out w1 HB1.out).mono ?_
  rintro e w2 ⟨S, v2, rfl, hs2, hb2⟩
  have HB2 := Lib.hid (HB1.out.trans (hb2.mono HB1.out.size))
  obtain ⟨ad2, n2, c2, rfl⟩ : ∃ ad n c, v2 = .slice ad n c := by obtain ⟨l, ad, c, h1, _⟩ := hs2; exact ⟨ad, l.length, c, h1⟩
  have HS2 := Lib.hid hs2
  clear hb2 hs2 HB1 HSO
  go_wp2_with fail
  obtain ⟨B, hB⟩ : ∃ B, w2.heap.size = B := ⟨_, rfl⟩
  obtain ⟨W3, hW3⟩ : ∃ W3, w2.alloc (.cells #[.slice none 0 0] 22) = W3 := ⟨_, rfl⟩
  have hbx : Box W3 B (.slice none 0 0) := by rw [← hW3, ← hB]; exact Box.new _ _ _
  have hb3 : Below w2.heap.size w2 W3 := by rw [← hW3]; exact (Below.refl _ _).alloc (Nat.le_refl _) _
  have hz3 : W3.heap.size = B + 1 := by rw [← hW3, ← hB]; simp
  rw [hW3, hB]
  with_reducible refine (all_any _ S W3 (HS2.out.keep hb3)).mono ?_
  rintro e w4 ⟨Bi, g, rfl, hall, hB1, hB2, hg1, hg2, hbel⟩
  have HA := Lib.hid hall
  have HBX := Lib.hid (hbx.keep hbel)
  have HB4 := Lib.hid ((HB2.out.trans (hb3.mono HB2.out.size)).trans (hbel.mono (by have := HB2.out.size; omega)))
  have hBw : w.heap.size ≤ B := by rw [← hB]; exact HB2.out.size
  have hz4 := hbel.size
  rw [hz3] at hB1 hg1 hz4
  clear hall hbel hbx hb3 hW3 HS2 HB2 hz3 hB
  obtain ⟨C, hC⟩ : ∃ C, w4.heap.size = C := ⟨_, rfl⟩
  have HC := Lib.hid hC
  clear hC
  go_wp2_with fail
  have hBC : B + 1 ≤ C := by rw [← HC.out]; exact hz4
  have hgC : g < C := by rw [← HC.out]; exact hg2
  have h0 : RowBox w4 B C (low (vals ([] : List (El S)))) ∧ Below w.heap.size w w4 ∧ C ≤ w4.heap.size := ⟨⟨_, HBX.out, World.ownsRow_nil _ _ _ _⟩, HB4.out, Nat.le_of_eq HC.out.symm⟩
  refine (wpIn_wide (n := 6)).1 ?_
  refine wpIn_rangeFunc_ownF (F := Fence.wide) rfl (by omega) (gf := 58) (lb := #[.pointer (some ⟨Bi, 0, none⟩)]) rfl trivial (enters_of Try.func58 (by kernel_rfl) rfl)
    (all_stops Fence.wide 5 trivial rfl (by omega) Bi g S w4 HA.out hB2 hg2) keepG_t (keepG_b hg2) (Below.refl _ _) (fun _ => rfl)
    (fun pre W => RowBox W B C (low (vals pre)) ∧ Below w.heap.size w W ∧ C ≤ W.heap.size)
    (fun _ _ _ => False)
    (fun s W W' row hs hg hr => ⟨hs.1.elim fun v hv => ⟨v, box_own' hv.1 hg (fun r e => (hr r e).2), row_own hv.2 hg (fun r e => (hr r e).2)⟩, ownFrom_below (Nat.le_refl _) (by rw [HC.out]; omega) s W W' row hs.2.1 hg hr, Nat.le_trans hs.2.2 hg.size⟩)
    (fun _ _ _ _ _ hs _ _ => hs)
    h0 ?a1 ?assign ?body ?done ?stop
  case assign =>
    intro l x W K hK
    gi_wp2_with fail
    exact hK
  case body =>
    rintro l pre ⟨x, hx4, hxs⟩ W ⟨⟨v, hbv, hO⟩, hBw2, hCW⟩ hlen
    have hlw := low_snoc (vals pre) x
    have hvs : vals (pre ++ [⟨x, hx4, hxs⟩]) = vals pre ++ [x] := vals_snoc pre ⟨x, hx4, hxs⟩
    obtain ⟨L, hL⟩ : ∃ L, low (vals pre) = L := ⟨_, rfl⟩
    have hLl : L.length ≤ 4096 := by
      rw [← hL]
      exact Nat.le_trans (List.length_filter_le _ _) (by rw [vals_length]; omega)
    rw [hL] at hO hlw
    have r3 := hbv.1
    have f3 := hbv.2
    have l3 := hbv.lt
    obtain ⟨ao, cap', rfl, _, _, _⟩ := owns_source hO
    obtain ⟨N, hN⟩ : ∃ N, L.length = N := ⟨_, rfl⟩
    rw [hN] at hO r3 hbv hLl
    have HO := Lib.hid hO
    have HBV := Lib.hid hbv
    have HBW := Lib.hid hBw2
    have HN := Lib.hid hN
    have HVS := Lib.hid hvs
    have HCW := Lib.hid hCW
    clear hO hbv hBw2 hL hN hvs
    by_cases hx : x < 256
    · rw [if_pos hx] at hlw
      have HLW := Lib.hid hlw
      clear hlw
      gi_wp2_with (gi_at_builtin; refine wpListIn_append_own _ rfl _ _ 22 rfl C 3 i0 (.int .i64 0) 1 8 Try.underlying22 hi0 hz0 hz1 hz2 rfl (by decide) _ N _ rfl (HO.out.alloc _) ⟨W.heap.size, 0, none⟩ 1 1 [.int .i64 (x : Int)] rfl rfl (new_one _ _ _) (Ytfeibjokifidmaa.one_ok rfl) (by unfold maxLen; omega) (by omega) (by simp; omega) ?_)
      intro v6 w6 hO6 hg6 _
      obtain ⟨ao6, cap6, rfl, _, _, _⟩ := owns_source hO6
      have hnb : some B ≠ (Value.slice ao N cap').ownBlock := fun e => by have := (HO.out.lt _ e.symm).1; omega
      have hng : some g ≠ (Value.slice ao N cap').ownBlock := fun e => by have := (HO.out.lt _ e.symm).1; omega
      have bv6 := (HBV.out.alloc (.cells #[.int .i64 (x : Int)] 3)).grown hg6 hnb
      have q3 := bv6.1
      have qf3 := bv6.2
      have q4 := bv6.lt
      have HBV6 := Lib.hid bv6
      have HO6 := Lib.hid hO6
      have HG6 := Lib.hid hg6
      clear bv6 hO6 hg6
      gi_wp2_with fail
      have hW1 : Below w.heap.size w (W.alloc (.cells #[.int .i64 (x : Int)] 3)) := HBW.out.alloc (by have := HBW.out.size; omega) _
      have hW6 : Below w.heap.size w w6 := hW1.grown HG6.out (by simp; have := HBW.out.size; omega) (fun k hk => by have := (HO.out.lt _ hk).1; omega)
      refine ⟨row_keeps HO.out HG6.out, row_keepG hng (by omega) (by have := HCW.out; omega) HG6.out, ⟨_, HBV6.out.set _, ?_⟩, hW6.setCell (p := ⟨B, 0, none⟩) hBw _, ?_⟩
      · rw [HVS.out, HLW.out, show ints (L ++ [x]) = ints L ++ [.int .i64 ((x : Nat) : Int)] from by simp [ints], List.length_append, HN.out]
        exact HO6.out.kept (grownBy_setCell' w6 B _) (.inr (fun e => by have := (HO6.out.lt _ e).1; omega))
      · have h1 := HG6.out.size
        have h2 := HCW.out
        simp at h1
        simp
        omega
    · rw [if_neg hx] at hlw
      have hx' : decide ((x : Int) < 256) = false := by rw [decide_eq_false_iff_not]; omega
      have HLW := Lib.hid hlw
      clear hlw hx
      gi_wp2_with fail
      refine ⟨KeepsOthers.refl _, keepG_refl _ _, ⟨_, HBV.out, ?_⟩, HBW.out, HCW.out⟩
      rw [HVS.out, HLW.out, HN.out]
      exact HO.out
  case done =>
    rintro D ys W hD hys ⟨hrb, hB, hCW⟩ hK
    rw [hys] at hrb
    obtain ⟨L, hL⟩ : ∃ L, low (elems S) = L := ⟨_, rfl⟩
    have hLs : L.Pairwise (· < ·) := by rw [← hL]; exact low_sorted (elems_sorted S)
    have hLl : L.length ≤ 256 := by rw [← hL]; exact low_len (elems_sorted S)
    have hLt : ∀ x ∈ L, x < 256 := by rw [← hL]; exact fun x hx => low_lt hx
    rw [hL] at hrb
    rw [HC.out] at hD
    have HRB := Lib.hid hrb
    have HBW := Lib.hid hB
    have HK := Lib.hid hK
    have HLS := Lib.hid hLs
    have HLT := Lib.hid hLt
    clear hrb hB hK hLs hLt hL hys HA HB4 HBX h0 hB1 hB2 hg1 hg2
    go_wp2_with fail
    with_reducible refine (HBL.out W).mono ?_
    rintro e _ ⟨rfl, rfl⟩
    obtain ⟨P, hP⟩ : ∃ P, W.heap.size = P := ⟨_, rfl⟩
    go_wp2_with (refine wpList_make_full _ rfl _ _ 22 rfl W.heap.size 3 i0 (.int .i64 0) 1 Try.underlying22 hi0 hz0 hz1 .i64 .i64 _ _ m rfl rfl rfl rfl (by rw [hz2]; omega) (by unfold maxLen; omega) (Nat.le_refl _) ?_)
    intro w5 own5 hg5
    have hz5 : ints (List.replicate m 0) = (madeCells #[.int .i64 0] m).toList := by rw [toList_madeCells_one]; simp [ints]
    rw [← hz5] at own5
    have hb5 : Below W.heap.size W w5 := (Below.refl _ _).grown hg5 (Nat.le_refl _) (fun k hk => by cases hk)
    obtain ⟨v6, hbv, hrow⟩ := HRB.out
    obtain ⟨ua, uc, rfl, hun, huc, _⟩ := owns_source hrow
    obtain ⟨N, hN⟩ : ∃ N, L.length = N := ⟨_, rfl⟩
    have hNL : L.length ≤ uc := by
      obtain ⟨_, h2⟩ := hrow
      rcases h2 with ⟨e, e2⟩ | ⟨g', cap', cur, e, _, _, h3, _⟩
      · omega
      · injection e with _ _ e4; omega
    have hDW : D < W.heap.size := (Array.getElem?_eq_some_iff.1 HK.out).1
    have HE5 : Hid (Now w w5 B C P D m N ua uc L) := ⟨by rw [← hN]; exact hbv.keep hb5, owns_below hrow hb5 (Nat.le_refl _), own5, (hb5.block D hDW).trans HK.out, HBW.out.trans (hb5.mono HBW.out.size)⟩
    have HNN := Lib.hid hN
    have hCP : C ≤ P := by rw [← hP]; exact hCW
    have hDP : D < P := by rw [← hP]; exact hDW
    rw [hN] at hNL hLl
    clear own5 hg5 hbv hrow hun huc hN HRB HBW HK hz5 hb5 hP hCW hDW HBL
    go_upto_block 2 with fail
    go_cut [] from 31 to 50 (fun wx => ∃ q, q ≤ N ∧ Now w wx B C P D m q ua uc L ∧ (∀ x ∈ L.take q, x < m))
    case first =>
      go_wp2_with fail
      go_loopw [] (fun wr => ∃ q, q ≤ N ∧ Now w wr B C P D m q ua uc L) (fun wr => llen B wr)
      case atStart => exact ⟨N, Nat.le_refl _, HE5.out⟩
      case round =>
        obtain ⟨q, hq, hE⟩ := hrel
        have r6 := hE.box.1
        have f6 := hE.box.2
        have l6 := hE.box.lt
        have HE := Lib.hid hE
        have hbr : q = 0 ∨ ∃ q' y, q = q' + 1 ∧ L[q']? = some y := by
          cases q with
          | zero => exact .inl rfl
          | succ q' => exact .inr ⟨q', _, rfl, List.getElem?_eq_getElem (by rw [HNN.out]; omega)⟩
        clear hE
        rcases hbr with rfl | ⟨q', y, rfl, hy⟩
        · go_wp2_with fail
          go_meet
          exact ⟨0, Nat.zero_le _, HE.out, by simp⟩
        · obtain ⟨gL, cL, heL, hgC, hgs, hnc, _, _, hcl, _⟩ := owns_open HE.out.row (by rw [HNN.out]; omega)
          rw [HNN.out] at heL hnc
          cases heL
          have hcy : wr.cell? ⟨gL, q', none⟩ = some (.int .i64 ((y : Nat) : Int)) := by
            rw [hcl q' (by rw [HNN.out]; omega), ints_at (by rw [HNN.out]; omega), hy]
            rfl
          have hcut : ∀ W : World, (Instr.slice 22 (.slice (some ⟨gL, 0, none⟩) (q' + 1) uc) none (some (.int .i64 (q' : Int))) none).run Try.prog W = .ok (.slice (some ⟨gL, 0, none⟩) q' uc) W := fun W => run_cut W 22 3 (some ⟨gL, 0, none⟩) (q' + 1) uc q' i0 Try.underlying22 hi0 (by omega) (fun h => by cases h)
          have hpos : decide ((0 : Int) < (q' : Int) + 1) = true := by rw [decide_eq_true_iff]; omega
          have HY := Lib.hid hy
          clear hcl hy
          by_cases hmy : m ≤ y
          · have hd : decide ((m : Int) ≤ (y : Int)) = true := by rw [decide_eq_true_iff]; omega
            go_wp2_with fail
            go_roundw
            case rel => exact ⟨q', by omega, HE.out.cut hBw (by omega) (by omega) (by omega)⟩
            case measure => rw [HE.out.len, (HE.out.cut (q' := q') hBw (by omega) (by omega) (by omega)).len]; omega
          · have hd : decide ((m : Int) ≤ (y : Int)) = false := by rw [decide_eq_false_iff_not]; omega
            go_wp2_with fail
            go_meet
            refine ⟨q' + 1, hq, HE.out, fun x hx => ?_⟩
            obtain ⟨i, hi, he⟩ := List.getElem_of_mem hx
            rw [List.getElem_take] at he
            have h1 : i < L.length := by simp at hi; omega
            have h2 : q' < L.length := by rw [HNN.out]; omega
            have h3 : L[q'] = y := by have := HY.out; rw [List.getElem?_eq_getElem h2] at this; injection this
            rcases Nat.lt_or_ge i q' with h4 | h4
            · have := List.pairwise_iff_getElem.1 HLS.out i q' h1 h2 h4
              omega
            · have h5 : i = q' := by simp at hi; omega
              subst h5
              omega
    case rest =>
      obtain ⟨q, hq, hE, hlt⟩ := hcut
      have HE := Lib.hid hE
      have r6 := hE.box.1
      obtain ⟨K, hK⟩ : ∃ K, L.take q = K := ⟨_, rfl⟩
      rw [hK] at hlt
      have hKl : K.length = q := by rw [← hK, List.length_take, HNN.out]; exact Nat.min_eq_left hq
      have hKs : K.Pairwise (· < ·) := by rw [← hK]; exact HLS.out.sublist (List.take_sublist _ _)
      have hrow := owns_cut hE.row (k := q) (by rw [HNN.out]; exact hq)
      rw [← ints_take, hK] at hrow
      have HOF := Lib.hid (slotsOf_any (some ⟨P, 0, none⟩) ua m m q uc P C K wc hm256 hE.gens hKl hrow hKs hlt)
      have HKL := Lib.hid hKl
      have HKS := Lib.hid hKs
      have HKT := Lib.hid hlt
      have HRW := Lib.hid hrow
      have hqm : q ≤ m := by have := sorted_len K 0 m (Nat.zero_le _) hKs (fun x hx => ⟨Nat.zero_le _, hlt x hx⟩); omega
      clear hE hlt hK hKl hKs hrow HE5 HLS HLT
      go_wp2_with fail
      with_reducible refine HOF.out.mono ?_
      rintro e w7 ⟨p, bz, U, F, rfl, hs7, hi7, hu7, hl7, hbz7, hp7, hbs7, hb7⟩
      obtain ⟨Q0, hQ0⟩ : ∃ Q0, wc.heap.size = Q0 := ⟨_, rfl⟩
      rw [hQ0] at hbz7 hp7 hb7
      rw [HKL.out] at hl7
      have hBQ : B < Q0 := by rw [← hQ0]; exact HE.out.box.lt
      have hDQ : D < Q0 := by rw [← hQ0]; exact (Array.getElem?_eq_some_iff.1 HE.out.dead).1
      have hwQ : w.heap.size ≤ Q0 := by rw [← hQ0]; exact HE.out.below.size
      have HOLD : Hid (∀ W, Below Q0 wc W → W.cell? ⟨B, 0, none⟩ = some (.slice ua q uc) ∧ W.heap[D]? = some (.deferred (some [])) ∧ Below w.heap.size w W ∧ ∀ i, i < q → ∃ g, ua = some ⟨g, 0, none⟩ ∧ W.cell? ⟨g, i, none⟩ = some (.int .i64 (K[i]?.getD 0 : Nat))) := by
        intro W hW
        refine ⟨(hW.cell (p := ⟨B, 0, none⟩) hBQ).trans r6, (hW.block D hDQ).trans HE.out.dead, HE.out.below.trans (hW.mono hwQ), fun i hi => ?_⟩
        obtain ⟨g', c', he, _, hg', _, _, _, hcl, _⟩ := owns_open HRW.out (by omega)
        cases he
        exact ⟨g', rfl, (hW.cell (p := ⟨g', i, none⟩) (by rw [← hQ0]; exact hg')).trans ((hcl i (by omega)).trans (ints_at (by rw [HKL.out]; exact hi)))⟩
      have HB7 := Lib.hid hb7
      have HS7 := Lib.hid hs7
      have HI7 := Lib.hid hi7
      have HU7 := Lib.hid hu7
      have HL7 := Lib.hid hl7
      clear hs7 hi7 hu7 hl7 hb7 HE HRW r6 HOF hQ0
      go_upto_block 4 with fail
      go_cut [11] from 62 to 76 (fun v11 wx => ∃ k : Nat, v11 = .int .i64 k ∧ k ≤ q ∧ (∀ i, i < k → K[i]? = some i) ∧ (k < q → K[k]? ≠ some k) ∧ wx = w7)
      case first =>
        go_wp2_with fail
        go_loopw [11] (fun v11 wr => ∃ k : Nat, v11 = .int .i64 k ∧ k ≤ q ∧ (∀ i, i < k → K[i]? = some i) ∧ wr = w7) (fun v11 _ => q - (intOf v11).toNat)
        case atStart => exact ⟨0, rfl, Nat.zero_le _, fun i hi => by omega, rfl⟩
        case round =>
          obtain ⟨k, rfl, hk, hKi, rfl⟩ := hrel
          have HKI := Lib.hid hKi
          obtain ⟨r6, _, _, hcl⟩ := HOLD.out wr HB7.out
          clear hKi
          by_cases hkq : k < q
          · obtain ⟨g', rfl, hck⟩ := hcl k hkq
            obtain ⟨y, hy⟩ : ∃ y, K[k]? = some y := ⟨_, List.getElem?_eq_getElem (by rw [HKL.out]; exact hkq)⟩
            rw [hy] at hck
            have hck : wr.cell? ⟨g', k, none⟩ = some (.int .i64 ((y : Nat) : Int)) := hck
            have HY := Lib.hid hy
            clear hcl hy
            have ik0 : (0 : Int) ≤ (k : Int) := Int.natCast_nonneg _
            have ik1 : (k : Int) < (q : Int) := by omega
            by_cases hyk : y = k
            · have hb : ((y : Int) == (k : Int)) = true := by rw [hyk, beq_self_eq_true]
              go_wp2_with fail
              go_roundw
              case rel =>
                refine ⟨k + 1, by go_num, by omega, fun i hi => ?_, trivial⟩
                rcases Nat.lt_or_ge i k with h | h
                · exact HKI.out i h
                · rw [show i = k by omega, HY.out, hyk]
              case measure => simp [intOf]; omega
            · have hb : ((y : Int) == (k : Int)) = false := by rw [beq_eq_false_iff_ne]; omega
              go_wp2_with fail
              go_meet
              exact ⟨k, rfl, by omega, HKI.out, fun _ e => hyk (by rw [HY.out] at e; injection e), rfl⟩
          · obtain rfl : k = q := by omega
            go_wp2_with fail
            go_meet
            exact ⟨k, rfl, Nat.le_refl _, HKI.out, fun h => absurd h (Nat.lt_irrefl _), rfl⟩
      case rest =>
        obtain ⟨k, rfl, hkq, hKi, hKn, rfl⟩ := hcut
        have hnx := least_eq HI7.out HU7.out HKS.out (by rw [HKL.out]; exact hkq) hKi (by rw [HKL.out]; exact hKn)
        have hkm : k ≤ m := by omega
        have HNX := Lib.hid hnx
        have HTK := Lib.hid (take_any p _ _ _ wc HS7.out HI7.out hbs7)
        clear hnx hKi hKn
        go_wp2_with fail
        with_reducible refine HTK.out.mono ?_
        rintro e w8 htk
        unfold Taken at htk
        rw [HNX.out] at htk
        rcases htk with ⟨hk256, rfl, hs8, ht8⟩ | ⟨hk256, rfl, hs8, ht8⟩
        · obtain ⟨G1, hG1⟩ : ∃ G1, grown (List.replicate m 0) k = G1 := ⟨_, rfl⟩
          have hz : ∀ i : Nat, G1[i]?.getD 0 = 0 := by
            intro i
            rw [← hG1]
            unfold grown
            split
            · rw [List.getElem?_append]
              split
              · exact getD_zeros _ _
              · rcases Nat.eq_zero_or_pos (i - (List.replicate m 0).length) with h0 | h0
                · rw [h0]; rfl
                · rw [List.getElem?_eq_none (by simp only [List.length_cons, List.length_nil]; omega)]; rfl
            · exact getD_zeros _ _
          have hkl : k < G1.length := by
            rw [← hG1]
            unfold grown
            split
            · rename_i e; rw [List.length_append, ← e]; exact Nat.lt_succ_self _
            · rename_i e; rw [List.length_replicate] at e ⊢; exact Nat.lt_of_le_of_ne hkm e
          have hI1 := HI7.out.take (by rw [HNX.out]; exact hk256)
          rw [HNX.out, hG1] at hI1
          rw [hG1] at hs8
          rw [hG1, hz k]
          have HB8 := Lib.hid (HB7.out.trans (ht8.below HS7.out hp7 hbz7))
          have HS8 := Lib.hid hs8
          have hq8 : Q0 ≤ w8.heap.size := by have := hs8.sz; omega
          have hbz8 : bz ≤ w8.heap.size := by have := ht8.base.size; omega
          clear hs8 ht8 hG1 HTK HS7 HB7
          go_wp2_with fail
          obtain ⟨B8, hB8⟩ : ∃ B8, w8.heap.size = B8 := ⟨_, rfl⟩
          have hb9 : Below w8.heap.size w8 (w8.alloc (.cells #[.int .i64 (k : Nat), .int .i64 0] 64)) := (Below.refl _ _).alloc (Nat.le_refl _) _
          have ht9 : Two (w8.alloc (.cells #[.int .i64 (k : Nat), .int .i64 0] 64)) B8 (.int .i64 (k : Nat)) (.int .i64 0) := by rw [← hB8]; exact ⟨by simp, by simp, by simp, by simp⟩
          have hgB : some B8 ≠ gb (w8.alloc (.cells #[.int .i64 (k : Nat), .int .i64 0] 64)) p := fun e => by
            have : gb (w8.alloc (.cells #[.int .i64 (k : Nat), .int .i64 0] 64)) p = gb w8 p := by unfold gb; rw [hb9.cell (p := ⟨p, 0, none⟩) HS8.out.sz]
            rw [this] at e
            have := (HS8.out.gb_gt e.symm).2.2
            omega
          have hpB : B8 ≠ p := by have := HS8.out.sz; omega
          have hs9 := HS8.out.keep hb9
          have HB9 := Lib.hid (HB8.out.trans (hb9.mono hq8))
          have hbz9 : bz ≤ (w8.alloc (.cells #[.int .i64 (k : Nat), .int .i64 0] 64)).heap.size := Nat.le_trans hbz8 hb9.size
          rw [hB8]
          generalize (w8.alloc (.cells #[.int .i64 (k : Nat), .int .i64 0] 64)) = w9 at hb9 ht9 hgB hs9 HB9 hbz9 ⊢
          have hU1 : has (jn orW U (one k)) k = true := by rw [has_or, has_one]; simp
          have hfr := free_ok p _ _ _ w9 hs9 hI1 k 0 (by omega) hU1 (hz k) (by omega)
          with_reducible refine (show Calls Try.prog 40 #[.pointer (some ⟨p, 0, none⟩), .agg #[.int .i64 (k : Nat), .int .i64 0]] w9 _ from hfr).mono ?_
          rintro e w10 ⟨rfl, hs10, ht10⟩
          have hI2 := hI1.free hU1 1
          have hU2 : ∀ i, has (jn subW (jn orW U (one k)) (one k)) i = decide (i ∈ K) := by
            intro i
            rw [has_sub, has_or, has_one, HU7.out i]
            by_cases e : i = k
            · subst e
              have : has U i = false := by have := (next_spec HI7.out).2.2; rwa [HNX.out] at this
              rw [HU7.out i] at this
              simp [this]
            · simp [e]
          have hUe : jn subW (jn orW U (one k)) (one k) = U := has_ext fun i => (hU2 i).trans (HU7.out i).symm
          rw [hUe] at hs10 hI2
          have hnx2 : next (jn orW (jn subW F (one k)) (one k)) (G1.set k 1).length = k := by
            have h1 := (next_spec hI2).2
            have h2 := (next_spec HI7.out).2
            rw [HNX.out] at h2
            rcases Nat.lt_trichotomy (next (jn orW (jn subW F (one k)) (one k)) (G1.set k 1).length) k with h | h | h
            · have := h2.1 _ h
              rw [h1.2] at this; cases this
            · exact h
            · have := h1.1 _ h
              rw [h2.2] at this; cases this
          have HB10 := Lib.hid (HB9.out.trans (ht10.below hs9 hp7 hbz7))
          have HT10 := Lib.hid (Two.turn ht10 ht9 hpB hgB)
          have HS10 := Lib.hid hs10
          have hbz10 : bz ≤ w10.heap.size := by have := ht10.base.size; omega
          have HTK2 := Lib.hid (take_any p _ _ _ w10 hs10 hI2 hbz10)
          have hl2 : k < (G1.set k 1).length := by rw [List.length_set]; exact hkl
          have hg2 : grown (G1.set k 1) k = G1.set k 1 := by unfold grown; rw [if_neg (Nat.ne_of_lt hl2)]
          have hv2 : (G1.set k 1)[k]?.getD 0 = 1 := by rw [List.getElem?_set_self hkl]; rfl
          have hI3 := hI2.take (by rw [hnx2]; exact hk256)
          rw [hnx2, hg2] at hI3
          have HNX2 := Lib.hid hnx2
          have hUk : has U k = false := by have := (next_spec HI7.out).2.2; rwa [HNX.out] at this
          have hlen3 := len_new U k (by omega) hUk
          rw [HL7.out] at hlen3
          clear hs10 ht10 hs9 ht9 hgB hfr hb9 HB9 hU2 hUe hnx2 hI2 hU1
          go_wp2_with fail
          with_reducible refine HTK2.out.mono ?_
          rintro e w11 htk
          unfold Taken at htk
          rw [HNX2.out, hg2, hv2, show (((1 : Nat)) : Int) = 1 from rfl] at htk
          rcases htk with ⟨_, rfl, hs11, ht11⟩ | ⟨hbad, _⟩
          rotate_left
          · omega
          have HB11 := Lib.hid (HB10.out.trans (ht11.below HS10.out hp7 hbz7))
          have HS11 := Lib.hid hs11
          have HI3 := Lib.hid hI3
          have hq11 : Q0 ≤ w11.heap.size := by have := hs11.sz; omega
          clear hs11 ht11 HTK2 HS10 HB10 hI3 hg2 hv2 HS8 HB8 HT10
          go_wp2_with fail
          obtain ⟨B11, hB11⟩ : ∃ B11, w11.heap.size = B11 := ⟨_, rfl⟩
          have hb12 : Below w11.heap.size w11 (w11.alloc (.cells #[.int .i64 (k : Nat), .int .i64 1] 64)) := (Below.refl _ _).alloc (Nat.le_refl _) _
          have c0 : (w11.alloc (.cells #[.int .i64 (k : Nat), .int .i64 1] 64)).cell? ⟨B11, 0, none⟩ = some (.int .i64 (k : Nat)) := by rw [← hB11]; simp
          have c1 : (w11.alloc (.cells #[.int .i64 (k : Nat), .int .i64 1] 64)).cell? ⟨B11, 1, none⟩ = some (.int .i64 1) := by rw [← hB11]; simp
          have HS12 := Lib.hid (HS11.out.keep hb12)
          have HB12 := Lib.hid (HB11.out.trans (hb12.mono hq11))
          rw [hB11]
          generalize (w11.alloc (.cells #[.int .i64 (k : Nat), .int .i64 1] 64)) = w12 at hb12 c0 c1 HS12 HB12 ⊢
          have r6 := (HOLD.out w12 HB12.out).1
          have l6 := World.block_lt_of_cell? w12 _ r6
          have l11 := World.block_lt_of_cell? w12 _ c0
          have HLI := Lib.hid (list_any p _ _ _ w12.drew HS12.out.drew HI3.out)
          have HL3 := Lib.hid hlen3
          have iq : IntKind.i64.wrap ((q : Int) + 1) = (q : Int) + 1 := IntWalk.i64_in _ (by omega)
          have hq12 : Q0 ≤ w12.heap.size := by have := HB12.out.size; have := hb12.size; omega
          clear hb12 HS11 HB11 hlen3
          refine region_fr (S := fun w' => ∃ k m, w' = ext w12 k m) [0, 1, 2, 3, 4, 5, 6, 7, 8, 9, 12, 13, 14] 5 [] (by kernel_rfl) rfl (by kernel_rfl) (by kernel_rfl) ⟨[], w12.drawn + 1, (by rw [← ext_nil w12]; rfl)⟩ ?_
          simp only [List.filterMap_cons, List.filterMap_nil, List.getElem?_cons_zero, List.getElem?_cons_succ]
          show wpQuiet _ _ _ _ [_, _, _, _, _, _, _, _, _, _, _, _, _] _
          repeat (go_big_quiet_step (fail))
          refine wpQuiet_nil ?_
          refine fr_one (i := 10) (by kernel_rfl) rfl rfl ?_
          go_simp
          with_reducible refine HLI.out.mono ?_
          rintro e w13 ⟨v, rfl, hrow, hb13⟩
          obtain ⟨ao, cap13, rfl, _⟩ := owns_source hrow
          have hb13' : Below w12.heap.size w12 w13 := (Below.refl _ _).drew.trans hb13
          have HB13 := Lib.hid (HB12.out.trans (hb13'.mono hq12))
          rw [HL3.out]
          have HX13 := Lib.hid hb13'
          refine ⟨ext_of hb13', ?_⟩
          clear hrow hb13 hb13'
          refine fr_one (i := 11) (by kernel_rfl) rfl rfl ?_
          go_simp
          refine ⟨ext_of HX13.out, ?_⟩
          refine fr_one (i := 15) (by kernel_rfl) rfl rfl ?_
          go_simp
          refine ⟨ext_of HX13.out, ?_⟩
          refine fr_one (i := 16) (by kernel_rfl) rfl rfl ?_
          go_simp
          refine ⟨ext_of HX13.out, ?_⟩
          refine fr_one (i := 17) (by kernel_rfl) rfl rfl ?_
          go_simp
          refine ⟨ext_of HX13.out, ?_⟩
          refine ⟨by kernel_rfl, (fun _ h => nomatch h), ?_⟩
          obtain ⟨_, hKX, hBX, _⟩ := HOLD.out _ HB13.out
          go_wp2_with fail
          refine ⟨by simp, .inl ⟨_, _, rfl, run_takeDeferred hKX, ?_⟩⟩
          refine ⟨_, results_tmp rfl _ _ _, rfl, ?_⟩
          exact hBX.trans (belowK_b (n₀ := w.heap.size) (w := w4) (by rw [HC.out]; omega) _ D _ (.deferred none) (by rw [HC.out]; exact hD) hKX rfl rfl)
        · subst hk256
          have HB8 := Lib.hid (HB7.out.trans (ht8.below HS7.out hp7 hbz7))
          have hq8 : Q0 ≤ w8.heap.size := by have := hs8.sz; omega
          clear hs8 ht8 HTK HS7 HB7
          go_wp2_with fail
          have hbx := HB8.out.trans ((Below.refl w8.heap.size w8).alloc (Nat.le_refl _) (.cells #[.int .i64 0, .int .i64 0] 64) |>.mono hq8)
          obtain ⟨_, hKX, hBX, _⟩ := HOLD.out _ hbx
          refine ⟨by simp, .inl ⟨_, _, rfl, run_takeDeferred hKX, ?_⟩⟩
          refine ⟨_, results_tmp rfl _ _ _, rfl, ?_⟩
          exact hBX.trans (belowK_b (n₀ := w.heap.size) (w := w4) (by rw [HC.out]; omega) _ D _ (.deferred none) (by rw [HC.out]; exact hD) hKX rfl rfl)
  case stop =>
    rintro D cd pre W _ _ h _
    exact h.elim
end Go.Proofs.Ytfeibjokifidmaa.Z
namespace Go.Proofs.Ytfeibjokifidmaa
open Go.RowKit

theorem SlotsLeastW (a0 : Option Addr) (len0 cap0 : Nat) (z0 : List Int) (a1 : Int) (w : World)
    (w0 : ((a0 = none ∧ len0 = 0 ∧ cap0 = 0 ∧ z0 = []) ∨ ∃ x, a0 = some x ∧ len0 ≤ cap0 ∧ cap0 ≤ maxLen ∧ z0.length = cap0 ∧ (∀ i, i < z0.length → w.cell? (x.add i) = some (.int .i64 (z0.getD i 0))) ∧ ∀ n ∈ z0, (Lit.int .i64 n).wf = true) ∧ cap0 * 8 ≤ 140737488351232)
    (w1 : (Lit.int .i64 a1).wf = true) :
    Calls Try.prog 10 #[.slice a0 len0 cap0, .int .i64 a1] w fun e w' => e = .returned (.bool true) ∧ Below w.heap.size w w' := by
  obtain ⟨ns, hl, hn, hc, hw, hlc⟩ := row_open w0.1
  exact Z.walk10 a0 ns len0 cap0 a1 w hl hn hc (by have := w0.2; omega) (fun c hc => bounds_i64 (hw c hc)) (bounds_i64 w1)
end Go.Proofs.Ytfeibjokifidmaa
