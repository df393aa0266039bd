/- For every input, QueueOrder returns true. No condition. -/
import Derived.Test.YtfeibjokifidmaaOrds
namespace Go.Proofs.Ytfeibjokifidmaa
open Go.RowKit
attribute [local go_sem ↓] run_mn

theorem Try.info4 : (Try.prog.info? 4).map (fun i => (i.zero, i.size, i.bytes)) = some (some (.bool false), 1, 1) := by kernel_rfl

set_option maxRecDepth 4000 in
set_option maxHeartbeats 2000000 in
theorem walk7 (a : Option Addr) (zs : List Int) (len cap : Nat) (w : World) (hl : zs.length = len) (hn : a = none → len = 0 ∧ cap = 0)
    (hc : ∀ x, a = some x → ∀ j u, (zs.map (Value.int .i64))[j]? = some u → w.cell? (x.add j) = some u) (hlc : len ≤ cap) (hr : len ≤ 9223372036854775807) :
    Calls Try.prog 7 #[.slice a len cap] w fun e w' => e = .returned (.bool true) ∧ Below w.heap.size w w' := by
  obtain ⟨i0, hi0, hz0, hz1, hz2⟩ := info_parts Try.info3
  obtain ⟨i4, hi4, hy0, hy1, hy2⟩ := info_parts Try.info4
  obtain ⟨c, hcm, hcn, hc2⟩ : ∃ c : Nat, mn (len : Int) 300 = (c : Int) ∧ c ≤ len ∧ c ≤ 300 := by
    unfold mn
    by_cases h : len ≤ 300
    · exact ⟨len, by rw [if_neg (by omega)], by omega, by omega⟩
    · exact ⟨300, by rw [if_pos (by omega)]; rfl, by omega, by omega⟩
  have hcut : ∀ W : World, (Instr.slice 22 (.slice a len cap) none (some (.int .i64 (c : Int))) none).run Try.prog W = .ok (.slice a c cap) W := fun W => run_cut W 22 3 a len cap c i0 Try.underlying22 hi0 (by omega) (fun h => (hn h).2)
  obtain ⟨rs, hrs⟩ : ∃ rs, zs.take c = rs := ⟨_, rfl⟩
  have hrl : rs.length = c := by rw [← hrs, List.length_take]; omega
  have HRL := Lib.hid hrl
  have HN : Hid (a = none → c = 0 ∧ cap = 0) := fun h => by have := hn h; omega
  have HC : Hid (∀ W, Below w.heap.size w W → ∀ x, a = some x → ∀ j u, (rs.map (Value.int .i64))[j]? = some u → W.cell? (x.add j) = some u) := by
    intro W hW x hx j u hu
    have h := hc x hx j u (by
      rw [List.getElem?_map] at hu ⊢
      rw [← hrs, List.getElem?_take] at hu
      split at hu
      · exact hu
      · simp at hu)
    exact (hW.cell (World.block_lt_of_cell? w _ h)).trans h
  clear hn hc hl hrs hrl
  go_enter Try.func7, Try.ntmps7
  go_wp2_with fail
  refine (sort_any _ [2, 1] 2 2 _ rfl (by omega) (by intro h; cases h) ?_).mono ?_
  · intro x hx j u hu
    cases hx
    match j, hu with
    | 0, hu => simp at hu; subst hu; simp [go_sem, Addr.add]
    | 1, hu => simp at hu; subst hu; simp [go_sem, Addr.add]
  unfold Sorts
  rintro e w1 ⟨v, O, rfl, hO, hown, hB⟩
  obtain rfl := sorted_two hO
  have HB1 : Hid (Below w.heap.size w w1) := ((Below.refl _ _).alloc (Nat.le_refl _) _).trans (hB.mono (by simp))
  obtain ⟨g, gc, rfl, _, hgl, _, _, _, hcl, _⟩ := owns_open hown (by omega)
  have HCL := Lib.hid hcl
  clear hO hown hB hcl
  go_wp2_with fail
  refine (equal_ints g w1.heap.size 2 gc 2 [1, 0] _ (by omega) (by simp; omega) (by simp) ?_ ?_).mono ?_
  · intro k hk
    rw [World.cell?_alloc_lt _ _ _ (by exact hgl), HCL.out k (by omega)]
    match k, hk with
    | 0, _ => rfl
    | 1, _ => rfl
  · intro k hk
    match k, hk with
    | 0, _ => simp [go_sem]
    | 1, _ => simp [go_sem]
  rintro e w2 ⟨rfl, hb2⟩
  have HB2 : Hid (Below w.heap.size w w2) := HB1.out.trans ((((Below.refl _ _).alloc (Nat.le_refl _) _).trans (hb2.mono (by simp))).mono HB1.out.size)
  clear hb2 HCL hgl HB1
  go_wp2_with fail
  refine (sort_any a rs c cap w2 HRL.out (by omega) HN.out (HC.out w2 HB2.out)).mono ?_
  unfold Sorts
  rintro e w3 ⟨v, O, rfl, hO, hown, hB⟩
  have HB3 : Hid (Below w.heap.size w w3) := HB2.out.trans (hB.mono HB2.out.size)
  have HV : Hid (∀ k, k < c → ∃ g cp, v = .slice (some ⟨g, 0, none⟩) c cp ∧ g < w3.heap.size ∧ ∀ j, j < c → w3.cell? ⟨g, j, none⟩ = some (.int .i64 (at' O j).v)) := by
    intro k hk
    obtain ⟨g, cp, h1, _, h2, _, _, _, h3, _⟩ := owns_open hown (by omega)
    refine ⟨g, cp, h1, h2, ?_⟩
    intro j hj
    have := hO.length
    rw [h3 j (by omega), List.getElem?_map, at_eq (by omega), List.getElem?_eq_getElem (by omega)]
    rfl
  obtain ⟨ao, gc1, rfl, _, _, _⟩ := owns_source hown
  have HO := Lib.hid hO
  have hne : ((c : Int) != (c : Int)) = false := by simp
  clear hO hown hB HB2
  go_wp2_with (refine wpList_make_full _ rfl _ _ 57 rfl w3.heap.size 4 i4 (.bool false) 1 Try.underlying57 hi4 hy0 hy1 .i64 .i64 _ _ c rfl rfl rfl rfl (by rw [hy2]; omega) (by unfold maxLen; omega) (Nat.le_refl _) ?_)
  intro w4 own4 hg4
  have hb4 : Below w3.heap.size w3 w4 := (Below.refl _ _).grown hg4 (Nat.le_refl _) (fun k hk => by cases hk)
  obtain ⟨hlt4, hc4, hf4⟩ := made_bools own4
  clear own4 hg4
  have HC4 := Lib.hid hc4
  have HB4 := Lib.hid hb4
  clear hc4 hb4
  have HL : Hid (∀ i, i < c → ∃ y, a = some y ∧ ∀ W, Below w3.heap.size w3 W → W.cell? (y.add i) = some (.int .i64 (rs[i]?.getD 0))) := by
    intro i hi
    cases a with
    | none => have := (HN.out rfl).1; omega
    | some y =>
      have h := HC.out w3 HB3.out y rfl i (.int .i64 (rs[i]?.getD 0)) (by rw [List.getElem?_map, List.getElem?_eq_getElem (by rw [HRL.out]; exact hi)]; rfl)
      exact ⟨y, rfl, fun W hW => (hW.cell (World.block_lt_of_cell? w3 _ h)).trans h⟩
  clear HC HN
  go_wp2_with fail
  obtain ⟨S, hS⟩ : ∃ S, w3.heap.size = S := ⟨_, rfl⟩
  have HS : Hid (w.heap.size ≤ S) := by rw [← hS]; exact HB3.out.size
  rw [hS] at HV HC4 HB4 HL hlt4 hf4
  rw [hS]
  clear hS
  go_loopw [8, 10, 51] (fun v8 _ i wr => ∃ j : Nat, i = .int .i64 j ∧ j ≤ c ∧ (∀ i, i < c → wr.cell? ⟨S, i, none⟩ = some (.bool (decide ((i : Int) ∈ (O.take j).map Itm.v)))) ∧ (∀ i, wr.frozen? ⟨S, i, none⟩ = false) ∧ S < wr.heap.size ∧
    wr.ownsRow (S + 1) 3 1 v8 j (((O.take j).map Itm.r).map (Value.int .i64)) ∧ Below S w3 wr) (fun _ _ i _ => c - (intOf i).toNat)
  case atStart => exact ⟨0, rfl, Nat.zero_le _, by simpa using HC4.out, hf4, hlt4, World.ownsRow_nil _ _ _ _, HB4.out⟩
  case round =>
    obtain ⟨j, rfl, hj, hsn, hfz, hsz, hO8, hbr⟩ := hrel
    have HO8 := Lib.hid hO8
    have HBR := Lib.hid hbr
    have HSN := Lib.hid hsn
    have HFZ := Lib.hid hfz
    clear hO8 hbr hsn
    by_cases hlt : j < c
    · obtain ⟨g1, cp, hv, hg1, hx⟩ := HV.out j hlt
      injection hv with e1 _ e3
      subst e1 e3
      obtain ⟨q, hq, hat⟩ := HO.out.item hlt
      have hxj := (HBR.out.cell (p := ⟨g1, j, none⟩) hg1).trans (hx j hlt)
      rw [hat] at hxj
      have hsq := HSN.out q hq
      have hOl := HO.out.length
      have htk : O.take (j + 1) = O.take j ++ [at' O j] := by
        rw [List.take_succ_eq_append_getElem (by omega), at_eq (by omega)]
      have hnq : decide ((q : Int) ∈ (O.take j).map Itm.v) = false := by
        have hnd := HO.out.nodup
        have e : O.map Itm.v = (O.take (j + 1)).map Itm.v ++ (O.drop (j + 1)).map Itm.v := by rw [← List.map_append, List.take_append_drop]
        rw [e, htk, List.map_append, List.nodup_append, List.nodup_append] at hnd
        simp only [decide_eq_false_iff_not]
        intro hm
        exact hnd.1.2.2 _ hm (q : Int) (by rw [hat]; simp) rfl
      have HTK := Lib.hid htk
      rw [hnq] at hsq
      obtain ⟨y, rfl, hy⟩ := HL.out q hq
      have hyq := hy wr HBR.out
      obtain ⟨z, hz⟩ : ∃ z, rs[q]?.getD 0 = z := ⟨_, rfl⟩
      rw [hz] at hyq
      have HZ := Lib.hid hz
      have HAT := Lib.hid hat
      have d2 : decide ((c : Int) ≤ (q : Int)) = false := by simp; omega
      have hyq2 : (wr.setCell ⟨S, q, none⟩ (.bool true)).cell? (y.add q) = some (.int .i64 z) := by
        rw [← hz]
        exact hy _ (HBR.out.setCell (p := ⟨S, q, none⟩) (Nat.le_refl _) _)
      have hO9 := ownsRow_setCell_below HO8.out (a := ⟨S, q, none⟩) (Nat.lt_succ_self S) (.bool true)
      have HSET := Lib.hid (set_bools HSN.out q)
      have HBT := Lib.hid (HBR.out.setCell (p := ⟨S, q, none⟩) (Nat.le_refl _) (.bool true))
      have hsz2 : S < (wr.setCell ⟨S, q, none⟩ (.bool true)).heap.size := by rw [setCell_size]; exact hsz
      obtain ⟨W5, hW5⟩ : ∃ W5, wr.setCell ⟨S, q, none⟩ (.bool true) = W5 := ⟨_, rfl⟩
      have HF5 : Hid (∀ i, W5.frozen? ⟨S, i, none⟩ = false) := fun i => by rw [← hW5, World.frozen?_setCell]; exact HFZ.out i
      have hfq := HFZ.out q
      rw [hW5] at hyq2 hO9 HSET HBT hsz2
      clear hx hat hy hz hnq htk hOl HFZ
      go_wp2_with (at_builtin; (try rw [hW5]); refine wpList_append_own _ rfl _ _ 22 rfl (S + 1) 3 i0 (.int .i64 0) 1 8 Try.underlying22 hi0 hz0 hz1 hz2 rfl (by decide) _ j _ rfl (hO9.alloc _) ⟨W5.heap.size, 0, none⟩ 1 1 [.int .i64 z] rfl rfl (new_one _ _ _) (one_ok rfl) (by unfold maxLen; omega) (by omega) (by simp; omega) ?_)
      intro v' w6 hO6 hg6 _
      have hb6 : Below (S + 1) W5 w6 := ((Below.refl _ W5).alloc (by omega) _).grown hg6 (by simp; omega) (fun k hk => (hO9.lt k hk).1)
      have HO6 := Lib.hid hO6
      have HB6 := Lib.hid hb6
      clear hO6 hg6 hb6 hO9
      go_wp2_with fail
      go_roundw
      case rel =>
        have hb := HB6.out
        refine ⟨j + 1, by go_num, by omega, ?_, ?_, ?_, ?_, ?_⟩
        · intro i hi
          rw [hb.cell (p := ⟨S, i, none⟩) (Nat.lt_succ_self S), HSET.out i hi, HTK.out, List.map_append, HAT.out]
          congr 2
          by_cases hiq : i = q
          · subst hiq; simp
          · have hiq' : ¬ (i : Int) = (q : Int) := by omega
            simp [hiq, hiq']
        · intro i
          rw [hb.frozen (p := ⟨S, i, none⟩) (Nat.lt_succ_self S)]; exact HF5.out i
        · have := hb.size; omega
        · rw [HTK.out, HAT.out, List.map_append, List.map_append]
          have := HO6.out
          rw [← HZ.out] at this
          simpa [List.map_map, List.map_take] using this
        · exact HBT.out.trans (hb.mono (Nat.le_succ S))
      case measure => simp [intOf]; omega
    · obtain rfl : j = c := by omega
      have hOl := HO.out.length
      obtain ⟨ss, hss⟩ : ∃ ss, O.map Itm.r = ss := ⟨_, rfl⟩
      have hsl : ss.length = j := by rw [← hss, List.length_map]; exact hOl
      have hsp : ss.Pairwise (· ≤ ·) := by rw [← hss]; exact HO.out.ranks
      have hown : wr.ownsRow (S + 1) 3 1 u8 j (ss.map (Value.int .i64)) := by
        have := HO8.out
        rw [← hss]
        simpa [List.map_map, List.map_take, List.take_of_length_le (Nat.le_of_eq hOl)] using this
      obtain ⟨ao8, cap8, rfl, hn8, hc8, _⟩ := owns_source hown
      have HOW := Lib.hid hown
      have HSL := Lib.hid hsl
      have HSP := Lib.hid hsp
      have HN8 := Lib.hid hn8
      have HC8 := Lib.hid hc8
      clear hss hsl hsp hown hn8 hc8 hOl HO8 HSN HFZ HV HC4 HB4 HL HO
      go_wp2_with fail
      refine (sort_any ao8 ss j cap8 wr HSL.out (by omega) HN8.out HC8.out).mono ?_
      unfold Sorts
      rintro e w5 ⟨v5, O5, rfl, hO5, hown5, hB5⟩
      obtain rfl := hO5.uniq (sorted_its HSP.out HSL.out)
      have HB5 := Lib.hid hB5
      have HV5 : Hid (∀ k, k < j → ∃ g cp, v5 = .slice (some ⟨g, 0, none⟩) j cp ∧ ∀ i, i < j → w5.cell? ⟨g, i, none⟩ = some (.int .i64 i)) := by
        intro k hk
        obtain ⟨g, cp, h1, _, h2, _, _, _, h3, _⟩ := owns_open hown5 (by omega)
        refine ⟨g, cp, h1, ?_⟩
        intro i hi
        rw [h3 i (by omega)]
        unfold its
        rw [List.map_map, List.getElem?_map, List.getElem?_range hi]
        rfl
      obtain ⟨ao5, cap5, rfl, _, _, _⟩ := owns_source hown5
      have HO8' := Lib.hid (owns_below HOW.out hB5 (Nat.le_refl _))
      clear hO5 hown5 hB5 HC8 HN8
      go_wp2_with fail
      go_loopw [12, 13, 87] (fun _ _ i wx => ∃ k : Nat, i = .int .i64 k ∧ k ≤ j ∧ wx = w5) (fun _ _ i _ => j - (intOf i).toNat)
      case atStart => exact ⟨0, rfl, Nat.zero_le _, rfl⟩
      case round =>
        obtain ⟨k, rfl, hk, rfl⟩ := hrel
        by_cases hkj : k < j
        · obtain ⟨g5, cp5, hv, hx⟩ := HV5.out k hkj
          injection hv with e1 _ e3
          subst e1 e3
          have hxk := hx k hkj
          have d3 : ((k : Int) != (k : Int)) = false := by simp
          clear hx
          go_wp2_with fail
          go_roundw
          case rel => exact ⟨k + 1, by go_num, by omega, by trivial⟩
          case measure => simp [intOf]; omega
        · obtain rfl : k = j := by omega
          have d4 : ((k : Int) == (k : Int)) = true := by simp
          go_wp2_with (go_at_call 36; (with_reducible refine (sorted_row _ _ _ ss _ HSL.out (by omega) HSP.out HO8'.out).mono ?_); rintro e w7 ⟨rfl, hb7⟩)
          go_ret
          have h1 := HB3.out.trans (HBR.out.mono HS.out)
          have h2 := h1.trans (HB5.out.mono h1.size)
          exact ⟨rfl, h2.trans (hb7.mono h2.size)⟩

theorem QueueOrderW (a0 : Option Addr) (len0 cap0 : Nat) (z0 : List Int) (w : World)
    (w0 : ((a0 = none ∧ len0 = 0 ∧ cap0 = 0 ∧ z0 = []) ∨ ∃ x, a0 = some x ∧ len0 ≤ cap0 ∧ cap0 ≤ maxLen ∧ z0.length = cap0 ∧ (∀ i, i < z0.length → w.cell? (x.add i) = some (.int .i64 (z0.getD i 0))) ∧ ∀ n ∈ z0, (Lit.int .i64 n).wf = true) ∧ cap0 * 8 ≤ 140737488351232) :
    Calls Try.prog 7 #[.slice a0 len0 cap0] w fun e w' => e = .returned (.bool true) ∧ Below w.heap.size w w' := by
  obtain ⟨ns, hl, hn, hc, _, hlc⟩ := row_open w0.1
  exact walk7 a0 ns len0 cap0 w hl hn hc hlc (by have := w0.2; omega)
end Go.Proofs.Ytfeibjokifidmaa
