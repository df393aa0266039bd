/- merkle.levels. -/
import Derived.Test.YtfeibjokifidmaaMk
import Derived.Test.YtfeibjokifidmaaTree
import Derived.Deep.CutBlock
import Derived.Deep.RegionHeld3
import Derived.Deep.AppendLies
import Derived.Deep.DrawnRows
import Derived.IntWalk
namespace Go.Proofs.Ytfeibjokifidmaa.M
open Go.RowKit

theorem Try.info35 : (Try.prog.info? 35).map (fun i => (i.zero, i.size, i.bytes)) = some (some (.slice none 0 0), 1, 24) := by kernel_rfl

theorem owns_keep {w w' : World} {B : Nat} {e : TypeId} {size : Nat} {v : Value} {n : Nat} {xs : List Value} (h : w.ownsRow B e size v n xs) (hb : ∀ k, B ≤ k → k < w.heap.size → v.ownBlock = some k → w'.heap[k]? = w.heap[k]?) : w'.ownsRow B e size v n xs := by
  obtain ⟨h1, h2⟩ := h
  refine ⟨h1, ?_⟩
  rcases h2 with h2 | ⟨g, cap, cur, hv, hg, hh, r⟩
  · exact .inl h2
  · have hlt : g < w.heap.size := by
      rcases Nat.lt_or_ge g w.heap.size with h' | h'
      · exact h'
      · simp [Array.getElem?_eq_none h'] at hh
    exact .inr ⟨g, cap, cur, hv, hg, by rw [hb g hg hlt (by rw [hv]; rfl)]; exact hh, r⟩
/-- Two rows of different elements lie in different blocks. -/
theorem owns_apart {w : World} {B B' : Nat} {e e' : TypeId} {size size' : Nat} {v v' : Value} {n n' : Nat} {xs xs' : List Value} (h : w.ownsRow B e size v n xs) (h' : w.ownsRow B' e' size' v' n' xs') (he : e ≠ e') :
    ∀ k, v.ownBlock = some k → v'.ownBlock ≠ some k := by
  intro k hk hk'
  obtain ⟨_, h2⟩ := h
  obtain ⟨_, h3⟩ := h'
  rcases h2 with ⟨rfl, _⟩ | ⟨g, cap, cur, rfl, _, hh, _⟩
  · cases hk
  rcases h3 with ⟨rfl, _⟩ | ⟨g', cap', cur', rfl, _, hh', _⟩
  · cases hk'
  injection hk with hk
  injection hk' with hk'
  subst hk
  simp only at hk'
  subst hk'
  rw [hh] at hh'
  injection hh' with hh'
  injection hh' with _ e2
  exact he e2

/-- The finished levels: so many rows of words. -/
def Rows (B C : Nat) (ws : List W64) (m : Nat) (vs : List Value) (w : World) : Prop :=
  vs.length = m ∧ ∀ i, i < m → ∃ vi, vs[i]? = some vi ∧ w.ownsRow B 37 1 vi (lvl ws i).length (us (lvl ws i)) ∧ ∀ q, vi.ownBlock = some q → q < C
theorem Rows.keep {B C m : Nat} {ws : List W64} {vs : List Value} {w w' : World} (h : Rows B C ws m vs w) (hb : Below C w w') : Rows B C ws m vs w' :=
  ⟨h.1, fun i hi => by
    obtain ⟨vi, h1, h2, h3⟩ := h.2 i hi
    exact ⟨vi, h1, owns_keep h2 fun k _ _ hk => hb.block k (h3 k hk), h3⟩⟩
theorem Rows.outer {B C m n : Nat} {ws : List W64} {vs xs : List Value} {w w' : World} {v : Value} (h : Rows B C ws m vs w) (ho : w.ownsRow B 35 1 v n xs) (hg : w.grownBy w' v.ownBlock) : Rows B C ws m vs w' :=
  ⟨h.1, fun i hi => by
    obtain ⟨vi, h1, h2, h3⟩ := h.2 i hi
    refine ⟨vi, h1, owns_keep h2 fun k _ hl hk => ?_, h3⟩
    exact hg.block k hl (fun e => owns_apart h2 ho (by decide) k hk e.symm)⟩
theorem Rows.mono {B C D m : Nat} {ws : List W64} {vs : List Value} {w : World} (h : Rows B C ws m vs w) (hC : C ≤ D) : Rows B D ws m vs w :=
  ⟨h.1, fun i hi => by
    obtain ⟨vi, h1, h2, h3⟩ := h.2 i hi
    exact ⟨vi, h1, h2, fun q hq => Nat.lt_of_lt_of_le (h3 q hq) hC⟩⟩
theorem Rows.snoc {B C D m : Nat} {ws : List W64} {vs : List Value} {w : World} {v : Value} (h : Rows B C ws m vs w) (hr : w.ownsRow B 37 1 v (lvl ws m).length (us (lvl ws m))) (hC : C ≤ D) (hD : w.heap.size ≤ D) : Rows B D ws (m + 1) (vs ++ [v]) w := by
  refine ⟨by rw [List.length_append, h.1]; rfl, fun i hi => ?_⟩
  by_cases him : i < m
  · obtain ⟨vi, h1, h2, h3⟩ := (h.mono hC).2 i him
    exact ⟨vi, by rw [List.getElem?_append_left (by rw [h.1]; exact him)]; exact h1, h2, h3⟩
  · obtain rfl : i = m := by omega
    exact ⟨v, by rw [List.getElem?_append_right (by rw [h.1]; exact Nat.le_refl _), h.1, Nat.sub_self]; rfl, hr, fun q hq => Nat.lt_of_lt_of_le (hr.lt q hq).2 hD⟩

theorem lvl_le (l : List W64) : ∀ k, (lvl l k).length ≤ l.length
  | 0 => Nat.le_refl _
  | k + 1 => by
    have := lvl_le l k
    show (nxt (lvl l k)).length ≤ _
    rw [nxt_length]
    omega

/-- What levels says. -/
def Levels (ws : List W64) (w : World) (e : Ending) (w' : World) : Prop :=
  ∃ v vs, e = .returned v ∧ w'.ownsRow w.heap.size 35 1 v (tops ws.length + 1) vs ∧ Rows w.heap.size w'.heap.size ws (tops ws.length + 1) vs w' ∧ Below w.heap.size w w'

/-- The length in a slot. -/
def lenOf : Value → Nat | .slice _ r _ => r | _ => 0

set_option maxRecDepth 4000 in
set_option maxHeartbeats 2000000 in
theorem levels_any (ao : Option Addr) (n cap : Nat) (ws : List W64) (w : World) (hl : ws.length = n) (hn : ao = none → n = 0 ∧ cap = 0)
    (hc : ∀ x, ao = some x → ∀ j u, (us ws)[j]? = some u → w.cell? (x.add j) = some u) (h1 : 1 ≤ n) (h2 : n ≤ 64) :
    Calls Try.prog 60 #[.slice ao n cap] w (Levels ws w) := by
  obtain ⟨i0, hi0, hz0, hz1, hz2⟩ := info_parts Try.info37
  obtain ⟨i5, hi5, hy0, hy1, hy2⟩ := info_parts Try.info35
  have HC := Lib.hid hc
  have HN := Lib.hid hn
  have HL := Lib.hid hl
  clear hc hn hl
  go_enter Try.func60, Try.ntmps60
  go_wp2_with (at_builtin; refine wpList_append_copy _ rfl _ _ 35 rfl 37 i0 (.int .u64 0) 1 8 Try.underlying35 hi0 hz0 hz1 hz2 rfl (by decide) ao n cap (us ws) rfl rfl (by rw [us_length, HL.out]; omega) HN.out HC.out (us_one ws) (by unfold maxLen; omega) (by omega) ?_)
  intro v w1 hown hg
  have hB : Below w.heap.size w w1 := (Below.refl _ _).grown hg (Nat.le_refl _) (fun k hk => by cases hk)
  obtain ⟨g, c, rfl, _, _, _, _, _, _, _⟩ := owns_open hown h1
  have HO := Lib.hid hown
  have HB := Lib.hid hB
  clear hown hg hB HC
  go_wp2_with fail
  obtain ⟨W2, hW2⟩ : ∃ W2, w1.alloc (Obj.cells #[Value.slice (some { block := g, off := 0 }) n c] 35) = W2 := ⟨_, rfl⟩
  have hs2 : W2.heap.size = w1.heap.size + 1 := by rw [← hW2]; simp
  have hO2 := owns_mono (made_one w1 35 (Value.slice (some ⟨g, 0, none⟩) n c)) HB.out.size
  have hR2 : Rows w.heap.size W2.heap.size ws 1 [Value.slice (some ⟨g, 0, none⟩) n c] W2 := by
    refine ⟨rfl, fun i hi => ?_⟩
    obtain rfl : i = 0 := by omega
    have ho : W2.ownsRow w.heap.size 37 1 (.slice (some ⟨g, 0, none⟩) n c) n (us ws) := by rw [← hW2]; exact HO.out.alloc _
    refine ⟨_, rfl, ?_, fun q hq => (ho.lt q hq).2⟩
    show W2.ownsRow _ 37 1 _ ws.length (us ws)
    rw [HL.out]; exact ho
  have hB2 : Below w.heap.size w W2 := by rw [← hW2]; exact HB.out.alloc HB.out.size _
  rw [hW2] at hO2
  rw [hW2]
  have HO2 := Lib.hid hO2
  have HR2 := Lib.hid hR2
  have HB2 := Lib.hid hB2
  clear hW2 hO2 hR2 hB2 HO HB hs2
  go_loopw [3, 4, 5, 6] (fun v3 v4 _ _ wr => ∃ (k : Nat) (vs : List Value), k ≤ tops ws.length ∧ vs[k]? = some v4 ∧ wr.ownsRow w.heap.size 35 1 v3 (k + 1) vs ∧ Rows w.heap.size wr.heap.size ws (k + 1) vs wr ∧ Below w.heap.size w wr) (fun _ v4 _ _ _ => lenOf v4)
  case atStart => exact ⟨0, _, Nat.zero_le _, rfl, HO2.out, HR2.out, HB2.out⟩
  case round =>
    obtain ⟨k, vs, hk, hv4, hO3, hR, hB⟩ := hrel
    obtain ⟨vi, hvi, hr4, hlt4⟩ := hR.2 k (Nat.lt_succ_self k)
    rw [hv4] at hvi
    injection hvi with hvi
    subst hvi
    obtain ⟨m, hm⟩ : ∃ m, (lvl ws k).length = m := ⟨_, rfl⟩
    rw [hm] at hr4
    obtain ⟨ao4, cap4, rfl, _, _, _⟩ := owns_source hr4
    have HO3 := Lib.hid hO3
    have HR := Lib.hid hR
    have HB := Lib.hid hB
    have HV4 := Lib.hid hv4
    have HM := Lib.hid hm
    have HR4 := Lib.hid hr4
    have HLT4 := Lib.hid hlt4
    have HTS := Lib.hid (tops_spec ws.length ws rfl (by rw [HL.out]; exact h1))
    clear hO3 hR hB hv4 hm hr4 hlt4
    by_cases hm2 : 2 ≤ m
    · have hm64 : m ≤ 64 := by have h3 := lvl_le ws k; rw [HM.out, HL.out] at h3; omega
      obtain ⟨g4, c4, hv, _, hg4, _, _, _, hcl, _⟩ := owns_open HR4.out (by omega)
      injection hv with e1 _ e3
      subst e1 e3
      obtain ⟨L, hLL⟩ : ∃ L, lvl ws k = L := ⟨_, rfl⟩
      have HLL := Lib.hid hLL
      have HCL : Hid (∀ i, i < m → wr.cell? ⟨g4, i, none⟩ = some (.int .u64 (U (wd L i)))) := by
        intro i hi
        have hm' := HM.out
        rw [hLL] at hm'
        rw [hcl i (by omega), hLL]
        unfold us wd
        rw [List.getElem?_map, List.getElem?_eq_getElem (by omega)]
        rfl
      have HNL : Hid ((nxt L).length = (m + 1) / 2) := by
        have hm' := HM.out
        rw [hLL] at hm'
        show _ = _
        rw [nxt_length, hm']
      have hLm : Hid (L.length = m) := by have hm' := HM.out; rw [hLL] at hm'; exact hm'
      obtain ⟨C, hC⟩ : ∃ C, wr.heap.size = C := ⟨_, rfl⟩
      have HCE := Lib.hid hC
      rw [hC] at hg4
      clear hcl hLL hC
      go_wp2_with fail
      go_loopw [5, 6] (fun v5 i wx => ∃ j : Nat, i = .int .i64 ((2 * j : Nat) : Int) ∧ j ≤ (m + 1) / 2 ∧ wx.ownsRow C 37 1 v5 j (us ((nxt L).take j)) ∧ C ≤ wx.heap.size ∧ Below C wr wx) (fun _ i _ => m + 2 - (intOf i).toNat)
      case atStart => exact ⟨0, rfl, Nat.zero_le _, World.ownsRow_nil _ _ _ _, Nat.le_of_eq HCE.out.symm, Below.refl _ _⟩
      case round =>
        obtain ⟨j, rfl, hj, hO5, hCs, hB5⟩ := hrel
        by_cases hlt : 2 * j < m
        · have ha := (hB5.cell (p := ⟨g4, 2 * j, none⟩) hg4).trans (HCL.out (2 * j) hlt)
          have hsn : Hid ((nxt L).take (j + 1) = (nxt L).take j ++ [wd (nxt L) j]) := by
            have : j < (nxt L).length := by rw [HNL.out]; omega
            show _ = _
            rw [List.take_succ_eq_append_getElem this]
            unfold wd
            rw [List.getElem?_eq_getElem this]; rfl
          have hnx := nxt_at L j
          rw [hLm.out] at hnx
          by_cases hlt2 : 2 * j + 1 < m
          · have hb := (hB5.cell (p := ⟨g4, 2 * j + 1, none⟩) hg4).trans (HCL.out (2 * j + 1) hlt2)
            rw [if_pos hlt2] at hnx
            obtain ⟨x, hx⟩ : ∃ x, wd L (2 * j) = x := ⟨_, rfl⟩
            obtain ⟨y, hy⟩ : ∃ y, wd L (2 * j + 1) = y := ⟨_, rfl⟩
            rw [hx] at ha hnx
            rw [hy] at hb hnx
            rw [hnx] at hsn
            clear hnx hx hy
            have hgx : g4 < wr.heap.size := by omega
            obtain ⟨q, hq⟩ : ∃ q, 2 * j = q := ⟨_, rfl⟩
            rw [hq] at ha hb hlt hlt2 ⊢
            have HQ := Lib.hid hq
            clear hq
            have hag : Hid (some g4 ≠ u5.ownBlock) := fun e => by have := (hO5.lt _ e.symm).1; omega
            have HA : Hid (∀ o, ((wr.alloc o).drew).cell? ⟨g4, q, none⟩ = some (.int .u64 (U x))) := fun o => by
              exact (World.cell?_alloc_lt wr _ (a := ⟨g4, q, none⟩) hgx).trans ha
            have HB' : Hid (∀ o, ((wr.alloc o).drew).cell? ⟨g4, q + 1, none⟩ = some (.int .u64 (U y))) := fun o => by
              exact (World.cell?_alloc_lt wr _ (a := ⟨g4, q + 1, none⟩) hgx).trans hb
            have i1 : (0 : Int) ≤ (q : Int) := Int.natCast_nonneg _
            have i2 : (q : Int) < (m : Int) := by omega
            have i3 : ((q : Int) + 1) < (m : Int) := by omega
            have i4 : (0 : Int) ≤ ((q : Int) + 1) := by omega
            have i5 : IntKind.i64.wrap ((q : Int) + 1) = (q : Int) + 1 := IntWalk.i64_in _ (by omega)
            have i6 : ((q : Int) + 1).toNat = q + 1 := by omega
            go_wp2_with fail
            go_region_held3 (fun w' => w'.cell? ⟨g4, q, none⟩ = some (.int .u64 (U x)) ∧ w'.cell? ⟨g4, q + 1, none⟩ = some (.int .u64 (U y)))
              (first | go_keep | (refine ⟨hg6.cell (a := ⟨g4, q, none⟩) (HA.out _) hag.out, hg6.cell (a := ⟨g4, q + 1, none⟩) (HB'.out _) hag.out⟩))
              ((first | (go_at_call 64; refine (join_any _ _ _).mono ?_; rintro e w' ⟨rfl, rfl⟩) | (refine step_append_lies _ (by rfl) _ _ 35 (by rfl) C 37 i0 (.int .u64 0) 1 8 Try.underlying35 hi0 hz0 hz1 hz2 rfl (by decide) u5 j _ (by rfl) ((hO5.alloc _).drew) ⟨wr.heap.size, 0, none⟩ 1 1 [.int .u64 (U (join x y))] (by rfl) (by rfl) (new_one _ _ _) (one_ok rfl) (by omega) (by unfold maxLen; omega) (by omega) (by simp; omega) (wr.heap.size + 1) (by simp) ?_; intro gg cap w6 hO6 hg6 hat hlt6)))
            clear i5
            have hb6 := ((hB5.alloc hCs _).drew).grown hg6 (by simp; omega) (fun k hk => (hO5.lt k hk).1)
            have HO6 := Lib.hid hO6
            have HB6 := Lib.hid hb6
            clear hO6 hg6 hb6 hat hlt6
            go_wp2_with fail
            go_roundw
            case rel =>
              have hq := HQ.out
              subst hq
              refine ⟨j + 1, by go_num, by omega, ?_, by have := HB6.out.size; have := HCE.out; omega, HB6.out⟩
              rw [hsn.out]
              have := HO6.out
              unfold us at this ⊢
              simpa [List.map_append] using this
            case measure => have hq := HQ.out; simp [intOf]; omega
          · rw [if_neg hlt2] at hnx
            rw [← hnx] at ha
            obtain ⟨z, hz⟩ : ∃ z, wd (nxt L) j = z := ⟨_, rfl⟩
            rw [hz] at ha hsn
            clear hnx hz
            go_wp2_with (at_builtin; refine wpList_append_own _ rfl _ _ 35 rfl C 37 i0 (.int .u64 0) 1 8 Try.underlying35 hi0 hz0 hz1 hz2 rfl (by decide) _ j _ rfl (hO5.alloc _) ⟨wr.heap.size, 0, none⟩ 1 1 [.int .u64 (U z)] rfl rfl (new_one _ _ _) (one_ok rfl) (by unfold maxLen; omega) (by omega) (by simp; omega) ?_)
            intro v' w6 hO6 hg6 _
            have hb6 := (hB5.alloc hCs _).grown hg6 (by simp; omega) (fun k hk => (hO5.lt k hk).1)
            have HO6 := Lib.hid hO6
            have HB6 := Lib.hid hb6
            clear hO6 hg6 hb6 hO5
            go_wp2_with fail
            go_roundw
            case rel =>
              refine ⟨j + 1, by go_num, by omega, ?_, by have := HB6.out.size; have := HCE.out; omega, HB6.out⟩
              rw [hsn.out]
              have := HO6.out
              unfold us at this ⊢
              simpa [List.map_append] using this
            case measure => simp [intOf]; omega
        · have hjm : j = (m + 1) / 2 := by omega
          have hx5 : (nxt L).take j = lvl ws (k + 1) := by
            rw [List.take_of_length_le (by rw [HNL.out]; omega), ← HLL.out]; rfl
          have hj5 : j = (lvl ws (k + 1)).length := by rw [show lvl ws (k + 1) = nxt (lvl ws k) from rfl, HLL.out, HNL.out]; exact hjm
          rw [hx5] at hO5
          obtain ⟨ao5, cap5, rfl, _, _, _⟩ := owns_source hO5
          have hO3 := owns_below HO3.out hB5 (Nat.le_of_eq HCE.out)
          have hwC : w.heap.size ≤ C := by rw [← HCE.out]; exact HB.out.size
          have hBw := HB.out.trans (hB5.mono hwC)
          have hwr := hBw.size
          have hR5 := HR.out.keep (by rw [HCE.out]; exact hB5)
          rw [HCE.out] at hR5
          have hk6 : tops ws.length ≤ 6 := tops_le _ (by rw [HL.out]; exact h2)
          have hkt : k < tops ws.length := by
            rcases Nat.lt_or_ge k (tops ws.length) with h | h
            · exact h
            · exfalso
              have e : k = tops ws.length := by omega
              have h3 := HTS.out.1
              have h4 := HM.out
              rw [← e] at h3; omega
          have HO3' := Lib.hid hO3
          have HO5 := Lib.hid hO5
          have HR5 := Lib.hid hR5
          have HB5 := Lib.hid hB5
          have HBW := Lib.hid hBw
          have HJ5 := Lib.hid hj5
          clear hO3 hO5 hR5 hB5 hBw hj5 hx5 hjm
          go_wp2_with (at_builtin; refine wpList_append_own _ rfl _ _ 90 rfl w.heap.size 35 i5 (.slice none 0 0) 1 24 Try.underlying90 hi5 hy0 hy1 hy2 rfl (by decide) _ (k + 1) _ rfl (HO3'.out.alloc _) ⟨wr.heap.size, 0, none⟩ 1 1 [.slice ao5 j cap5] rfl rfl (new_one _ _ _) (one_ok rfl) (by unfold maxLen; omega) (by omega) (by simp; omega) ?_)
          intro v' w6 hO6 hg6 _
          have hb6 : Below w.heap.size w w6 := (HBW.out.alloc hwr _).grown hg6 (by simp; omega) (fun q hq => (HO3'.out.lt q hq).1)
          have hR6 := (HR5.out.keep ((Below.refl C wr).alloc hCs (.cells #[.slice ao5 j cap5] 35))).outer (HO3'.out.alloc _) hg6
          have hO56 : w6.ownsRow w.heap.size 37 1 (.slice ao5 j cap5) (lvl ws (k + 1)).length (us (lvl ws (k + 1))) := by
            rw [← HJ5.out]
            refine owns_keep (owns_mono (HO5.out.alloc (.cells #[.slice ao5 j cap5] 35)) hwC) fun q _ hl hq => ?_
            exact hg6.block q hl (fun e => owns_apart HO5.out HO3'.out (by decide) q hq e.symm)
          have hRn := hR6.snoc hO56 (D := w6.heap.size) (by have := hg6.size; simp at this; omega) (Nat.le_refl _)
          have HO6 := Lib.hid hO6
          have HB6 := Lib.hid hb6
          have HRN := Lib.hid hRn
          clear hO6 hg6 hb6 hR6 hO56 hRn
          go_wp2_with fail
          go_roundw
          case rel =>
            exact ⟨k + 1, vs ++ [.slice ao5 j cap5], by omega, by rw [List.getElem?_append_right (by rw [HR.out.1]; exact Nat.le_refl _), HR.out.1, Nat.sub_self]; rfl, HO6.out, HRN.out, HB6.out⟩
          case measure => simp [lenOf]; omega
    · have hkt : k = tops ws.length := by
        rcases Nat.lt_or_ge k (tops ws.length) with h | h
        · have := HTS.out.2 k h; have := HM.out; omega
        · omega
      go_wp2_with fail
      go_ret
      subst hkt
      exact ⟨_, vs, rfl, HO3.out, HR.out, HB.out⟩
end Go.Proofs.Ytfeibjokifidmaa.M
