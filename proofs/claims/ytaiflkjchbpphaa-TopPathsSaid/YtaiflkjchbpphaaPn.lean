/- mesh.pull. -/
import Derived.Test.YtaiflkjchbpphaaPm
namespace Go.Proofs.Ytaiflkjchbpphaa.P
open Go.RowKit

theorem trn_facts {G : Nat → Pt × Pt} {n : Nat} {A : Pt} {i k : Nat} {l r : Pt} {li ri : Nat} {P : Pt} {x : Nat} (h : Trn G n A k l r li ri P x) (hs : SmallG G n) (hn : 1 ≤ n) (h1 : i ≤ li) (h2 : i ≤ ri) (h3 : li < k) (h4 : ri < k) (hk : k ≤ n) (hl : Small l) (hr : Small r) : i < x ∧ x ≤ n ∧ Small P := by
  induction h with
  | done l r li ri => exact ⟨by omega, Nat.le_refl _, (hs _ (by omega)).1⟩
  | left k l r li ri hk h => exact ⟨by omega, by omega, hl⟩
  | right k l r li ri hk h => exact ⟨by omega, by omega, hr⟩
  | go k l r li ri P x hkn _ _ _ ih =>
    refine ih ?_ ?_ ?_ ?_ hkn ?_ ?_
    · split <;> omega
    · split <;> omega
    · split <;> omega
    · split <;> omega
    · split
      · exact (hs k hkn).1
      · exact hl
    · split
      · exact (hs k hkn).2
      · exact hr

/-- What pull answers. -/
def Pulled (G : Nat → Pt × Pt) (n : Nat) (A : Pt) (w : World) (e : Ending) (w' : World) : Prop := ∃ v raw, e = .returned v ∧ Pul G n A 0 raw ∧ SmallL raw ∧ w'.ownsRow w.heap.size 24 2 v (pln raw).length (fl (pln raw)) ∧ Below w.heap.size w w'

/-- The state ahead of gate i: the way so far ends at A. -/
structure Pst (B : Nat) (w0 : World) (G : Nat → Pt × Pt) (n : Nat) (A0 : Pt) (v : Value) (pre : List Pt) (A : Pt) (i m : Nat) (w : World) : Prop where
  own : w.ownsRow B 24 2 v (m + 1) (fl (pre ++ [A]))
  len : pre.length = m
  mi : m ≤ i
  sa : Small A
  sp : SmallL pre
  go : ∀ p, Pul G n A i p → Pul G n A0 0 (pre ++ p)
  bel : Below B w0 w
  sz : B ≤ w.heap.size
theorem Pst.on {B : Nat} {w0 : World} {G : Nat → Pt × Pt} {n : Nat} {A0 : Pt} {v : Value} {pre : List Pt} {A : Pt} {i m : Nat} {w w' : World} (h : Pst B w0 G n A0 v pre A i m w) (hb : Below w.heap.size w w') : Pst B w0 G n A0 v pre A i m w' :=
  ⟨owns_below h.own hb (Nat.le_refl _), h.len, h.mi, h.sa, h.sp, h.go, h.bel.trans (hb.mono h.sz), Nat.le_trans h.sz hb.size⟩
theorem ptl_of {w : World} {B g cap m : Nat} {L : List Pt} (h : w.ownsRow B 24 2 (.slice (some ⟨g, 0, none⟩) m cap) m (fl L)) (hL : L.length = m) : Ptl w g L := fun k P hk => by
  obtain ⟨_, _, _, _, h5, _⟩ := owns_at h
  have hkl : k < L.length := by
    rcases Nat.lt_or_ge k L.length with h1 | h1
    · exact h1
    · rw [List.getElem?_eq_none h1] at hk; cases hk
  obtain ⟨a, b⟩ := fl_get L k P hk
  exact ⟨(h5 _ (by omega)).trans a, (h5 _ (by omega)).trans b⟩
theorem small_app {L : List Pt} {P : Pt} (h : SmallL L) (k : Small P) : SmallL (L ++ [P]) := fun x hx => by
  rcases List.mem_append.1 hx with hx | hx
  · exact h x hx
  · rw [List.mem_singleton.1 hx]; exact k

set_option maxRecDepth 8000 in
set_option maxHeartbeats 4000000 in
theorem pull_any (g n cap : Nat) (G : Nat → Pt × Pt) (A0 : Pt) (w : World) (h : Gts w g n G) (hg : g < w.heap.size) (hn1 : 1 ≤ n) (hn : n ≤ 200) (hs : SmallG G n) (hA : Small A0) :
    Calls Try.prog 17 #[.slice (some ⟨g, 0, none⟩) n cap, vec A0] w (Pulled G n A0 w) := by
  obtain ⟨i0, hi0, hz0, hz1, hz2⟩ := info_parts Try.info24
  have HG := Lib.hid h
  have HS := Lib.hid hs
  have HA := Lib.hid hA
  obtain ⟨ax, ay⟩ := A0
  clear h hs hA
  go_enter Try.func17, Try.ntmps17
  go_wp2_with fail
  obtain ⟨B, hB⟩ : ∃ B, w.heap.size = B := ⟨_, rfl⟩
  obtain ⟨V, hV⟩ : ∃ V, (w.alloc (Obj.cells #[Value.int IntKind.i64 ax, Value.int IntKind.i64 ay] 24)).alloc (Obj.cells #[Value.int IntKind.i64 ax, Value.int IntKind.i64 ay] 24) = V := ⟨_, rfl⟩
  have hV1 : Hid (Below w.heap.size w V) := hV ▸ Below.al (Below.al (Below.refl _ _) _) _
  have H0 : Hid (Pst (B + 1) V G n (ax, ay) (.slice (some ⟨B + 1, 0, none⟩) 1 1) [] (ax, ay) 0 0 V) := by
    refine ⟨?_, rfl, Nat.le_refl _, HA.out, fun x hx => (by cases hx), fun p hp => hp, Below.refl _ _, by rw [← hV, ← hB]; simp⟩
    rw [← hV, ← hB]
    have hh := heap_alloc_new (w.alloc (Obj.cells #[Value.int IntKind.i64 ax, Value.int IntKind.i64 ay] 24)) (Obj.cells #[Value.int IntKind.i64 ax, Value.int IntKind.i64 ay] 24)
    have e : (w.alloc (Obj.cells #[Value.int IntKind.i64 ax, Value.int IntKind.i64 ay] 24)).heap.size = w.heap.size + 1 := by simp
    rw [e] at hh
    exact ⟨rfl, .inr ⟨w.heap.size + 1, 1, #[.int .i64 ax, .int .i64 ay], rfl, Nat.le_refl _, hh, Nat.le_refl _, by unfold maxLen; omega, rfl, rfl⟩⟩
  have HGV : Hid (Gts V g n G) := HG.out.on hV1.out hg
  have hgV : g < B + 1 := by omega
  rw [hV]
  simp only [hB]
  clear hV
  go_loopw [5, 6] (fun v5 v6 wr => ∃ (i m : Nat) (pre : List Pt) (A : Pt), v6 = .int .i64 i ∧ i < n ∧ m ≤ i ∧ Hid (Pst (B + 1) V G n (ax, ay) v5 pre A i m wr)) (fun _ v6 _ => n - (intOf v6).toNat)
  case atStart => exact ⟨0, 0, [], (ax, ay), rfl, hn1, Nat.le_refl _, H0.out⟩
  case round =>
    obtain ⟨i, m, pre, A, rfl, hi, hmi, hR⟩ := hrel
    obtain ⟨gv, cv, rfl, hgv⟩ : ∃ gv cv, u5 = .slice (some ⟨gv, 0, none⟩) (m + 1) cv ∧ B + 1 ≤ gv := by
      obtain ⟨gv, cv, h1, h2, _⟩ := owns_open hR.out.own (by omega)
      exact ⟨gv, cv, h1, h2⟩
    have hpt := ptl_of hR.out.own (by simp [hR.out.len])
    have hlast : (pre ++ [A])[m]? = some A := by rw [List.getElem?_append_right (by rw [hR.out.len]; exact Nat.le_refl _), hR.out.len]; simp
    obtain ⟨a0, a1⟩ := hpt m A hlast
    have hgl := (owns_at hR.out.own).2.1
    have k1 : (m : Int) + 1 - 1 = (m : Int) := by omega
    have k2 : m < m + 1 := by omega
    have hsA := hR.out.sa
    have hsz := hR.out.sz
    obtain ⟨px, py⟩ := A
    simp only at a0 a1
    clear hpt hlast
    go_wp2_with fail
    obtain ⟨xb, hxb⟩ : ∃ x, wr.heap.size = x := ⟨_, rfl⟩
    obtain ⟨W1, hW1⟩ : ∃ X, wr.alloc (Obj.cells #[Value.int IntKind.i64 px, Value.int IntKind.i64 py] 24) = X := ⟨_, rfl⟩
    have hbx : At W1 xb (px, py) := by
      rw [← hW1, ← hxb]
      refine ⟨?_, ?_, ?_, ?_, by simp⟩ <;> simp [go_sem]
    have HR1 := Lib.hid (hR.out.on (hW1 ▸ Below.al (Below.refl _ _) _))
    have HBX := Lib.hid hbx
    rw [hW1]
    simp only [hxb]
    clear hW1 hxb hbx hR a0 a1 hgl hsz
    go_loopw [6] (fun v6 wx => ∃ i' : Nat, v6 = .int .i64 i' ∧ i ≤ i' ∧ i' ≤ n ∧ Hid (Below W1.heap.size W1 wx ∧ ∀ p, Pul G n (px, py) i' p → Pul G n (px, py) i p)) (fun v6 _ => n - (intOf v6).toNat)
    case atStart => exact ⟨i, rfl, Nat.le_refl _, by omega, Below.refl _ _, fun p hp => hp⟩
    case round =>
      obtain ⟨i', rfl, hii, hin, hI⟩ := hrel
      have HRW := Lib.hid (HR1.out.on hI.out.1)
      have HBW := Lib.hid (HBX.out.on hI.out.1)
      have b0 := HBW.out.c0
      have b1 := HBW.out.c1
      have bl := HBW.out.lt
      have hwV := Lib.hid (hV1.out.trans (HRW.out.bel.mono (by omega)))
      by_cases hn0 : i' = n
      · have n1 : ¬ (i' : Int) < (n : Int) := by omega
        have n2 : decide ((i' : Int) < (n : Int)) = false := by simp; omega
        have n3 : decide (i' < n) = false := by simp; omega
        have n4 : ((i' : Int) == (n : Int)) = true := by simp [hn0]
        have HPL : Hid (Pul G n (ax, ay) 0 (pre ++ [(px, py)])) := HR1.out.go _ (hI.out.2 _ (by rw [hn0]; exact .stop _))
        clear hn0
        go_wp2_with fail
        refine region_grow (by kernel_rfl) (by kernel_rfl) ?_
        repeat (go_big_quiet_step (fail))
        refine wpQuiet_nil ?_
        intro _ hw'
        obtain ⟨k9, m9, rfl⟩ := hw'
        obtain ⟨Y1, hY1⟩ : ∃ X, ext wr k9 m9 = X := ⟨_, rfl⟩
        have HY := Lib.hid (HRW.out.on (hY1 ▸ below_ext wr k9 m9))
        rw [hY1]
        clear hY1
        have hlen : (pre ++ [(px, py)]).length = m + 1 := by simp [HY.out.len]
        have hpc := plain_any gv (m + 1) cv (pre ++ [(px, py)]) Y1 (ptl_of HY.out.own hlen) (owns_at HY.out.own).2.1 hlen (by omega) (small_app HY.out.sp hsA)
        have HLEN := Lib.hid hlen
        clear hlen
        go_wp2_with fail
        refine hpc.mono ?_
        rintro e w5 ⟨v, rfl, hown, hb5⟩
        have HO := Lib.hid (And.intro hown hb5)
        clear hown hb5 hpc
        go_wp2_with fail
        go_ret
        have hYs := HY.out.sz
        refine ⟨v, _, rfl, HPL.out, small_app HR1.out.sp hsA, owns_mono HO.out.1 (by omega), ?_⟩
        exact hV1.out.trans ((HY.out.bel.mono (by omega)).trans (HO.out.2.mono (by omega)))
      · have hil : i' < n := by omega
        have n1 : (i' : Int) < (n : Int) := by omega
        have n2 : decide ((i' : Int) < (n : Int)) = true := by simp; omega
        have n3 : decide (i' < n) = true := by simp; omega
        have n4 : ((i' : Int) == (n : Int)) = false := by simp; omega
        obtain ⟨c0, c1, c2, c3⟩ := (HG.out.on hwV.out hg) i' hil
        have hgw : g < wr.heap.size := Nat.lt_of_lt_of_le hg hwV.out.size
        have hon := fun w' => on_any (G i') (px, py) w' (HS.out i' hil).1 (HS.out i' hil).2 hsA
        obtain ⟨⟨⟨xl, yl⟩, ⟨xr, yr⟩⟩, hGi⟩ : ∃ y, G i' = y := ⟨_, rfl⟩
        rw [hGi] at c0 c1 c2 c3
        simp only [hGi] at hon
        simp only at c0 c1 c2 c3
        obtain ⟨qb, hqb⟩ : ∃ q, decide (On ((xl, yl), xr, yr) (px, py)) = q := ⟨_, rfl⟩
        simp only [hqb] at hon
        rw [← hGi] at hqb
        have HQB := Lib.hid hqb
        clear hqb hGi hn0
        cases qb with
        | true =>
          go_wp2_with fail
          refine region_grow (by kernel_rfl) (by kernel_rfl) ?_
          repeat (go_big_quiet_step ((intro _; go_at_call 35; exact grow_of (hon _))))
          refine wpQuiet_nil ?_
          intro _ hw'
          obtain ⟨k9, m9, rfl⟩ := hw'
          have hbe := Lib.hid (hI.out.1.trans ((below_ext wr k9 m9).mono hI.out.1.size))
          go_wp2_with fail
          go_roundw
          case rel => exact ⟨i' + 1, by push_cast; rfl, by omega, by omega, hbe.out, fun p hp => hI.out.2 p (.skip _ _ _ hil (of_decide_eq_true HQB.out) hp)⟩
          case measure => simp [intOf] <;> omega
        | false =>
          go_wp2_with fail
          refine region_grow (by kernel_rfl) (by kernel_rfl) ?_
          repeat (go_big_quiet_step ((intro _; go_at_call 35; exact grow_of (hon _))))
          refine wpQuiet_nil ?_
          intro _ hw'
          obtain ⟨k9, m9, rfl⟩ := hw'
          obtain ⟨Y1, hY1⟩ : ∃ X, ext wr k9 m9 = X := ⟨_, rfl⟩
          have hYb := hY1 ▸ below_ext wr k9 m9
          have HY := Lib.hid (HRW.out.on hYb)
          have HBY := HBW.out.on hYb
          have HGY := (HG.out.on hwV.out hg).on hYb hgw
          have hgY : g < Y1.heap.size := Nat.lt_of_lt_of_le hgw hYb.size
          rw [hY1]
          have d0 := HBY.c0
          have d1 := HBY.c1
          have dl := HBY.lt
          have htu := turn_any g n cap i' G (px, py) Y1 HGY hgY hn HS.out hsA hil
          clear hY1 hYb HBY HGY b0 b1 bl c0 c1 c2 c3
          go_wp2_with fail
          refine htu.mono ?_
          rintro e w5 ⟨⟨⟨qx, qy⟩, x, rfl, hT⟩, hb5⟩
          have hTf := trn_facts hT HS.out hn1 (Nat.le_refl i') (Nat.le_refl i') (Nat.lt_succ_self _) (Nat.lt_succ_self _) hil (HS.out i' hil).1 (HS.out i' hil).2
          obtain ⟨hix, hxn, hsP⟩ := hTf
          have HY5 := Lib.hid (HY.out.on hb5)
          have HPU : Hid (∀ p, Pul G n (qx, qy) x p → Pul G n (ax, ay) 0 ((pre ++ [(px, py)]) ++ p)) := fun p hp => by
            rw [List.append_assoc]
            exact HR1.out.go _ (hI.out.2 _ (.turn _ _ _ _ _ hil (of_decide_eq_false HQB.out) hT hp))
          clear hT hb5 htu
          have hB5 : B + 1 ≤ w5.heap.size := HY5.out.sz
          go_wp2_with (at_builtin; refine wpList_append_own _ rfl _ _ 25 rfl (B + 1) 24 i0 (.agg #[.int .i64 0, .int .i64 0]) 2 16 Try.underlying25 hi0 hz0 hz1 hz2 rfl (by decide) _ (m + 1) _ rfl ((HY5.out.own.alloc _).alloc _) ⟨w5.heap.size + 1, 0, none⟩ 1 1 [.int .i64 qx, .int .i64 qy] rfl rfl (fun a b hab => by have := new_two (w5.alloc (Obj.cells #[.int .i64 qx, .int .i64 qy] 24)) (.int .i64 qx) (.int .i64 qy) 24 a b hab; simpa using this) (two_ok rfl rfl) (by unfold maxLen; omega) (by omega) (by simp; omega) ?_)
          intro v' w' own' hgr _
          have HN2 : Hid (Pst (B + 1) V G n (ax, ay) v' (pre ++ [(px, py)]) (qx, qy) x (m + 1) w') := by
            have hbel : Below (B + 1) V w' := ((HY5.out.bel.alloc hB5 _).alloc (by simp; omega) _).grown hgr (by simp; omega) (fun k hk => (HY5.out.own.lt k hk).1)
            refine ⟨?_, by simp [HY5.out.len], by omega, hsP, small_app HY5.out.sp hsA, HPU.out, hbel, ?_⟩
            · rw [fl_append]; exact own'
            · have := hgr.size; simp at this; omega
          clear own' hgr
          by_cases hxe : x = n
          · have n5 : ((x : Int) == (n : Int)) = true := by simp [hxe]
            have HPL : Hid (Pul G n (ax, ay) 0 (pre ++ [(px, py)] ++ [(qx, qy)])) := HPU.out _ (by rw [hxe]; exact .stop _)
            clear hxe
            obtain ⟨g2, c2, rfl, hg2⟩ : ∃ gv cv, v' = .slice (some ⟨gv, 0, none⟩) (m + 1 + 1) cv ∧ B + 1 ≤ gv := by
              obtain ⟨gv, cv, h1, h2, _⟩ := owns_open HN2.out.own (by omega)
              exact ⟨gv, cv, h1, h2⟩
            have hlen : (pre ++ [(px, py)] ++ [(qx, qy)]).length = m + 1 + 1 := by simp [HY5.out.len]
            have hpc := plain_any g2 (m + 1 + 1) c2 (pre ++ [(px, py)] ++ [(qx, qy)]) w' (ptl_of HN2.out.own hlen) (owns_at HN2.out.own).2.1 hlen (by omega) (small_app HN2.out.sp hsP)
            clear hlen
            go_wp2_with fail
            refine hpc.mono ?_
            rintro e w7 ⟨v, rfl, hown, hb7⟩
            have HO := Lib.hid (And.intro hown hb7)
            clear hown hb7 hpc
            go_wp2_with fail
            go_ret
            have hYs := HN2.out.sz
            refine ⟨v, _, rfl, HPL.out, small_app HN2.out.sp hsP, owns_mono HO.out.1 (by omega), ?_⟩
            exact hV1.out.trans ((HN2.out.bel.mono (by omega)).trans (HO.out.2.mono (by omega)))
          · have n5 : ((x : Int) == (n : Int)) = false := by simp; omega
            have hxl : x < n := by omega
            clear hxe
            go_wp2_with fail
            go_roundw
            case rel => exact ⟨x, m + 1, pre ++ [(px, py)], (qx, qy), rfl, hxl, by omega, HN2.out⟩
            case measure => simp [intOf] <;> omega
end Go.Proofs.Ytaiflkjchbpphaa.P
