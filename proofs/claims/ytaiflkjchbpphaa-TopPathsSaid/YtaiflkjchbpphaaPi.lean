/- mesh.gates. -/
import Derived.Test.YtaiflkjchbpphaaPA
namespace Go.Proofs.Ytaiflkjchbpphaa.P
open Go.RowKit

/-- The first side of cell a that is a side of cell b. -/
def Hit (z : Nat → Nat) (K : Nat → Nat → Nat) (a b k : Nat) : Prop := ∃ j, j < z b ∧ K b j = K a ((k + 1) % z a) ∧ (∀ j', j' < j → K b j' ≠ K a ((k + 1) % z a)) ∧ K b ((j + 1) % z b) = K a k
def First (z : Nat → Nat) (K : Nat → Nat → Nat) (a b k : Nat) : Prop := k < z a ∧ Hit z K a b k ∧ ∀ k', k' < k → ¬ Hit z K a b k'
theorem First.uniq {z : Nat → Nat} {K : Nat → Nat → Nat} {a b k k' : Nat} (h : First z K a b k) (h' : First z K a b k') : k = k' := by
  rcases Nat.lt_trichotomy k k' with e | e | e
  · exact absurd h.2.1 (h'.2.2 k e)
  · exact e
  · exact absurd h'.2.1 (h.2.2 k' e)
/-- The side k of cell a: its left end and its right end, seen from within. -/
def gateOf (X Y : Nat → Int) (z : Nat → Nat) (K : Nat → Nat → Nat) (a k : Nat) : Pt × Pt := ((X (K a ((k + 1) % z a)), Y (K a ((k + 1) % z a))), (X (K a k), Y (K a k)))
/-- Gates, flat. -/
def flat4 (G : Nat → Pt × Pt) : Nat → List Value
  | 0 => []
  | m + 1 => flat4 G m ++ [.int .i64 (G m).1.1, .int .i64 (G m).1.2, .int .i64 (G m).2.1, .int .i64 (G m).2.2]
theorem flat4_length (G : Nat → Pt × Pt) : ∀ m, (flat4 G m).length = 4 * m
  | 0 => rfl
  | m + 1 => by simp [flat4, flat4_length G m]; omega
theorem flat4_get (G : Nat → Pt × Pt) : ∀ m k, k < m → (flat4 G m)[4 * k]? = some (.int .i64 (G k).1.1) ∧ (flat4 G m)[4 * k + 1]? = some (.int .i64 (G k).1.2) ∧ (flat4 G m)[4 * k + 2]? = some (.int .i64 (G k).2.1) ∧ (flat4 G m)[4 * k + 3]? = some (.int .i64 (G k).2.2)
  | 0, k, hk => absurd hk (Nat.not_lt_zero _)
  | m + 1, k, hk => by
    have hl := flat4_length G m
    by_cases h : k < m
    · obtain ⟨a, b, c, d⟩ := flat4_get G m k h
      refine ⟨?_, ?_, ?_, ?_⟩
      all_goals
        rw [flat4, List.getElem?_append_left (by omega)]
        assumption
    · obtain rfl : k = m := by omega
      refine ⟨?_, ?_, ?_, ?_⟩
      all_goals
        rw [flat4, List.getElem?_append_right (by omega), hl]
      · rw [show 4 * k - 4 * k = 0 by omega]; rfl
      · rw [show 4 * k + 1 - 4 * k = 1 by omega]; rfl
      · rw [show 4 * k + 2 - 4 * k = 2 by omega]; rfl
      · rw [show 4 * k + 3 - 4 * k = 3 by omega]; rfl
theorem Try.info85 : (Try.prog.info? 85).map (fun i => (i.zero, i.size, i.bytes)) = some (some (.agg #[.int .i64 0, .int .i64 0, .int .i64 0, .int .i64 0]), 4, 32) := by kernel_rfl
theorem new_four (w : World) (a b c d : Value) (t : TypeId) : ∀ j x, [a, b, c, d][j]? = some x → (w.alloc (.cells #[a, b, c, d] t)).cell? ((⟨w.heap.size, 0, none⟩ : Addr).add j) = some x := by
  intro j x hj
  match j, hj with
  | 0, hj => simp at hj; subst hj; simp [Addr.add]
  | 1, hj => simp at hj; subst hj; simp [Addr.add]
  | 2, hj => simp at hj; subst hj; simp [Addr.add]
  | 3, hj => simp at hj; subst hj; simp [Addr.add]
theorem four_ok {a b c d : Int} : ∀ x ∈ [Value.int .i64 a, .int .i64 b, .int .i64 c, .int .i64 d], x.oneCell' = true := by
  intro x hx
  simp at hx
  rcases hx with rfl | rfl | rfl | rfl <;> rfl

/-- Cells' numbers, one behind the other, with the sides between them. -/
structure Steps (nc : Nat) (z : Nat → Nat) (K : Nat → Nat → Nat) (l k : Nat → Nat) (m : Nat) : Prop where
  lt : ∀ i, i ≤ m → l i < nc
  first : ∀ i, i < m → First z K (l i) (l (i + 1)) (k i)

set_option maxRecDepth 8000 in
set_option maxHeartbeats 4000000 in
theorem gates_any (pp np pcap cc nc ccap gw wcap m : Nat) (X Y : Nat → Int) (z qc q : Nat → Nat) (K : Nat → Nat → Nat) (l k : Nat → Nat) (w : World) (h : Msh pp np cc nc X Y z qc q K w) (hgood : Good np nc X Y z K) (hl : Steps nc z K l k m)
    (hw : Nums w gw (m + 1) (fun i => (l i : Int))) (hgw : gw < w.heap.size) (hm : m ≤ 100) :
    Calls Try.prog 38 #[.agg #[.slice (some ⟨pp, 0, none⟩) np pcap, .slice (some ⟨cc, 0, none⟩) nc ccap], .slice (some ⟨gw, 0, none⟩) (m + 1) wcap] w fun e w' => ∃ v, e = .returned v ∧ w'.ownsRow w.heap.size 85 4 v m (flat4 (fun i => gateOf X Y z K (l i) (k i)) m) ∧ Below w.heap.size w w' := by
  obtain ⟨i0, hi0, hz0, hz1, hz2⟩ := info_parts Try.info85
  have HM := Lib.hid h
  have HL := Lib.hid hl
  have HNW := Lib.hid hw
  have n1 := hgood.hnp
  have n2 := hgood.hnc
  clear h hgood hl hw
  go_enter Try.func38, Try.ntmps38
  go_wp2_with fail
  obtain ⟨o, ho⟩ : ∃ o, w.heap.size = o := ⟨_, rfl⟩
  obtain ⟨V, hV⟩ : ∃ V, w.alloc (Obj.cells #[.slice (some ⟨pp, 0, none⟩) np pcap, .slice (some ⟨cc, 0, none⟩) nc ccap] 28) = V := ⟨_, rfl⟩
  have hVb := Lib.hid (show Below w.heap.size w V from hV ▸ Below.al (Below.refl _ _) _)
  have v0 : V.cell? ⟨o, 0, none⟩ = some (.slice (some ⟨pp, 0, none⟩) np pcap) := by rw [← hV, ← ho]; simp [go_sem]
  have v1 : V.cell? ⟨o, 1, none⟩ = some (.slice (some ⟨cc, 0, none⟩) nc ccap) := by rw [← hV, ← ho]; simp [go_sem]
  have hVs : V.heap.size = o + 1 := by rw [← hV, ← ho]; simp
  rw [hV]
  simp only [ho]
  clear hV
  go_loopw [5, 6] (fun v5 v6 wr => ∃ s i : Nat, v6 = .int .i64 i ∧ i = s + 1 ∧ s ≤ m ∧ Hid (wr.ownsRow (o + 1) 85 4 v5 s (flat4 (fun i => gateOf X Y z K (l i) (k i)) s) ∧ Below (o + 1) V wr)) (fun _ v6 _ => m + 1 - (intOf v6).toNat)
  case atStart => exact ⟨0, 1, rfl, rfl, Nat.zero_le _, World.ownsRow_nil _ _ _ _, Below.refl _ _⟩
  case round =>
    obtain ⟨s, i, rfl, hsi, hs, hR⟩ := hrel
    have HW := Lib.hid (hVb.out.trans (hR.out.2.mono (by omega)))
    have hsz := hR.out.2.size
    have o0 := (hR.out.2.cell (p := ⟨o, 0, none⟩) (by simp only []; omega)).trans v0
    have o1 := (hR.out.2.cell (p := ⟨o, 1, none⟩) (by simp only []; omega)).trans v1
    have hor : o < wr.heap.size := by omega
    by_cases h0 : s = m
    · have i1 : ¬ (i : Int) < (m : Int) + 1 := by omega
      subst h0
      go_wp2_with fail
      go_ret
      exact ⟨_, rfl, owns_mono hR.out.1 (by omega), ho ▸ HW.out⟩
    · have hsm : s < m := by omega
      have i1 : (i : Int) < (m : Int) + 1 := by omega
      have i2 : (i : Int) - 1 = (s : Int) := by omega
      have i3 : (i : Int) < 10000 := by omega
      have i4 : i < m + 1 := by omega
      have i5 : s < m + 1 := by omega
      have hla := HL.out.lt s hs
      have hlb := HL.out.lt (s + 1) hsm
      have HF := Lib.hid (HL.out.first s hsm)
      have wa : wr.cell? ⟨gw, s, none⟩ = some (.int .i64 (l s : Int)) := (HW.out.cell (p := ⟨gw, s, none⟩) hgw).trans (HNW.out s (by omega))
      have wb : wr.cell? ⟨gw, i, none⟩ = some (.int .i64 (l i : Int)) := (HW.out.cell (p := ⟨gw, i, none⟩) hgw).trans (HNW.out i (by omega))
      have hgwr : gw < wr.heap.size := Nat.lt_of_lt_of_le hgw HW.out.size
      have ra := (HW.out.cell (p := ⟨cc, l s, none⟩) HM.out.cl).trans (HM.out.row _ hla)
      have rb := (HW.out.cell (p := ⟨cc, l i, none⟩) HM.out.cl).trans (HM.out.row _ (by rw [hsi]; exact hlb))
      have hccr : cc < wr.heap.size := Nat.lt_of_lt_of_le HM.out.cl HW.out.size
      obtain ⟨a, ha⟩ : ∃ a, l s = a := ⟨_, rfl⟩
      obtain ⟨b, hb⟩ : ∃ b, l (s + 1) = b := ⟨_, rfl⟩
      have hb2 : l i = b := by rw [hsi]; exact hb
      have HAB := Lib.hid (And.intro ha hb)
      rw [ha, hb] at HF
      rw [ha] at wa hla ra
      rw [hb] at hlb
      rw [hb2] at wb rb
      have hza := HM.out.z3 a hla
      have hzb := HM.out.z3 b hlb
      obtain ⟨za, hzae⟩ : ∃ x, z a = x := ⟨_, rfl⟩
      obtain ⟨zb, hzbe⟩ : ∃ x, z b = x := ⟨_, rfl⟩
      have HZ := Lib.hid (And.intro hzae hzbe)
      rw [hzae] at ra hza
      rw [hzbe] at rb hzb
      have hzap : (0 : Int) < za := by omega
      have hzbp : (0 : Int) < zb := by omega
      have HSI := Lib.hid hsi
      clear ha hb hb2 hzae hzbe h0 hsi
      go_wp2_with fail
      refine region_grow (by kernel_rfl) (by kernel_rfl) ?_
      repeat (go_big_quiet_step ((fail)))
      refine wpQuiet_nil ?_
      intro _ hw'
      obtain ⟨k9, m9, rfl⟩ := hw'
      obtain ⟨Wi, hWi⟩ : ∃ W, ext wr k9 m9 = W := ⟨_, rfl⟩
      have HWi := Lib.hid (show Below wr.heap.size wr Wi from hWi ▸ below_ext wr k9 m9)
      rw [hWi]
      clear hWi wa wb ra rb o1
      have o0 := (HWi.out.cell (p := ⟨o, 0, none⟩) hor).trans o0
      have hor : o < Wi.heap.size := Nat.lt_of_lt_of_le hor HWi.out.size
      have HW2 := Lib.hid (HW.out.trans (HWi.out.mono HW.out.size))
      have HOWN := Lib.hid (owns_below hR.out.1 HWi.out (Nat.le_refl _))
      have HBV := Lib.hid (hR.out.2.trans (HWi.out.mono (by omega)))
      have hosz : o + 1 ≤ Wi.heap.size := hor
      go_wp2_with fail
      go_loopw [5, 38] (fun v5 v38 wx => ∃ kk : Nat, v38 = .int .i64 kk ∧ kk ≤ za ∧ v5 = u5 ∧ wx = Wi ∧ Hid (∀ k', k' < kk → ¬ Hit z K a b k')) (fun _ v38 _ => za - (intOf v38).toNat)
      case atStart => exact ⟨0, rfl, Nat.zero_le _, rfl, rfl, fun k' hk' => by omega⟩
      case round =>
        obtain ⟨kk, rfl, hkk, rfl, rfl, hT⟩ := hrel
        by_cases hk0 : kk = za
        · exfalso
          exact hT.out _ (by rw [hk0, ← HZ.out.1]; exact HF.out.1) HF.out.2.1
        · have hkl : kk < za := by omega
          have k1 : (kk : Int) < (za : Int) := by omega
          obtain ⟨kn, hkn⟩ : ∃ kn, (kk + 1) % za = kn := ⟨_, rfl⟩
          have hknz : kn < za := by rw [← hkn]; exact Nat.mod_lt _ (by omega)
          have e1 : ((kk : Int) + 1) % (za : Int) = (kn : Int) := by rw [← hkn]; push_cast; rfl
          have e2 : ((kk : Int) + 1).tmod (za : Int) = (kn : Int) := by rw [Int.tmod_eq_emod_of_nonneg (by omega)]; exact e1
          have ka := (HW2.out.cell (p := ⟨q a, kk, none⟩) (HM.out.ql a hla)).trans (HM.out.kor a kk hla (by rw [HZ.out.1]; exact hkl))
          have kb := (HW2.out.cell (p := ⟨q a, kn, none⟩) (HM.out.ql a hla)).trans (HM.out.kor a kn hla (by rw [HZ.out.1]; exact hknz))
          have hqa : q a < wr.heap.size := Nat.lt_of_lt_of_le (HM.out.ql a hla) HW2.out.size
          have hqb : q b < wr.heap.size := Nat.lt_of_lt_of_le (HM.out.ql b hlb) HW2.out.size
          have hpl := HM.out.lt a kk hla (by rw [HZ.out.1]; exact hkl)
          have hql := HM.out.lt a kn hla (by rw [HZ.out.1]; exact hknz)
          have HNB : Nums wr (q b) zb (fun j => (K b j : Int)) := fun j hj => (HW2.out.cell (p := ⟨q b, j, none⟩) (HM.out.ql b hlb)).trans (HM.out.kor b j hlb (by rw [HZ.out.2]; exact hj))
          have HHit : Hid (∀ j, j < zb → (K b j : Int) = (K a kn : Int) → (∀ j', j' < j → (K b j' : Int) ≠ (K a kn : Int)) → (Hit z K a b kk ↔ K b ((j + 1) % zb) = K a kk)) := fun j hj e3 e4 => by
            have hkn' : (kk + 1) % z a = kn := by rw [HZ.out.1]; exact hkn
            constructor
            · rintro ⟨j2, h1, h2, h3, h4⟩
              rw [hkn'] at h2 h3
              rw [HZ.out.2] at h4
              have : j2 = j := by
                rcases Nat.lt_trichotomy j2 j with e | e | e
                · exact absurd (by exact_mod_cast h2) (e4 j2 e)
                · exact e
                · exact absurd (by exact_mod_cast e3) (h3 j e)
              rw [← this]; exact h4
            · intro h4
              exact ⟨j, by rw [HZ.out.2]; exact hj, by rw [hkn']; exact_mod_cast e3, fun j' hj' e => e4 j' hj' (by rw [hkn'] at e; exact_mod_cast e), by rw [HZ.out.2]; exact h4⟩
          have HNo : Hid ((∀ j, j < zb → (K b j : Int) ≠ (K a kn : Int)) → ¬ Hit z K a b kk) := fun hno ⟨j2, h1, h2, _, _⟩ => by
            rw [HZ.out.1, hkn] at h2
            rw [HZ.out.2] at h1
            exact hno j2 h1 (by exact_mod_cast h2)
          obtain ⟨p, hp⟩ : ∃ p, K a kk = p := ⟨_, rfl⟩
          obtain ⟨r, hr⟩ : ∃ r, K a kn = r := ⟨_, rfl⟩
          have hix := index_any (q b) zb (qc b) (fun j => (K b j : Int)) (r : Int) wr HNB hqb (by omega)
          rw [hr] at HHit HNo
          rw [hp] at HHit
          rw [hp] at ka hpl
          rw [hr] at kb hql
          have HPR := Lib.hid (And.intro hp (And.intro hr hkn))
          have HNB := Lib.hid HNB
          clear hp hr hkn hk0
          go_wp2_with fail
          refine hix.mono ?_
          rintro e w5 ⟨h5, rfl⟩
          rcases h5 with ⟨j, rfl, hj, hj2, hj3⟩ | ⟨rfl, hno⟩
          · obtain ⟨jn, hjn⟩ : ∃ jn, (j + 1) % zb = jn := ⟨_, rfl⟩
            have hjnz : jn < zb := by rw [← hjn]; exact Nat.mod_lt _ (by omega)
            have e3 : ((j : Int) + 1) % (zb : Int) = (jn : Int) := by rw [← hjn]; push_cast; rfl
            have e4 : ((j : Int) + 1).tmod (zb : Int) = (jn : Int) := by rw [Int.tmod_eq_emod_of_nonneg (by omega)]; exact e3
            have hjg : (0 : Int) ≤ (j : Int) := by omega
            have kc : wr.cell? ⟨q b, jn, none⟩ = some (.int .i64 (K b jn : Int)) := HNB.out jn hjnz
            have hiff := HHit.out j hj hj2 hj3
            rw [hjn] at hiff
            obtain ⟨x, hx⟩ : ∃ x, K b jn = x := ⟨_, rfl⟩
            rw [hx] at kc hiff
            have HIF := Lib.hid hiff
            clear hiff hx hjn hj2 hj3 hix HHit HNo
            by_cases hxp : x = p
            · have e5 : ((x : Int) == (p : Int)) = true := by simp [hxp]
              have hit := Lib.hid (HIF.out.2 hxp)
              clear hxp
              have hkks : Hid (kk = k s) := First.uniq ⟨by rw [HZ.out.1]; exact hkl, hit.out, fun k' hk' => hT.out k' hk'⟩ HF.out
              obtain ⟨x0, y0⟩ := HM.out.pts p hpl
              obtain ⟨x1, y1⟩ := HM.out.pts r hql
              have px0 := (HW2.out.cell (p := ⟨pp, p * 2, none⟩) HM.out.pl).trans x0
              have py0 := (HW2.out.cell (p := ⟨pp, p * 2 + 1, none⟩) HM.out.pl).trans y0
              have px1 := (HW2.out.cell (p := ⟨pp, r * 2, none⟩) HM.out.pl).trans x1
              have py1 := (HW2.out.cell (p := ⟨pp, r * 2 + 1, none⟩) HM.out.pl).trans y1
              have hppl : pp < wr.heap.size := Nat.lt_of_lt_of_le HM.out.pl HW2.out.size
              obtain ⟨xp, hxp⟩ : ∃ x, X p = x := ⟨_, rfl⟩
              obtain ⟨yp, hyp⟩ : ∃ x, Y p = x := ⟨_, rfl⟩
              obtain ⟨xr, hxr⟩ : ∃ x, X r = x := ⟨_, rfl⟩
              obtain ⟨yr, hyr⟩ : ∃ x, Y r = x := ⟨_, rfl⟩
              have HG : Hid (gateOf X Y z K (l s) (k s) = ((xr, yr), (xp, yp))) := by
                show gateOf X Y z K (l s) (k s) = ((xr, yr), (xp, yp))
                unfold gateOf
                rw [HAB.out.1, ← hkks.out, HZ.out.1, HPR.out.2.2, HPR.out.2.1, HPR.out.1, hxp, hyp, hxr, hyr]
              rw [hxp] at px0
              rw [hyp] at py0
              rw [hxr] at px1
              rw [hyr] at py1
              clear x0 y0 x1 y1 hxp hyp hxr hyr
              go_wp2_with fail
              have HO1 := Lib.hid (HOWN.out.alloc (Obj.cells #[.int .i64 xr, .int .i64 yr, .int .i64 xp, .int .i64 yp] 85))
              have HNEW : Hid (∀ j x, [Value.int .i64 xr, .int .i64 yr, .int .i64 xp, .int .i64 yp][j]? = some x → (wr.alloc (Obj.cells #[.int .i64 xr, .int .i64 yr, .int .i64 xp, .int .i64 yp] 85)).drew.cell? ((⟨wr.heap.size, 0, none⟩ : Addr).add j) = some x) := new_four wr _ _ _ _ _
              have H1C : Hid (∀ x ∈ [Value.int .i64 xr, .int .i64 yr, .int .i64 xp, .int .i64 yp], x.oneCell' = true) := four_ok
              have HB1 := Lib.hid (HBV.out.alloc hosz (Obj.cells #[.int .i64 xr, .int .i64 yr, .int .i64 xp, .int .i64 yp] 85)).drew
              have hrow : Hid (∀ q, u5.ownBlock = some q → o + 1 ≤ q) := fun q hq => (HOWN.out.lt q hq).1
              go_region_law (first
                | (refine step_append_lies _ rfl _ _ 82 rfl (o + 1) 85 i0 (.agg #[.int .i64 0, .int .i64 0, .int .i64 0, .int .i64 0]) 4 32 Try.underlying82 hi0 hz0 hz1 hz2 rfl (by decide) _ s _ rfl HO1.out.drew ⟨wr.heap.size, 0, none⟩ 1 1 [.int .i64 xr, .int .i64 yr, .int .i64 xp, .int .i64 yp] rfl rfl HNEW.out H1C.out (by omega) (by unfold maxLen; omega) (by omega) (by simp; omega) _ rfl ?_; intro g cap' w2 own2 hg2 hor hgl; have HN2 := Lib.hid (And.intro own2 (HB1.out.grown hg2 (by simp; omega) hrow.out)); clear own2 hg2 hor hgl))
              all_goals
                go_wp2_with fail
                go_roundw
                case rel =>
                  refine ⟨s + 1, i + 1, by push_cast; rfl, by have := HSI.out; omega, by omega, ?_, HN2.out.2⟩
                  have := HN2.out.1
                  rw [flat4, HG.out]
                  exact this
                case measure => have := HSI.out; simp [intOf] <;> omega
            · have e5 : ((x : Int) == (p : Int)) = false := by simp; omega
              have hit : Hid (¬ Hit z K a b kk) := fun h => hxp (HIF.out.1 h)
              clear hxp
              go_wp2_with fail
              go_roundw
              case rel => exact ⟨kk + 1, rfl, by omega, by first | exact True.intro | exact rfl, by first | exact True.intro | exact rfl, fun k' hk' => by
                by_cases h : k' < kk
                · exact hT.out k' h
                · obtain rfl : k' = kk := by omega
                  exact hit.out⟩
              case measure => simp [intOf] <;> omega
          · have hit : Hid (¬ Hit z K a b kk) := HNo.out hno
            clear hno hix HHit HNo
            go_wp2_with fail
            go_roundw
            case rel => exact ⟨kk + 1, rfl, by omega, by first | exact True.intro | exact rfl, by first | exact True.intro | exact rfl, fun k' hk' => by
              by_cases h : k' < kk
              · exact hT.out k' h
              · obtain rfl : k' = kk := by omega
                exact hit.out⟩
            case measure => simp [intOf] <;> omega
end Go.Proofs.Ytaiflkjchbpphaa.P
