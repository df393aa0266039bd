/- For every input, MerkleProofs returns true. No condition. -/
import Derived.Test.YtfeibjokifidmaaVerify
namespace Go.Proofs.Ytfeibjokifidmaa.M
open Go.RowKit

set_option maxRecDepth 8000 in
set_option maxHeartbeats 2000000 in
theorem walk9 (a : Option Addr) (zs : List Int) (len cap : Nat) (ci ot : Int) (w : World) (hl : zs.length = len) (hn : a = none → len = 0 ∧ cap = 0)
    (hc : ∀ x, a = some x → ∀ j u, (zs.map (Value.int .i64))[j]? = some u → w.cell? (x.add j) = some u) (hlc : len ≤ cap) (hr : len ≤ 9223372036854775807)
    (hct : -9223372036854775808 ≤ ci ∧ ci ≤ 9223372036854775807) :
    Calls Try.prog 9 #[.slice a len cap, .int .i64 ci, .int .i64 ot] w fun e w' => e = .returned (.bool true) ∧ Below w.heap.size w w' := by
  obtain ⟨i0, hi0, hz0, hz1, hz2⟩ := info_parts Try.info37
  obtain ⟨n, hnn⟩ : ∃ n, (lvs zs).length = n := ⟨_, rfl⟩
  have hn1 : 1 ≤ n := by rw [← hnn]; simp [lvs]
  have hn60 : n ≤ 60 := by rw [← hnn]; simp [lvs]; omega
  obtain ⟨xs, hxs⟩ : ∃ xs, lvs zs = xs := ⟨_, rfl⟩
  have hLV := fun W hW => leaves_any a zs len cap W hl hn hW hlc hr
  obtain ⟨I, hI⟩ : ∃ I : Nat, ci % (n : Int) = (I : Int) := ⟨(ci % (n : Int)).toNat, by have := Int.emod_nonneg ci (show (n : Int) ≠ 0 by omega); omega⟩
  have hIn : I < n := by have := Int.emod_lt_of_pos ci (show 0 < (n : Int) by omega); omega
  have hbc := fun W => below_any ci n W (by omega) (by omega) hct.1 hct.2
  rw [hI] at hbc
  rw [hxs] at hLV hnn
  rw [hnn] at hLV
  have HC := Lib.hid hc
  have HLV := Lib.hid hLV
  have HBC := Lib.hid hbc
  have HNN := Lib.hid hnn
  clear hc hLV hbc hxs hI hn hl
  -- the proof, and what it proves
  obtain ⟨p, hp⟩ : ∃ p, pf xs I (tops n + 1) = p := ⟨_, rfl⟩
  obtain ⟨r, hrr⟩ : ∃ r, root xs = r := ⟨_, rfl⟩
  have hcl : climb n I (wd xs I) p = some (r, []) := by rw [← hp, ← hrr]; exact climb_pf n xs I hnn hIn
  have hp6 : p.length ≤ 6 := by rw [← hp]; exact Nat.le_trans (pf_top hnn hIn) (tops_le n (by omega))
  obtain ⟨x, hx⟩ : ∃ x, wd xs I = x := ⟨_, rfl⟩
  rw [hx] at hcl
  have HP := Lib.hid hp
  have HRR := Lib.hid hrr
  have HX := Lib.hid hx
  have HCL := Lib.hid hcl
  clear hp hrr hx hcl hnn
  go_enter Try.func9, Try.ntmps9
  go_wp2_with fail
  refine (mbegun_any w).mono ?_
  rintro e w1 ⟨rfl, hb1⟩
  have HB1 := Lib.hid hb1
  have HC1 : Hid (∀ x, a = some x → ∀ j u, (zs.map (Value.int .i64))[j]? = some u → w1.cell? (x.add j) = some u) := fun x hx j u hu => (HB1.out.cell (World.block_lt_of_cell? w _ (HC.out x hx j u hu))).trans (HC.out x hx j u hu)
  clear hb1 HC
  go_wp2_with fail
  refine (HLV.out w1 HC1.out).mono ?_
  rintro e w2 ⟨v2, rfl, ho2, hb2⟩
  obtain ⟨g, c, rfl, _, _, hS2, _⟩ := Src.of ho2 hn1
  have HS2 := Lib.hid hS2
  have HB2 := Lib.hid (HB1.out.trans (hb2.mono HB1.out.size))
  clear ho2 hb2 hS2 HB1 HC1 HLV
  go_wp2_with fail
  refine (HBC.out w2).mono ?_
  rintro e _ ⟨rfl, rfl⟩
  go_wp2_with fail
  refine (root_any _ n c xs w2 HNN.out (fun h => by cases h) HS2.out.src hn1 (by omega)).mono ?_
  rw [HRR.out]
  rintro e w3 ⟨rfl, hb3⟩
  have HS3 := Lib.hid (HS2.out.keep hb3 HS2.out.1)
  have HB3 := Lib.hid (HB2.out.trans (hb3.mono HB2.out.size))
  clear hb3 HS2 HB2
  go_wp2_with fail
  have hpa := proof_any _ n c I xs w3 HNN.out (fun h => by cases h) HS3.out.src hn60 hIn
  unfold Proved at hpa
  rw [HP.out] at hpa
  refine hpa.mono ?_
  rintro e w4 ⟨v4, rfl, ho4, hb4⟩
  have hL4 := Lst.of ho4
  have HS4 := Lib.hid (HS3.out.keep hb4 HS3.out.1)
  have HB4 := Lib.hid (HB3.out.trans (hb4.mono HB3.out.size))
  clear hpa ho4 hb4 HS3 HB3
  obtain ⟨ad, cp, rfl, hpc, hcm, hpp⟩ := hL4
  have HPP := Lib.hid hpp
  obtain ⟨m, hm⟩ : ∃ m, p.length = m := ⟨_, rfl⟩
  rw [hm] at hpc hp6 ⊢
  have HM := Lib.hid hm
  clear hpp hm
  have hx0 := HS4.out.2.2 I hIn
  rw [HX.out] at hx0
  have hgw := HS4.out.1
  have HV := Lib.hid (verify_any r x n I (.slice ad m cp) p true w4 ⟨ad, cp, by rw [HM.out], by rw [HM.out]; exact hpc, hcm, HPP.out⟩ hn1 hn60 hIn ⟨fun _ => rfl, fun _ => HCL.out⟩)
  have iI0 : (0 : Int) ≤ (I : Int) := Int.natCast_nonneg _
  have iI1 : (I : Int) < (n : Int) := by omega
  go_wp2_with fail
  refine HV.out.mono ?_
  rintro e _ ⟨rfl, rfl⟩
  go_wp2_with fail
  by_cases hm0 : m = 0
  · have hmd : decide ((0 : Int) < (m : Int)) = false := by rw [decide_eq_false_iff_not]; omega
    have hml : (m : Int) ≤ 0 := by omega
    have hm1 : decide (0 < m) = false := by rw [decide_eq_false_iff_not]; omega
    clear hm0
    refine region_grow (by kernel_rfl) (by kernel_rfl) ?_
    repeat (go_big_quiet_step (fail))
    refine wpQuiet_nil ?_
    intro _ hw'
    obtain ⟨kk, mm, rfl⟩ := hw'
    have HL9 : Hid (Lst (ext w4 kk mm) (.slice ad m cp) p) := Lst.keep ⟨ad, cp, by rw [HM.out], by rw [HM.out]; exact hpc, hcm, HPP.out⟩ (below_ext w4 kk mm)
    have HB9 := Lib.hid (HB4.out.trans ((below_ext w4 kk mm).mono HB4.out.size))
    by_cases ho : Wd ot = x
    · have hoe : (U (Wd ot) == U x) = true := by rw [ho, beq_iff_eq]
      go_wp2_with fail
      go_ret
      exact ⟨rfl, HB9.out⟩
    · have hoe : (U (Wd ot) == U x) = false := by rw [beq_eq_false_iff_ne]; exact fun h => ho (U_inj h)
      have HV3 := Lib.hid (verify_any r (Wd ot) n I (.slice ad m cp) p false (ext w4 kk mm) HL9.out hn1 hn60 hIn ⟨fun h => absurd (climb_inj n I _ _ _ _ _ _ h HCL.out) ho, fun h => by cases h⟩)
      clear ho
      go_wp2_with fail
      refine HV3.out.mono ?_
      rintro e _ ⟨rfl, rfl⟩
      go_wp2_with fail
      go_ret
      exact ⟨rfl, HB9.out⟩
  · obtain ⟨q, hq⟩ : ∃ q, m = q + 1 := ⟨m - 1, by omega⟩
    subst hq
    have hpn : p ≠ [] := by intro h; have := HM.out; rw [h] at this; simp at this
    obtain ⟨g5, o5, rfl, hc5⟩ := HPP.out hpn
    obtain ⟨o', ho', hsl⟩ := run_rest 35 37 g5 o5 q cp i0 Try.underlying35 hi0 hz1 hpc
    have hmd : decide ((0 : Int) < (q : Int) + 1) = true := by rw [decide_eq_true_iff]; omega
    have hL2 : Lst w4 (.slice (some ⟨g5, o', none⟩) q (cp - 1)) p.tail := by
      have ht : p.tail.length = q := by rw [List.length_tail, HM.out]; omega
      refine ⟨_, _, by rw [ht], by omega, by unfold maxLen at hcm ⊢; omega, fun _ => ⟨g5, o', rfl, fun j hj => ?_⟩⟩
      rw [ho' (by omega), show o5 + 1 + j = o5 + (j + 1) by omega, hc5 (j + 1) (by rw [HM.out]; omega)]
      unfold wd
      rw [List.getElem?_tail]
    have HV2 : Hid (∀ kk mm, Calls Try.prog 46 #[.int .u64 (U r), .int .i64 n, .int .i64 I, .int .u64 (U x), .slice (some ⟨g5, o', none⟩) q (cp - 1)] (ext w4 kk mm) fun e w' => e = .returned (.bool false) ∧ ext w4 kk mm = w') := fun kk mm =>
      verify_any r x n I _ p.tail false (ext w4 kk mm) (hL2.keep (below_ext w4 kk mm)) hn1 hn60 hIn ⟨fun h => by
        have := climb_len n I _ _ _ _ _ _ h HCL.out
        rw [List.length_tail, HM.out] at this
        omega, fun h => by cases h⟩
    clear hm0 hpn hc5 ho' hL2
    refine region_grow (by kernel_rfl) (by kernel_rfl) ?_
    repeat (go_big_quiet_step ((intro _; go_at_call 46; exact grow_same (HV2.out _ _))))
    refine wpQuiet_nil ?_
    intro _ hw'
    obtain ⟨kk, mm, rfl⟩ := hw'
    have HL9 : Hid (Lst (ext w4 kk mm) (.slice (some ⟨g5, o5, none⟩) (q + 1) cp) p) := Lst.keep ⟨some ⟨g5, o5, none⟩, cp, by rw [HM.out], by rw [HM.out]; exact hpc, hcm, HPP.out⟩ (below_ext w4 kk mm)
    have HB9 := Lib.hid (HB4.out.trans ((below_ext w4 kk mm).mono HB4.out.size))
    by_cases ho : Wd ot = x
    · have hoe : (U (Wd ot) == U x) = true := by rw [ho, beq_iff_eq]
      go_wp2_with fail
      go_ret
      exact ⟨rfl, HB9.out⟩
    · have hoe : (U (Wd ot) == U x) = false := by rw [beq_eq_false_iff_ne]; exact fun h => ho (U_inj h)
      have HV3 := Lib.hid (verify_any r (Wd ot) n I (.slice (some ⟨g5, o5, none⟩) (q + 1) cp) p false (ext w4 kk mm) HL9.out hn1 hn60 hIn ⟨fun h => absurd (climb_inj n I _ _ _ _ _ _ h HCL.out) ho, fun h => by cases h⟩)
      clear ho
      go_wp2_with fail
      refine HV3.out.mono ?_
      rintro e _ ⟨rfl, rfl⟩
      go_wp2_with fail
      go_ret
      exact ⟨rfl, HB9.out⟩
end Go.Proofs.Ytfeibjokifidmaa.M
namespace Go.Proofs.Ytfeibjokifidmaa
open Go.RowKit

theorem MerkleProofsW (a0 : Option Addr) (len0 cap0 : Nat) (z0 : List Int) (a1 a2 : Int) (w : World)
    (w0 : ((a0 = none ∧ len0 = 0 ∧ cap0 = 0 ∧ z0 = []) ∨ ∃ x, a0 = some x ∧ len0 ≤ cap0 ∧ cap0 ≤ maxLen ∧ z0.length = cap0 ∧ (∀ i, i < z0.length → w.cell? (x.add i) = some (.int .i64 (z0.getD i 0))) ∧ ∀ n ∈ z0, (Lit.int .i64 n).wf = true) ∧ cap0 * 8 ≤ 140737488351232)
    (w1 : (Lit.int .i64 a1).wf = true) (_w2 : (Lit.int .i64 a2).wf = true) :
    Calls Try.prog 9 #[.slice a0 len0 cap0, .int .i64 a1, .int .i64 a2] w fun e w' => e = .returned (.bool true) ∧ Below w.heap.size w w' := by
  obtain ⟨ns, hl, hn, hc, hw, hlc⟩ := row_open w0.1
  exact M.walk9 a0 ns len0 cap0 a1 a2 w hl hn hc hlc (by have := w0.2; omega) (bounds_i64 w1)
end Go.Proofs.Ytfeibjokifidmaa
