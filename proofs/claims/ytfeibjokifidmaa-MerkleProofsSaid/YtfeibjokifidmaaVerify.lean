/- merkle.Proof and merkle.Verify. -/
import Derived.Test.YtfeibjokifidmaaSmall
import Derived.Test.YtfeibjokifidmaaPath
namespace Go.Proofs.Ytfeibjokifidmaa.M
open Go.RowKit

theorem sib_small : ∀ i : Fin 64, bits .xor .i64 ((i.val : Nat) : Int) 1 = ((sib i.val : Nat) : Int) := by decide
theorem sib_xor (i : Nat) (h : i < 64) : bits .xor .i64 (i : Int) 1 = ((sib i : Nat) : Int) := sib_small ⟨i, h⟩
theorem sib_le (i : Nat) : sib i ≤ i + 1 := by unfold sib; split <;> omega

/-- What Proof says. -/
def Proved (w : World) (n : Nat) (ws : List W64) (i : Nat) (e : Ending) (w' : World) : Prop :=
  ∃ v, e = .returned (.tuple #[v, .int .i64 0]) ∧ w'.ownsRow w.heap.size 37 1 v (pf ws i (tops n + 1)).length (us (pf ws i (tops n + 1))) ∧ Below w.heap.size w w'

set_option maxRecDepth 8000 in
set_option maxHeartbeats 2000000 in
theorem proof_any (ao : Option Addr) (n cap i : Nat) (ws : List W64) (w : World) (hl : ws.length = n) (hn : ao = none → n = 0 ∧ cap = 0)
    (hc : ∀ x, ao = some x → ∀ j u, (us ws)[j]? = some u → w.cell? (x.add j) = some u) (h2 : n ≤ 60) (hi : i < n) :
    Calls Try.prog 45 #[.slice ao n cap, .int .i64 i] w (Proved w n ws i) := by
  obtain ⟨i0, hi0, hz0, hz1, hz2⟩ := info_parts Try.info37
  obtain ⟨T, hT⟩ : ∃ T, tops n = T := ⟨_, rfl⟩
  have hT6 : T ≤ 6 := by rw [← hT]; exact tops_le n (by omega)
  have hlt := levels_tree ao n cap T ws w hl hn hc (by omega) (by omega) hT
  have HLT := Lib.hid hlt
  have HL := Lib.hid hl
  have hpl : ∀ k, k ≤ T + 1 → (pf ws i k).length ≤ 7 := fun k hk => by have := pf_len ws i k; omega
  have HPL := Lib.hid hpl
  have hii : (i : Int) < (n : Int) := by omega
  have hi00 : (0 : Int) ≤ (i : Int) := Int.natCast_nonneg _
  unfold Proved
  rw [hT]
  clear hT hlt hl hn hc hpl
  go_enter Try.func45, Try.ntmps45
  go_wp2_with fail
  refine HLT.out.mono ?_
  rintro e w1 ⟨g, cp, rfl, hA, hB⟩
  have HA := Lib.hid hA
  have HB := Lib.hid hB
  obtain ⟨C, hC⟩ : ∃ C, w1.heap.size = C := ⟨_, rfl⟩
  have hgC : g < C := by rw [← hC]; exact hA.1
  have HC := Lib.hid hC
  clear hA hB hC HLT
  go_wp2_with fail
  go_loopw [1, 6, 8, 9, 24] (fun v1 v6 _ _ v24 wr => ∃ k : Nat, k ≤ T + 1 ∧ v24 = .int .i64 k ∧ v1 = .int .i64 ((i / 2 ^ k : Nat) : Int) ∧ wr.ownsRow C 37 1 v6 (pf ws i k).length (us (pf ws i k)) ∧ C ≤ wr.heap.size ∧ Below C w1 wr) (fun _ _ _ _ v _ => T + 1 - (intOf v).toNat)
  case atStart => exact ⟨0, Nat.zero_le _, rfl, by simp, World.ownsRow_nil _ _ _ _, Nat.le_of_eq HC.out.symm, Below.refl _ _⟩
  case round =>
    obtain ⟨k, hk, rfl, rfl, hO, hCs, hBr⟩ := hrel
    have HBR := Lib.hid hBr
    have HO := Lib.hid hO
    obtain ⟨I, hI⟩ : ∃ I, i / 2 ^ k = I := ⟨_, rfl⟩
    have hI64 : I < 64 := by have := Nat.div_le_self i (2 ^ k); omega
    have hI2 : i / 2 ^ (k + 1) = I / 2 := by rw [Nat.pow_succ, ← Nat.div_div_eq_div_mul, hI]
    obtain ⟨m, hm⟩ : ∃ m, (pf ws i k).length = m := ⟨_, rfl⟩
    have hm7 : m ≤ 7 := by rw [← hm]; exact HPL.out k hk
    rw [hI]
    have HI := Lib.hid hI
    have HI2 := Lib.hid hI2
    have HM := Lib.hid hm
    clear hBr hO hI hI2 hm
    by_cases hkt : k ≤ T
    · obtain ⟨gi, ci, hgi, h1', hcx, hcw⟩ := HA.out.2 k hkt
      have hx0 := (HBR.out.cell (p := ⟨g, k, none⟩) hgC).trans hcx
      have hll := lvl_le ws k
      rw [HL.out] at hll
      obtain ⟨q, hq⟩ : ∃ q, (lvl ws k).length = q := ⟨_, rfl⟩
      rw [hq] at hx0 hcw hll
      have hsx := sib_xor I hI64
      obtain ⟨s, hs⟩ : ∃ s, sib I = s := ⟨_, rfl⟩
      rw [hs] at hsx
      have hs64 : s ≤ 64 := by have := sib_le I; omega
      have HQ := Lib.hid hq
      have HS := Lib.hid hs
      have hstep : pf ws i (k + 1) = pf ws i k ++ if s < q then [wd (lvl ws k) s] else [] := by
        show pf ws i k ++ step (lvl ws k) (i / 2 ^ k) = _
        unfold step
        rw [HI.out, hs, hq]
      have hgi' : gi < C := by rw [← HC.out]; exact hgi
      have hkb : (k : Int) < (T : Int) + 1 := by omega
      have hkb0 : (0 : Int) ≤ (k : Int) := Int.natCast_nonneg _
      by_cases hsq : s < q
      · have hy0 := (HBR.out.cell (p := ⟨gi, s, none⟩) hgi').trans (hcw s hsq)
        obtain ⟨z, hz⟩ : ∃ z, wd (lvl ws k) s = z := ⟨_, rfl⟩
        rw [hz] at hy0 hstep
        rw [if_pos hsq] at hstep
        have HST := Lib.hid hstep
        clear hcw hcx hq hs hstep hz
        go_wp2_with (at_builtin; refine wpList_append_own _ rfl _ _ 35 rfl C 37 i0 (.int .u64 0) 1 8 Try.underlying35 hi0 hz0 hz1 hz2 rfl (by decide) _ m _ rfl ((show wr.ownsRow C 37 1 _ m (us (pf ws i k)) from HM.out ▸ HO.out).alloc _) ⟨wr.heap.size, 0, none⟩ 1 1 [.int .u64 (U z)] rfl rfl (new_one _ _ _) (one_ok rfl) (by unfold maxLen; omega) (by omega) (by simp; omega) ?_)
        intro v' w6 hO6 hg6 _
        have hb6 := (HBR.out.alloc hCs _).grown hg6 (by simp; omega) (fun q hq => (HO.out.lt q hq).1)
        have hsz : C ≤ w6.heap.size := by have := hg6.size; simp at this; omega
        have HO6 := Lib.hid hO6
        have HB6 := Lib.hid hb6
        clear hO6 hg6 hb6
        go_wp2_with fail
        go_roundw
        case rel =>
          refine ⟨k + 1, by omega, by go_num, by rw [HI2.out]; go_num, ?_, hsz, HB6.out⟩
          rw [HST.out, List.length_append, HM.out]
          have := HO6.out
          unfold us at this ⊢
          simpa [List.map_append] using this
        case measure => simp [intOf]; omega
      · rw [if_neg hsq, List.append_nil] at hstep
        have HST := Lib.hid hstep
        have hqs : q ≤ s := by omega
        clear hcw hcx hq hs hstep hsq
        go_wp2_with fail
        go_roundw
        case rel =>
          refine ⟨k + 1, by omega, by go_num, by rw [HI2.out]; go_num, ?_, hCs, HBR.out⟩
          rw [HST.out]; exact HO.out
        case measure => simp [intOf]; omega
    · obtain rfl : k = T + 1 := by omega
      have hkb : ¬ ((T + 1 : Nat) : Int) < (T : Int) + 1 := by omega
      go_wp2_with fail
      go_ret2
      exact ⟨_, rfl, owns_mono HO.out (by rw [← HC.out]; exact HB.out.size), HB.out.trans (HBR.out.mono (by rw [← HC.out]; exact HB.out.size))⟩

/-- A list of words to be read. -/
def Lst (w : World) (v : Value) (p : List W64) : Prop :=
  ∃ ad c, v = .slice ad p.length c ∧ p.length ≤ c ∧ c ≤ maxLen ∧ (p ≠ [] → ∃ g o, ad = some ⟨g, o, none⟩ ∧ ∀ j, j < p.length → w.cell? ⟨g, o + j, none⟩ = some (.int .u64 (U (wd p j))))
theorem Lst.of {w : World} {B n : Nat} {v : Value} {p : List W64} (h : w.ownsRow B 37 1 v n (us p)) : Lst w v p := by
  have hn : n = p.length := by have := h.1; rw [us_length] at this; omega
  subst hn
  rcases Nat.lt_or_ge 0 p.length with h1 | h1
  · obtain ⟨g, c, rfl, _, _, hc, hm, _, hcl, _⟩ := owns_open h (by omega)
    exact ⟨_, c, rfl, hc, hm, fun _ => ⟨g, 0, rfl, fun j hj => by rw [Nat.zero_add, hcl j (by omega)]; exact us_at _ _ hj⟩⟩
  · obtain rfl : p = [] := List.eq_nil_of_length_eq_zero (by omega)
    obtain ⟨_, h2⟩ := h
    rcases h2 with ⟨rfl, _⟩ | ⟨g, cap, cur, rfl, _, _, h5, h6, _⟩
    · exact ⟨none, 0, rfl, Nat.le_refl _, by unfold maxLen; omega, fun h => absurd rfl h⟩
    · exact ⟨_, cap, rfl, h5, h6, fun h => absurd rfl h⟩
theorem Lst.keep {w w' : World} {v : Value} {p : List W64} (h : Lst w v p) (hb : Below w.heap.size w w') : Lst w' v p := by
  obtain ⟨ad, c, h1, h2, h3, h4⟩ := h
  refine ⟨ad, c, h1, h2, h3, fun hp => ?_⟩
  obtain ⟨g, o, h5, h6⟩ := h4 hp
  exact ⟨g, o, h5, fun j hj => (hb.cell (p := ⟨g, o + j, none⟩) (World.block_lt_of_cell? w _ (h6 j hj))).trans (h6 j hj)⟩
theorem run_rest (t e : TypeId) (g o m c : Nat) (i : TypeInfo) (h : Try.prog.underlying t = some (.slice e)) (hi : Try.prog.info? e = some i) (hs : i.size = 1) (hc : m + 1 ≤ c) :
    ∃ o', (0 < m → o' = o + 1) ∧ ∀ w : World, (Instr.slice t (.slice (some ⟨g, o, none⟩) (m + 1) c) (some (.int .i64 1)) none none).run Try.prog w = .ok (.slice (some ⟨g, o', none⟩) m (c - 1)) w := by
  refine ⟨if c = 1 then o else o + 1, fun hm => if_neg (by omega), fun w => ?_⟩
  by_cases h1 : c = 1
  · obtain rfl : m = 0 := by omega
    subst h1
    simp [Instr.slice, run_underlying h, Instr.sliceBounds, Instr.sliceBound, asIntOf, sizeOf, typeInfo, hi]
  · simp [Instr.slice, run_underlying h, Instr.sliceBounds, Instr.sliceBound, asIntOf, sizeOf, typeInfo, hi, h1, hs, Addr.add]
    intro h
    omega

set_option maxRecDepth 8000 in
set_option maxHeartbeats 2000000 in
theorem verify_any (r x : W64) (n i : Nat) (v : Value) (p : List W64) (b : Bool) (w : World) (hv : Lst w v p) (h1 : 1 ≤ n) (h2 : n ≤ 60) (hi : i < n) (hb : climb n i x p = some (r, []) ↔ b = true) :
    Calls Try.prog 46 #[.int .u64 (U r), .int .i64 n, .int .i64 i, .int .u64 (U x), v] w fun e w' => e = .returned (.bool b) ∧ w = w' := by
  obtain ⟨i0, hi0, hz0, hz1, hz2⟩ := info_parts Try.info37
  obtain ⟨ad, c, rfl, hpc, hcm, hpp⟩ := hv
  have HB := Lib.hid hb
  have hii : (i : Int) < (n : Int) := by omega
  have hi00 : (0 : Int) ≤ (i : Int) := Int.natCast_nonneg _
  obtain ⟨m, hm⟩ : ∃ m, p.length = m := ⟨_, rfl⟩
  have HPP := Lib.hid hpp
  have HM := Lib.hid hm
  rw [hm] at hpc ⊢
  have d1 : decide ((n : Int) < 1) = false := by rw [decide_eq_false_iff_not]; omega
  have d2 : decide ((4096 : Int) < (n : Int)) = false := by rw [decide_eq_false_iff_not]; omega
  have d3 : decide ((i : Int) < 0) = false := by rw [decide_eq_false_iff_not]; omega
  have d4 : decide (n ≤ i) = false := by rw [decide_eq_false_iff_not]; omega
  clear hb hm hpp
  go_enter Try.func46, Try.ntmps46
  go_wp2_with fail
  go_loop [1, 2, 3, 4, 11] (fun v1 v2 v3 v4 _ => ∃ (n' i' : Nat) (x' : W64) (p' : List W64), climb n' i' x' p' = climb n i x p ∧ v1 = .int .i64 n' ∧ v2 = .int .i64 i' ∧ v3 = .int .u64 (U x') ∧ Lst w v4 p' ∧ n' ≤ 60 ∧ i' < n') (fun v1 _ _ _ _ => (intOf v1).toNat)
  case atStart => exact ⟨n, i, x, p, rfl, rfl, rfl, rfl, ⟨ad, c, by rw [HM.out], by rw [HM.out]; exact hpc, hcm, HPP.out⟩, h2, hi⟩
  case round =>
    obtain ⟨n', i', x', p', hcl, rfl, rfl, rfl, hv, hn', hi'⟩ := hrel
    obtain ⟨ad', c', rfl, hpc', hcm', hpp'⟩ := hv
    have HB' : Hid (climb n' i' x' p' = some (r, []) ↔ b = true) := by rw [hcl]; exact HB.out
    have HCL := Lib.hid hcl
    clear hcl
    by_cases hn1 : n' ≤ 1
    · have hcc := climb_one (n := n') (i := i') (x := x') (p := p') hn1
      have hb := HB'.out
      rw [hcc] at hb
      clear hpp'
      cases p' with
      | nil =>
        by_cases hxr : x' = r
        · subst hxr
          obtain rfl : b = true := hb.1 rfl
          have hxe : (U x' == U x') = true := by rw [beq_iff_eq]
          clear hb hcc
          go_wp2_with fail
          go_ret
          exact ⟨rfl, rfl⟩
        · obtain rfl : b = false := by
            cases b with
            | false => rfl
            | true =>
              have := hb.2 rfl
              injection this with this
              injection this with this _
              exact absurd this hxr
          have hxe : (U x' == U r) = false := by rw [beq_eq_false_iff_ne]; exact fun h => hxr (U_inj h)
          clear hb hcc hxr
          go_wp2_with fail
          go_ret
          exact ⟨rfl, rfl⟩
      | cons d p2 =>
        obtain rfl : b = false := by
          cases b with
          | false => rfl
          | true =>
            have := hb.2 rfl
            injection this with this
            injection this with _ this
            cases this
        obtain ⟨q, hq⟩ : ∃ q, p2.length = q := ⟨_, rfl⟩
        simp only [List.length_cons] at hpc' ⊢
        rw [hq] at hpc' ⊢
        clear hb hcc hq
        go_wp2_with fail
        go_ret
        exact ⟨rfl, rfl⟩
    · have hsx := sib_xor i' (by omega)
      obtain ⟨s, hs⟩ : ∃ s, sib i' = s := ⟨_, rfl⟩
      rw [hs] at hsx
      have HS := Lib.hid hs
      have hN1 := Lib.hid hn1
      have hn2 : 1 < n' := by omega
      have hs64 : s ≤ 64 := by have := sib_le i'; omega
      clear hs hn1
      by_cases hsn : s < n'
      · cases p' with
        | nil =>
          have hbf : b = false := by
            cases b with
            | false => rfl
            | true =>
              have := HB'.out.2 rfl
              rw [climb_nil hN1.out (by rw [HS.out]; exact hsn)] at this
              cases this
          subst hbf
          go_wp2_with fail
          go_ret
          exact ⟨rfl, rfl⟩
        | cons d p2 =>
          obtain ⟨g, o, rfl, hcells⟩ := hpp' (by simp)
          obtain ⟨q, hq⟩ : ∃ q, p2.length = q := ⟨_, rfl⟩
          have hd0 := hcells 0 (by simp)
          rw [Nat.add_zero] at hd0
          rw [show wd (d :: p2) 0 = d from rfl] at hd0
          simp only [List.length_cons] at hpc' hcells
          rw [hq] at hpc' hcells
          obtain ⟨o', ho', hsl⟩ := run_rest 35 37 g o q c' i0 Try.underlying35 hi0 hz1 hpc'
          have hl2 : Lst w (.slice (some ⟨g, o', none⟩) q (c' - 1)) p2 := by
            refine ⟨_, _, by rw [hq], by omega, by unfold maxLen at hcm' ⊢; omega, fun hp => ⟨g, o', rfl, fun j hj => ?_⟩⟩
            rw [ho' (by rw [hq] at hj; omega), show o + 1 + j = o + (j + 1) by omega, hcells (j + 1) (by rw [hq] at hj; omega)]
            rfl
          have HL2 := Lib.hid hl2
          have hcc := climb_cons (x := x') (d := d) (p := p2) hN1.out (show sib i' < n' by rw [HS.out]; exact hsn)
          simp only [List.length_cons]
          rw [hq]
          by_cases hev : i' % 2 = 0
          · rw [if_pos hev] at hcc
            have HCC := Lib.hid (hcc.symm.trans HCL.out)
            clear hcc ho' hl2 hcells hpp' hq
            go_wp2_with (go_at_call 64; (with_reducible refine (join_any _ _ _).mono ?_); rintro e w' ⟨rfl, rfl⟩)
            go_round
            case rel => exact ⟨(n' + 1) / 2, i' / 2, _, p2, HCC.out, by go_num, by go_num, rfl, HL2.out, by omega, by omega⟩
            case measure => simp [intOf]; omega
          · rw [if_neg hev] at hcc
            have HCC := Lib.hid (hcc.symm.trans HCL.out)
            clear hcc ho' hl2 hcells hpp' hq
            go_wp2_with (go_at_call 64; (with_reducible refine (join_any _ _ _).mono ?_); rintro e w' ⟨rfl, rfl⟩)
            go_round
            case rel => exact ⟨(n' + 1) / 2, i' / 2, _, p2, HCC.out, by go_num, by go_num, rfl, HL2.out, by omega, by omega⟩
            case measure => simp [intOf]; omega
      · have hcc := climb_skip (x := x') (p := p') hN1.out (show ¬ sib i' < n' by rw [HS.out]; exact hsn)
        have HCC := Lib.hid (hcc.symm.trans HCL.out)
        have HPP' := Lib.hid hpp'
        obtain ⟨q, hq⟩ : ∃ q, p'.length = q := ⟨_, rfl⟩
        have HQ := Lib.hid hq
        rw [hq] at hpc' ⊢
        clear hcc hpp' hq
        go_wp2_with fail
        go_round
        case rel => exact ⟨(n' + 1) / 2, i' / 2, _, p', HCC.out, by go_num, by go_num, rfl, ⟨ad', c', by rw [HQ.out], by rw [HQ.out]; exact hpc', hcm', HPP'.out⟩, by omega, by omega⟩
        case measure => simp [intOf]; omega
end Go.Proofs.Ytfeibjokifidmaa.M
