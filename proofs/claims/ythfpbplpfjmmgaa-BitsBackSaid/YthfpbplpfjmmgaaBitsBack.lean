/- For every input, BitsBack returns true. No condition. -/
import Derived.Test.YthfpbplpfjmmgaaOnly
namespace Go.Proofs.Ythfpbplpfjmmgaa
open Go.RowKit

/-- The bits of a field, and the number that is cut to them. -/
def wd (z : Int) (k : Nat) : Nat := (z % 64).toNat + k % 2
theorem wd_le (z : Int) (k : Nat) : wd z k ≤ 64 := by unfold wd; omega
noncomputable def cutW (z : Int) (m : Nat) : W64 := (Wd z <<< (64 - m)) >>> (64 - m)
theorem cut_lt (z : Int) (m : Nat) (h : m ≤ 64) : (cutW z m).toNat < 2 ^ m := by
  unfold cutW
  rw [shr_nat, BitVec.toNat_shiftLeft]
  rw [Nat.div_lt_iff_lt_mul (Nat.pow_pos (by omega)), ← Nat.pow_add, show m + (64 - m) = 64 by omega]
  exact Nat.mod_lt _ (by omega)

theorem wide_any (k : Nat) (z : Int) (w : World) (hz : -9223372036854775808 ≤ z ∧ z ≤ 9223372036854775807) (hk : k ≤ 1000) :
    Calls Try.prog 41 #[.int .i64 k, .int .i64 z] w fun e w' => e = .returned (.int .i64 (wd z k)) ∧ w = w' := by
  have h0 := Int.emod_nonneg z (show (64 : Int) ≠ 0 by decide)
  have h1 := Int.emod_lt_of_pos z (show (0 : Int) < 64 by decide)
  go_enter Try.func41, Try.ntmps41
  go_wp2_with (go_at_call 15; (with_reducible refine (below_any _ _ _ (by omega) (by omega) (by omega) (by omega)).mono ?_); rintro e w1 ⟨rfl, rfl⟩)
  go_ret
  exact ⟨ret_int (by unfold wd; omega), rfl⟩

theorem cut_any (z : Int) (m : Nat) (w : World) (hm : m ≤ 64) :
    Calls Try.prog 42 #[.int .i64 z, .int .i64 m] w fun e w' => e = .returned (.int .u64 (U (cutW z m))) ∧ w = w' := by
  have h1 := shl_U (Wd z) (64 - m)
  have h2 := shr_U (Wd z <<< (64 - m)) (64 - m) (2 ^ (64 - m)) (by simp)
  go_enter Try.func42, Try.ntmps42
  go_wp2
  go_ret
  unfold cutW
  exact ⟨rfl, rfl⟩

/-- What has been written behind k numbers. -/
noncomputable def wst (zs : List Int) : Nat → Nat × Nat
  | 0 => (0, 0)
  | k + 1 =>
    let s := wst zs k
    let z := zs[k]?.getD 0
    let a := (s.1 + (cutW z (wd z k)).toNat * 2 ^ s.2, s.2 + wd z k)
    let b := (a.1 + codeN (Wd z).toNat * 2 ^ a.2, a.2 + 5 * grps (Wd z).toNat)
    (b.1 + codeN (zz z).toNat * 2 ^ b.2, b.2 + 5 * grps (zz z).toNat)
theorem grps_word (v : W64) : grps v.toNat ≤ 16 := lt_grps 16 _ (by have := v.isLt; omega) (by omega)

/-- The three writings of number k. -/
theorem wst_step (zs : List Int) (k : Nat) (N n : Nat) (z : Int) (hs : wst zs k = (N, n)) (hz : zs[k]?.getD 0 = z) :
    wst zs (k + 1) = (N + (cutW z (wd z k)).toNat * 2 ^ n + codeN (Wd z).toNat * 2 ^ (n + wd z k) + codeN (zz z).toNat * 2 ^ (n + wd z k + 5 * grps (Wd z).toNat), n + wd z k + 5 * grps (Wd z).toNat + 5 * grps (zz z).toNat) := by
  simp only [wst, hs, hz]
theorem put_lt' (N n v m : Nat) (h : N < 2 ^ n) (hv : v < 2 ^ m) : N + v * 2 ^ n < 2 ^ (n + m) := by
  have := put_lt N n v m h
  rwa [Nat.mod_eq_of_lt hv] at this
theorem wst_facts (zs : List Int) : ∀ k, (wst zs k).1 < 2 ^ (wst zs k).2 ∧ (wst zs k).2 ≤ 225 * k
  | 0 => by simp [wst]
  | k + 1 => by
    obtain ⟨h1, h2⟩ := wst_facts zs k
    rw [wst_step zs k _ _ _ rfl rfl]
    have a := put_lt' _ _ _ _ h1 (cut_lt (zs[k]?.getD 0) (wd (zs[k]?.getD 0) k) (wd_le (zs[k]?.getD 0) k))
    have b := code_bits _ _ (Wd (zs[k]?.getD 0)).toNat a
    have c := code_bits _ _ (zz (zs[k]?.getD 0)).toNat b
    have g1 := grps_word (Wd (zs[k]?.getD 0))
    have g2 := grps_word (zz (zs[k]?.getD 0))
    have g3 := wd_le (zs[k]?.getD 0) k
    exact ⟨c, by simp only []; omega⟩
theorem wst_pre (zs : List Int) (k : Nat) : Pre (wst zs k).1 (wst zs k).2 (wst zs (k + 1)).1 (wst zs (k + 1)).2 := by
  obtain ⟨h1, _⟩ := wst_facts zs k
  rw [wst_step zs k _ _ _ rfl rfl]
  have a := put_lt' _ _ _ _ h1 (cut_lt (zs[k]?.getD 0) (wd (zs[k]?.getD 0) k) (wd_le (zs[k]?.getD 0) k))
  have b := code_bits _ _ (Wd (zs[k]?.getD 0)).toNat a
  exact ((Pre.put _ _ _ _ h1).trans (Pre.put _ _ _ _ a)).trans (Pre.put _ _ _ _ b)
theorem wst_pre_le (zs : List Int) (k : Nat) : ∀ d, Pre (wst zs k).1 (wst zs k).2 (wst zs (k + d)).1 (wst zs (k + d)).2
  | 0 => Pre.refl _ _ (wst_facts zs k).1
  | d + 1 => (wst_pre_le zs k d).trans (wst_pre zs (k + d))
/-- What stands where number k was written. -/
theorem wst_read (zs : List Int) (k c N n : Nat) (z : Int) (h : k < c) (hs : wst zs k = (N, n)) (hz : zs[k]?.getD 0 = z) :
    (wst zs c).1 / 2 ^ n % 2 ^ wd z k = (cutW z (wd z k)).toNat ∧ At ((wst zs c).1 / 2 ^ (n + wd z k)) (Wd z).toNat ∧ At ((wst zs c).1 / 2 ^ (n + wd z k + 5 * grps (Wd z).toNat)) (zz z).toNat ∧
      n + wd z k + 5 * grps (Wd z).toNat + 5 * grps (zz z).toNat ≤ (wst zs c).2 := by
  have h1 := (wst_facts zs k).1
  have hp := wst_pre_le zs (k + 1) (c - (k + 1))
  rw [show k + 1 + (c - (k + 1)) = c by omega, wst_step zs k N n z hs hz] at hp
  rw [hs] at h1
  have a := put_lt' _ _ _ _ h1 (cut_lt z (wd z k) (wd_le z k))
  have b := code_bits _ _ (Wd z).toNat a
  have p3 := Pre.put _ n (cutW z (wd z k)).toNat (wd z k) h1
  have p2 := Pre.put _ _ (codeN (Wd z).toNat) (5 * grps (Wd z).toNat) a
  have p1 := Pre.put _ _ (codeN (zz z).toNat) (5 * grps (zz z).toNat) b
  exact ⟨((p2.trans p1).trans hp).get h1, (p1.trans hp).at a, hp.at b, hp.le⟩

attribute [local go_sem ↓] run_mn run_mx
set_option maxRecDepth 4000 in
set_option maxHeartbeats 2000000 in
theorem walk9 (a : Option Addr) (zs : List Int) (len cap : Nat) (w : World) (hl : zs.length = len) (hn : a = none → len = 0 ∧ cap = 0)
    (hc : ∀ x, a = some x → ∀ j u, (zs.map (Value.int .i64))[j]? = some u → w.cell? (x.add j) = some u) (hlc : len ≤ cap) (hr : len ≤ 9223372036854775807)
    (hw : ∀ z ∈ zs, -9223372036854775808 ≤ z ∧ z ≤ 9223372036854775807) :
    Calls Try.prog 9 #[.slice a len cap] w fun e w' => e = .returned (.bool true) ∧ Below w.heap.size w w' := by
  obtain ⟨i0, hi0, hz0, hz1, hz2⟩ := info_parts Try.info3
  obtain ⟨c, hcm, hcn, hc2⟩ : ∃ c : Nat, mn (len : Int) 200 = (c : Int) ∧ c ≤ len ∧ c ≤ 200 := by
    unfold mn
    by_cases h : len ≤ 200
    · exact ⟨len, by rw [if_neg (by omega)], by omega, by omega⟩
    · exact ⟨200, by rw [if_pos (by omega)]; rfl, by omega, by omega⟩
  have HN := Lib.hid hn
  have HW : Hid (∀ k, k < len → -9223372036854775808 ≤ zs[k]?.getD 0 ∧ zs[k]?.getD 0 ≤ 9223372036854775807) := by
    intro k hk
    rw [List.getElem?_eq_getElem (by omega)]
    exact hw _ (List.getElem_mem _)
  have HC : Hid (∀ k, k < len → ∃ x, a = some x ∧ x.block < w.heap.size ∧ ∀ W, Below w.heap.size w W → W.cell? (x.add k) = some (.int .i64 (zs[k]?.getD 0))) := by
    intro k hk
    cases a with
    | none => have := (hn rfl).1; omega
    | some x =>
      have h := hc x rfl k (.int .i64 (zs[k]?.getD 0)) (by rw [List.getElem?_map, List.getElem?_eq_getElem (by omega)]; rfl)
      have hb := World.block_lt_of_cell? w _ h
      have hxb : (x.add k).block = x.block := by unfold Addr.add; split <;> rfl
      exact ⟨x, rfl, by omega, fun W hW => (hW.cell hb).trans h⟩
  have hcut : ∀ W : World, (Instr.slice 37 (.slice a len cap) none (some (.int .i64 (c : Int))) none).run Try.prog W = .ok (.slice a c cap) W := fun W => run_cut W 37 3 a len cap c i0 Try.underlying37 hi0 (by omega) (fun h => (HN.out h).2)
  clear hn hc hw hl
  go_enter Try.func9, Try.ntmps9
  go_wp2_with (go_at_call 40; (with_reducible refine (bitsBegun_any _).mono ?_); rintro e w1 ⟨rfl, hb⟩; obtain ⟨lb, nb, rfl⟩ := ext_of hb; clear hb)
  obtain ⟨W1, hW1⟩ : ∃ W1, ext w lb nb = W1 := ⟨_, rfl⟩
  obtain ⟨p, hp⟩ : ∃ p, w.heap.size + lb.length = p := ⟨_, rfl⟩
  have hp1 : W1.heap.size = p := by rw [← hW1, size_ext]; exact hp
  have hb1 : Below w.heap.size w W1 := by rw [← hW1]; exact below_ext _ _ _
  have hWt := Wtr.made W1
  rw [hp1] at hWt
  obtain ⟨W2, hW2⟩ : ∃ W2, W1.alloc (Obj.cells #[Value.slice none 0 0, Value.int IntKind.i64 0] 64) = W2 := ⟨_, rfl⟩
  rw [hW2] at hWt
  have hb2 : Below w.heap.size w W2 := by rw [← hW2]; exact hb1.alloc hb1.size _
  have hwp : Hid (w.heap.size ≤ p) := by unfold Hid; omega
  rw [hW1, hp, hW2]
  have HWT := Lib.hid hWt
  have HB2 := Lib.hid hb2
  clear hW1 hW2 hp hp1 hb1 hWt hb2 hcut
  go_loopw [6, 7, 29] (fun _ _ i wr => ∃ k : Nat, k ≤ c ∧ i = .int .i64 k ∧ Wtr p (wst zs k).1 (wst zs k).2 wr ∧ Below w.heap.size w wr) (fun _ _ i _ => c - (intOf i).toNat)
  case atStart => exact ⟨0, by omega, rfl, HWT.out, HB2.out⟩
  case round =>
    obtain ⟨k, hk, rfl, hWr, hBr⟩ := hrel
    have HWR := Lib.hid hWr
    have HBR := Lib.hid hBr
    clear hWr hBr
    by_cases hlt : k < c
    · obtain ⟨x, rfl, hxb, hxc⟩ := HC.out k (by omega)
      obtain ⟨z, hz⟩ : ∃ z, zs[k]?.getD 0 = z := ⟨_, rfl⟩
      have hxk := hxc wr HBR.out
      have hwz := HW.out k (by omega)
      rw [hz] at hxk hwz
      obtain ⟨N, n, hs⟩ : ∃ N n, wst zs k = (N, n) := ⟨_, _, rfl⟩
      have hst := wst_step zs k N n z hs hz
      have hn8 := (wst_facts zs k).2
      have hWr := HWR.out
      rw [hs] at hn8 hWr
      have hg1 := grps_word (Wd z)
      have hg2 := wd_le z k
      have HS := Lib.hid hst
      have HWr := Lib.hid hWr
      simp only [] at hn8
      clear hxc hs hst hWr hz HWR
      go_wp2_with (first
        | (go_at_call 41; (with_reducible refine (wide_any k z _ hwz (by omega)).mono ?_); rintro e w1 ⟨rfl, rfl⟩)
        | (go_at_call 42; (with_reducible refine (cut_any z _ _ (by omega)).mono ?_); rintro e w1 ⟨rfl, rfl⟩))
      refine (put_any p N n (wd z k) (cutW z (wd z k)) _ HWr.out (by omega) (cut_lt z _ (by omega)) (by omega)).mono ?_
      rintro e w1 ⟨rfl, hW1, hB1⟩
      have HW1 := Lib.hid hW1
      have HB1 := Lib.hid (HBR.out.trans (hB1.mono hwp.out))
      clear hW1 hB1
      go_wp2_with fail
      refine (wnat_any p _ _ (Wd z) _ HW1.out (by omega)).mono ?_
      rintro e w2 ⟨rfl, hW2, hB2⟩
      have HW2 := Lib.hid hW2
      have HB2' := Lib.hid (HB1.out.trans (hB2.mono hwp.out))
      clear hW2 hB2
      go_wp2_with fail
      refine (wint_any p _ _ z _ HW2.out (by omega)).mono ?_
      rintro e w3 ⟨rfl, hW3, hB3⟩
      have HW3 := Lib.hid hW3
      have HB3 := Lib.hid (HB2'.out.trans (hB3.mono hwp.out))
      clear hW3 hB3
      go_wp2_with fail
      go_roundw
      case rel => exact ⟨k + 1, by omega, by go_num, by rw [HS.out]; exact HW3.out, HB3.out⟩
      case measure => simp [intOf]; omega
    · obtain rfl : k = c := by omega
      obtain ⟨D, d, hs⟩ : ∃ D d, wst zs k = (D, d) := ⟨_, _, rfl⟩
      have hWr := HWR.out
      have hfc := wst_facts zs k
      rw [hs] at hWr hfc
      simp only [] at hfc
      obtain ⟨hDl, hd⟩ := hfc
      have HS := Lib.hid hs
      have HDL := Lib.hid hDl
      clear hs HWR hDl
      obtain ⟨cnt, hcnt⟩ : ∃ cnt, (d + 7) / 8 = cnt := ⟨_, rfl⟩
      have hdc : d ≤ 8 * cnt ∧ 8 * cnt ≤ d + 7 := by omega
      obtain ⟨r, hr7⟩ : ∃ r : Nat, 8 * cnt = d + r := ⟨8 * cnt - d, by omega⟩
      have hwb := wbytes_any p D d wr hWr
      rw [hcnt] at hwb
      have HWB := Lib.hid hwb
      clear hwb hcnt hWr
      go_wp2_with fail
      refine HWB.out.mono ?_
      rintro e W4 ⟨v4, rfl, own4, hb4⟩
      obtain ⟨ao, cp, rfl, hn4, hc4, hl4⟩ := owns_source own4
      have HB4 := Lib.hid (HBR.out.trans (hb4.mono HBR.out.size))
      have HN4 := Lib.hid hn4
      have HC4 := Lib.hid hc4
      clear hn4 hc4 hl4 own4 hb4
      go_wp2_with fail
      refine (rnew_any ao cnt cp (bytesN D cnt) W4 (bytesN_length _ _) HN4.out HC4.out (by omega) (bytesN_bd _ _)).mono ?_
      rintro e W5 ⟨q, rfl, hq, hR5, hB5⟩
      have hwq : Hid (w.heap.size ≤ q) := by have := HB4.out.size; unfold Hid; omega
      have HB5 := Lib.hid (HB4.out.trans (hB5.mono HB4.out.size))
      have HR5 := Lib.hid hR5
      obtain ⟨B, hBB⟩ : ∃ B, W4.heap.size = B := ⟨_, rfl⟩
      obtain ⟨T, hTT⟩ : ∃ T, W5.heap.size = T := ⟨_, rfl⟩
      rw [hBB, hTT] at HR5
      clear hR5 hB5 hq hBB hTT
      have hnum : Hid (numB (bytesN D cnt) = D) := numB_bytesN D cnt (Nat.lt_of_lt_of_le HDL.out (Nat.pow_le_pow_right (by omega) hdc.1))
      go_wp2_with fail
      go_loopw [9, 10, 11, 12, 13, 14, 15, 16, 63] (fun _ _ _ _ _ _ _ _ i ws => ∃ j : Nat, j ≤ k ∧ i = .int .i64 j ∧ Rdr B T q (wst zs j).2 (bytesN D cnt) ws ∧ Below w.heap.size w ws) (fun _ _ _ _ _ _ _ _ i _ => k - (intOf i).toNat)
      case atStart => exact ⟨0, by omega, rfl, HR5.out, HB5.out⟩
      case round =>
        obtain ⟨j, hj, rfl, hRr, hBr⟩ := hrel
        have HRR := Lib.hid hRr
        have HBr := Lib.hid hBr
        clear hRr hBr
        by_cases hjl : j < k
        · obtain ⟨x, rfl, hxb, hxc⟩ := HC.out j (by omega)
          obtain ⟨z, hz⟩ : ∃ z, zs[j]?.getD 0 = z := ⟨_, rfl⟩
          have hxk := hxc wr HBr.out
          have hwz := HW.out j (by omega)
          rw [hz] at hxk hwz
          obtain ⟨N, n, hs⟩ : ∃ N n, wst zs j = (N, n) := ⟨_, _, rfl⟩
          have hst := wst_step zs j N n z hs hz
          have hrd := wst_read zs j k N n z hjl hs hz
          rw [HS.out] at hrd
          simp only [] at hrd
          have hRr := HRR.out
          rw [hs] at hRr
          simp only [] at hRr
          have hg2 := wd_le z j
          have HST := Lib.hid hst
          have HRD := Lib.hid hrd
          have HRr := Lib.hid hRr
          have hle := hrd.2.2.2
          have hgp1 := grps_pos (Wd z).toNat
          clear hxc hs hst hRr hz HRR hrd
          have hget := get_any B T q n (wd z j) (bytesN D cnt) wr HRr.out (by omega) (by rw [bytesN_length]; omega)
          rw [hnum.out, HRD.out.1, show wordOf (cutW z (wd z j)).toNat = cutW z (wd z j) by unfold wordOf; rw [BitVec.ofNat_toNat, BitVec.setWidth_eq]] at hget
          have HGET := Lib.hid hget
          clear hget
          go_wp2_with (go_at_call 41; (with_reducible refine (wide_any j z _ hwz (by omega)).mono ?_); rintro e w1 ⟨rfl, rfl⟩)
          refine HGET.out.mono ?_
          rintro e w1 ⟨rfl, hR1, hG1⟩
          have HR1 := Lib.hid hR1
          have HB1 := Lib.hid (HBr.out.grown hG1 HBr.out.size (fun o ho => by cases ho; exact hwq.out))
          clear hR1 hG1
          go_wp2_with fail
          refine (rnat_any B T q (n + wd z j) (bytesN D cnt) _ HR1.out).mono ?_
          rintro e w2 (⟨x1, hx1, rfl, hat, hle1, hR2, hG2⟩ | ⟨er, her, rfl, hno, hR2, hG2⟩)
          · rw [hnum.out] at hat
            obtain rfl : x1 = (Wd z).toNat := At_uniq _ _ _ hat HRD.out.2.1
            have HR2 := Lib.hid hR2
            have HB2' := Lib.hid (HB1.out.grown hG2 HB1.out.size (fun o ho => by cases ho; exact hwq.out))
            clear hat hle1 hR2 hG2 hx1
            rw [show (((Wd z).toNat : Nat) : Int) = U (Wd z) from rfl]
            go_wp2_with fail
            refine (rint_any B T q (n + wd z j + 5 * grps (Wd z).toNat) (bytesN D cnt) _ HR2.out).mono ?_
            rintro e w3 (⟨x1, hx1, rfl, hat, hle1, hR3, hG3⟩ | ⟨er, her, rfl, hno, hR3, hG3⟩)
            · rw [hnum.out] at hat
              obtain rfl : x1 = (zz z).toNat := At_uniq _ _ _ hat HRD.out.2.2.1
              rw [uz_zz z hwz]
              have HR3 := Lib.hid hR3
              have HB3 := Lib.hid (HB2'.out.grown hG3 HB2'.out.size (fun o ho => by cases ho; exact hwq.out))
              clear hat hle1 hR3 hG3 hx1
              go_wp2_with (first
                | (go_at_call 41; (with_reducible refine (wide_any j z _ hwz (by omega)).mono ?_); rintro e w1 ⟨rfl, rfl⟩)
                | (go_at_call 42; (with_reducible refine (cut_any z _ _ (by omega)).mono ?_); rintro e w1 ⟨rfl, rfl⟩))
              go_roundw
              case rel => exact ⟨j + 1, by omega, by go_num, by rw [HST.out]; exact HR3.out, HB3.out⟩
              case measure => simp [intOf]; omega
            · exact absurd (by rw [hnum.out]; exact HRD.out.2.2.1) (hno (zz z).toNat (by have := (zz z).isLt; omega) (by rw [bytesN_length]; omega))
          · exact absurd (by rw [hnum.out]; exact HRD.out.2.1) (hno (Wd z).toNat (by have := (Wd z).isLt; omega) (by rw [bytesN_length]; omega))
        · obtain rfl : j = k := by omega
          have hRr := HRR.out
          rw [HS.out] at hRr
          simp only [] at hRr
          have hlf := left_any B T q d (bytesN D cnt) wr hRr
          rw [bytesN_length, show 8 * (cnt : Int) - ↑d = (r : Int) by omega] at hlf
          have HLF := Lib.hid hlf
          have HRr := Lib.hid hRr
          have hmm : mn (mx (r : Int) 0) 7 = (r : Int) := by
            unfold mn mx; rw [if_neg (show ¬ (0 : Int) > r by omega), if_neg (by omega)]
          clear hlf hRr HRR
          go_wp2_with fail
          refine HLF.out.mono ?_
          rintro e w1 ⟨rfl, hb1⟩
          have hR1 := HRr.out.below hb1 HRr.out.sz
          have HB1 := Lib.hid (HBr.out.trans (hb1.mono HBr.out.size))
          have hget := get_any B T q d r (bytesN D cnt) w1 hR1 (by omega) (by rw [bytesN_length]; omega)
          have hz : U (wordOf (D / 2 ^ d % 2 ^ r)) = 0 := by
            rw [Nat.div_eq_of_lt HDL.out, Nat.zero_mod]; unfold wordOf; decide
          rw [hnum.out, hz] at hget
          have HGET := Lib.hid hget
          clear hget hb1 hR1 hz
          go_wp2_with fail
          refine HGET.out.mono ?_
          rintro e w2 ⟨rfl, _, hG2⟩
          have HB2 := Lib.hid (HB1.out.grown hG2 HB1.out.size (fun o ho => by cases ho; exact hwq.out))
          clear hG2
          go_wp2_with fail
          go_ret
          exact ⟨rfl, HB2.out⟩

theorem BitsBackW (a0 : Option Addr) (len0 cap0 : Nat) (z0 : List Int) (w : World)
    (w0 : ((a0 = none ∧ len0 = 0 ∧ cap0 = 0 ∧ z0 = []) ∨ ∃ x, a0 = some x ∧ len0 ≤ cap0 ∧ cap0 ≤ maxLen ∧ z0.length = cap0 ∧ (∀ i, i < z0.length → w.cell? (x.add i) = some (.int .i64 (z0.getD i 0))) ∧ ∀ n ∈ z0, (Lit.int .i64 n).wf = true) ∧ cap0 * 8 ≤ 140737488351232) :
    Calls Try.prog 9 #[.slice a0 len0 cap0] w fun e w' => e = .returned (.bool true) ∧ Below w.heap.size w w' := by
  obtain ⟨ns, hl, hn, hc, hw, hlc⟩ := row_open w0.1
  exact walk9 a0 ns len0 cap0 w hl hn hc hlc (by have := w0.2; omega) (fun c hc => bounds_i64 (hw c hc))
end Go.Proofs.Ythfpbplpfjmmgaa
