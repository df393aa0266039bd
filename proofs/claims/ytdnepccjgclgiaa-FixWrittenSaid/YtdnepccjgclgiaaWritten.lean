/- For every input, FixWritten returns true. No condition. -/
import Derived.Test.YtdnepccjgclgiaaRead
namespace Go.Proofs.Ytdnepccjgclgiaa
open Go.RowKit Go.Proofs.Ytdnepccjgclgiaa.D

/-- The lesser one of two numbers. -/
def mn (x y : Int) : Int := if y < x then y else x
theorem run_mn (ts : Array TypeId) (t : TypeId) (k : IntKind) (x y : Int) (w : World) : (Builtin.min_ ts t #[.int k x, .int k y]).run Try.prog w = .ok (.int k (mn x y)) w := by
  rw [run_min_int2]; rfl
attribute [local go_sem ↓] run_mn
/-- A letter of a string. -/
theorem str_at (l : List Nat) (i : Nat) (h : i < (str l).size) (hb : ∀ c ∈ l, c < 256) : ((str l)[i]'h).toNat = l[i]?.getD 0 := by
  have h2 : i < l.length := by rw [str_size] at h; exact h
  have e : (str l)[i]'h = (l.map UInt8.ofNat).toArray[i]'(by simp; exact h2) := rfl
  rw [e, List.getElem_toArray, List.getElem_map, byte_toNat (hb _ (List.getElem_mem _)), List.getElem?_eq_getElem h2]
  rfl
theorem str_drop (l : List Nat) (k : Nat) : (str l).extract k l.length = str (l.drop k) := by
  unfold str
  rw [ByteArray.ext_iff, ByteArray.data_extract]
  simp [← List.map_drop]
  exact List.take_of_length_le (by simp)
theorem str_ne {l : List Nat} (h : 1 ≤ l.length) : ¬ (str l).toList = [] ∧ (str l).toList.isEmpty = false := by
  rw [ByteArray.toList_eq]
  cases l with
  | nil => simp at h
  | cons a l => simp [str]

set_option maxRecDepth 8000 in
set_option maxHeartbeats 400000 in
theorem read_any (neg : Bool) (q f : Nat) (w : World) (hq : q < 10 ^ 8) (hf : f < 65536) (hm : q * 65536 + f ≤ 1099511627776) :
    Calls Try.prog 40 #[.string (str ((if neg then [45] else []) ++ (digs q ++ tail f)))] w fun e w' => e = .returned (.tuple #[.int .i64 (if neg then -((q * 65536 + f : Nat) : Int) else ((q * 65536 + f : Nat) : Int)), .int .i64 0]) ∧ Below w.heap.size w w' := by
  have hDl := digs_len 7 q hq
  have hDp := digs_pos q
  have hDD := digs_digs q
  have hpv := pv_digs q (by omega)
  obtain ⟨Dg, hDg⟩ : ∃ Dg, digs q = Dg := ⟨_, rfl⟩
  rw [hDg] at hDl hDp hDD hpv ⊢
  obtain ⟨nD, hnD⟩ : ∃ nD, Dg.length = nD := ⟨_, rfl⟩
  rw [hnD] at hDl hDp
  have hFD := frac_digs 16 f hf
  have hFl := frac_len 16 f
  obtain ⟨hb1, hb2⟩ := frac_back hf
  have hfr := fun w => fraction_any (frac 16 f) w hFD hFl hb2
  rw [hb1] at hfr
  obtain ⟨R, hR⟩ : ∃ R, Dg ++ tail f = R := ⟨_, rfl⟩
  rw [hR]
  have hRb : ∀ c ∈ R, c < 256 := by
    intro c hc
    rw [← hR] at hc
    unfold tail at hc
    rcases List.mem_append.1 hc with hc | hc
    · have := hDD c hc; omega
    · split at hc
      · rcases List.mem_cons.1 hc with rfl | hc
        · omega
        · have := hFD c hc; omega
      · simp at hc
  obtain ⟨nR, hnR⟩ : ∃ nR, R.length = nR := ⟨_, rfl⟩
  have hnR26 : nR ≤ 25 ∧ nD ≤ nR := by
    rw [← hnR, ← hR, List.length_append, hnD]
    unfold tail
    split
    · simp; omega
    · simp; omega
  -- the strings, by their letters alone
  obtain ⟨sR, hsR⟩ : ∃ sR, str R = sR := ⟨_, rfl⟩
  have hRz : sR.size = nR := by rw [← hsR, str_size, hnR]
  have HRA : Hid (∀ (i : Nat) (h : i < sR.size), (sR[i]'h).toNat = R[i]?.getD 0) := by
    subst hsR
    exact fun i h => str_at R i h hRb
  have HRX : Hid (∀ k, sR.extract k nR = str (R.drop k)) := by
    intro k
    rw [← hsR, ← hnR]
    exact str_drop R k
  obtain ⟨hRe, hRn⟩ : ¬ sR.toList = [] ∧ sR.toList.isEmpty = false := by rw [← hsR]; exact str_ne (by omega)
  have HF1 : Hid (nD < nR → 0 < f) := by
    intro h
    rcases Nat.eq_zero_or_pos f with h0 | h0
    · rw [← hnR, ← hR, List.length_append, hnD, h0] at h
      simp [tail] at h
    · exact h0
  have HF0 : Hid (nR = nD → f = 0) := by
    intro h
    rcases Nat.eq_zero_or_pos f with h0 | h0
    · exact h0
    · rw [← hnR, ← hR, List.length_append, hnD] at h
      unfold tail at h
      rw [if_pos h0] at h
      simp at h
  have HFD := Lib.hid hFD
  have HPV := Lib.hid hpv
  have HDD := Lib.hid hDD
  have HFR := Lib.hid hfr
  have HR := Lib.hid hR
  have HND := Lib.hid hnD
  have HNR := Lib.hid hnR
  have HRB := Lib.hid hRb
  have HRS := Lib.hid hsR
  cases neg with
  | true =>
    rw [if_pos rfl, if_pos rfl]
    obtain ⟨L, hL⟩ : ∃ L, [45] ++ R = L := ⟨_, rfl⟩
    rw [hL]
    obtain ⟨sL, hsL⟩ : ∃ sL, str L = sL := ⟨_, rfl⟩
    have hLl : L.length = nR + 1 := by rw [← hL, List.length_append, hnR]; simp; omega
    have hLz : sL.size = nR + 1 := by rw [← hsL, str_size, hLl]
    have hx : sL.extract 1 (nR + 1) = sR := by rw [← hsL, ← hLl, str_drop, ← hL, ← hsR]; rfl
    have h0 : ∀ h : 0 < sL.size, (sL[0]'h).toNat = 45 := by
      subst hsL
      intro h
      rw [str_at L 0 h (by rw [← hL]; intro c hc; rcases List.mem_append.1 hc with hc | hc; (simp at hc; omega); exact hRb c hc), ← hL]
      rfl
    obtain ⟨hLe, hLn⟩ : ¬ sL.toList = [] ∧ sL.toList.isEmpty = false := by rw [← hsL]; exact str_ne (by omega)
    rw [hsL]
    clear hsL hLl hL hsR hRb hR hnR hDg hnD hpv hDD hfr hb1 hb2 hFD hFl hRe hRn
    go_enter Try.func40, Try.ntmps40
    go_wp2_with fail
    go_loopw [5, 6, 7, 8, 33, 41, 48] (fun v5 v6 v7 _ _ _ _ wr => ∃ i : Nat, v7 = .int .i64 i ∧ i ≤ nR ∧ wr = w ∧ ((i ≤ nD ∧ v6 = .int .i64 (-1) ∧ v5 = .int .i64 (pv (Dg.take i) : Nat)) ∨ (nD < i ∧ v6 = .int .i64 (nD : Nat) ∧ v5 = .int .i64 (q : Nat)))) (fun _ _ v7 _ _ _ _ _ => nR - (intOf v7).toNat)
    case atStart => exact ⟨0, rfl, Nat.zero_le _, rfl, .inl ⟨Nat.zero_le _, rfl, rfl⟩⟩
    case round =>
      obtain ⟨i, rfl, hi, rfl, hcs⟩ := hrel
      by_cases hlt : i < nR
      · have hia := fun h => HRA.out i h
        have hiz : i < sR.size := by omega
        rcases hcs with ⟨hin, rfl, rfl⟩ | ⟨hin, rfl, rfl⟩
        · rcases Nat.lt_or_ge i nD with hid | hid
          · have hDi : i < Dg.length := by rw [HND.out]; exact hid
            have hc : R[i]?.getD 0 = Dg[i] := by rw [← HR.out, List.getElem?_append_left hDi, List.getElem?_eq_getElem hDi]; rfl
            have hcd := HDD.out Dg[i] (List.getElem_mem _)
            have hpn := pv_snoc (Dg.take i) Dg[i]
            rw [← List.take_succ_eq_append_getElem hDi] at hpn
            have hpl := pv_le (Dg.take i)
            obtain ⟨p, hp⟩ : ∃ p, pv (Dg.take i) = p := ⟨_, rfl⟩
            obtain ⟨c, hcc⟩ : ∃ c, Dg[i] = c := ⟨_, rfl⟩
            rw [hp, hcc] at hpn
            rw [hp] at hpl ⊢
            rw [hcc] at hc hcd
            rw [hc] at hia
            have h46 : ((c : Int) == 46) = false := by rw [beq_eq_false_iff_ne]; omega
            have hmn : mn ((p : Int) * 10 + ((c : Int) - 48)) 1073741824 = ((pv (Dg.take (i + 1)) : Nat) : Int) := by
              rw [hpn]; unfold mn; split <;> omega
            have HMN := Lib.hid hmn
            clear hpn hp hcc hc hmn
            go_wp2_with fail
            go_roundw
            case rel => exact ⟨i + 1, by go_num, by omega, trivial, .inl ⟨by omega, rfl, by rw [HMN.out]⟩⟩
            case measure => simp [intOf]; omega
          · obtain rfl : i = nD := by omega
            have hf1 := HF1.out hlt
            have hc : R[i]?.getD 0 = 46 := by
              rw [← HR.out, List.getElem?_append_right (by rw [HND.out]; exact Nat.le_refl _), HND.out, Nat.sub_self]
              unfold tail
              rw [if_pos hf1]
              rfl
            rw [hc] at hia
            have hpq : pv (Dg.take i) = q := by rw [List.take_of_length_le (by rw [HND.out]; exact Nat.le_refl _)]; exact HPV.out
            rw [hpq]
            clear hpq hc
            go_wp2_with fail
            go_roundw
            case rel => exact ⟨i + 1, by go_num, by omega, trivial, .inr ⟨by omega, rfl, rfl⟩⟩
            case measure => simp [intOf]; omega
        · have hf1 := HF1.out (by omega)
          obtain ⟨k, rfl⟩ : ∃ k, i = nD + 1 + k := ⟨i - (nD + 1), by omega⟩
          have hc : ∃ c, R[nD + 1 + k]?.getD 0 = c ∧ 48 ≤ c ∧ c ≤ 57 := by
            have hFk : k < (frac 16 f).length := by
              have h1 := HNR.out
              rw [← HR.out, List.length_append, HND.out] at h1
              unfold tail at h1
              rw [if_pos hf1] at h1
              simp at h1
              omega
            refine ⟨(frac 16 f)[k], ?_, HFD.out _ (List.getElem_mem _)⟩
            rw [← HR.out, List.getElem?_append_right (by rw [HND.out]; omega), HND.out, show nD + 1 + k - nD = k + 1 by omega]
            unfold tail
            rw [if_pos hf1, List.getElem?_cons_succ, List.getElem?_eq_getElem hFk]
            rfl
          obtain ⟨c, hc, hc48, hc57⟩ := hc
          rw [hc] at hia
          obtain ⟨i, hii⟩ : ∃ i, nD + 1 + k = i := ⟨_, rfl⟩
          rw [hii] at hia hiz hlt hi hin ⊢
          have h46 : ((c : Int) == 46) = false := by rw [beq_eq_false_iff_ne]; omega
          have hdn : decide ((nD : Int) < 0) = false := by rw [decide_eq_false_iff_not]; omega
          clear hc hii
          go_wp2_with fail
          go_roundw
          case rel => exact ⟨i + 1, by go_num, by omega, trivial, .inr ⟨by omega, rfl, rfl⟩⟩
          case measure => simp [intOf]; omega
      · obtain rfl : i = nR := by omega
        rcases hcs with ⟨hin, rfl, rfl⟩ | ⟨hin, rfl, rfl⟩
        · obtain rfl : i = nD := by omega
          have hf0 := HF0.out rfl
          have hpq : pv (Dg.take i) = q := by rw [List.take_of_length_le (by rw [HND.out]; exact Nat.le_refl _)]; exact HPV.out
          rw [hpq]
          have hmn : mn ((i : Int) + 1) (i : Int) = (i : Int) := by unfold mn; rw [if_pos (by omega)]
          have hsF : str (frac 16 f) = ByteArray.empty := by rw [hf0, frac_zero]; rfl
          have HFR := HFR
          rw [hsF] at HFR
          have e1 : ((i : Int) == 0) = false := by rw [beq_eq_false_iff_ne]; omega
          have e2 : ((i : Int) == (i : Int) - 1) = false := by rw [beq_eq_false_iff_ne]; omega
          clear hpq hsF
          go_wp2_with fail
          with_reducible refine (HFR.out wr).mono ?_
          rintro e w5 ⟨rfl, hb5⟩
          have HB5 := Lib.hid hb5
          clear hb5
          go_wp2_with fail
          refine bodyPost_ret (v := .tuple #[.int .i64 (-((q : Int) * 65536)), .int .i64 0]) (by simp [results, Try.f40, go_sem]) rfl ⟨?_, HB5.out⟩
          rw [show -((q : Int) * 65536) = -((q * 65536 + f : Nat) : Int) by omega]
        · have hf1 := HF1.out hin
          have hFne : 1 ≤ (frac 16 f).length := by
            show 1 ≤ (if f = 0 then [] else (48 + f * 10 / 65536) :: frac 15 (f * 10 % 65536)).length
            rw [if_neg (by omega)]
            simp
          have hlen : i = nD + ((frac 16 f).length + 1) := by
            have h1 := HNR.out
            rw [← HR.out, List.length_append, HND.out] at h1
            unfold tail at h1
            rw [if_pos hf1] at h1
            simp at h1
            omega
          have hxe : sR.extract (nD + 1) i = str (frac 16 f) := by
            rw [HRX.out, ← HR.out, List.drop_append, HND.out, List.drop_eq_nil_of_le (by rw [HND.out]; omega), show nD + 1 - nD = 1 by omega]
            unfold tail
            rw [if_pos hf1]
            rfl
          obtain ⟨sF, hsF⟩ : ∃ sF, str (frac 16 f) = sF := ⟨_, rfl⟩
          have HFR := HFR
          rw [hsF] at hxe HFR
          have hmn : mn ((nD : Int) + 1) (i : Int) = (nD : Int) + 1 := by unfold mn; rw [if_neg (by omega)]
          have e1 : ((nD : Int) == 0) = false := by rw [beq_eq_false_iff_ne]; omega
          have e2 : ((nD : Int) == (i : Int) - 1) = false := by rw [beq_eq_false_iff_ne]; omega
          have e3 : decide ((nD : Int) < 0) = false := by rw [decide_eq_false_iff_not]; omega
          have hni : nD + 1 ≤ i := by omega
          clear hlen hFne hsF
          go_wp2_with fail
          with_reducible refine (HFR.out wr).mono ?_
          rintro e w5 ⟨rfl, hb5⟩
          have HB5 := Lib.hid hb5
          clear hb5
          go_wp2_with fail
          refine bodyPost_ret (v := .tuple #[.int .i64 (-((q : Int) * 65536 + (f : Int))), .int .i64 0]) (by simp [results, Try.f40, go_sem]) rfl ⟨?_, HB5.out⟩
          rw [show -((q : Int) * 65536 + (f : Int)) = -((q * 65536 + f : Nat) : Int) by omega]
  | false =>
    rw [if_neg (by decide), if_neg (by decide), List.nil_append]
    have h0' : ∃ d, R[0]?.getD 0 = d ∧ 48 ≤ d := by
      have hD0 : 0 < Dg.length := by omega
      refine ⟨Dg[0], ?_, (hDD _ (List.getElem_mem _)).1⟩
      rw [← hR, List.getElem?_append_left hD0, List.getElem?_eq_getElem hD0]
      rfl
    obtain ⟨d, hd, hd48⟩ := h0'
    have h0 : ∀ h : 0 < sR.size, (sR[0]'h).toNat = d := fun h => by rw [HRA.out 0 h, hd]
    have hd45 : ((d : Int) == 45) = false := by rw [beq_eq_false_iff_ne]; omega
    have hLe := hRe
    have hLn := hRn
    rw [hsR]
    clear hsR hRb hR hnR hDg hnD hpv hDD hfr hb1 hb2 hFD hFl hRe hRn hd
    go_enter Try.func40, Try.ntmps40
    go_wp2_with fail
    go_loopw [5, 6, 7, 8, 33, 41, 48] (fun v5 v6 v7 _ _ _ _ wr => ∃ i : Nat, v7 = .int .i64 i ∧ i ≤ nR ∧ wr = w ∧ ((i ≤ nD ∧ v6 = .int .i64 (-1) ∧ v5 = .int .i64 (pv (Dg.take i) : Nat)) ∨ (nD < i ∧ v6 = .int .i64 (nD : Nat) ∧ v5 = .int .i64 (q : Nat)))) (fun _ _ v7 _ _ _ _ _ => nR - (intOf v7).toNat)
    case atStart => exact ⟨0, rfl, Nat.zero_le _, rfl, .inl ⟨Nat.zero_le _, rfl, rfl⟩⟩
    case round =>
      obtain ⟨i, rfl, hi, rfl, hcs⟩ := hrel
      by_cases hlt : i < nR
      · have hia := fun h => HRA.out i h
        have hiz : i < sR.size := by omega
        rcases hcs with ⟨hin, rfl, rfl⟩ | ⟨hin, rfl, rfl⟩
        · rcases Nat.lt_or_ge i nD with hid | hid
          · have hDi : i < Dg.length := by rw [HND.out]; exact hid
            have hc : R[i]?.getD 0 = Dg[i] := by rw [← HR.out, List.getElem?_append_left hDi, List.getElem?_eq_getElem hDi]; rfl
            have hcd := HDD.out Dg[i] (List.getElem_mem _)
            have hpn := pv_snoc (Dg.take i) Dg[i]
            rw [← List.take_succ_eq_append_getElem hDi] at hpn
            have hpl := pv_le (Dg.take i)
            obtain ⟨p, hp⟩ : ∃ p, pv (Dg.take i) = p := ⟨_, rfl⟩
            obtain ⟨c, hcc⟩ : ∃ c, Dg[i] = c := ⟨_, rfl⟩
            rw [hp, hcc] at hpn
            rw [hp] at hpl ⊢
            rw [hcc] at hc hcd
            rw [hc] at hia
            have h46 : ((c : Int) == 46) = false := by rw [beq_eq_false_iff_ne]; omega
            have hmn : mn ((p : Int) * 10 + ((c : Int) - 48)) 1073741824 = ((pv (Dg.take (i + 1)) : Nat) : Int) := by
              rw [hpn]; unfold mn; split <;> omega
            have HMN := Lib.hid hmn
            clear hpn hp hcc hc hmn
            go_wp2_with fail
            go_roundw
            case rel => exact ⟨i + 1, by go_num, by omega, trivial, .inl ⟨by omega, rfl, by rw [HMN.out]⟩⟩
            case measure => simp [intOf]; omega
          · obtain rfl : i = nD := by omega
            have hf1 := HF1.out hlt
            have hc : R[i]?.getD 0 = 46 := by
              rw [← HR.out, List.getElem?_append_right (by rw [HND.out]; exact Nat.le_refl _), HND.out, Nat.sub_self]
              unfold tail
              rw [if_pos hf1]
              rfl
            rw [hc] at hia
            have hpq : pv (Dg.take i) = q := by rw [List.take_of_length_le (by rw [HND.out]; exact Nat.le_refl _)]; exact HPV.out
            rw [hpq]
            clear hpq hc
            go_wp2_with fail
            go_roundw
            case rel => exact ⟨i + 1, by go_num, by omega, trivial, .inr ⟨by omega, rfl, rfl⟩⟩
            case measure => simp [intOf]; omega
        · have hf1 := HF1.out (by omega)
          obtain ⟨k, rfl⟩ : ∃ k, i = nD + 1 + k := ⟨i - (nD + 1), by omega⟩
          have hc : ∃ c, R[nD + 1 + k]?.getD 0 = c ∧ 48 ≤ c ∧ c ≤ 57 := by
            have hFk : k < (frac 16 f).length := by
              have h1 := HNR.out
              rw [← HR.out, List.length_append, HND.out] at h1
              unfold tail at h1
              rw [if_pos hf1] at h1
              simp at h1
              omega
            refine ⟨(frac 16 f)[k], ?_, HFD.out _ (List.getElem_mem _)⟩
            rw [← HR.out, List.getElem?_append_right (by rw [HND.out]; omega), HND.out, show nD + 1 + k - nD = k + 1 by omega]
            unfold tail
            rw [if_pos hf1, List.getElem?_cons_succ, List.getElem?_eq_getElem hFk]
            rfl
          obtain ⟨c, hc, hc48, hc57⟩ := hc
          rw [hc] at hia
          obtain ⟨i, hii⟩ : ∃ i, nD + 1 + k = i := ⟨_, rfl⟩
          rw [hii] at hia hiz hlt hi hin ⊢
          have h46 : ((c : Int) == 46) = false := by rw [beq_eq_false_iff_ne]; omega
          have hdn : decide ((nD : Int) < 0) = false := by rw [decide_eq_false_iff_not]; omega
          clear hc hii
          go_wp2_with fail
          go_roundw
          case rel => exact ⟨i + 1, by go_num, by omega, trivial, .inr ⟨by omega, rfl, rfl⟩⟩
          case measure => simp [intOf]; omega
      · obtain rfl : i = nR := by omega
        rcases hcs with ⟨hin, rfl, rfl⟩ | ⟨hin, rfl, rfl⟩
        · obtain rfl : i = nD := by omega
          have hf0 := HF0.out rfl
          have hpq : pv (Dg.take i) = q := by rw [List.take_of_length_le (by rw [HND.out]; exact Nat.le_refl _)]; exact HPV.out
          rw [hpq]
          have hmn : mn ((i : Int) + 1) (i : Int) = (i : Int) := by unfold mn; rw [if_pos (by omega)]
          have hsF : str (frac 16 f) = ByteArray.empty := by rw [hf0, frac_zero]; rfl
          have HFR := HFR
          rw [hsF] at HFR
          have e1 : ((i : Int) == 0) = false := by rw [beq_eq_false_iff_ne]; omega
          have e2 : ((i : Int) == (i : Int) - 1) = false := by rw [beq_eq_false_iff_ne]; omega
          clear hpq hsF
          go_wp2_with fail
          with_reducible refine (HFR.out wr).mono ?_
          rintro e w5 ⟨rfl, hb5⟩
          have HB5 := Lib.hid hb5
          clear hb5
          go_wp2_with fail
          refine bodyPost_ret (v := .tuple #[.int .i64 ((q : Int) * 65536), .int .i64 0]) (by simp [results, Try.f40, go_sem]) rfl ⟨?_, HB5.out⟩
          rw [show (q : Int) * 65536 = ((q * 65536 + f : Nat) : Int) by omega]
        · have hf1 := HF1.out hin
          have hFne : 1 ≤ (frac 16 f).length := by
            show 1 ≤ (if f = 0 then [] else (48 + f * 10 / 65536) :: frac 15 (f * 10 % 65536)).length
            rw [if_neg (by omega)]
            simp
          have hlen : i = nD + ((frac 16 f).length + 1) := by
            have h1 := HNR.out
            rw [← HR.out, List.length_append, HND.out] at h1
            unfold tail at h1
            rw [if_pos hf1] at h1
            simp at h1
            omega
          have hxe : sR.extract (nD + 1) i = str (frac 16 f) := by
            rw [HRX.out, ← HR.out, List.drop_append, HND.out, List.drop_eq_nil_of_le (by rw [HND.out]; omega), show nD + 1 - nD = 1 by omega]
            unfold tail
            rw [if_pos hf1]
            rfl
          obtain ⟨sF, hsF⟩ : ∃ sF, str (frac 16 f) = sF := ⟨_, rfl⟩
          have HFR := HFR
          rw [hsF] at hxe HFR
          have hmn : mn ((nD : Int) + 1) (i : Int) = (nD : Int) + 1 := by unfold mn; rw [if_neg (by omega)]
          have e1 : ((nD : Int) == 0) = false := by rw [beq_eq_false_iff_ne]; omega
          have e2 : ((nD : Int) == (i : Int) - 1) = false := by rw [beq_eq_false_iff_ne]; omega
          have e3 : decide ((nD : Int) < 0) = false := by rw [decide_eq_false_iff_not]; omega
          have hni : nD + 1 ≤ i := by omega
          clear hlen hFne hsF
          go_wp2_with fail
          with_reducible refine (HFR.out wr).mono ?_
          rintro e w5 ⟨rfl, hb5⟩
          have HB5 := Lib.hid hb5
          clear hb5
          go_wp2_with fail
          refine bodyPost_ret (v := .tuple #[.int .i64 ((q : Int) * 65536 + (f : Int)), .int .i64 0]) (by simp [results, Try.f40, go_sem]) rfl ⟨?_, HB5.out⟩
          rw [show (q : Int) * 65536 + (f : Int) = ((q * 65536 + f : Nat) : Int) by omega]
theorem text_half : str (text (-98304)) = ⟨#[45, 49, 46, 53]⟩ := by
  have h1 : clamp (-98304) = -98304 := by decide
  have h2 : digs 1 = [49] := digs_small (by decide)
  unfold text sign body
  rw [h1, show ((-98304 : Int)).natAbs / 65536 = 1 by decide, h2]
  rfl

theorem FixWrittenW (a0 : Int) (_w0 : (Lit.int .i64 a0).wf = true) (w : World) :
    Calls Try.prog 11 #[.int .i64 a0] w fun e w' => e = .returned (.bool true) ∧ Below w.heap.size w w' := by
  have hh := fun w => text_any (-98304) w
  rw [text_half] at hh
  have HH := Lib.hid hh
  have ht := fun w => text_any a0 w
  have hlo := clamp_lo a0
  have hhi := clamp_hi a0
  have hr := fun w => read_any (decide (clamp a0 < 0)) ((clamp a0).natAbs / 65536) ((clamp a0).natAbs % 65536) w (by omega) (by omega) (by omega)
  have hc := fun w => clamp_any a0 w
  have htx : text a0 = (if decide (clamp a0 < 0) then [45] else []) ++ (digs ((clamp a0).natAbs / 65536) ++ tail ((clamp a0).natAbs % 65536)) := by
    unfold text sign body
    congr 1
    by_cases h : clamp a0 < 0 <;> simp [h]
  rw [← htx] at hr
  have hv : (if decide (clamp a0 < 0) then -(((clamp a0).natAbs / 65536 * 65536 + (clamp a0).natAbs % 65536 : Nat) : Int) else (((clamp a0).natAbs / 65536 * 65536 + (clamp a0).natAbs % 65536 : Nat) : Int)) = clamp a0 := by
    by_cases h : clamp a0 < 0 <;> simp [h] <;> omega
  simp only [hv] at hr
  obtain ⟨c, hcc⟩ : ∃ c, clamp a0 = c := ⟨_, rfl⟩
  obtain ⟨s, hs⟩ : ∃ s, str (text a0) = s := ⟨_, rfl⟩
  rw [hs] at ht hr
  rw [hcc] at hr hc
  have HT := Lib.hid ht
  have HR := Lib.hid hr
  have HC := Lib.hid hc
  have heq : (c == c) = true := by simp
  clear hh ht hr hc hv htx hlo hhi hcc hs
  go_enter Try.func11, Try.ntmps11
  go_wp2_with (first
    | (go_at_call 39; (with_reducible refine (HH.out _).mono ?_); rintro e w1 ⟨rfl, hb⟩; obtain ⟨l, n, rfl⟩ := ext_of hb; clear hb)
    | (go_at_call 39; (with_reducible refine (HT.out _).mono ?_); rintro e w1 ⟨rfl, hb⟩; obtain ⟨l, n, rfl⟩ := ext_of hb; clear hb)
    | (go_at_call 40; (with_reducible refine (HR.out _).mono ?_); rintro e w1 ⟨rfl, hb⟩; obtain ⟨l, n, rfl⟩ := ext_of hb; clear hb)
    | (go_at_call 35; (with_reducible refine (HC.out _).mono ?_); rintro e _ ⟨rfl, rfl⟩))
  go_ret
  exact ⟨rfl, by repeat (first | exact Below.refl _ _ | apply Below.drew | apply Below.al | apply Below.ex)⟩
end Go.Proofs.Ytdnepccjgclgiaa
