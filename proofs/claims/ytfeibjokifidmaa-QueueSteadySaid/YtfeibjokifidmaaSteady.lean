/- For every input, QueueSteady returns true. No condition. -/
import Derived.Test.YtfeibjokifidmaaOrds
import Derived.Test.YtfeibjokifidmaaSteadyP
import Derived.Test.YtfeibjokifidmaaBegun
import Derived.OpenShut
namespace Go.Proofs.Ytfeibjokifidmaa
open Go.RowKit
attribute [local go_sem ↓] run_mn

theorem tmod_lo (x n : Int) (h1 : 1 ≤ n) (h : x.tmod n < 0) : x.tmod n + n = x % n := by
  rw [Int.tmod_eq_emod] at *
  split at h
  · have := Int.emod_nonneg x (show n ≠ 0 by omega); omega
  · rw [if_neg (by assumption)]; have := Int.natAbs_of_nonneg (show 0 ≤ n by omega); omega
theorem tmod_hi (x n : Int) (h1 : 1 ≤ n) (h : 0 ≤ x.tmod n) : x.tmod n = x % n := by
  rw [Int.tmod_eq_emod] at *
  split at h
  · rw [if_pos (by assumption)]; omega
  · have := Int.emod_lt_of_pos x (show 0 < n by omega); have := Int.natAbs_of_nonneg (show 0 ≤ n by omega); omega
theorem below_any (x n : Int) (w : World) (h1 : 1 ≤ n) (h2 : n ≤ 9223372036854775807) (_h3 : -9223372036854775808 ≤ x) (_h4 : x ≤ 9223372036854775807) :
    Calls Try.prog 12 #[.int .i64 x, .int .i64 n] w fun e w' => e = .returned (.int .i64 (x % n)) ∧ w = w' := by
  go_enter Try.func12, Try.ntmps12
  go_wp2
  · go_ret
    have h : x.tmod n < 0 := by assumption
    have := tmod_lo x n h1 h
    have := Int.emod_nonneg x (show n ≠ 0 by omega)
    have := Int.emod_lt_of_pos x (show 0 < n by omega)
    exact ⟨ret_int (by rw [IntWalk.wrap64_in _ (by omega)]; assumption), rfl⟩
  · go_ret
    have h : 0 ≤ x.tmod n := by assumption
    exact ⟨ret_int (tmod_hi x n h1 h), rfl⟩

/-- A queue's length, as the memory has it. -/
def lenAt (p : Nat) (w : World) : Nat := match w.cell? ⟨p, 0, none⟩ with | some v => lenOf v | none => 0
theorem Que.len {p came : Nat} {H : List Itm} {w : World} (h : Que p H came w) : lenAt p w = H.length := by
  obtain ⟨v, h0, ho⟩ := h.ex
  obtain ⟨_, _, rfl, _⟩ := owns_source ho
  unfold lenAt
  rw [h0]
  rfl

set_option maxRecDepth 4000 in
set_option maxHeartbeats 2000000 in
theorem walk3 (a : Option Addr) (zs : List Int) (len cap : Nat) (ct : Int) (w : World) (hl : zs.length = len) (hn : a = none → len = 0 ∧ cap = 0)
    (hc : ∀ x, a = some x → ∀ j u, (zs.map (Value.int .i64))[j]? = some u → w.cell? (x.add j) = some u) (hlc : len ≤ cap) (hr : len ≤ 9223372036854775807)
    (hw : ∀ z ∈ zs, -9223372036854775808 ≤ z ∧ z ≤ 9223372036854775807) (hct : -9223372036854775808 ≤ ct ∧ ct ≤ 9223372036854775807) :
    Calls Try.prog 3 #[.slice a len cap, .int .i64 ct] w fun e w' => e = .returned (.bool true) ∧ Below w.heap.size w w' := by
  obtain ⟨i0, hi0, hz0, hz1, hz2⟩ := info_parts Try.info3
  obtain ⟨n, hcm, hcn, hc2⟩ : ∃ c : Nat, mn (len : Int) 300 = (c : Int) ∧ c ≤ len ∧ c ≤ 300 := by
    unfold mn
    by_cases h : len ≤ 300
    · exact ⟨len, by rw [if_neg (by omega)], by omega, by omega⟩
    · exact ⟨300, by rw [if_pos (by omega)]; rfl, by omega, by omega⟩
  have hcut : ∀ W : World, (Instr.slice 22 (.slice a len cap) none (some (.int .i64 (n : Int))) none).run Try.prog W = .ok (.slice a n cap) W := fun W => run_cut W 22 3 a len cap n i0 Try.underlying22 hi0 (by omega) (fun h => (hn h).2)
  have HC : Hid (∀ k, k < n → ∃ x, a = some x ∧ ∀ W, Below w.heap.size w W → W.cell? (x.add k) = some (.int .i64 (zs[k]?.getD 0))) := by
    intro k hk
    cases a with
    | none => have := (hn rfl).1; omega
    | some x =>
      have h := hc x rfl k (.int .i64 (zs[k]?.getD 0)) (by rw [List.getElem?_map, List.getElem?_eq_getElem (by omega)]; rfl)
      exact ⟨x, rfl, fun W hW => (hW.cell (World.block_lt_of_cell? w _ h)).trans h⟩
  have HW : Hid (∀ k, k < n → -9223372036854775808 ≤ zs[k]?.getD 0 ∧ zs[k]?.getD 0 ≤ 9223372036854775807) := by
    intro k hk
    rw [List.getElem?_eq_getElem (by omega)]
    exact hw _ (List.getElem_mem _)
  clear hn hc hl hw
  obtain ⟨d, hd⟩ : ∃ d : Nat, ct % ((n : Int) + 1) = (d : Int) := ⟨(ct % ((n : Int) + 1)).toNat, by have := Int.emod_nonneg ct (show (n : Int) + 1 ≠ 0 by omega); omega⟩
  have hbc := fun W => below_any ct ((n : Int) + 1) W (by omega) (by omega) hct.1 hct.2
  rw [hd] at hbc
  have HBC := Lib.hid hbc
  clear hbc
  go_enter Try.func3, Try.ntmps3
  go_wp2_with fail
  refine (S.begun_any w).mono ?_
  rintro e w1 ⟨rfl, hb1⟩
  have HB1 := Lib.hid hb1
  clear hb1
  go_wp2_with fail
  refine (HBC.out w1).mono ?_
  rintro e _ ⟨rfl, rfl⟩
  go_wp2_with fail
  obtain ⟨W1, hW1⟩ : ∃ W1, w1.alloc (Obj.cells #[Value.slice none 0 0, Value.int IntKind.i64 0] 27) = W1 := ⟨_, rfl⟩
  obtain ⟨p, hp⟩ : ∃ p, w1.heap.size = p := ⟨_, rfl⟩
  have hQ1 := Que.made w1 27
  have hwp : w.heap.size ≤ p := by rw [← hp]; exact HB1.out.size
  have hB2 : Below w.heap.size w W1 := by rw [← hW1]; exact HB1.out.alloc HB1.out.size _
  rw [hp, hW1] at hQ1
  rw [hp, hW1]
  have HQ1 := Lib.hid hQ1
  have HB2 := Lib.hid hB2
  have HWP := Lib.hid hwp
  clear hW1 hp hQ1 hB2 hwp HB1
  go_loopw [6, 7, 8, 9, 10, 36] (fun _ _ _ _ _ i wr => ∃ (k came : Nat) (H : List Itm), i = .int .i64 k ∧ k ≤ n ∧ Que p H came wr ∧ came ≤ 2 * k ∧ H.length = k ∧ Hid (Heap H ∧ Fine H k came ∧ (k ≤ d → Given zs H k)) ∧ Below w.heap.size w wr) (fun _ _ _ _ _ i _ => n - (intOf i).toNat)
  case atStart => exact ⟨0, 0, [], rfl, Nat.zero_le _, HQ1.out, Nat.zero_le _, rfl, ⟨fun j _ hj => by simp at hj, ⟨List.Pairwise.nil, by simp⟩, fun _ x hx => by simp at hx⟩, HB2.out⟩
  case round =>
    obtain ⟨k, came, H, rfl, hk, hQ, hcm1, hHl, hH, hB⟩ := hrel
    have HQ := Lib.hid hQ
    have HB := Lib.hid hB
    have HHL := Lib.hid hHl
    clear hQ hB hHl
    by_cases hlt : k < n
    · obtain ⟨x, rfl, hx⟩ := HC.out k hlt
      have hxk := hx wr HB.out
      obtain ⟨z, hz⟩ : ∃ z, zs[k]?.getD 0 = z := ⟨_, rfl⟩
      have hwz := HW.out k hlt
      rw [hz] at hxk hwz
      have HZ := Lib.hid hz
      have hbl := fun W => below_any z 9 W (by omega) (by omega) hwz.1 hwz.2
      obtain ⟨r, hrz⟩ : ∃ r, z % 9 = r := ⟨_, rfl⟩
      rw [hrz] at hbl
      have HBL := Lib.hid hbl
      have HR : Hid (0 ≤ r ∧ r < 9) := by rw [← hrz]; exact ⟨Int.emod_nonneg _ (by omega), Int.emod_lt_of_pos _ (by omega)⟩
      have HRZ := Lib.hid hrz
      clear hx hz hbl hrz
      go_wp2_with fail
      refine (HBL.out wr).mono ?_
      rintro e _ ⟨rfl, rfl⟩
      go_wp2_with fail
      refine (put_any p H came k r wr HQ.out hH.out.1 (by rw [HHL.out]; omega) (by omega)).mono ?_
      rintro e w2 ⟨rfl, hP, hB2⟩
      have HBw := Lib.hid (HB.out.trans (hB2.mono HWP.out))
      have HP : Hid (∃ H', Que p H' (came + 1) w2 ∧ Heap H' ∧ Fine H' (k + 1) (came + 1) ∧ H'.length = k + 1 ∧ (k ≤ d → Given zs H' (k + 1))) := by
        obtain ⟨H', h1, h2, h3⟩ := hP.out
        refine ⟨H', h1, h2, (hH.out.2.1.new r HR.out.1).perm h3, ?_, fun hd' => ?_⟩
        · rw [h3.length_eq, List.length_append, HHL.out]; rfl
        · have := (hH.out.2.2 hd').new (came := came) HZ.out
          rw [HRZ.out] at this
          exact this.perm h3
      clear hP hB2
      by_cases hkd : k = d
      · subst hkd
        obtain ⟨H', hQ', hH', hF', hl', hG'⟩ := HP.out
        have hG := hG' (Nat.le_refl _)
        have htk := take_any p H' (came + 1) w2 hQ' hH' (by omega) (by omega)
        have h0 : at' H' 0 ∈ H' := by rw [at_eq (by omega)]; exact List.getElem_mem _
        obtain ⟨q, hq, hqv, hqr⟩ := hG _ h0
        unfold Taken at htk
        obtain ⟨X, hX⟩ : ∃ X, at' H' 0 = X := ⟨_, rfl⟩
        rw [hX] at htk hqv hqr
        have hXl : X.r < 9 ∧ 0 ≤ X.r := by rw [hqr]; exact ⟨Int.emod_lt_of_pos _ (by omega), Int.emod_nonneg _ (by omega)⟩
        have HTK := Lib.hid htk
        have HF := Lib.hid (And.intro hF' hG)
        have HXL := Lib.hid hXl
        have hsp := hQ'.sz
        have HQR := Lib.hid hqr
        rw [hqv] at HTK
        clear htk hX hF' hG hQ' hH' HP hG' h0 hXl hqr
        go_wp2_with fail
        refine HTK.out.mono ?_
        rintro e w3 ⟨rfl, J, hQJ, hHJ, hPJ, g, c, hpg, hc1, hc2, hfr⟩
        have hB3 := HBw.out.trans ((hfr.below (by omega) (by omega)).mono HWP.out)
        have HJl : Hid (J.length = k) := by have := hPJ.length_eq; rw [hl', List.length_cons] at this; exact Nat.succ.inj this
        obtain ⟨y, hy0, hy⟩ := HC.out q (by omega)
        cases hy0
        have hyq := hy w3 hB3
        obtain ⟨z', hz'⟩ : ∃ z', zs[q]?.getD 0 = z' := ⟨_, rfl⟩
        have hwz' := HW.out q (by omega)
        have hqr' := HQR.out
        rw [hz'] at hyq hwz' hqr'
        have hbl' := fun W => below_any z' 9 W (by omega) (by omega) hwz'.1 hwz'.2
        rw [← hqr'] at hbl'
        have HBL' := Lib.hid hbl'
        have hpu := put_any p J (came + 1) q 9 w3 hQJ hHJ (by rw [HJl.out]; omega) (by omega)
        have HPU := Lib.hid hpu
        have HB3 := Lib.hid hB3
        have hFJ : Fine (J ++ [⟨q, 9, (came + 1 : Nat)⟩]) (k + 1) (came + 1 + 1) := by
          have hf := HF.out.1.perm hPJ
          refine hf.tail.again q 9 (by omega) (by omega) (by omega) ?_
          intro t ht
          obtain ⟨i, _, _, e⟩ := HF.out.2 t (hPJ.mem_iff.1 (by simp [ht]))
          rw [e]
          exact Int.emod_lt_of_pos _ (by omega)
        have HFJ := Lib.hid hFJ
        have d6 : decide ((k : Int) < (q : Int)) = false := by simp; omega
        have d7 : (X.r != X.r) = false := by simp
        have d8 : decide ((q : Int) < 0) = false := by simp
        have d9 : ((k : Int) == (k : Int)) = true := by simp
        have hqn : q < n := by omega
        clear hQJ hHJ hPJ hc1 hc2 hfr hB3 hy hz' hqr' hbl' hpu hFJ
        go_wp2_with fail
        refine (HBL'.out w3).mono ?_
        rintro e _ ⟨rfl, rfl⟩
        go_wp2_with fail
        refine HPU.out.mono ?_
        rintro e w4 ⟨rfl, hP4, hB4⟩
        have HB4 := Lib.hid (HB3.out.trans (hB4.mono HWP.out))
        clear hB4
        go_wp2_with fail
        go_roundw
        case rel =>
          obtain ⟨H4, h1, h2, h3⟩ := hP4.out
          exact ⟨k + 1, came + 1 + 1, H4, by go_num, by omega, h1, by omega, by rw [h3.length_eq, List.length_append, HJl.out]; rfl, ⟨h2, HFJ.out.perm h3, fun hd' => by omega⟩, HB4.out⟩
        case measure => simp [intOf]; omega
      · have d5 : ((k : Int) == (d : Int)) = false := by simp; omega
        go_wp2_with fail
        go_roundw
        case rel =>
          obtain ⟨H', h1, h2, h3, h4, h5⟩ := HP.out
          exact ⟨k + 1, came + 1, H', by go_num, by omega, h1, by omega, h4, ⟨h2, h3, fun hd' => h5 (by omega)⟩, HBw.out⟩
        case measure => simp [intOf]; omega
    · obtain rfl : k = n := by omega
      go_wp2_with fail
      go_loopw [11, 12, 13, 14, 15, 16, 17, 18] (fun vl vr _ _ _ _ _ _ wr => ∃ (J : List Itm) (last rank : Int), vl = .int .i64 last ∧ vr = .int .i64 rank ∧ Que p J came wr ∧ Hid (Heap J ∧ Fine J k came ∧ Past J last rank) ∧ J.length ≤ k ∧ Below w.heap.size w wr) (fun _ _ _ _ _ _ _ _ wr => lenAt p wr)
      case atStart => exact ⟨H, -1, -1, rfl, rfl, HQ.out, ⟨hH.out.1, hH.out.2.1, Past.start hH.out.2.1⟩, by rw [HHL.out]; exact Nat.le_refl _, HB.out⟩
      case round =>
        obtain ⟨J, last, rank, rfl, rfl, hQ, hJ, hJl, hB⟩ := hrel
        have HQ := Lib.hid hQ
        have HB := Lib.hid hB
        clear hQ hB
        by_cases hJ1 : 1 ≤ J.length
        · have hqn := qlen_any p J came wr HQ.out
          have hfi := first_any p J came wr HQ.out hJ1
          have htk := fun W h => take_any p J came W h hJ.out.1 hJ1 (by omega)
          unfold Taken at htk
          have h0 : at' J 0 ∈ J := by rw [at_eq (by omega)]; exact List.getElem_mem _
          have hps := hJ.out.2.2 _ h0
          obtain ⟨X, hX⟩ : ∃ X, at' J 0 = X := ⟨_, rfl⟩
          obtain ⟨m, hm⟩ : ∃ m, J.length = m := ⟨_, rfl⟩
          rw [hX] at hfi htk hps
          rw [hm] at hqn
          have HQN := Lib.hid hqn
          have HFI := Lib.hid hfi
          have HTK := Lib.hid htk
          have HX := Lib.hid hX
          have hlen := HQ.out.len
          have HLEN := Lib.hid hlen
          have HM := Lib.hid hm
          have hm1 : 1 ≤ m := by omega
          clear hqn hfi htk hX hm h0 hlen hJ1
          go_wp2_with fail
          refine HQN.out.mono ?_
          rintro e _ ⟨rfl, rfl⟩
          go_wp2_with fail
          refine HFI.out.mono ?_
          rintro e w2 ⟨rfl, hb2⟩
          have hQ2 := HQ.out.below hb2
          have HB2 := Lib.hid (HB.out.trans (hb2.mono HB.out.size))
          have hsp := hQ2.sz
          have HT2 := Lib.hid (HTK.out w2 hQ2)
          clear hb2 hQ2
          go_wp2_with fail
          refine HT2.out.mono ?_
          rintro e w3 ⟨rfl, J', hQJ, hHJ, hPJ, g, c, hpg, hc1, hc2, hfr⟩
          have HB3 := Lib.hid (HB2.out.trans ((hfr.below (by omega) (by omega)).mono HWP.out))
          have HQJ := Lib.hid hQJ
          have hJ'l : J'.length + 1 = J.length := by have := hPJ.length_eq; simpa using this
          have hf : Fine (X :: J') k came := hJ.out.2.1.perm hPJ
          have HNX : Hid (Heap J' ∧ Fine J' k came ∧ Past J' X.v X.r) := by
            refine ⟨hHJ, hf.tail, Past.next hf ?_⟩
            intro y hy
            have := hJ.out.1.least_mem y (hPJ.mem_iff.1 (by simp [hy]))
            rw [HX.out] at this
            exact this
          have hlw : Hid (lenAt p w3 < lenAt p wr) := by
            show _ < _
            rw [HLEN.out, hQJ.len]; omega
          have HJl : Hid (J'.length ≤ k) := by show _ ≤ _; omega
          have d1 : decide (X.r < rank) = false := by simp; omega
          have e1 : (X.v != X.v) = false := by simp
          have e2 : (X.r != X.r) = false := by simp
          clear hQJ hHJ hPJ hc1 hc2 hfr hf hJ'l hJl
          by_cases her : X.r = rank
          · have d2 : (X.r == rank) = true := by simp [her]
            have d3 : decide (X.v ≤ last) = false := by have := hps.2 her; simp; omega
            go_wp2_with fail
            go_roundw
            case rel => exact ⟨J', X.v, X.r, rfl, by rw [her], HQJ.out, HNX.out, HJl.out, HB3.out⟩
            case measure => exact hlw.out
          · have d2 : (X.r == rank) = false := by simp [her]
            go_wp2_with fail
            go_roundw
            case rel => exact ⟨J', X.v, X.r, rfl, rfl, HQJ.out, HNX.out, HJl.out, HB3.out⟩
            case measure => exact hlw.out
        · obtain rfl : J = [] := List.eq_nil_of_length_eq_zero (by omega)
          have hqn := qlen_any p [] came wr HQ.out
          rw [List.length_nil] at hqn
          have HQN := Lib.hid hqn
          have HTN := Lib.hid (take_none p came wr HQ.out)
          clear hqn
          go_wp2_with fail
          refine HQN.out.mono ?_
          rintro e _ ⟨rfl, rfl⟩
          go_wp2_with fail
          refine HTN.out.mono ?_
          rintro e w2 ⟨rfl, hb2⟩
          go_wp2_with fail
          go_ret
          exact ⟨rfl, HB.out.trans (hb2.mono HB.out.size)⟩

theorem QueueSteadyW (a0 : Option Addr) (len0 cap0 : Nat) (z0 : List Int) (a1 : Int) (w : World)
    (w0 : ((a0 = none ∧ len0 = 0 ∧ cap0 = 0 ∧ z0 = []) ∨ ∃ x, a0 = some x ∧ len0 ≤ cap0 ∧ cap0 ≤ maxLen ∧ z0.length = cap0 ∧ (∀ i, i < z0.length → w.cell? (x.add i) = some (.int .i64 (z0.getD i 0))) ∧ ∀ n ∈ z0, (Lit.int .i64 n).wf = true) ∧ cap0 * 8 ≤ 140737488351232)
    (w1 : (Lit.int .i64 a1).wf = true) :
    Calls Try.prog 3 #[.slice a0 len0 cap0, .int .i64 a1] w fun e w' => e = .returned (.bool true) ∧ Below w.heap.size w w' := by
  obtain ⟨ns, hl, hn, hc, hw, hlc⟩ := row_open w0.1
  exact walk3 a0 ns len0 cap0 a1 w hl hn hc hlc (by have := w0.2; omega) (fun c hc => bounds_i64 (hw c hc)) (bounds_i64 w1)
end Go.Proofs.Ytfeibjokifidmaa
