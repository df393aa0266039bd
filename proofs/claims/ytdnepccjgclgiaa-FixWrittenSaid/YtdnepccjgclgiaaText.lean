/- fix.Text. -/
import Derived.Test.YtdnepccjgclgiaaBase
import Derived.Test.YtdnepccjgclgiaaDigits
import Derived.Test.YtdnepccjgclgiaaMem
import Derived.WalkLawsBesides
import Derived.Laws.IdiomStrings
import Derived.Deep.AppendLies
import Derived.Laws.BitsAllLaws
namespace Go.Proofs.Ytdnepccjgclgiaa
open Go.RowKit Go.Proofs.Ytdnepccjgclgiaa.D

theorem Try.info5 : (Try.prog.info? 5).map (fun i => (i.zero, i.size, i.bytes)) = some (some (.int .u8 0), 1, 1) := by kernel_rfl
/-- Letters in memory. -/
def bs (l : List Nat) : List Value := l.map fun c => .int .u8 ((c : Nat) : Int)
theorem bs_length (l : List Nat) : (bs l).length = l.length := by simp [bs]
theorem bs_append (l k : List Nat) : bs (l ++ k) = bs l ++ bs k := by simp [bs]
theorem bs_ok (l : List Nat) : ∀ u ∈ bs l, u.oneCell' = true := by
  intro u hu
  obtain ⟨c, _, rfl⟩ := List.mem_map.1 hu
  rfl

theorem bs_dig (n : Nat) : bs [48 + n % 10] = [.int .u8 (48 + (n : Int) % 10)] := by simp [bs]

set_option maxRecDepth 8000 in
theorem whole_any : ∀ (n : Nat), n < 10 ^ 8 → ∀ w : World,
    Calls Try.prog 74 #[.int .u64 (n : Nat)] w fun e w' => ∃ v, e = .returned v ∧ w'.ownsRow w.heap.size 5 1 v (digs n).length (bs (digs n)) ∧ Below w.heap.size w w' := by
  obtain ⟨i0, hi0, hz0, hz1, hz2⟩ := info_parts Try.info5
  intro n
  induction n using Nat.strongRecOn with
  | _ n ih =>
    intro hn w
    by_cases h : n < 10
    · rw [digs_small h]
      have hd : decide ((10 : Int) ≤ (n : Int)) = false := by rw [decide_eq_false_iff_not]; omega
      clear ih
      go_enter Try.func74, Try.ntmps74
      go_wp2_with (at_builtin; refine wpList_append_own _ rfl _ _ 72 rfl w.heap.size 5 i0 (.int .u8 0) 1 1 Try.underlying72 hi0 hz0 hz1 hz2 rfl (by decide) _ 0 [] rfl (World.ownsRow_nil _ _ _ _) ⟨w.heap.size, 0, none⟩ 1 1 [_] rfl rfl (new_one _ _ _) (one_ok rfl) (by unfold maxLen; omega) (by omega) (by simp) ?_)
      intro v1 w1 hO hg _
      have hb : Below w.heap.size w w1 := ((Below.refl _ _).alloc (Nat.le_refl _) _).grown hg (by simp) (fun k hk => by cases hk)
      obtain ⟨ao, cap, rfl, _⟩ := owns_source hO
      have HO := Lib.hid hO
      have HB := Lib.hid hb
      clear hO hg hb
      go_wp2_with fail
      go_ret
      exact ⟨_, rfl, by rw [bs_dig]; exact HO.out, HB.out⟩
    · rw [digs_great h]
      have hd : decide ((10 : Int) ≤ (n : Int)) = true := by rw [decide_eq_true_iff]; omega
      have hih := ih (n / 10) (by omega) (by omega)
      have hl := digs_len 7 (n / 10) (by omega)
      obtain ⟨m, hm⟩ : ∃ m, n / 10 = m := ⟨_, rfl⟩
      have hmi : (n : Int) / 10 = (m : Int) := by omega
      rw [hm] at hih hl ⊢
      obtain ⟨L, hL⟩ : ∃ L, digs m = L := ⟨_, rfl⟩
      rw [hL] at hih hl ⊢
      obtain ⟨q, hq⟩ : ∃ q, L.length = q := ⟨_, rfl⟩
      rw [hq] at hih hl
      have HIH := Lib.hid hih
      clear ih hih hL hm
      go_enter Try.func74, Try.ntmps74
      go_wp2_with fail
      with_reducible refine (HIH.out w).mono ?_
      rintro e w1 ⟨v1, rfl, hO1, hb1⟩
      obtain ⟨ao, cap, rfl, _⟩ := owns_source hO1
      have HO1 := Lib.hid hO1
      have HB1 := Lib.hid hb1
      have hz := hb1.size
      clear hO1 hb1
      go_wp2_with (at_builtin; refine wpList_append_own _ rfl _ _ 72 rfl w.heap.size 5 i0 (.int .u8 0) 1 1 Try.underlying72 hi0 hz0 hz1 hz2 rfl (by decide) _ q _ rfl (HO1.out.alloc _) ⟨w1.heap.size, 0, none⟩ 1 1 [_] rfl rfl (new_one _ _ _) (one_ok rfl) (by unfold maxLen; omega) (by omega) (by simp; omega) ?_)
      intro v2 w2 hO hg _
      have hb : Below w.heap.size w w2 := (HB1.out.alloc hz _).grown hg (by simp; omega) (fun k hk => (HO1.out.lt k hk).1)
      obtain ⟨ao2, cap2, rfl, _⟩ := owns_source hO
      have HO := Lib.hid hO
      have HB := Lib.hid hb
      clear hO hg hb
      go_wp2_with fail
      go_ret
      refine ⟨_, rfl, ?_, HB.out⟩
      rw [bs_append, bs_dig, List.length_append, hq]
      exact HO.out
/-- The decimal notation of a number. -/
def sign (a : Int) : List Nat := if clamp a < 0 then [45] else []
def tail (f : Nat) : List Nat := if 0 < f then 46 :: frac 16 f else []
def body (m : Nat) : List Nat := digs (m / 65536) ++ tail (m % 65536)
def text (a : Int) : List Nat := sign a ++ body (clamp a).natAbs
/-- Letters as a string. -/
def str (l : List Nat) : ByteArray := ⟨(l.map UInt8.ofNat).toArray⟩

/-- 'string(b)'. -/
theorem to_str {W : World} {B n : Nat} {v : Value} {L : List Nat} (hO : W.ownsRow B 5 1 v n (bs L)) (hL : 1 ≤ L.length) (hb : ∀ c ∈ L, c < 256) : (convert 72 9 v).run Try.prog W = .ok (.string (str L)) W := by
  have hn : n = L.length := by have := hO.1; rw [bs_length] at this; omega
  subst hn
  obtain ⟨g, cap, rfl, _, _, _, _, _, hcl, _⟩ := owns_open hO hL
  have h := run_convert_bytes_back (P := Try.prog) W 72 9 5 ⟨g, 0, none⟩ cap (L.map UInt8.ofNat) (by kernel_rfl) (by kernel_rfl) (by kernel_rfl) (fun j hj => by
    have hj' : j < L.length := by simpa using hj
    rw [Addr.add_lit, Nat.zero_add, hcl j (by omega)]
    unfold bs
    rw [List.getElem?_map, List.getElem?_eq_getElem hj', List.getElem_map]
    have := hb L[j] (List.getElem_mem _)
    simp only [Option.map_some, Option.some.injEq, Value.int.injEq, true_and]
    rw [UInt8.toNat_ofNat_of_lt' (by simpa using this)])
  rw [List.length_map] at h
  exact h
theorem and16 (n : Nat) (h : n < 2 ^ 64) : bits .and .u64 (n : Int) 65535 = ((n % 65536 : Nat) : Int) := by
  have := u64_and_nat n 65535 h (by decide)
  rw [show ((65535 : Nat) : Int) = 65535 from rfl] at this
  rw [this]
  congr 1
  exact Nat.and_two_pow_sub_one_eq_mod n 16
/-- The length of a slice. -/
def lenV : Value → Nat | .slice _ n _ => n | _ => 0

set_option maxRecDepth 8000 in
set_option maxHeartbeats 4000000 in
theorem text_any (a : Int) (w : World) : Calls Try.prog 39 #[.int .i64 a] w fun e w' => e = .returned (.string (str (text a))) ∧ Below w.heap.size w w' := by
  obtain ⟨i0, hi0, hz0, hz1, hz2⟩ := info_parts Try.info5
  have hlo := clamp_lo a
  have hhi := clamp_hi a
  unfold text sign body
  obtain ⟨c, hc⟩ : ∃ c, clamp a = c := ⟨_, rfl⟩
  have HC := Lib.hid fun w => clamp_any a w
  rw [hc] at HC hlo hhi ⊢
  clear hc
  obtain ⟨m, hm⟩ : ∃ m : Nat, c.natAbs = m := ⟨_, rfl⟩
  have hmb : m ≤ 1099511627776 := by omega
  have HM := Lib.hid fun w => fmag_any c w (by omega) (by omega)
  rw [hm] at HM ⊢
  clear hm hlo hhi
  obtain ⟨q, hq⟩ : ∃ q, m / 65536 = q := ⟨_, rfl⟩
  obtain ⟨f, hf⟩ : ∃ f, m % 65536 = f := ⟨_, rfl⟩
  have hqi : (m : Int) / 65536 = (q : Int) := by omega
  have hfi : (m : Int) % 65536 = (f : Int) := by omega
  have hf16 : f < 65536 := by omega
  have hq8 : q < 10 ^ 8 := by omega
  rw [hq, hf]
  have HW := Lib.hid fun w => whole_any q hq8 w
  have hDl := digs_len 7 q hq8
  have hDp := digs_pos q
  have HDD := Lib.hid (digs_digs q)
  obtain ⟨Dg, hDg⟩ : ∃ Dg, digs q = Dg := ⟨_, rfl⟩
  rw [hDg] at HW hDl hDp HDD ⊢
  obtain ⟨n2, hn2⟩ : ∃ n2, Dg.length = n2 := ⟨_, rfl⟩
  rw [hn2] at HW hDl hDp
  have HN2 := Lib.hid hn2
  have hand : bits .and .u64 (m : Int) 65535 = (f : Int) := by rw [and16 m (by omega), hf]
  clear hq hf hq8 hDg hn2 hmb hfi
  have hcase : c < 0 ∨ ¬ c < 0 := Classical.em _
  rcases hcase with hneg | hneg
  · rw [if_pos hneg]
    obtain ⟨S, hS⟩ : ∃ S, [45] = S := ⟨_, rfl⟩
    rw [hS]
    obtain ⟨P, hP⟩ : ∃ P, S ++ Dg = P := ⟨_, rfl⟩
    rw [← List.append_assoc, hP]
    go_enter Try.func39, Try.ntmps39
    go_wp2_with (first
      | (go_at_call 35; (with_reducible refine (HC.out _).mono ?_); rintro e _ ⟨rfl, rfl⟩)
      | (at_builtin; refine wpList_append_own _ rfl _ _ 72 rfl w.heap.size 5 i0 (.int .u8 0) 1 1 Try.underlying72 hi0 hz0 hz1 hz2 rfl (by decide) _ 0 [] rfl (World.ownsRow_nil _ _ _ _) ⟨w.heap.size, 0, none⟩ 1 1 [.int .u8 45] rfl rfl (new_one _ _ _) (one_ok rfl) (by unfold maxLen; omega) (by omega) (by simp) ?_))
    intro v1 w1 hO hg _
    have hb : Below w.heap.size w w1 := ((Below.refl _ _).alloc (Nat.le_refl _) _).grown hg (by simp) (fun k hk => by cases hk)
    obtain ⟨ao, cap, rfl, _⟩ := owns_source hO
    have HO : Hid (w1.ownsRow w.heap.size 5 1 (.slice ao (0 + 1) cap) (0 + 1) (bs S)) := by rw [← hS]; exact hO
    have HSl : Hid (S.length = 0 + 1 ∧ ∀ c ∈ S, c < 256) := by rw [← hS]; exact ⟨rfl, by simp⟩
    have HB := Lib.hid hb
    clear hO hg hb hS
    go_wp2_with fail
    with_reducible refine (HM.out _).mono ?_
    rintro e _ ⟨rfl, rfl⟩
    go_wp2_with fail
    with_reducible refine (HW.out _).mono ?_
    rintro e w2 ⟨v2, rfl, hO2, hb2⟩
    obtain ⟨ao2, cap2, rfl, _, hc2, _⟩ := owns_source hO2
    obtain ⟨g2, c2', he2, _⟩ := owns_open hO2 hDp
    cases he2
    have HC2 := Lib.hid (hc2 _ rfl)
    have HL2 : Hid ((bs Dg).length = n2 * 1) := by show _ = _; rw [bs_length, HN2.out, Nat.mul_one]
    have HO1 := Lib.hid (owns_below HO.out hb2 (Nat.le_refl _))
    have HB2 := Lib.hid (HB.out.trans (hb2.mono HB.out.size))
    have hz2 := HB2.out.size
    clear hO2 hb2 hc2
    go_wp2_with (at_builtin; refine wpList_append_own _ rfl _ _ 72 rfl w.heap.size 5 i0 (.int .u8 0) 1 1 Try.underlying72 hi0 hz0 hz1 (by assumption) rfl (by decide) _ _ _ rfl HO1.out ⟨g2, 0, none⟩ n2 _ (bs Dg) rfl HL2.out HC2.out (bs_ok Dg) (by unfold maxLen; omega) (by omega) hz2 ?_)
    intro v3 w3 hO3 hg3 _
    obtain ⟨np, hnp⟩ : ∃ np, P.length = np := ⟨_, rfl⟩
    have hPl : np = S.length + n2 := by rw [← hnp, ← hP, List.length_append, HN2.out]
    have hPb : ∀ c ∈ P, c < 256 := by
      intro c hc
      rw [← hP] at hc
      rcases List.mem_append.1 hc with hc | hc
      · exact HSl.out.2 c hc
      · have := HDD.out c hc; omega
    have hO3' : w3.ownsRow w.heap.size 5 1 v3 np (bs P) := by
      rw [← hP, bs_append, hPl, HSl.out.1]
      simpa using hO3
    have hb3 : Below w.heap.size w w3 := HB2.out.grown hg3 hz2 (fun k hk => (HO1.out.lt k hk).1)
    obtain ⟨ao3, cap3, rfl, _⟩ := owns_source hO3'
    have hnp9 : np ≤ 9 ∧ 1 ≤ np := by have := HSl.out.1; omega
    have HO3 := Lib.hid hO3'
    have HB3 := Lib.hid hb3
    have HPB := Lib.hid hPb
    have HNP := Lib.hid hnp
    have hz3 := hb3.size
    clear hO3 hg3 hO3' hb3 HO1 HB2 HC2 HL2 HO HB hP hPl hPb hnp hz2
    by_cases hf0 : f = 0
    · subst hf0
      have hcv := to_str HO3.out (by rw [HNP.out]; exact hnp9.2) HPB.out
      go_wp2_with fail
      go_loopw [3, 4] (fun v3 v4 wr => v3 = .slice ao3 np cap3 ∧ v4 = .int .u64 0 ∧ wr = w3) (fun _ _ _ => 0)
      case atStart => exact ⟨rfl, rfl, rfl⟩
      case round =>
        obtain ⟨rfl, rfl, rfl⟩ := hrel
        go_wp2_with fail
        go_ret
        exact ⟨by simp [tail], HB3.out⟩
    · have hf1 : decide ((0 : Int) < (f : Int)) = true := by rw [decide_eq_true_iff]; omega
      have hf2 : decide (0 < f) = true := by rw [decide_eq_true_iff]; omega
      go_wp2_with (at_builtin; refine wpList_append_own _ rfl _ _ 72 rfl w.heap.size 5 i0 (.int .u8 0) 1 1 Try.underlying72 hi0 hz0 hz1 (by assumption) rfl (by decide) _ np _ rfl (HO3.out.alloc _) ⟨w3.heap.size, 0, none⟩ 1 1 [.int .u8 46] rfl rfl (new_one _ _ _) (one_ok rfl) (by unfold maxLen; omega) (by omega) (by simp; omega) ?_)
      intro v4 w4 hO4 hg4 _
      have hb4 : Below w.heap.size w w4 := (HB3.out.alloc hz3 _).grown hg4 (by simp; omega) (fun k hk => (HO3.out.lt k hk).1)
      obtain ⟨ao4, cap4, rfl, _⟩ := owns_source hO4
      have HO4 : Hid (w4.ownsRow w.heap.size 5 1 (.slice ao4 (np + 1) cap4) (np + 1) (bs (P ++ [46]))) := by
        show World.ownsRow _ _ _ _ _ _ _
        rw [bs_append]; exact hO4
      have HB4 := Lib.hid hb4
      have hz4 := hb4.size
      clear hO4 hg4 hb4
      go_wp2_with fail
      go_loopw [3, 4] (fun v3 v4 wr => ∃ (i r : Nat) (E : List Nat), v4 = .int .u64 r ∧ r < 65536 ∧ Hid (i ≤ 16 ∧ r % 2 ^ i = 0 ∧ E.length = i ∧ E ++ frac (16 - i) r = frac 16 f) ∧ wr.ownsRow w.heap.size 5 1 v3 (np + 1 + i) (bs (P ++ [46] ++ E)) ∧ Below w.heap.size w wr) (fun v3 _ _ => 100 - lenV v3)
      case atStart => exact ⟨0, f, [], rfl, hf16, ⟨by omega, by simp [Nat.mod_one], rfl, rfl⟩, by rw [List.append_nil]; exact HO4.out, HB4.out⟩
      case round =>
        obtain ⟨i, r, E, rfl, hr, hH, hO5, hb5⟩ := hrel
        have hi16 := hH.out.1
        obtain ⟨ao5, cap5, rfl, _⟩ := owns_source hO5
        obtain ⟨ni, hni⟩ : ∃ ni, np + 1 + i = ni := ⟨_, rfl⟩
        rw [hni] at hO5 ⊢
        have HO5 := Lib.hid hO5
        have HB5 := Lib.hid hb5
        have hz5 := hb5.size
        clear hO5 hb5
        by_cases hr0 : r = 0
        · subst hr0
          have hfr : P ++ tail f = P ++ [46] ++ E := by
            have := hH.out.2.2.2
            rw [frac_zero, List.append_nil] at this
            unfold tail
            rw [if_pos (by omega), ← this, List.append_assoc]
            rfl
          have hcv := to_str HO5.out (by simp; omega) (fun c hc => by
            rw [List.append_assoc] at hc
            rcases List.mem_append.1 hc with hc | hc
            · exact HPB.out c hc
            · rcases List.mem_append.1 hc with hc | hc
              · simp at hc; omega
              · have hE := hH.out.2.2.2
                rw [frac_zero, List.append_nil] at hE
                have := frac_digs 16 f hf16 c (by rw [← hE]; exact hc)
                omega)
          rw [← hfr] at hcv
          clear hfr
          go_wp2_with fail
          go_ret
          exact ⟨rfl, HB5.out⟩
        · have hi15 : i < 16 := by
            rcases Nat.lt_or_ge i 16 with h | h
            · exact h
            · have e : i = 16 := by omega
              have h2 := hH.out.2.1
              rw [e, Nat.mod_eq_of_lt (by simpa using hr)] at h2
              exact absurd h2 hr0
          have hr1 : decide ((0 : Int) < (r : Int)) = true := by rw [decide_eq_true_iff]; omega
          have hr2 : decide (0 < r) = true := by rw [decide_eq_true_iff]; omega
          obtain ⟨r', hr'⟩ : ∃ r', r * 10 % 65536 = r' := ⟨_, rfl⟩
          have hand2 : bits .and .u64 ((r : Int) * 10) 65535 = (r' : Int) := by
            have := and16 (r * 10) (by omega)
            rw [hr'] at this
            rw [← this]
            congr 1
          obtain ⟨d, hd⟩ : ∃ d, r * 10 / 65536 = d := ⟨_, rfl⟩
          have hdi : (r : Int) * 10 / 65536 = (d : Int) := by omega
          have hd9 : d ≤ 9 := by omega
          have hfk : frac (16 - i) r = (48 + d) :: frac (16 - (i + 1)) r' := by
            rw [show 16 - i = (16 - (i + 1)) + 1 by omega]
            show (if r = 0 then [] else (48 + r * 10 / 65536) :: frac (16 - (i + 1)) (r * 10 % 65536)) = _
            rw [if_neg hr0, hd, hr']
          have hnx := next_div hH.out.2.1 hi15
          rw [hr'] at hnx
          have hr6 : r' < 65536 := by rw [← hr']; exact Nat.mod_lt _ (by decide)
          have HK : Hid (i + 1 ≤ 16 ∧ r' % 2 ^ (i + 1) = 0 ∧ (E ++ [48 + d]).length = i + 1 ∧ (E ++ [48 + d]) ++ frac (16 - (i + 1)) r' = frac 16 f) :=
            ⟨by omega, hnx, by rw [List.length_append, hH.out.2.2.1]; rfl, by rw [List.append_assoc, ← hH.out.2.2.2, hfk]; rfl⟩
          have HNI := Lib.hid hni
          have hnb : ni ≤ 26 := by omega
          have hnm : np + 1 + i ≤ 99 := by omega
          clear hnx hfk hd hr' hni
          go_wp2_with (at_builtin; refine wpList_append_own _ rfl _ _ 72 rfl w.heap.size 5 i0 (.int .u8 0) 1 1 Try.underlying72 hi0 hz0 hz1 (by assumption) rfl (by decide) _ ni _ rfl (HO5.out.alloc _) ⟨wr.heap.size, 0, none⟩ 1 1 [.int .u8 (48 + (d : Int))] rfl rfl (new_one _ _ _) (one_ok rfl) (by unfold maxLen; omega) (by omega) (by simp; omega) ?_)
          intro v6 w6 hO6 hg6 _
          have hb6 : Below w.heap.size w w6 := (HB5.out.alloc hz5 _).grown hg6 (by simp; omega) (fun k hk => (HO5.out.lt k hk).1)
          obtain ⟨ao6, cap6, rfl, _⟩ := owns_source hO6
          have HO6 : Hid (w6.ownsRow w.heap.size 5 1 (.slice ao6 (ni + 1) cap6) (np + 1 + (i + 1)) (bs (P ++ [46] ++ (E ++ [48 + d])))) := by
            have e1 : bs (P ++ [46] ++ (E ++ [48 + d])) = bs (P ++ 46 :: E) ++ [.int .u8 (48 + (d : Int))] := by simp [bs]
            show World.ownsRow _ _ _ _ _ _ _
            rw [e1, show np + 1 + (i + 1) = ni + 1 by have := HNI.out; omega]
            exact hO6
          have HB6 := Lib.hid hb6
          clear hO6 hg6 hb6
          go_wp2_with fail
          go_roundw
          case rel => exact ⟨i + 1, r', E ++ [48 + d], rfl, hr6, HK.out, HO6.out, HB6.out⟩
          case measure => simp [lenV]; omega
  · rw [if_neg hneg]
    obtain ⟨S, hS⟩ : ∃ S : List Nat, [] = S := ⟨_, rfl⟩
    rw [hS]
    obtain ⟨P, hP⟩ : ∃ P, S ++ Dg = P := ⟨_, rfl⟩
    rw [← List.append_assoc, hP]
    have HO : Hid (w.ownsRow w.heap.size 5 1 (.slice none 0 0) 0 (bs S)) := by rw [← hS]; exact World.ownsRow_nil _ _ _ _
    have HSl : Hid (S.length = 0 ∧ ∀ c ∈ S, c < 256) := by rw [← hS]; exact ⟨rfl, by simp⟩
    have HB := Lib.hid (Below.refl w.heap.size w)
    clear hS
    go_enter Try.func39, Try.ntmps39
    go_wp2_with (first
      | (go_at_call 35; (with_reducible refine (HC.out _).mono ?_); rintro e _ ⟨rfl, rfl⟩))
    with_reducible refine (HM.out _).mono ?_
    rintro e _ ⟨rfl, rfl⟩
    go_wp2_with fail
    with_reducible refine (HW.out _).mono ?_
    rintro e w2 ⟨v2, rfl, hO2, hb2⟩
    obtain ⟨ao2, cap2, rfl, _, hc2, _⟩ := owns_source hO2
    obtain ⟨g2, c2', he2, _⟩ := owns_open hO2 hDp
    cases he2
    have HC2 := Lib.hid (hc2 _ rfl)
    have HL2 : Hid ((bs Dg).length = n2 * 1) := by show _ = _; rw [bs_length, HN2.out, Nat.mul_one]
    have HO1 := Lib.hid (owns_below HO.out hb2 (Nat.le_refl _))
    have HB2 := Lib.hid (HB.out.trans (hb2.mono HB.out.size))
    have hz2 := HB2.out.size
    clear hO2 hb2 hc2
    go_wp2_with (at_builtin; refine wpList_append_own _ rfl _ _ 72 rfl w.heap.size 5 i0 (.int .u8 0) 1 1 Try.underlying72 hi0 hz0 hz1 (by assumption) rfl (by decide) _ _ _ rfl HO1.out ⟨g2, 0, none⟩ n2 _ (bs Dg) rfl HL2.out HC2.out (bs_ok Dg) (by unfold maxLen; omega) (by omega) hz2 ?_)
    intro v3 w3 hO3 hg3 _
    obtain ⟨np, hnp⟩ : ∃ np, P.length = np := ⟨_, rfl⟩
    have hPl : np = S.length + n2 := by rw [← hnp, ← hP, List.length_append, HN2.out]
    have hPb : ∀ c ∈ P, c < 256 := by
      intro c hc
      rw [← hP] at hc
      rcases List.mem_append.1 hc with hc | hc
      · exact HSl.out.2 c hc
      · have := HDD.out c hc; omega
    have hO3' : w3.ownsRow w.heap.size 5 1 v3 np (bs P) := by
      rw [← hP, bs_append, hPl, HSl.out.1]
      simpa using hO3
    have hb3 : Below w.heap.size w w3 := HB2.out.grown hg3 hz2 (fun k hk => (HO1.out.lt k hk).1)
    obtain ⟨ao3, cap3, rfl, _⟩ := owns_source hO3'
    have hnp9 : np ≤ 9 ∧ 1 ≤ np := by have := HSl.out.1; omega
    have HO3 := Lib.hid hO3'
    have HB3 := Lib.hid hb3
    have HPB := Lib.hid hPb
    have HNP := Lib.hid hnp
    have hz3 := hb3.size
    clear hO3 hg3 hO3' hb3 HO1 HB2 HC2 HL2 HO HB hP hPl hPb hnp hz2
    by_cases hf0 : f = 0
    · subst hf0
      have hcv := to_str HO3.out (by rw [HNP.out]; exact hnp9.2) HPB.out
      go_wp2_with fail
      go_loopw [3, 4] (fun v3 v4 wr => v3 = .slice ao3 np cap3 ∧ v4 = .int .u64 0 ∧ wr = w3) (fun _ _ _ => 0)
      case atStart => exact ⟨rfl, rfl, rfl⟩
      case round =>
        obtain ⟨rfl, rfl, rfl⟩ := hrel
        go_wp2_with fail
        go_ret
        exact ⟨by simp [tail], HB3.out⟩
    · have hf1 : decide ((0 : Int) < (f : Int)) = true := by rw [decide_eq_true_iff]; omega
      have hf2 : decide (0 < f) = true := by rw [decide_eq_true_iff]; omega
      go_wp2_with (at_builtin; refine wpList_append_own _ rfl _ _ 72 rfl w.heap.size 5 i0 (.int .u8 0) 1 1 Try.underlying72 hi0 hz0 hz1 (by assumption) rfl (by decide) _ np _ rfl (HO3.out.alloc _) ⟨w3.heap.size, 0, none⟩ 1 1 [.int .u8 46] rfl rfl (new_one _ _ _) (one_ok rfl) (by unfold maxLen; omega) (by omega) (by simp; omega) ?_)
      intro v4 w4 hO4 hg4 _
      have hb4 : Below w.heap.size w w4 := (HB3.out.alloc hz3 _).grown hg4 (by simp; omega) (fun k hk => (HO3.out.lt k hk).1)
      obtain ⟨ao4, cap4, rfl, _⟩ := owns_source hO4
      have HO4 : Hid (w4.ownsRow w.heap.size 5 1 (.slice ao4 (np + 1) cap4) (np + 1) (bs (P ++ [46]))) := by
        show World.ownsRow _ _ _ _ _ _ _
        rw [bs_append]; exact hO4
      have HB4 := Lib.hid hb4
      have hz4 := hb4.size
      clear hO4 hg4 hb4
      go_wp2_with fail
      go_loopw [3, 4] (fun v3 v4 wr => ∃ (i r : Nat) (E : List Nat), v4 = .int .u64 r ∧ r < 65536 ∧ Hid (i ≤ 16 ∧ r % 2 ^ i = 0 ∧ E.length = i ∧ E ++ frac (16 - i) r = frac 16 f) ∧ wr.ownsRow w.heap.size 5 1 v3 (np + 1 + i) (bs (P ++ [46] ++ E)) ∧ Below w.heap.size w wr) (fun v3 _ _ => 100 - lenV v3)
      case atStart => exact ⟨0, f, [], rfl, hf16, ⟨by omega, by simp [Nat.mod_one], rfl, rfl⟩, by rw [List.append_nil]; exact HO4.out, HB4.out⟩
      case round =>
        obtain ⟨i, r, E, rfl, hr, hH, hO5, hb5⟩ := hrel
        have hi16 := hH.out.1
        obtain ⟨ao5, cap5, rfl, _⟩ := owns_source hO5
        obtain ⟨ni, hni⟩ : ∃ ni, np + 1 + i = ni := ⟨_, rfl⟩
        rw [hni] at hO5 ⊢
        have HO5 := Lib.hid hO5
        have HB5 := Lib.hid hb5
        have hz5 := hb5.size
        clear hO5 hb5
        by_cases hr0 : r = 0
        · subst hr0
          have hfr : P ++ tail f = P ++ [46] ++ E := by
            have := hH.out.2.2.2
            rw [frac_zero, List.append_nil] at this
            unfold tail
            rw [if_pos (by omega), ← this, List.append_assoc]
            rfl
          have hcv := to_str HO5.out (by simp; omega) (fun c hc => by
            rw [List.append_assoc] at hc
            rcases List.mem_append.1 hc with hc | hc
            · exact HPB.out c hc
            · rcases List.mem_append.1 hc with hc | hc
              · simp at hc; omega
              · have hE := hH.out.2.2.2
                rw [frac_zero, List.append_nil] at hE
                have := frac_digs 16 f hf16 c (by rw [← hE]; exact hc)
                omega)
          rw [← hfr] at hcv
          clear hfr
          go_wp2_with fail
          go_ret
          exact ⟨rfl, HB5.out⟩
        · have hi15 : i < 16 := by
            rcases Nat.lt_or_ge i 16 with h | h
            · exact h
            · have e : i = 16 := by omega
              have h2 := hH.out.2.1
              rw [e, Nat.mod_eq_of_lt (by simpa using hr)] at h2
              exact absurd h2 hr0
          have hr1 : decide ((0 : Int) < (r : Int)) = true := by rw [decide_eq_true_iff]; omega
          have hr2 : decide (0 < r) = true := by rw [decide_eq_true_iff]; omega
          obtain ⟨r', hr'⟩ : ∃ r', r * 10 % 65536 = r' := ⟨_, rfl⟩
          have hand2 : bits .and .u64 ((r : Int) * 10) 65535 = (r' : Int) := by
            have := and16 (r * 10) (by omega)
            rw [hr'] at this
            rw [← this]
            congr 1
          obtain ⟨d, hd⟩ : ∃ d, r * 10 / 65536 = d := ⟨_, rfl⟩
          have hdi : (r : Int) * 10 / 65536 = (d : Int) := by omega
          have hd9 : d ≤ 9 := by omega
          have hfk : frac (16 - i) r = (48 + d) :: frac (16 - (i + 1)) r' := by
            rw [show 16 - i = (16 - (i + 1)) + 1 by omega]
            show (if r = 0 then [] else (48 + r * 10 / 65536) :: frac (16 - (i + 1)) (r * 10 % 65536)) = _
            rw [if_neg hr0, hd, hr']
          have hnx := next_div hH.out.2.1 hi15
          rw [hr'] at hnx
          have hr6 : r' < 65536 := by rw [← hr']; exact Nat.mod_lt _ (by decide)
          have HK : Hid (i + 1 ≤ 16 ∧ r' % 2 ^ (i + 1) = 0 ∧ (E ++ [48 + d]).length = i + 1 ∧ (E ++ [48 + d]) ++ frac (16 - (i + 1)) r' = frac 16 f) :=
            ⟨by omega, hnx, by rw [List.length_append, hH.out.2.2.1]; rfl, by rw [List.append_assoc, ← hH.out.2.2.2, hfk]; rfl⟩
          have HNI := Lib.hid hni
          have hnb : ni ≤ 26 := by omega
          have hnm : np + 1 + i ≤ 99 := by omega
          clear hnx hfk hd hr' hni
          go_wp2_with (at_builtin; refine wpList_append_own _ rfl _ _ 72 rfl w.heap.size 5 i0 (.int .u8 0) 1 1 Try.underlying72 hi0 hz0 hz1 (by assumption) rfl (by decide) _ ni _ rfl (HO5.out.alloc _) ⟨wr.heap.size, 0, none⟩ 1 1 [.int .u8 (48 + (d : Int))] rfl rfl (new_one _ _ _) (one_ok rfl) (by unfold maxLen; omega) (by omega) (by simp; omega) ?_)
          intro v6 w6 hO6 hg6 _
          have hb6 : Below w.heap.size w w6 := (HB5.out.alloc hz5 _).grown hg6 (by simp; omega) (fun k hk => (HO5.out.lt k hk).1)
          obtain ⟨ao6, cap6, rfl, _⟩ := owns_source hO6
          have HO6 : Hid (w6.ownsRow w.heap.size 5 1 (.slice ao6 (ni + 1) cap6) (np + 1 + (i + 1)) (bs (P ++ [46] ++ (E ++ [48 + d])))) := by
            have e1 : bs (P ++ [46] ++ (E ++ [48 + d])) = bs (P ++ 46 :: E) ++ [.int .u8 (48 + (d : Int))] := by simp [bs]
            show World.ownsRow _ _ _ _ _ _ _
            rw [e1, show np + 1 + (i + 1) = ni + 1 by have := HNI.out; omega]
            exact hO6
          have HB6 := Lib.hid hb6
          clear hO6 hg6 hb6
          go_wp2_with fail
          go_roundw
          case rel => exact ⟨i + 1, r', E ++ [48 + d], rfl, hr6, HK.out, HO6.out, HB6.out⟩
          case measure => simp [lenV]; omega
end Go.Proofs.Ytdnepccjgclgiaa
