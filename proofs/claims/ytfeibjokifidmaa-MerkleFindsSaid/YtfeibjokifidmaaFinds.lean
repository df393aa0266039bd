/- For every input, MerkleFinds returns true. No condition. -/
import Derived.Test.YtfeibjokifidmaaSmall
namespace Go.Proofs.Ytfeibjokifidmaa.M
open Go.RowKit

/-- The changed word. -/
noncomputable def bump (x : W64) (z : Int) : W64 := x + (1#64 + Wd z)
theorem bump_ne (x : W64) (z : Int) (h0 : 0 ≤ z) (h1 : z < 1152921504606846976) : x ≠ bump x z := by
  intro h
  unfold bump at h
  have h2 : (1#64 + Wd z) = 0#64 := by
    have h3 : x + 0#64 = x + (1#64 + Wd z) := by rw [BitVec.add_zero]; exact h
    exact (add_cancel_left _ _ _ h3).symm
  have h4 := congrArg U h2
  rw [← add_U, IntKind.wrap_u64, U_Wd z h0 (by omega)] at h4
  rw [show U 1#64 = 1 from rfl, show U 0#64 = 0 from rfl] at h4
  omega
@[go_sem] theorem one_add (a : W64) : IntKind.u64.wrap (1 + U a) = U (1#64 + a) := by
  rw [← add_U]; rfl
theorem set_diff {xs : List W64} {i : Nat} {y : W64} (hi : i < xs.length) (hy : wd xs i ≠ y) : Diff xs (xs.set i y) i := by
  refine ⟨by simp, hi, ?_, fun j hj => ?_⟩
  · unfold wd at hy ⊢
    rw [List.getElem?_set_self hi]
    exact hy
  · unfold wd
    rw [List.getElem?_set_ne (Ne.symm hj)]
theorem set_wd {xs : List W64} {i : Nat} {y : W64} (hi : i < xs.length) (j : Nat) : wd (xs.set i y) j = if j = i then y else wd xs j := by
  unfold wd
  by_cases h : j = i
  · subst h; rw [List.getElem?_set_self hi, if_pos rfl]; rfl
  · rw [List.getElem?_set_ne (Ne.symm h), if_neg h]
theorem Src.set {w : World} {g n i : Nat} {xs : List W64} (h : Src w g n xs) (hi : i < n) (y : W64) : Src (w.setCell ⟨g, i, none⟩ (.int .u64 (U y))) g n (xs.set i y) := by
  obtain ⟨h1, h2, h3⟩ := h
  refine ⟨by simp; exact h1, by simp; exact h2, fun j hj => ?_⟩
  rw [set_wd (by omega)]
  by_cases e : j = i
  · subst e
    rw [World.cell?_setCell_same _ _ _ (h3 j hj), if_pos rfl]
  · rw [World.cell?_setCell_other _ _ _ _ (fun h => e (congrArg Addr.off h).symm), h3 j hj, if_neg e]
theorem Src.other {w : World} {g g' n : Nat} {xs : List W64} (h : Src w g n xs) (hg : g ≠ g') (i : Nat) (v : Value) : Src (w.setCell ⟨g', i, none⟩ v) g n xs :=
  ⟨by simp; exact h.1, h.2.1, fun j hj => by rw [World.cell?_setCell_other _ _ _ _ (fun e => hg (congrArg Addr.block e).symm), h.2.2 j hj]⟩
theorem root_ne {xs ys : List W64} {i : Nat} (h : Diff xs ys i) : root xs ≠ root ys := by
  unfold root
  rw [← h.len]
  have hd := Diff.lvl h (tops xs.length)
  have h1 := (tops_spec xs.length xs rfl (by have := h.lt; omega)).1
  have hi : i / 2 ^ (tops xs.length) = 0 := by
    have := hd.lt
    rw [h1] at this
    exact Nat.lt_one_iff.1 this
  rw [hi] at hd
  exact hd.ne

set_option maxRecDepth 8000 in
set_option maxHeartbeats 2000000 in
theorem walk6 (a : Option Addr) (zs : List Int) (len cap : Nat) (ci by' : Int) (w : World) (hl : zs.length = len) (hn : a = none → len = 0 ∧ cap = 0)
    (hc : ∀ x, a = some x → ∀ j u, (zs.map (Value.int .i64))[j]? = some u → w.cell? (x.add j) = some u) (hlc : len ≤ cap) (hr : len ≤ 9223372036854775807)
    (hct : -9223372036854775808 ≤ ci ∧ ci ≤ 9223372036854775807) (hby : -9223372036854775808 ≤ by' ∧ by' ≤ 9223372036854775807) :
    Calls Try.prog 6 #[.slice a len cap, .int .i64 ci, .int .i64 by'] w fun e w' => e = .returned (.bool true) ∧ Below w.heap.size w w' := by
  obtain ⟨n, hnn⟩ : ∃ n, (lvs zs).length = n := ⟨_, rfl⟩
  have hn1 : 1 ≤ n := by rw [← hnn]; simp [lvs]
  have hn60 : n ≤ 60 := by rw [← hnn]; simp [lvs]; omega
  obtain ⟨xs, hxs⟩ : ∃ xs, lvs zs = xs := ⟨_, rfl⟩
  have hLV := fun W hW => leaves_any a zs len cap W hl hn hW hlc hr
  obtain ⟨I, hI⟩ : ∃ I : Nat, ci % (n : Int) = (I : Int) := ⟨(ci % (n : Int)).toNat, by have := Int.emod_nonneg ci (show (n : Int) ≠ 0 by omega); omega⟩
  have hIn : I < n := by have := Int.emod_lt_of_pos ci (show 0 < (n : Int) by omega); omega
  have hbc := fun W => below_any ci n W (by omega) (by omega) hct.1 hct.2
  obtain ⟨z, hz⟩ : ∃ z : Int, by' % 1152921504606846976 = z := ⟨_, rfl⟩
  have hz0 : 0 ≤ z := by have := Int.emod_nonneg by' (show (1152921504606846976 : Int) ≠ 0 by omega); omega
  have hz1 : z < 1152921504606846976 := by have := Int.emod_lt_of_pos by' (show (0 : Int) < 1152921504606846976 by omega); omega
  have hbz := fun W => below_any by' 1152921504606846976 W (by omega) (by omega) hby.1 hby.2
  rw [hI] at hbc
  rw [hz] at hbz
  rw [hxs] at hLV hnn
  rw [hnn] at hLV
  have HC := Lib.hid hc
  have HLV := Lib.hid hLV
  have HBC := Lib.hid hbc
  have HBZ := Lib.hid hbz
  have HNN := Lib.hid hnn
  clear hc hLV hbc hbz hnn hxs hI hz hn hl
  go_enter Try.func6, Try.ntmps6
  go_wp2_with fail
  refine (mbegun_any w).mono ?_
  rintro e w1 ⟨rfl, hb1⟩
  have HB1 := Lib.hid hb1
  have HC1 : Hid (∀ x, a = some x → ∀ j u, (zs.map (Value.int .i64))[j]? = some u → w1.cell? (x.add j) = some u) := fun x hx j u hu => (HB1.out.cell (World.block_lt_of_cell? w _ (HC.out x hx j u hu))).trans (HC.out x hx j u hu)
  clear hb1 HC
  go_wp2_with fail
  refine (HLV.out w1 HC1.out).mono ?_
  rintro e w2 ⟨v2, rfl, ho2, hb2⟩
  obtain ⟨g, c, rfl, _, _, hS2, _⟩ := Src.of ho2 hn1
  have HS2 := Lib.hid hS2
  have HB2 := Lib.hid (HB1.out.trans (hb2.mono HB1.out.size))
  clear ho2 hb2 hS2 HB1 HC1 HLV
  go_wp2_with fail
  refine (clone_words _ n (us xs) c w2 (by rw [us_length]; exact HNN.out) (fun h => by cases h) HS2.out.src (us_one xs) (by omega)).mono ?_
  rintro e w3 ⟨v3, rfl, ho3, hb3⟩
  obtain ⟨g', c', rfl, hgg, _, hS3, hf3⟩ := Src.of ho3 hn1
  have hg2 : g < g' := by have := HS2.out.1; omega
  have HS4 := Lib.hid (HS2.out.keep hb3 HS2.out.1)
  have HS3 := Lib.hid hS3
  have HB3 := Lib.hid (HB2.out.trans (hb3.mono HB2.out.size))
  have hwg : w.heap.size ≤ g' := by have := HB2.out.size; omega
  clear ho3 hb3 hS3 HS2 HB2
  go_wp2_with fail
  refine (HBC.out w3).mono ?_
  rintro e _ ⟨rfl, rfl⟩
  go_wp2_with fail
  have hx0 := HS3.out.2.2 I hIn
  have hf0 := hf3 I
  have hg3 := HS3.out.1
  obtain ⟨x, hx⟩ : ∃ x, wd xs I = x := ⟨_, rfl⟩
  rw [hx] at hx0
  have HX := Lib.hid hx
  have iI0 : (0 : Int) ≤ (I : Int) := Int.natCast_nonneg _
  have iI1 : (I : Int) < (n : Int) := by omega
  clear hx
  refine region_tail 10 (by kernel_rfl) (by kernel_rfl) ?_
  simp only [List.take_succ_cons, List.take_zero, List.drop_succ_cons, List.drop_zero]
  repeat (go_big_quiet_step ((intro _; go_at_call 12; exact grow_same (HBZ.out _))))
  refine wpQuiet_nil ?_
  intro _ hw'
  obtain ⟨kk, mm, rfl⟩ := hw'
  go_wp2_with fail
  obtain ⟨W5, hW5⟩ : ∃ W5, ext (w3.setCell ⟨g', I, none⟩ (.int .u64 (U (x + (1#64 + Wd z))))) kk mm = W5 := ⟨_, rfl⟩
  have hb45 : Below w.heap.size w3 W5 := by
    rw [← hW5]
    exact ((Below.refl w.heap.size w3).setCell (p := ⟨g', I, none⟩) hwg _).trans ((below_ext _ kk mm).mono (by simp; have := HB3.out.size; omega))
  have hy : Src W5 g' n (xs.set I (x + (1#64 + Wd z))) := by
    rw [← hW5]
    exact (HS3.out.set hIn _).keep (below_ext _ kk mm) (by simp; exact HS3.out.1)
  have hx : Src W5 g n xs := by
    rw [← hW5]
    exact (HS4.out.other (Nat.ne_of_lt hg2) I _).keep (below_ext _ kk mm) (by simp; exact HS4.out.1)
  have hd : Diff xs (xs.set I (x + (1#64 + Wd z))) I := set_diff (by rw [HNN.out]; exact hIn) (by rw [HX.out]; exact bump_ne x z hz0 hz1)
  rw [hW5]
  obtain ⟨ys, hys⟩ : ∃ ys, xs.set I (x + (1#64 + Wd z)) = ys := ⟨_, rfl⟩
  rw [hys] at hy hd
  have HXS := Lib.hid hx
  have HYS := Lib.hid hy
  have HD := Lib.hid hd
  have HB5 := Lib.hid (HB3.out.trans hb45)
  have hkd := askd_le xs I (tops n) (tops n)
  have ht6 := tops_le n (by omega)
  obtain ⟨A, hA⟩ : ∃ A, askd xs I (tops n) (tops n) = A := ⟨_, rfl⟩
  have hN1 := narrow_any _ _ n c c' I xs ys W5 hd HNN.out (fun h => by cases h) (fun h => by cases h) hx.src hy.src hn1 (by omega)
  rw [hA] at hkd hN1
  have HN1 := Lib.hid hN1
  have hA1 := hkd.1
  have hA7 : A ≤ 7 := by omega
  have HR : Hid ((U (root xs) == U (root ys)) = false) := by
    show _ = _
    rw [beq_eq_false_iff_ne]
    exact fun h => root_ne HD.out (U_inj h)
  have HYN := Lib.hid (hd.len.symm.trans HNN.out)
  clear hW5 hb45 hx hy hys hA hkd hd hN1 HS3 HS4 HB3 HX hf3 hf0 hx0 hg3 ht6 HBC HBZ
  refine HN1.out.mono ?_
  rintro e w6 ⟨rfl, hb6⟩
  have HX6 := Lib.hid (HXS.out.keep hb6 HXS.out.1)
  have HY6 := Lib.hid (HYS.out.keep hb6 HYS.out.1)
  have HB6 := Lib.hid (HB5.out.trans (hb6.mono HB5.out.size))
  clear hb6 HXS HYS HB5 HN1
  go_wp2_with fail
  refine (root_any _ n c xs w6 HNN.out (fun h => by cases h) HX6.out.src hn1 (by omega)).mono ?_
  rintro e w7 ⟨rfl, hb7⟩
  have HX7 := Lib.hid (HX6.out.keep hb7 HX6.out.1)
  have HY7 := Lib.hid (HY6.out.keep hb7 HY6.out.1)
  have HB7 := Lib.hid (HB6.out.trans (hb7.mono HB6.out.size))
  clear hb7 HX6 HY6 HB6
  go_wp2_with fail
  refine (root_any _ n c' ys w7 HYN.out (fun h => by cases h) HY7.out.src hn1 (by omega)).mono ?_
  rintro e w8 ⟨rfl, hb8⟩
  have HX8 := Lib.hid (HX7.out.keep hb8 HX7.out.1)
  have HB8 := Lib.hid (HB7.out.trans (hb8.mono HB7.out.size))
  clear hb8 HX7 HY7 HB7
  go_wp2_with fail
  refine (narrow_same _ n c xs w8 HNN.out (fun h => by cases h) HX8.out.src hn1 (by omega)).mono ?_
  rintro e w9 ⟨rfl, hb9⟩
  have HB9 := Lib.hid (HB8.out.trans (hb9.mono HB8.out.size))
  have hr := HR.out
  have hr' : (U (root xs) != U (root ys)) = true := by rw [bne, hr]; rfl
  clear hb9 HX8 HB8
  go_wp2_with fail
  go_ret
  exact ⟨rfl, HB9.out⟩
end Go.Proofs.Ytfeibjokifidmaa.M
namespace Go.Proofs.Ytfeibjokifidmaa
open Go.RowKit

theorem MerkleFindsW (a0 : Option Addr) (len0 cap0 : Nat) (z0 : List Int) (a1 a2 : Int) (w : World)
    (w0 : ((a0 = none ∧ len0 = 0 ∧ cap0 = 0 ∧ z0 = []) ∨ ∃ x, a0 = some x ∧ len0 ≤ cap0 ∧ cap0 ≤ maxLen ∧ z0.length = cap0 ∧ (∀ i, i < z0.length → w.cell? (x.add i) = some (.int .i64 (z0.getD i 0))) ∧ ∀ n ∈ z0, (Lit.int .i64 n).wf = true) ∧ cap0 * 8 ≤ 140737488351232)
    (w1 : (Lit.int .i64 a1).wf = true) (w2 : (Lit.int .i64 a2).wf = true) :
    Calls Try.prog 6 #[.slice a0 len0 cap0, .int .i64 a1, .int .i64 a2] w fun e w' => e = .returned (.bool true) ∧ Below w.heap.size w w' := by
  obtain ⟨ns, hl, hn, hc, hw, hlc⟩ := row_open w0.1
  exact M.walk6 a0 ns len0 cap0 a1 a2 w hl hn hc hlc (by have := w0.2; omega) (bounds_i64 w1) (bounds_i64 w2)
end Go.Proofs.Ytfeibjokifidmaa
