/- merkle.Root and merkle.Narrow. -/
import Derived.Test.YtfeibjokifidmaaLevels
namespace Go.Proofs.Ytfeibjokifidmaa.M
open Go.RowKit

def mx (x y : Int) : Int := if y > x then y else x
theorem run_mx (ts : Array TypeId) (t : TypeId) (k : IntKind) (x y : Int) (w : World) : (Builtin.max_ ts t #[.int k x, .int k y]).run Try.prog w = .ok (.int k (mx x y)) w := by
  rw [run_max_int2]; rfl

/-- The levels of a tree, as they lie in memory. -/
def LevAt (ws : List W64) (T g : Nat) (w : World) : Prop :=
  g < w.heap.size ∧ ∀ i, i ≤ T → ∃ gi ci, gi < w.heap.size ∧ 1 ≤ (lvl ws i).length ∧ w.cell? ⟨g, i, none⟩ = some (.slice (some ⟨gi, 0, none⟩) (lvl ws i).length ci) ∧ ∀ j, j < (lvl ws i).length → w.cell? ⟨gi, j, none⟩ = some (.int .u64 (U (wd (lvl ws i) j)))
theorem LevAt.keep {ws : List W64} {T g : Nat} {w w' : World} (h : LevAt ws T g w) (hb : Below w.heap.size w w') : LevAt ws T g w' :=
  ⟨by have := h.1; have := hb.size; omega, fun i hi => by
    obtain ⟨gi, ci, h1, h2, h3, h4⟩ := h.2 i hi
    exact ⟨gi, ci, by have := hb.size; omega, h2, (hb.cell (p := ⟨g, i, none⟩) h.1).trans h3, fun j hj => (hb.cell (p := ⟨gi, j, none⟩) h1).trans (h4 j hj)⟩⟩
theorem us_at (l : List W64) (j : Nat) (h : j < l.length) : (us l)[j]? = some (.int .u64 (U (wd l j))) := by
  unfold us wd
  rw [List.getElem?_map, List.getElem?_eq_getElem h]
  rfl
/-- What levels says, opened. -/
def Tree (ws : List W64) (T : Nat) (w : World) (e : Ending) (w' : World) : Prop :=
  ∃ g cap, e = .returned (.slice (some ⟨g, 0, none⟩) (T + 1) cap) ∧ LevAt ws T g w' ∧ Below w.heap.size w w'
theorem tree_of {ws : List W64} {w w' : World} {e : Ending} {T : Nat} (h : Levels ws w e w') (h1 : 1 ≤ ws.length) (hT : tops ws.length = T) : Tree ws T w e w' := by
  obtain ⟨v, vs, rfl, ho, hr, hb⟩ := h
  rw [hT] at ho hr
  obtain ⟨g, cap, rfl, _, hg, _, _, _, hc, _⟩ := owns_open ho (by omega)
  refine ⟨g, cap, rfl, ⟨hg, fun i hi => ?_⟩, hb⟩
  have hlen : 1 ≤ (lvl ws i).length := by
    have hs := tops_spec ws.length ws rfl h1
    rcases Nat.lt_or_ge i T with h | h
    · have := hs.2 i (by omega); omega
    · obtain rfl : i = T := by omega
      rw [hT] at hs
      rw [hs.1]; exact Nat.le_refl _
  obtain ⟨vi, h1, h2, h3⟩ := hr.2 i (by omega)
  obtain ⟨gi, ci, rfl, _, hgi, _, _, _, hci, _⟩ := owns_open h2 hlen
  exact ⟨gi, ci, hgi, hlen, by rw [hc i (by omega)]; exact h1, fun j hj => by rw [hci j (by omega)]; exact us_at _ _ hj⟩

theorem levels_tree (ao : Option Addr) (n cap T : Nat) (ws : List W64) (w : World) (hl : ws.length = n) (hn : ao = none → n = 0 ∧ cap = 0)
    (hc : ∀ x, ao = some x → ∀ j u, (us ws)[j]? = some u → w.cell? (x.add j) = some u) (h1 : 1 ≤ n) (h2 : n ≤ 64) (hT : tops n = T) :
    Calls Try.prog 60 #[.slice ao n cap] w (Tree ws T w) :=
  (levels_any ao n cap ws w hl hn hc h1 h2).mono fun _ _ h => tree_of h (by omega) (by rw [hl]; exact hT)

/-- The root. -/
noncomputable def root (ws : List W64) : W64 := wd (lvl ws (tops ws.length)) 0

set_option maxRecDepth 4000 in
theorem root_any (ao : Option Addr) (n cap : Nat) (ws : List W64) (w : World) (hl : ws.length = n) (hn : ao = none → n = 0 ∧ cap = 0)
    (hc : ∀ x, ao = some x → ∀ j u, (us ws)[j]? = some u → w.cell? (x.add j) = some u) (h1 : 1 ≤ n) (h2 : n ≤ 64) :
    Calls Try.prog 33 #[.slice ao n cap] w fun e w' => e = .returned (.tuple #[.int .u64 (U (root ws)), .int .i64 0]) ∧ Below w.heap.size w w' := by
  obtain ⟨T, hT⟩ : ∃ T, tops n = T := ⟨_, rfl⟩
  have hr : root ws = wd (lvl ws T) 0 := by unfold root; rw [hl, hT]
  have HLT := fun W hW => levels_tree ao n cap T ws W hl hn hW h1 h2 hT
  rw [hr]
  have hT6 : T ≤ 6 := by rw [← hT]; exact tops_le n h2
  have HC := Lib.hid hc
  clear hr hT hn hc hl
  go_enter Try.func33, Try.ntmps33
  go_wp2_with fail
  refine (HLT _ HC.out).mono ?_
  rintro e w1 ⟨g, cp, rfl, hA, hB⟩
  obtain ⟨gi, ci, _, h3, h4, h5⟩ := hA.2 T (Nat.le_refl _)
  have h6 := h5 0 (by omega)
  obtain ⟨m, hm⟩ : ∃ m, (lvl ws T).length = m := ⟨_, rfl⟩
  rw [hm] at h3 h4
  clear h5 hm hA HLT HC
  go_wp2_with fail
  go_ret2
  exact ⟨rfl, hB⟩

/-- How many pairs of digests have been compared after r steps. -/
noncomputable def askd (ws : List W64) (i t : Nat) : Nat → Nat
  | 0 => 1
  | r + 1 => if 2 * (i / 2 ^ (t - r)) + 1 = (lvl ws (t - (r + 1))).length then askd ws i t r else askd ws i t r + 1
theorem askd_le (ws : List W64) (i t : Nat) : ∀ r, 1 ≤ askd ws i t r ∧ askd ws i t r ≤ r + 1
  | 0 => ⟨Nat.le_refl _, Nat.le_refl _⟩
  | r + 1 => by
    have := askd_le ws i t r
    unfold askd
    split <;> omega

theorem askd_succ {ws : List W64} {i t r q : Nat} (h : q + 1 + r = t) : askd ws i t (r + 1) = if 2 * (i / 2 ^ (q + 1)) + 1 = (lvl ws q).length then askd ws i t r else askd ws i t r + 1 := by
  show (if 2 * (i / 2 ^ (t - r)) + 1 = (lvl ws (t - (r + 1))).length then askd ws i t r else askd ws i t r + 1) = _
  rw [show t - r = q + 1 by omega, show t - (r + 1) = q by omega]
/-- The count that goes down: q, or -1. -/
def Down (v : Value) (kk : Nat) : Prop := (kk = 0 ∧ v = .int .i64 (-1)) ∨ ∃ q : Nat, kk = q + 1 ∧ v = .int .i64 q

theorem down_pred (q : Nat) : Down (.int .i64 ((q : Int) - 1)) q := by
  rcases q with _ | q
  · exact .inl ⟨rfl, rfl⟩
  · exact .inr ⟨q, rfl, by go_num⟩
attribute [local go_sem ↓] run_mx
/-- The same list's length twice. -/
theorem mx_self (x : Int) : mx x x = x := by unfold mx; rw [if_neg (by omega)]
attribute [local go_sem] mx_self

set_option maxRecDepth 8000 in
set_option maxHeartbeats 2000000 in
theorem narrow_any (ao bo : Option Addr) (n cap capb i : Nat) (xs ys : List W64) (w : World) (hd : Diff xs ys i) (hl : xs.length = n) (hn : ao = none → n = 0 ∧ cap = 0) (hm : bo = none → n = 0 ∧ capb = 0)
    (hc : ∀ x, ao = some x → ∀ j u, (us xs)[j]? = some u → w.cell? (x.add j) = some u) (hcb : ∀ x, bo = some x → ∀ j u, (us ys)[j]? = some u → w.cell? (x.add j) = some u) (h1 : 1 ≤ n) (h2 : n ≤ 64) :
    Calls Try.prog 32 #[.slice ao n cap, .slice bo n capb] w fun e w' => e = .returned (.tuple #[.int .i64 i, .int .i64 (askd xs i (tops n) (tops n))]) ∧ Below w.heap.size w w' := by
  obtain ⟨T, hT⟩ : ∃ T, tops n = T := ⟨_, rfl⟩
  have hT6 : T ≤ 6 := by rw [← hT]; exact tops_le n h2
  have hly : ys.length = n := by rw [← hd.len]; exact hl
  have htx : ∀ W v c, (v = none → n = 0 ∧ c = 0) → (∀ x, v = some x → ∀ j u, (us xs)[j]? = some u → W.cell? (x.add j) = some u) → Calls Try.prog 60 #[.slice v n c] W (Tree xs T W) := fun W v c hv hW => levels_tree v n c T xs W hl hv hW h1 h2 hT
  have hty : ∀ W v c, (v = none → n = 0 ∧ c = 0) → (∀ x, v = some x → ∀ j u, (us ys)[j]? = some u → W.cell? (x.add j) = some u) → Calls Try.prog 60 #[.slice v n c] W (Tree ys T W) := fun W v c hv hW => levels_tree v n c T ys W hly hv hW h1 h2 hT
  have hfx := filled_any ao bo n cap n capb (us xs) w (by rw [us_length]; exact hl) hn hc (us_one xs) (by omega) (Nat.le_refl _)
  have hfy := fun W hW => filled_any bo ao n capb n cap (us ys) W (by rw [us_length]; exact hly) hm hW (us_one ys) (by omega) (Nat.le_refl _)
  have hrt : ∀ k, k ≤ T → (lvl xs k).length = (lvl ys k).length := fun k _ => (Diff.lvl hd k).len
  have HTX := Lib.hid htx
  have HTY := Lib.hid hty
  have HFX := Lib.hid hfx
  have HFY := Lib.hid hfy
  have HCB := Lib.hid hcb
  have HD := Lib.hid hd
  have hlt : (lvl xs T).length = 1 := by rw [← hT]; exact (tops_spec n xs hl h1).1
  have HLT := Lib.hid hlt
  rw [hT]
  have hn0 : ((n : Int) == 0) = false := by simp; omega
  have HN := Lib.hid h1
  have HLX := Lib.hid hl
  clear hlt hT hly hd hn hm hc hcb hl hrt htx hty hfx hfy
  go_enter Try.func32, Try.ntmps32
  go_wp2_with fail
  refine HFX.out.mono ?_
  rintro e w1 ⟨v1, rfl, ho1, hb1⟩
  obtain ⟨a1, c1, rfl, hn1, hc1, _⟩ := owns_source ho1
  have H1 := Lib.hid (And.intro hn1 hc1)
  have HB1 := Lib.hid hb1
  clear ho1 hb1 hn1 hc1
  go_wp2_with fail
  refine (HTX.out _ _ _ H1.out.1 H1.out.2).mono ?_
  rintro e w2 ⟨g1, p1, rfl, hA1, hb2⟩
  have HA1 := Lib.hid hA1
  have HB2 := Lib.hid (HB1.out.trans (hb2.mono HB1.out.size))
  clear hA1 hb2 HB1 H1
  go_wp2_with fail
  refine (HFY.out _ (fun x hx j u hu => (HB2.out.cell (World.block_lt_of_cell? w _ (HCB.out x hx j u hu))).trans (HCB.out x hx j u hu))).mono ?_
  rintro e w3 ⟨v3, rfl, ho3, hb3⟩
  obtain ⟨a3, c3, rfl, hn3, hc3, _⟩ := owns_source ho3
  have H3 := Lib.hid (And.intro hn3 hc3)
  have HA1' := Lib.hid (HA1.out.keep hb3)
  have HB3 := Lib.hid (HB2.out.trans (hb3.mono HB2.out.size))
  clear ho3 hb3 hn3 hc3 HA1 HB2
  go_wp2_with fail
  refine (HTY.out _ _ _ H3.out.1 H3.out.2).mono ?_
  rintro e w4 ⟨g2, p2, rfl, hA2, hb4⟩
  have HA1 := Lib.hid (HA1'.out.keep hb4)
  have HA2 := Lib.hid hA2
  have HB4 := Lib.hid (HB3.out.trans (hb4.mono HB3.out.size))
  clear hA2 hb4 HB3 H3 HA1' HFX HTX HFY HTY HCB
  go_wp2_with fail
  obtain ⟨gx, cx, hgx, hlx, hcx, hwx⟩ := HA1.out.2 T (Nat.le_refl _)
  obtain ⟨gy, cy, hgy, hly, hcy, hwy⟩ := HA2.out.2 T (Nat.le_refl _)
  have hx0 := hwx 0 (by omega)
  have hy0 := hwy 0 (by omega)
  have hi0 : i / 2 ^ T = 0 := by
    have h := (Diff.lvl HD.out T).lt
    rw [HLT.out] at h; exact Nat.lt_one_iff.1 h
  have hne0 := (Diff.lvl HD.out T).ne
  rw [hi0] at hne0
  obtain ⟨mx1, hmx⟩ : ∃ m, (lvl xs T).length = m := ⟨_, rfl⟩
  obtain ⟨my1, hmy⟩ : ∃ m, (lvl ys T).length = m := ⟨_, rfl⟩
  rw [hmx] at hcx hlx
  rw [hmy] at hcy hly
  obtain ⟨x, hx⟩ : ∃ x, wd (lvl xs T) 0 = x := ⟨_, rfl⟩
  obtain ⟨y, hy⟩ : ∃ y, wd (lvl ys T) 0 = y := ⟨_, rfl⟩
  rw [hx] at hx0 hne0
  rw [hy] at hy0 hne0
  have hne : (U x == U y) = false := by
    rw [beq_eq_false_iff_ne]; exact fun h => hne0 (U_inj h)
  have hg1 := HA1.out.1
  have hg2 := HA2.out.1
  have HI0 := Lib.hid hi0
  have iT0 : (0 : Int) ≤ (T : Int) := Int.natCast_nonneg _
  have iT1 : (T : Int) < (T : Int) + 1 := by omega
  clear hwx hwy hmx hmy hx hy hi0 hne0
  refine region_grow (by kernel_rfl) (by kernel_rfl) ?_
  repeat (go_big_quiet_step (fail))
  refine wpQuiet_nil ?_
  intro _ hw'
  obtain ⟨kk, mm, rfl⟩ := hw'
  obtain ⟨W, hW⟩ : ∃ W, ext w4 kk mm = W := ⟨_, rfl⟩
  have HA3 := Lib.hid (HA1.out.keep (below_ext w4 kk mm))
  have HA4 := Lib.hid (HA2.out.keep (below_ext w4 kk mm))
  have HB5 := Lib.hid (HB4.out.trans ((below_ext w4 kk mm).mono HB4.out.size))
  rw [hW] at HA3 HA4 HB5 ⊢
  clear hW hx0 hy0 hcx hcy hgx hgy hg1 hg2 HA1 HA2 HB4
  go_wp2_with fail
  go_loopw [10, 11, 12] (fun v10 v11 v12 wr => ∃ r kk : Nat, kk + r = T ∧ v10 = .int .i64 ((i / 2 ^ kk : Nat) : Int) ∧ v11 = .int .i64 ((askd xs i T r : Nat) : Int) ∧ Down v12 kk ∧ LevAt xs T g1 wr ∧ LevAt ys T g2 wr ∧ Below w.heap.size w wr) (fun _ _ v _ => (intOf v + 1).toNat)
  case atStart =>
    refine ⟨0, T, by omega, by rw [HI0.out]; rfl, rfl, ?_, HA3.out, HA4.out, HB5.out⟩
    rcases T with _ | q
    · exact .inl ⟨rfl, rfl⟩
    · exact .inr ⟨q, rfl, by go_num⟩
  case round =>
    obtain ⟨r, kk, hkr, rfl, rfl, hdn, hA1, hA2, hB⟩ := hrel
    have HA1 := Lib.hid hA1
    have HA2 := Lib.hid hA2
    have HB := Lib.hid hB
    have hak := askd_le xs i T r
    obtain ⟨ak, hke⟩ : ∃ ak, askd xs i T r = ak := ⟨_, rfl⟩
    rw [hke] at hak
    have HKE := Lib.hid hke
    clear hA1 hA2 hB
    rcases hdn with ⟨hk0, rfl⟩ | ⟨q, hkq, rfl⟩
    · subst hk0
      obtain rfl : r = T := by omega
      rw [hke]
      clear hke
      go_wp2_with fail
      go_ret2
      refine ⟨?_, HB.out⟩
      rw [HKE.out]
      simp
    · subst hkq
      obtain ⟨A, hA⟩ : ∃ A, i / 2 ^ (q + 1) = A := ⟨_, rfl⟩
      obtain ⟨gx, cx, hgx, hlx, hcx, hwx⟩ := HA1.out.2 q (by omega)
      obtain ⟨gy, cy, hgy, hly, hcy, hwy⟩ := HA2.out.2 q (by omega)
      have hlxy := (Diff.lvl HD.out q).len
      have hna := Diff.narrow HD.out q (2 * A) (by rw [hA])
      have hal : A ≤ 64 := by
        have h := (Diff.lvl HD.out (q + 1)).lt
        rw [hA] at h
        have := lvl_le xs (q + 1)
        rw [HLX.out] at this
        omega
      rw [← hlxy] at hcy hly hwy
      have hml := lvl_le xs q
      rw [HLX.out] at hml
      obtain ⟨m, hm⟩ : ∃ m, (lvl xs q).length = m := ⟨_, rfl⟩
      rw [hm] at hcx hcy hlx hly hwx hwy hna hml
      rw [hke, hA]
      have HM := Lib.hid hm
      have HNA := Lib.hid hna
      have HA := Lib.hid hA
      have hg1 := HA1.out.1
      have hg2 := HA2.out.1
      have iq0 : (0 : Int) ≤ (q : Int) := Int.natCast_nonneg _
      have iq1 : (q : Int) < (T : Int) + 1 := by omega
      clear hke hA hm hna hlxy
      by_cases hs : 2 * A + 1 = m
      · have hs' : ((A : Int) * 2 + 1 == (m : Int)) = true := by rw [beq_iff_eq]; omega
        clear hwx hwy
        go_wp2_with fail
        go_roundw
        case rel =>
          refine ⟨r + 1, q, by omega, ?_, ?_, down_pred q, HA1.out, HA2.out, HB.out⟩
          · rw [HNA.out.1 hs]; go_num
          · rw [askd_succ hkr, HA.out, HM.out, if_pos hs, HKE.out]
        case measure => simp [intOf]
      · have hs' : ((A : Int) * 2 + 1 == (m : Int)) = false := by rw [beq_eq_false_iff_ne]; omega
        have hlt := HNA.out.2.1 hs
        have hx0 := hwx (A * 2) (by omega)
        have hy0 := hwy (A * 2) (by omega)
        obtain ⟨x, hx⟩ : ∃ x, wd (lvl xs q) (A * 2) = x := ⟨_, rfl⟩
        obtain ⟨y, hy⟩ : ∃ y, wd (lvl ys q) (A * 2) = y := ⟨_, rfl⟩
        obtain ⟨a, ha⟩ : ∃ a, A * 2 = a := ⟨_, rfl⟩
        rw [hx] at hx0
        rw [hy] at hy0
        rw [ha] at hx0 hy0
        have hai : (A : Int) * 2 = (a : Int) := by omega
        have hal2 : a ≤ 128 := by omega
        have ha1 : a + 1 < m := by omega
        have hn3 : x = y → i / 2 ^ q = a + 1 := fun e => by rw [← ha, Nat.mul_comm A 2]; exact HNA.out.2.2.1 (by rw [Nat.mul_comm 2 A, hx, hy, e])
        have hn4 : x ≠ y → i / 2 ^ q = a := fun e => by rw [← ha, Nat.mul_comm A 2]; exact HNA.out.2.2.2 (by rw [Nat.mul_comm 2 A, hx, hy]; exact e)
        have hask : askd xs i T (r + 1) = ak + 1 := by rw [askd_succ hkr, HA.out, HM.out, if_neg hs, HKE.out]
        have HN3 := Lib.hid hn3
        have HN4 := Lib.hid hn4
        have HASK := Lib.hid hask
        have ia0 : (0 : Int) ≤ (a : Int) := Int.natCast_nonneg _
        have ia1 : (a : Int) < (m : Int) := by omega
        clear hwx hwy hx hy ha hn3 hn4 hask hlt hs
        go_wp2_with fail
        by_cases hxy : x = y
        · have hxe : (U x == U y) = true := by rw [beq_iff_eq, hxy]
          have HXY := Lib.hid hxy
          clear hxy
          refine region_grow (by kernel_rfl) (by kernel_rfl) ?_
          repeat (go_big_quiet_step (fail))
          refine wpQuiet_nil ?_
          intro _ hw'
          obtain ⟨kk, mm, rfl⟩ := hw'
          go_wp2_with fail
          go_roundw
          case rel =>
            refine ⟨r + 1, q, by omega, ?_, by rw [HASK.out]; go_num, down_pred q, HA1.out.keep (below_ext wr _ _), HA2.out.keep (below_ext wr _ _), HB.out.trans ((below_ext wr _ _).mono HB.out.size)⟩
            rw [HN3.out HXY.out]; go_num
          case measure => simp [intOf]
        · have hxe : (U x == U y) = false := by rw [beq_eq_false_iff_ne]; exact fun h => hxy (U_inj h)
          have HXY := Lib.hid hxy
          clear hxy
          refine region_grow (by kernel_rfl) (by kernel_rfl) ?_
          repeat (go_big_quiet_step (fail))
          refine wpQuiet_nil ?_
          intro _ hw'
          obtain ⟨kk, mm, rfl⟩ := hw'
          go_wp2_with fail
          go_roundw
          case rel =>
            refine ⟨r + 1, q, by omega, ?_, by rw [HASK.out]; go_num, down_pred q, HA1.out.keep (below_ext wr _ _), HA2.out.keep (below_ext wr _ _), HB.out.trans ((below_ext wr _ _).mono HB.out.size)⟩
            rw [HN4.out HXY.out]
          case measure => simp [intOf]
set_option maxRecDepth 8000 in
set_option maxHeartbeats 2000000 in
theorem narrow_same (ao : Option Addr) (n cap : Nat) (xs : List W64) (w : World) (hl : xs.length = n) (hn : ao = none → n = 0 ∧ cap = 0)
    (hc : ∀ x, ao = some x → ∀ j u, (us xs)[j]? = some u → w.cell? (x.add j) = some u) (h1 : 1 ≤ n) (h2 : n ≤ 64) :
    Calls Try.prog 32 #[.slice ao n cap, .slice ao n cap] w fun e w' => e = .returned (.tuple #[.int .i64 (-1), .int .i64 1]) ∧ Below w.heap.size w w' := by
  obtain ⟨T, hT⟩ : ∃ T, tops n = T := ⟨_, rfl⟩
  have hT6 : T ≤ 6 := by rw [← hT]; exact tops_le n h2
  have htx : ∀ W v c, (v = none → n = 0 ∧ c = 0) → (∀ x, v = some x → ∀ j u, (us xs)[j]? = some u → W.cell? (x.add j) = some u) → Calls Try.prog 60 #[.slice v n c] W (Tree xs T W) := fun W v c hv hW => levels_tree v n c T xs W hl hv hW h1 h2 hT
  have hfx := fun W hW => filled_any ao ao n cap n cap (us xs) W (by rw [us_length]; exact hl) hn hW (us_one xs) (by omega) (Nat.le_refl _)
  have HTX := Lib.hid htx
  have HFX := Lib.hid hfx
  have HCB := Lib.hid hc
  have hn0 : ((n : Int) == 0) = false := by simp; omega
  clear hT hn hc hl htx hfx
  go_enter Try.func32, Try.ntmps32
  go_wp2_with fail
  refine (HFX.out _ HCB.out).mono ?_
  rintro e w1 ⟨v1, rfl, ho1, hb1⟩
  obtain ⟨a1, c1, rfl, hn1, hc1, _⟩ := owns_source ho1
  have H1 := Lib.hid (And.intro hn1 hc1)
  have HB1 := Lib.hid hb1
  clear ho1 hb1 hn1 hc1
  go_wp2_with fail
  refine (HTX.out _ _ _ H1.out.1 H1.out.2).mono ?_
  rintro e w2 ⟨g1, p1, rfl, hA1, hb2⟩
  have HA1 := Lib.hid hA1
  have HB2 := Lib.hid (HB1.out.trans (hb2.mono HB1.out.size))
  clear hA1 hb2 HB1 H1
  go_wp2_with fail
  refine (HFX.out _ (fun x hx j u hu => (HB2.out.cell (World.block_lt_of_cell? w _ (HCB.out x hx j u hu))).trans (HCB.out x hx j u hu))).mono ?_
  rintro e w3 ⟨v3, rfl, ho3, hb3⟩
  obtain ⟨a3, c3, rfl, hn3, hc3, _⟩ := owns_source ho3
  have H3 := Lib.hid (And.intro hn3 hc3)
  have HA1' := Lib.hid (HA1.out.keep hb3)
  have HB3 := Lib.hid (HB2.out.trans (hb3.mono HB2.out.size))
  clear ho3 hb3 hn3 hc3 HA1 HB2
  go_wp2_with fail
  refine (HTX.out _ _ _ H3.out.1 H3.out.2).mono ?_
  rintro e w4 ⟨g2, p2, rfl, hA2, hb4⟩
  have HA1 := Lib.hid (HA1'.out.keep hb4)
  have HA2 := Lib.hid hA2
  have HB4 := Lib.hid (HB3.out.trans (hb4.mono HB3.out.size))
  clear hA2 hb4 HB3 H3 HA1' HFX HTX HCB
  go_wp2_with fail
  obtain ⟨gx, cx, hgx, hlx, hcx, hwx⟩ := HA1.out.2 T (Nat.le_refl _)
  obtain ⟨gy, cy, hgy, hly, hcy, hwy⟩ := HA2.out.2 T (Nat.le_refl _)
  have hx0 := hwx 0 (by omega)
  have hy0 := hwy 0 (by omega)
  obtain ⟨mx1, hmx⟩ : ∃ m, (lvl xs T).length = m := ⟨_, rfl⟩
  rw [hmx] at hcx hlx hcy hly
  obtain ⟨x, hx⟩ : ∃ x, wd (lvl xs T) 0 = x := ⟨_, rfl⟩
  rw [hx] at hx0 hy0
  have hg1 := HA1.out.1
  have hg2 := HA2.out.1
  have iT0 : (0 : Int) ≤ (T : Int) := Int.natCast_nonneg _
  have iT1 : (T : Int) < (T : Int) + 1 := by omega
  clear hwx hwy hmx hx
  refine region_grow (by kernel_rfl) (by kernel_rfl) ?_
  repeat (go_big_quiet_step (fail))
  refine wpQuiet_nil ?_
  intro _ hw'
  obtain ⟨kk, mm, rfl⟩ := hw'
  have HB5 := Lib.hid (HB4.out.trans ((below_ext w4 kk mm).mono HB4.out.size))
  go_wp2_with fail
  go_ret2
  exact ⟨rfl, HB5.out⟩

end Go.Proofs.Ytfeibjokifidmaa.M
