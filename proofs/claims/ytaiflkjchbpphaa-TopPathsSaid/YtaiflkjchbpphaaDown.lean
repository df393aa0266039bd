/- container/heap.down over flow.fars. -/
import Derived.Test.YtaiflkjchbpphaaHp
namespace Go.Proofs.Ytaiflkjchbpphaa
open Go.RowKit

theorem at_app (K : List Itm) (x : Itm) (i : Nat) (h : i < K.length) : at' (K ++ [x]) i = at' K i := by
  unfold at'; rw [List.getElem?_append_left h]
theorem swap_app (K : List Itm) (x : Itm) (i k : Nat) (hi : i < K.length) (hk : k < K.length) : swap (K ++ [x]) i k = swap K i k ++ [x] := by
  unfold swap
  rw [at_app _ _ _ hi, at_app _ _ _ hk, List.set_append_left _ _ hi, List.set_append_left _ _ (by rw [List.length_set]; exact hk)]

set_option maxRecDepth 8000 in
set_option maxHeartbeats 8000000 in
theorem down_any (B p z n : Nat) (J : List Itm) (x : Itm) (w : World) (h : Hp B p z (J ++ [x]) w) (hn : J.length = n) (hl : n ≤ 4096) (hD : Down J 0) :
    Calls Try.prog 48 #[.iface 69 (.pointer (some ⟨p, 0, none⟩)), .int .i64 0, .int .i64 n] w fun e w' => (∃ v, e = .returned v) ∧ Hid (∃ K, Hp B p z (K ++ [x]) w' ∧ Heap K ∧ K.Perm J) ∧ Bz B z w w' := by
  have HH := Lib.hid h
  have HN := Lib.hid hn
  have HD := Lib.hid hD
  clear h hn hD
  go_enter Try.func48, Try.ntmps48
  go_wp2_with fail
  go_loopw [7] (fun v7 wr => ∃ (k : Nat) (K : List Itm), v7 = .int .i64 k ∧ k ≤ n ∧ Hid (Hp B p z (K ++ [x]) wr ∧ Down K k ∧ K.Perm J ∧ K.length = n ∧ Bz B z w wr)) (fun v7 _ => n - (intOf v7).toNat)
  case atStart => exact ⟨0, J, rfl, Nat.zero_le _, HH.out, HD.out, List.Perm.refl _, HN.out, Bz.refl _ _ _⟩
  case round =>
    obtain ⟨k, K, rfl, hk, hK⟩ := hrel
    have hlen : (K ++ [x]).length = n + 1 := by rw [List.length_append, hK.out.2.2.2.1]; rfl
    obtain ⟨c1, hc1⟩ : ∃ c : Nat, 2 * (k : Int) + 1 = (c : Int) := ⟨2 * k + 1, by omega⟩
    obtain ⟨c2, hc2⟩ : ∃ c : Nat, (c1 : Int) + 1 = (c : Int) := ⟨c1 + 1, by omega⟩
    have i1 : ¬ (c1 : Int) < 0 := by omega
    by_cases h0 : n ≤ c1
    · have i0 : ¬ (c1 : Int) < n := by omega
      go_wp2_with fail
      exact bodyPost_ret (v := .bool (decide (0 < k))) (by simp [results, Try.results48, go_sem]) rfl ⟨⟨_, rfl⟩, ⟨K, hK.out.1, hK.out.2.1.done (fun j h1 h2 h3 => by rw [hK.out.2.2.2.1] at h2; omega), hK.out.2.2.1⟩, hK.out.2.2.2.2⟩
    · have i0 : (c1 : Int) < n := by omega
      by_cases h1 : n ≤ c2
      · have i2 : ¬ (c2 : Int) < n := by omega
        have HW : Hid (Hp B p z (K ++ [x]) wr ∧ Bz B z w wr) := ⟨hK.out.1, hK.out.2.2.2.2⟩
        have HS : Hid (∀ j, 1 ≤ j → j < n → (j - 1) / 2 = k → Le (at' K c1) (at' K j)) := fun j a1 a2 a3 => by
          obtain rfl : j = c1 := by omega
          exact Le_refl _
        obtain ⟨g, cap, c0, _, hgp, hgz, hBg, hgl, hcap, hcell, hfr⟩ := HW.out.1.open (by simp)
        rw [hlen] at c0 hcap
        obtain ⟨x0, x1⟩ := hcell (c1) (by rw [hlen]; omega)
        obtain ⟨y0, y1⟩ := hcell k (by rw [hlen]; omega)
        have ex := at_app K x (c1) (by rw [hK.out.2.2.2.1]; omega)
        have ey := at_app K x k (by rw [hK.out.2.2.2.1]; omega)
        rw [ex] at x0 x1
        rw [ey] at y0 y1
        have m1 := meth_Less p (.slice (some ⟨g, 0, none⟩) (n + 1) cap)
        have m2 := meth_Swap p (.slice (some ⟨g, 0, none⟩) (n + 1) cap)
        obtain ⟨A, hA⟩ : ∃ A, at' K k = A := ⟨_, rfl⟩
        obtain ⟨D, hD⟩ : ∃ D, at' K (c1) = D := ⟨_, rfl⟩
        rw [hA] at y0 y1
        rw [hD] at x0 x1
        obtain ⟨bb, hbb⟩ : ∃ bb, bef D A = bb := ⟨_, rfl⟩
        have HBB := Lib.hid hbb
        have hless := less_any g (c1) k (n + 1) cap D A wr (by omega) (by omega) x0 x1 y0 y1 hgl
        rw [hbb] at hless
        have hpl := HW.out.1.sz
        have hBp := HW.out.1.hB
        have hzl := HW.out.1.zl
        have HC := Lib.hid (And.intro c0 (And.intro hcell hfr))
        clear hcell hbb hfr
        cases bb with
        | false =>
          go_wp2_with (go_at_call 75; (with_reducible refine hless.mono ?_); rintro e wz ⟨rfl, hb⟩; have HZ := Lib.hid hb; clear hb)
          have hle : Le (at' K k) (at' K (c1)) := by rw [hA, hD]; exact HBB.out
          refine bodyPost_ret (v := .bool (decide (0 < k))) (by simp [results, Try.results48, go_sem]) rfl ⟨⟨_, rfl⟩, ⟨K, HW.out.1.below HZ.out, hK.out.2.1.done (fun j h1 h2 h3 => Le_trans hle (HS.out j h1 (by rw [← hK.out.2.2.2.1]; exact h2) h3)), hK.out.2.2.1⟩, HW.out.2.on HZ.out (by omega) hzl⟩
        | true =>
          go_wp2_with (go_at_call 75; (with_reducible refine hless.mono ?_); rintro e wz ⟨rfl, hb⟩; have cz := (hb.cell (p := ⟨p, 0, none⟩) hpl).trans c0; have HZ := Lib.hid hb; clear hb)
          refine (swap_any g k (c1) (n + 1) cap A D wz (by omega) (by omega) (by omega) ((HZ.out.cell (p := ⟨g, k * 2, none⟩) hgl).trans y0) ((HZ.out.cell (p := ⟨g, k * 2 + 1, none⟩) hgl).trans y1) ((HZ.out.cell (p := ⟨g, (c1) * 2, none⟩) hgl).trans x0) ((HZ.out.cell (p := ⟨g, (c1) * 2 + 1, none⟩) hgl).trans x1) (fun j => (HZ.out.frozen (p := ⟨g, j, none⟩) hgl).trans (HC.out.2.2 j))).mono ?_
          rintro e wy ⟨rfl, rfl⟩
          have hkl : k < K.length := by rw [hK.out.2.2.2.1]; omega
          have hcl : c1 < K.length := by rw [hK.out.2.2.2.1]; omega
          have hSw := (HW.out.1.below HZ.out).swap (i := k) (k := c1) (by rw [hlen]; exact cz) (fun e => hgp e.symm) (by rw [hlen]; omega) (by rw [hlen]; omega)
          rw [ex, ey, hA, hD, swap_app _ _ _ _ hkl hcl] at hSw
          have HN : Hid (Hp B p z (swap K k (c1) ++ [x]) (swapW wz g k (c1) A D).drew ∧ Down (swap K k (c1)) (c1) ∧ (swap K k (c1)).Perm J ∧ (swap K k (c1)).length = n ∧ Bz B z w (swapW wz g k (c1) A D).drew) :=
            ⟨hSw.drew, hK.out.2.1.step hkl hcl (by omega) (by omega) (by rw [hA, hD]; exact Le_of_bef HBB.out) (fun j h1 h2 h3 => HS.out j h1 (by rw [← hK.out.2.2.2.1]; exact h2) h3), (swap_perm K k (c1) hkl hcl).trans hK.out.2.2.1, by rw [swap_length]; exact hK.out.2.2.2.1, (swapW_bz hBg hgz (HW.out.2.on HZ.out (by omega) hzl) k (c1) A D).drew⟩
          clear m1 m2 c0 x0 x1 y0 y1 hSw hless cz
          go_wp2_with fail
          go_roundw
          case rel => exact ⟨c1, _, rfl, by omega, HN.out⟩
          case measure => simp [intOf] <;> omega
      · have i2 : (c2 : Int) < n := by omega
        obtain ⟨g', cap', c0', _, hgp', hgz', hBg', hgl', hcap', hcell', hfr'⟩ := hK.out.1.open (by simp)
        rw [hlen] at c0' hcap'
        obtain ⟨u0, u1⟩ := hcell' c2 (by rw [hlen]; omega)
        obtain ⟨v0, v1⟩ := hcell' c1 (by rw [hlen]; omega)
        rw [at_app K x c2 (by rw [hK.out.2.2.2.1]; omega)] at u0 u1
        rw [at_app K x c1 (by rw [hK.out.2.2.2.1]; omega)] at v0 v1
        have m0 := meth_Less p (.slice (some ⟨g', 0, none⟩) (n + 1) cap')
        obtain ⟨bc, hbc⟩ : ∃ bc, bef (at' K c2) (at' K c1) = bc := ⟨_, rfl⟩
        have HBC := Lib.hid hbc
        have hle0 := less_any g' c2 c1 (n + 1) cap' _ _ wr (by omega) (by omega) u0 u1 v0 v1 hgl'
        rw [hbc] at hle0
        have hpl' := hK.out.1.sz
        have hBp' := hK.out.1.hB
        have hzl' := hK.out.1.zl
        clear hcell' hbc hfr' u0 u1 v0 v1
        cases bc with
        | false =>
          go_wp2_with (go_at_call 75; (with_reducible refine hle0.mono ?_); rintro e wx ⟨rfl, hb⟩; have cx := (hb.cell (p := ⟨p, 0, none⟩) hpl').trans c0'; have HX := Lib.hid hb; clear hb)
          have HW : Hid (Hp B p z (K ++ [x]) wx ∧ Bz B z w wx) := ⟨hK.out.1.below HX.out, hK.out.2.2.2.2.on HX.out (by omega) hzl'⟩
          have HS : Hid (∀ j, 1 ≤ j → j < n → (j - 1) / 2 = k → Le (at' K c1) (at' K j)) := fun j a1 a2 a3 => by
            by_cases hj : j = c1
            · rw [hj]; exact Le_refl _
            · obtain rfl : j = c2 := by omega
              exact HBC.out
          clear c0' hle0
          obtain ⟨g, cap, c0, _, hgp, hgz, hBg, hgl, hcap, hcell, hfr⟩ := HW.out.1.open (by simp)
          rw [hlen] at c0 hcap
          have hgg := Option.some.inj (cx.symm.trans c0)
          injection hgg with e1 e2 e3
          injection e1 with e1
          injection e1 with e1
          have e1 := e1.symm
          have e3 := e3.symm
          subst e1 e3
          obtain ⟨x0, x1⟩ := hcell (c1) (by rw [hlen]; omega)
          obtain ⟨y0, y1⟩ := hcell k (by rw [hlen]; omega)
          have ex := at_app K x (c1) (by rw [hK.out.2.2.2.1]; omega)
          have ey := at_app K x k (by rw [hK.out.2.2.2.1]; omega)
          rw [ex] at x0 x1
          rw [ey] at y0 y1
          have m1 := meth_Less p (.slice (some ⟨g, 0, none⟩) (n + 1) cap)
          have m2 := meth_Swap p (.slice (some ⟨g, 0, none⟩) (n + 1) cap)
          obtain ⟨A, hA⟩ : ∃ A, at' K k = A := ⟨_, rfl⟩
          obtain ⟨D, hD⟩ : ∃ D, at' K (c1) = D := ⟨_, rfl⟩
          rw [hA] at y0 y1
          rw [hD] at x0 x1
          obtain ⟨bb, hbb⟩ : ∃ bb, bef D A = bb := ⟨_, rfl⟩
          have HBB := Lib.hid hbb
          have hless := less_any g (c1) k (n + 1) cap D A wx (by omega) (by omega) x0 x1 y0 y1 hgl
          rw [hbb] at hless
          have hpl := HW.out.1.sz
          have hBp := HW.out.1.hB
          have hzl := HW.out.1.zl
          have HC := Lib.hid (And.intro c0 (And.intro hcell hfr))
          clear hcell hbb hfr
          cases bb with
          | false =>
            refine hless.mono ?_
            rintro e wz ⟨rfl, hb⟩
            have HZ := Lib.hid hb
            clear hb
            go_wp2_with fail
            have hle : Le (at' K k) (at' K (c1)) := by rw [hA, hD]; exact HBB.out
            refine bodyPost_ret (v := .bool (decide (0 < k))) (by simp [results, Try.results48, go_sem]) rfl ⟨⟨_, rfl⟩, ⟨K, HW.out.1.below HZ.out, hK.out.2.1.done (fun j h1 h2 h3 => Le_trans hle (HS.out j h1 (by rw [← hK.out.2.2.2.1]; exact h2) h3)), hK.out.2.2.1⟩, HW.out.2.on HZ.out (by omega) hzl⟩
          | true =>
            refine hless.mono ?_
            rintro e wz ⟨rfl, hb⟩
            have cz := (hb.cell (p := ⟨p, 0, none⟩) hpl).trans c0
            have HZ := Lib.hid hb
            clear hb
            go_wp2_with fail
            refine (swap_any g k (c1) (n + 1) cap A D wz (by omega) (by omega) (by omega) ((HZ.out.cell (p := ⟨g, k * 2, none⟩) hgl).trans y0) ((HZ.out.cell (p := ⟨g, k * 2 + 1, none⟩) hgl).trans y1) ((HZ.out.cell (p := ⟨g, (c1) * 2, none⟩) hgl).trans x0) ((HZ.out.cell (p := ⟨g, (c1) * 2 + 1, none⟩) hgl).trans x1) (fun j => (HZ.out.frozen (p := ⟨g, j, none⟩) hgl).trans (HC.out.2.2 j))).mono ?_
            rintro e wy ⟨rfl, rfl⟩
            have hkl : k < K.length := by rw [hK.out.2.2.2.1]; omega
            have hcl : c1 < K.length := by rw [hK.out.2.2.2.1]; omega
            have hSw := (HW.out.1.below HZ.out).swap (i := k) (k := c1) (by rw [hlen]; exact cz) (fun e => hgp e.symm) (by rw [hlen]; omega) (by rw [hlen]; omega)
            rw [ex, ey, hA, hD, swap_app _ _ _ _ hkl hcl] at hSw
            have HN : Hid (Hp B p z (swap K k (c1) ++ [x]) (swapW wz g k (c1) A D).drew ∧ Down (swap K k (c1)) (c1) ∧ (swap K k (c1)).Perm J ∧ (swap K k (c1)).length = n ∧ Bz B z w (swapW wz g k (c1) A D).drew) :=
              ⟨hSw.drew, hK.out.2.1.step hkl hcl (by omega) (by omega) (by rw [hA, hD]; exact Le_of_bef HBB.out) (fun j h1 h2 h3 => HS.out j h1 (by rw [← hK.out.2.2.2.1]; exact h2) h3), (swap_perm K k (c1) hkl hcl).trans hK.out.2.2.1, by rw [swap_length]; exact hK.out.2.2.2.1, (swapW_bz hBg hgz (HW.out.2.on HZ.out (by omega) hzl) k (c1) A D).drew⟩
            clear m1 m2 c0 x0 x1 y0 y1 hSw hless cz
            clear m0 cx
            go_wp2_with fail
            go_roundw
            case rel => exact ⟨c1, _, rfl, by omega, HN.out⟩
            case measure => simp [intOf] <;> omega
        | true =>
          go_wp2_with (go_at_call 75; (with_reducible refine hle0.mono ?_); rintro e wx ⟨rfl, hb⟩; have cx := (hb.cell (p := ⟨p, 0, none⟩) hpl').trans c0'; have HX := Lib.hid hb; clear hb)
          have HW : Hid (Hp B p z (K ++ [x]) wx ∧ Bz B z w wx) := ⟨hK.out.1.below HX.out, hK.out.2.2.2.2.on HX.out (by omega) hzl'⟩
          have HS : Hid (∀ j, 1 ≤ j → j < n → (j - 1) / 2 = k → Le (at' K c2) (at' K j)) := fun j a1 a2 a3 => by
            by_cases hj : j = c2
            · rw [hj]; exact Le_refl _
            · obtain rfl : j = c1 := by omega
              exact Le_of_bef HBC.out
          clear c0' hle0
          obtain ⟨g, cap, c0, _, hgp, hgz, hBg, hgl, hcap, hcell, hfr⟩ := HW.out.1.open (by simp)
          rw [hlen] at c0 hcap
          have hgg := Option.some.inj (cx.symm.trans c0)
          injection hgg with e1 e2 e3
          injection e1 with e1
          injection e1 with e1
          have e1 := e1.symm
          have e3 := e3.symm
          subst e1 e3
          obtain ⟨x0, x1⟩ := hcell (c2) (by rw [hlen]; omega)
          obtain ⟨y0, y1⟩ := hcell k (by rw [hlen]; omega)
          have ex := at_app K x (c2) (by rw [hK.out.2.2.2.1]; omega)
          have ey := at_app K x k (by rw [hK.out.2.2.2.1]; omega)
          rw [ex] at x0 x1
          rw [ey] at y0 y1
          have m1 := meth_Less p (.slice (some ⟨g, 0, none⟩) (n + 1) cap)
          have m2 := meth_Swap p (.slice (some ⟨g, 0, none⟩) (n + 1) cap)
          obtain ⟨A, hA⟩ : ∃ A, at' K k = A := ⟨_, rfl⟩
          obtain ⟨D, hD⟩ : ∃ D, at' K (c2) = D := ⟨_, rfl⟩
          rw [hA] at y0 y1
          rw [hD] at x0 x1
          obtain ⟨bb, hbb⟩ : ∃ bb, bef D A = bb := ⟨_, rfl⟩
          have HBB := Lib.hid hbb
          have hless := less_any g (c2) k (n + 1) cap D A wx (by omega) (by omega) x0 x1 y0 y1 hgl
          rw [hbb] at hless
          have hpl := HW.out.1.sz
          have hBp := HW.out.1.hB
          have hzl := HW.out.1.zl
          have HC := Lib.hid (And.intro c0 (And.intro hcell hfr))
          clear hcell hbb hfr
          cases bb with
          | false =>
            refine hless.mono ?_
            rintro e wz ⟨rfl, hb⟩
            have HZ := Lib.hid hb
            clear hb
            go_wp2_with fail
            have hle : Le (at' K k) (at' K (c2)) := by rw [hA, hD]; exact HBB.out
            refine bodyPost_ret (v := .bool (decide (0 < k))) (by simp [results, Try.results48, go_sem]) rfl ⟨⟨_, rfl⟩, ⟨K, HW.out.1.below HZ.out, hK.out.2.1.done (fun j h1 h2 h3 => Le_trans hle (HS.out j h1 (by rw [← hK.out.2.2.2.1]; exact h2) h3)), hK.out.2.2.1⟩, HW.out.2.on HZ.out (by omega) hzl⟩
          | true =>
            refine hless.mono ?_
            rintro e wz ⟨rfl, hb⟩
            have cz := (hb.cell (p := ⟨p, 0, none⟩) hpl).trans c0
            have HZ := Lib.hid hb
            clear hb
            go_wp2_with fail
            refine (swap_any g k (c2) (n + 1) cap A D wz (by omega) (by omega) (by omega) ((HZ.out.cell (p := ⟨g, k * 2, none⟩) hgl).trans y0) ((HZ.out.cell (p := ⟨g, k * 2 + 1, none⟩) hgl).trans y1) ((HZ.out.cell (p := ⟨g, (c2) * 2, none⟩) hgl).trans x0) ((HZ.out.cell (p := ⟨g, (c2) * 2 + 1, none⟩) hgl).trans x1) (fun j => (HZ.out.frozen (p := ⟨g, j, none⟩) hgl).trans (HC.out.2.2 j))).mono ?_
            rintro e wy ⟨rfl, rfl⟩
            have hkl : k < K.length := by rw [hK.out.2.2.2.1]; omega
            have hcl : c2 < K.length := by rw [hK.out.2.2.2.1]; omega
            have hSw := (HW.out.1.below HZ.out).swap (i := k) (k := c2) (by rw [hlen]; exact cz) (fun e => hgp e.symm) (by rw [hlen]; omega) (by rw [hlen]; omega)
            rw [ex, ey, hA, hD, swap_app _ _ _ _ hkl hcl] at hSw
            have HN : Hid (Hp B p z (swap K k (c2) ++ [x]) (swapW wz g k (c2) A D).drew ∧ Down (swap K k (c2)) (c2) ∧ (swap K k (c2)).Perm J ∧ (swap K k (c2)).length = n ∧ Bz B z w (swapW wz g k (c2) A D).drew) :=
              ⟨hSw.drew, hK.out.2.1.step hkl hcl (by omega) (by omega) (by rw [hA, hD]; exact Le_of_bef HBB.out) (fun j h1 h2 h3 => HS.out j h1 (by rw [← hK.out.2.2.2.1]; exact h2) h3), (swap_perm K k (c2) hkl hcl).trans hK.out.2.2.1, by rw [swap_length]; exact hK.out.2.2.2.1, (swapW_bz hBg hgz (HW.out.2.on HZ.out (by omega) hzl) k (c2) A D).drew⟩
            clear m1 m2 c0 x0 x1 y0 y1 hSw hless cz
            clear m0 cx
            go_wp2_with fail
            go_roundw
            case rel => exact ⟨c2, _, rfl, by omega, HN.out⟩
            case measure => simp [intOf] <;> omega
end Go.Proofs.Ytaiflkjchbpphaa
