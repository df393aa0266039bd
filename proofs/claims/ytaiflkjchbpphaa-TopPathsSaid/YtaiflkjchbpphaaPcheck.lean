/- poly.Check. -/
import Derived.Test.YtaiflkjchbpphaaPoly
namespace Go.Proofs.Ytaiflkjchbpphaa
open Go.RowKit

theorem contains_any (g n cap : Nat) (X Y : Nat → Int) (w : World) (h : Pts w g n X Y) (hg : g < w.heap.size) (hn : n ≤ 64) (hb : ∀ k, k < n → (-65536000 ≤ X k ∧ X k ≤ 65536000) ∧ (-65536000 ≤ Y k ∧ Y k ≤ 65536000)) :
    Calls Try.prog 51 #[.slice (some ⟨g, 0, none⟩) n cap, .func (.func 52) #[] #[]] w fun e w' => e = .returned (.bool false) ∧ Below w.heap.size w w' := by
  have hc := fun w' (h' : Below w.heap.size w w') => idx_any g n cap X Y w' (fun k hk => ⟨(h'.cell (p := ⟨g, k * 2, none⟩) hg).trans (h k hk).1, (h'.cell (p := ⟨g, k * 2 + 1, none⟩) hg).trans (h k hk).2⟩) (Nat.lt_of_lt_of_le hg h'.size) hn hb
  clear h hb
  go_enter Try.func51, Try.ntmps51
  go_wp2_with (go_at_call 58; (with_reducible refine (hc _ (Below.refl _ _)).mono ?_); rintro e w1 ⟨rfl, hb⟩; have HB := Lib.hid hb; clear hb)
  go_ret
  exact ⟨rfl, HB.out⟩

set_option maxHeartbeats 2000000 in
theorem pcheck_any (g n cap : Nat) (X Y : Nat → Int) (w : World) (h : Pts w g n X Y) (hg : g < w.heap.size) (hn3 : 3 ≤ n) (hn8 : n ≤ 8) (hb : ∀ k, k < n → (-65536000 ≤ X k ∧ X k ≤ 65536000) ∧ (-65536000 ≤ Y k ∧ Y k ≤ 65536000))
    (hs : ∀ i k, i < n → k < n → k ≠ i → k ≠ (i + 1) % n → 0 < ara (X i) (Y i) (X ((i + 1) % n)) (Y ((i + 1) % n)) (X k) (Y k)) :
    Calls Try.prog 39 #[.slice (some ⟨g, 0, none⟩) n cap] w fun e w' => e = .returned (.int .i64 0) ∧ Below w.heap.size w w' := by
  have hcon := contains_any g n cap X Y w h hg (by omega) hb
  have HP := Lib.hid h
  have HB := Lib.hid hb
  have HS := Lib.hid hs
  have hnp : (0 : Int) < n := by omega
  clear h hb hs
  go_enter Try.func39, Try.ntmps39
  go_wp2_with (go_at_call 51; (with_reducible refine hcon.mono ?_); rintro e w1 ⟨rfl, hb⟩; have HW := Lib.hid hb; clear hb)
  go_loopw [18] (fun v18 wr => ∃ i : Nat, v18 = .int .i64 i ∧ i ≤ n ∧ Below w.heap.size w wr) (fun v18 _ => n - (intOf v18).toNat)
  case atStart => exact ⟨0, rfl, Nat.zero_le _, HW.out⟩
  case round =>
    obtain ⟨i, rfl, hi, hbl⟩ := hrel
    have HBL := Lib.hid hbl
    clear hbl
    by_cases h0 : i = n
    · have i1 : ¬ (i : Int) < (n : Int) := by omega
      clear h0
      go_wp2_with fail
      go_ret
      exact ⟨rfl, HBL.out⟩
    · have hil : i < n := by omega
      have i1 : (i : Int) < (n : Int) := by omega
      obtain ⟨j, hj⟩ : ∃ j, (i + 1) % n = j := ⟨_, rfl⟩
      have hjn : j < n := by rw [← hj]; exact Nat.mod_lt _ (by omega)
      have e1 : ((i : Int) + 1) % (n : Int) = (j : Int) := by rw [← hj]; push_cast; rfl
      have e2 : ((i : Int) + 1).tmod (n : Int) = (j : Int) := by rw [Int.tmod_eq_emod_of_nonneg (by omega)]; exact e1
      have hsi : Hid (∀ k, k < n → k ≠ i → k ≠ j → 0 < ara (X i) (Y i) (X j) (Y j) (X k) (Y k)) := fun k h1 h2 h3 => by
        have := HS.out i k hil h1 h2 (by rw [hj]; exact h3)
        rw [hj] at this
        exact this
      obtain ⟨xi, yi⟩ := HP.out i hil
      obtain ⟨xj, yj⟩ := HP.out j hjn
      have a0 := (HBL.out.cell (p := ⟨g, i * 2, none⟩) hg).trans xi
      have a1 := (HBL.out.cell (p := ⟨g, i * 2 + 1, none⟩) hg).trans yi
      have b0 := (HBL.out.cell (p := ⟨g, j * 2, none⟩) hg).trans xj
      have b1 := (HBL.out.cell (p := ⟨g, j * 2 + 1, none⟩) hg).trans yj
      have hgr : g < wr.heap.size := Nat.lt_of_lt_of_le hg HBL.out.size
      obtain ⟨xa, hxa⟩ : ∃ x, X i = x := ⟨_, rfl⟩
      obtain ⟨ya, hya⟩ : ∃ x, Y i = x := ⟨_, rfl⟩
      obtain ⟨xb, hxb⟩ : ∃ x, X j = x := ⟨_, rfl⟩
      obtain ⟨yb, hyb⟩ : ∃ x, Y j = x := ⟨_, rfl⟩
      have hBi := HB.out i hil
      have hBj := HB.out j hjn
      rw [hxa, hya, hxb, hyb] at hsi
      rw [hxa, hya] at hBi
      rw [hxb, hyb] at hBj
      rw [hxa] at a0
      rw [hya] at a1
      rw [hxb] at b0
      rw [hyb] at b1
      clear xi yi xj yj hxa hya hxb hyb hj
      go_wp2_with fail
      obtain ⟨V, hV⟩ : ∃ V, (wr.alloc (Obj.cells #[Value.int IntKind.i64 xa, Value.int IntKind.i64 ya] 24)).alloc (Obj.cells #[Value.int IntKind.i64 xb, Value.int IntKind.i64 yb] 24) = V := ⟨_, rfl⟩
      obtain ⟨va, hva⟩ : ∃ v, wr.heap.size = v := ⟨_, rfl⟩
      have hVs : V.heap.size = va + 2 := by rw [← hV, ← hva]; simp
      have hVb := Lib.hid (HBL.out.trans ((show Below wr.heap.size wr V from hV ▸ Below.al (Below.al (Below.refl _ _) _) _).mono HBL.out.size))
      have u0 : V.cell? ⟨va, 0, none⟩ = some (.int .i64 xa) := by rw [← hV, ← hva]; simp [go_sem]
      have u1 : V.cell? ⟨va, 1, none⟩ = some (.int .i64 ya) := by rw [← hV, ← hva]; simp [go_sem]
      have z0 : V.cell? ⟨va + 1, 0, none⟩ = some (.int .i64 xb) := by rw [← hV, ← hva]; simp [go_sem]
      have z1 : V.cell? ⟨va + 1, 1, none⟩ = some (.int .i64 yb) := by rw [← hV, ← hva]; simp [go_sem]
      simp only [hva]
      rw [hV]
      have hgv : g < V.heap.size := Nat.lt_of_lt_of_le hg hVb.out.size
      clear hV hva a0 a1 b0 b1 HBL hgr
      go_loopw [33] (fun v33 wx => ∃ k : Nat, v33 = .int .i64 k ∧ k ≤ n ∧ Below V.heap.size V wx) (fun v33 _ => n - (intOf v33).toNat)
      case atStart => exact ⟨0, rfl, Nat.zero_le _, Below.refl _ _⟩
      case round =>
        obtain ⟨k, rfl, hk, hbl⟩ := hrel
        have HBV := Lib.hid hbl
        clear hbl
        by_cases hk0 : k = n
        · have k1 : ¬ (k : Int) < (n : Int) := by omega
          clear hk0
          go_wp2_with fail
          go_roundw
          case rel => exact ⟨i + 1, rfl, by omega, hVb.out.trans (HBV.out.mono hVb.out.size)⟩
          case measure => simp [intOf] <;> omega
        · have hkn : k < n := by omega
          have k1 : (k : Int) < (n : Int) := by omega
          obtain ⟨xk, yk⟩ := HP.out k hkn
          have hBk := HB.out k hkn
          have hww : Below w.heap.size w wr := hVb.out.trans (HBV.out.mono hVb.out.size)
          have t0 := (hww.cell (p := ⟨g, k * 2, none⟩) hg).trans xk
          have t1 := (hww.cell (p := ⟨g, k * 2 + 1, none⟩) hg).trans yk
          have a0 := (HBV.out.cell (p := ⟨va, 0, none⟩) (by simp only []; omega)).trans u0
          have a1 := (HBV.out.cell (p := ⟨va, 1, none⟩) (by simp only []; omega)).trans u1
          have b0 := (HBV.out.cell (p := ⟨va + 1, 0, none⟩) (by simp only []; omega)).trans z0
          have b1 := (HBV.out.cell (p := ⟨va + 1, 1, none⟩) (by simp only []; omega)).trans z1
          have hls := HBV.out.size
          have hl1 : va < wr.heap.size := by omega
          have hl2 : va + 1 < wr.heap.size := by omega
          have hl3 : g < wr.heap.size := by omega
          obtain ⟨xc, hxc⟩ : ∃ x, X k = x := ⟨_, rfl⟩
          obtain ⟨yc, hyc⟩ : ∃ x, Y k = x := ⟨_, rfl⟩
          rw [hxc] at t0
          rw [hyc] at t1
          rw [hxc, hyc] at hBk
          have HSK : Hid (k ≠ i → k ≠ j → 0 < ara xa ya xb yb xc yc) := fun h1 h2 => by have := hsi.out k hkn h1 h2; rw [hxc, hyc] at this; exact this
          clear hxc hyc xk yk u0 u1 z0 z1
          by_cases hki : k = i
          · have e3 : ((k : Int) == (i : Int)) = true := by simp [hki]
            have e4 : ((k : Int) != (i : Int)) = false := by simp [hki]
            clear hki
            go_wp2_with fail
            go_roundw
            case rel => exact ⟨k + 1, rfl, by omega, by repeat (first | exact HBV.out | apply Below.drew | (refine Below.alloc ?_ (by omega) _))⟩
            case measure => simp [intOf] <;> omega
          · by_cases hkj : k = j
            · have e3 : ((k : Int) == (i : Int)) = false := by simp; omega
              have e4 : ((k : Int) != (i : Int)) = true := by simp; omega
              have e5 : ((k : Int) == (j : Int)) = true := by simp [hkj]
              have e6 : ((k : Int) != (j : Int)) = false := by simp [hkj]
              clear hkj hki
              go_wp2_with fail
              go_roundw
              case rel => exact ⟨k + 1, rfl, by omega, by repeat (first | exact HBV.out | apply Below.drew | (refine Below.alloc ?_ (by omega) _))⟩
              case measure => simp [intOf] <;> omega
            · have e3 : ((k : Int) == (i : Int)) = false := by simp; omega
              have e4 : ((k : Int) != (i : Int)) = true := by simp; omega
              have e5 : ((k : Int) == (j : Int)) = false := by simp; omega
              have e6 : ((k : Int) != (j : Int)) = true := by simp; omega
              have hpos := HSK.out hki hkj
              have hside := fun w' => side_any xa ya xb yb xc yc w' (fun z hz => by
                simp only [List.mem_cons, List.not_mem_nil, or_false] at hz
                rcases hz with rfl | rfl | rfl | rfl | rfl | rfl <;> omega)
              obtain ⟨A, hA⟩ : ∃ A, ara xa ya xb yb xc yc = A := ⟨_, rfl⟩
              rw [hA] at hpos
              simp only [hA] at hside
              have hA1 : ¬ A ≤ 0 := by omega
              clear hkj hki hA
              go_wp2_with (go_at_call 41; (with_reducible refine (hside _).mono ?_); rintro e w1 ⟨rfl, hb⟩; have H1 := Lib.hid hb; clear hb)
              go_roundw
              case rel => exact ⟨k + 1, rfl, by omega, (HBV.out.alloc (by omega) _).trans (H1.out.mono (by simp; omega))⟩
              case measure => simp [intOf] <;> omega
end Go.Proofs.Ytaiflkjchbpphaa
