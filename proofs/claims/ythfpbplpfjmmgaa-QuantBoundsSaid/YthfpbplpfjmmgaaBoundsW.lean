/- For every input, QuantBounds returns true. No condition. -/
import Derived.Test.YthfpbplpfjmmgaaBounds
import Derived.Deep.DeepCutAuto
namespace Go.Proofs.Ythfpbplpfjmmgaa
open Go.RowKit
attribute [local go_sem ↓] run_mx run_mn

set_option maxRecDepth 4000 in
set_option maxHeartbeats 2000000 in
theorem bounds_ne (a0 a1 n v u lo hi : Int) (w : World) (h0 : -9223372036854775808 ≤ a0 ∧ a0 ≤ 9223372036854775807) (h1 : -9223372036854775808 ≤ a1 ∧ a1 ≤ 9223372036854775807) (h2 : -9223372036854775808 ≤ n ∧ n ≤ 9223372036854775807)
    (h : lo < hi) (hlh : (num a0 1099511627776 = lo ∧ num a1 1099511627776 = hi) ∨ (num a0 1099511627776 = hi ∧ num a1 1099511627776 = lo)) (X1 : -1099511627776 ≤ lo) (Y2 : hi ≤ 1099511627776) :
    Calls Try.prog 7 #[.int .i64 a0, .int .i64 a1, .int .i64 n, .int .i64 v, .int .i64 u] w fun e w' => e = .returned (.bool true) ∧ Below w.heap.size w w' := by
  have m0 : 0 ≤ n % 32 := by omega
  have m1 : n % 32 < 32 := by omega
  obtain ⟨p, hp⟩ : ∃ p, (2 : Int) ^ (1 + n % 32).toNat = p := ⟨_, rfl⟩
  have pb := pow_bd (1 + n % 32) (by omega) (by omega)
  rw [hp] at pb
  obtain ⟨p1, p2⟩ := pb
  have bv := between v lo hi h
  have bu := between u lo hi h
  obtain ⟨V, hV⟩ : ∃ V, mn (mx v lo) hi = V := ⟨_, rfl⟩
  obtain ⟨U, hU⟩ : ∃ U, mn (mx u lo) hi = U := ⟨_, rfl⟩
  rw [hV] at bv
  rw [hU] at bu
  obtain ⟨v1, v2⟩ := bv
  obtain ⟨u1, u2⟩ := bu
  obtain ⟨k, m, x, q, e1, e2, e3, e4, e5, e6, f1, f2, f3, f4, f5, f6, e7, g1, g2⟩ := bounds_facts lo hi p V U X1 h Y2 p1 v1 v2
  have G1 := Lib.hid g1
  have G2 := Lib.hid g2
  have HLH := Lib.hid hlh
  obtain ⟨A, hA⟩ : ∃ A, num a0 1099511627776 = A := ⟨_, rfl⟩
  obtain ⟨B, hB⟩ : ∃ B, num a1 1099511627776 = B := ⟨_, rfl⟩
  rw [hA, hB] at hlh
  have HLH := Lib.hid hlh
  have E1 := Lib.hid e1
  have E2 := Lib.hid e2
  have E3 := Lib.hid e3
  have E4 := Lib.hid e4
  have E5 := Lib.hid e5
  have E6 := Lib.hid e6
  have E7 := Lib.hid e7
  clear g1 g2 hlh e1 e2 e3 e4 e5 e6 e7
  go_enter Try.func7, Try.ntmps7
  go_upto_if 39 with (first
    | (go_at_call 27; (with_reducible refine (quantBegun_any _).mono ?_); rintro e w1 ⟨rfl, hb⟩; obtain ⟨lb, nb, rfl⟩ := ext_of hb; clear hb)
    | (go_at_call 28; (with_reducible refine (num_any _ _ _ (by omega) (by omega) (by omega) (by omega)).mono ?_); rintro e w1 ⟨rfl, rfl⟩))
  clear hA hB
  go_cut [] (fun wx => wx.cell? ⟨w.heap.size + lb.length, 0, none⟩ = some (.int .i64 lo) ∧ wx.cell? ⟨w.heap.size + lb.length, 1, none⟩ = some (.int .i64 hi) ∧ w.heap.size + lb.length < wx.heap.size ∧ Below w.heap.size w wx)
  case first =>
    rcases HLH.out with ⟨rfl, rfl⟩ | ⟨rfl, rfl⟩
    · go_wp2_with fail
      go_meet
      exact ⟨by simp [go_sem], by simp [go_sem], by simp, by repeat (first | exact Below.refl _ _ | apply Below.drew | apply Below.al | apply Below.ex)⟩
    · go_wp2_with fail
      go_meet
      exact ⟨by simp [go_sem], by simp [go_sem], by simp, by repeat (first | exact Below.refl _ _ | apply Below.drew | apply Below.al | apply Below.ex)⟩
  case rest =>
    obtain ⟨hcl, hch, hbl, hbel⟩ := hcut
    have HBEL := Lib.hid hbel
    clear hbel
    go_upto_region 10 with (go_at_call 15; (with_reducible refine (below_any _ _ _ (by omega) (by omega) (by omega) (by omega)).mono ?_); rintro e w1 ⟨rfl, rfl⟩)
    go_cut [3, 4] (fun s3 s4 wx => s3 = .int .i64 V ∧ s4 = .int .i64 U ∧ ∃ l mm, wx = ext wc l mm)
    case first =>
      rw [← ext_nil wc]
      go_region
      go_wp2
      go_meet
      exact ⟨rfl, rfl, [], _, rfl⟩
    case rest =>
      obtain ⟨rfl, rfl, l, mm, rfl⟩ := hcut
      have e1 := E1.out
      have e2 := E2.out
      have e3 := E3.out
      have e4 := E4.out
      have e5 := E5.out
      have e6 := E6.out
      go_upto_region 16 with (first
        | (go_at_call 29; (with_reducible refine (bound_any _ _ _ _ _ X1 h Y2 (by omega) (by omega) hp).mono ?_); rintro e w1 ⟨rfl, hb⟩; obtain ⟨l0, n0, rfl⟩ := ext_of hb; clear hb)
        | (go_at_call 30; (with_reducible refine (coarse_any _ _ _ _ _ _ X1 h Y2 (by omega) (by omega) hp (by omega) (by omega)).mono ?_); rintro e w1 ⟨rfl, hb⟩; obtain ⟨l0, n0, rfl⟩ := ext_of hb; clear hb)
        | (go_at_call 31; (with_reducible refine (fine_any _ _ _ _ _ _ X1 h Y2 (by omega) (by omega) hp (by omega) (by omega)).mono ?_); rintro e w1 ⟨rfl, hb⟩; obtain ⟨l0, n0, rfl⟩ := ext_of hb; clear hb))
      go_cut [24, 25] (fun s24 s25 wx => s24 = .int .i64 hi ∧ s25 = .int .i64 0 ∧ ∃ l mm, wx = ext wc l mm)
      case first =>
        refine region_grow_ext (by kernel_rfl) (by kernel_rfl) ?_
        repeat (go_big_quiet_step ((intro _; go_at_call 31; exact grow_of (fine_any _ _ _ _ _ _ X1 h Y2 (by omega) (by omega) hp (by omega) (by omega)))))
        refine wpQuiet_nil ?_
        intro _ hw'
        obtain ⟨kk, mm, rfl⟩ := hw'
        go_wp2
        go_meet
        exact ⟨rfl, rfl, _, _, rfl⟩
      case rest =>
        obtain ⟨rfl, rfl, l, mm, rfl⟩ := hcut
        clear e1 e2 e3 e4 e5 e6 hp E1 E2 E3 E4 E5 E6 m0 m1 HLH h0 h1 h2
        go_wp2
        obtain ⟨WW, hWW⟩ : ∃ WW, (ext wc l mm).alloc (Obj.cells #[Value.int IntKind.i64 0, Value.int IntKind.i64 0, Value.int IntKind.i64 0, Value.int IntKind.i64 0, Value.int IntKind.i64 0, Value.int IntKind.i64 0] 34) = WW := ⟨_, rfl⟩
        have hcl2 : WW.cell? ⟨w.heap.size + lb.length, 0, none⟩ = some (.int .i64 lo) := by rw [← hWW]; simp [go_sem, hbl, hcl]
        have hch2 : WW.cell? ⟨w.heap.size + lb.length, 1, none⟩ = some (.int .i64 hi) := by rw [← hWW]; simp [go_sem, hbl, hch]
        have hz : ∀ j : Nat, j < 6 → WW.cell? ⟨wc.heap.size + l.length, j, none⟩ = some (.int .i64 0) := by
          intro j hj
          rw [← hWW]
          match j, hj with
          | 0, _ => simp [go_sem]
          | 1, _ => simp [go_sem]
          | 2, _ => simp [go_sem]
          | 3, _ => simp [go_sem]
          | 4, _ => simp [go_sem]
          | 5, _ => simp [go_sem]
        have hbel : Hid (Below w.heap.size w WW) := by
          rw [← hWW]
          exact (Below.ext' HBEL.out HBEL.out.size _ _).alloc (by have := HBEL.out.size; simp; omega) _
        obtain ⟨bz, hbz⟩ : ∃ bz, wc.heap.size + l.length = bz := ⟨_, rfl⟩
        rw [hbz] at hz
        rw [hWW, hbz]
        clear hWW hcl hch hbl hbz HBEL
        go_loopw [126] (fun i wr => ∃ j : Nat, j ≤ 6 ∧ i = .int .i64 j ∧ wr = WW) (fun i _ => 6 - (intOf i).toNat)
        case atStart => exact ⟨0, by omega, rfl, rfl⟩
        case round =>
          obtain ⟨j, hj, rfl, rfl⟩ := hrel
          by_cases hlt : j < 6
          · have hzj := hz j hlt
            clear hz
            go_wp2
            go_roundw
            case rel => exact ⟨j + 1, by omega, by go_num, by first | rfl | trivial⟩
            case measure => simp [intOf]; omega
          · obtain rfl : j = 6 := by omega
            clear hz
            have g1 := G1.out
            have g2 := G2.out
            clear G1 G2
            have e7 := E7.out
            rcases Int.lt_trichotomy U V with c | c | c
            · have d1 : m ≤ k := by omega
              have d2 : decide (U < V) = true := by simpa using c
              have d3 : decide (V < U) = false := by simp; omega
              clear g1 g2
              go_wp2_with (first
                | (go_at_call 32; (with_reducible refine (near_any _ _ _ _ (by omega) (by omega) (by omega) (by omega) (by omega) (by omega)).mono ?_); rintro e w1 ⟨rfl, rfl⟩)
                | (go_at_call 33; (with_reducible refine (clamp_any _ _).mono ?_); rintro e w1 ⟨rfl, rfl⟩))
              go_ret
              exact ⟨rfl, hbel.out⟩
            · have d1 : m = k := by omega
              subst d1 c
              clear g1 g2
              go_wp2_with (first
                | (go_at_call 32; (with_reducible refine (near_any _ _ _ _ (by omega) (by omega) (by omega) (by omega) (by omega) (by omega)).mono ?_); rintro e w1 ⟨rfl, rfl⟩)
                | (go_at_call 33; (with_reducible refine (clamp_any _ _).mono ?_); rintro e w1 ⟨rfl, rfl⟩))
              go_ret
              exact ⟨rfl, hbel.out⟩
            · have d1 : k ≤ m := by omega
              have d2 : decide (U < V) = false := by simp; omega
              have d3 : decide (V < U) = true := by simpa using c
              clear g1 g2
              go_wp2_with (first
                | (go_at_call 32; (with_reducible refine (near_any _ _ _ _ (by omega) (by omega) (by omega) (by omega) (by omega) (by omega)).mono ?_); rintro e w1 ⟨rfl, rfl⟩)
                | (go_at_call 33; (with_reducible refine (clamp_any _ _).mono ?_); rintro e w1 ⟨rfl, rfl⟩))
              go_ret
              exact ⟨rfl, hbel.out⟩
end Go.Proofs.Ythfpbplpfjmmgaa
