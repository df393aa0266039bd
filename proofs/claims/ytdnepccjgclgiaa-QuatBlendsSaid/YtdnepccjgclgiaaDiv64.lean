/- Contract of bits.Div64 at this program. -/
import Derived.Test.YtdnepccjgclgiaaNum64
import Derived.Test.YtdnepccjgclgiaaShift
import Derived.Deep.LoopGhost
namespace Go.Proofs.Ytdnepccjgclgiaa
open Go.RowKit

/-- The number of two words. -/
def joinI (hi lo : Int) : Int := hi * 18446744073709551616 + lo
theorem two_pos (s : Nat) : (0 : Int) < 2 ^ s := by
  have := Nat.two_pow_pos s
  have e : ((2 ^ s : Nat) : Int) = (2 : Int) ^ s := by simp
  omega
theorem rem_lt (u v : Int) (hv : 0 < v) : u - u / v * v < v := by
  have := Int.emod_lt_of_pos u hv
  rw [Int.emod_def, Int.mul_comm] at this
  exact this
theorem prod_lt (a b : Int) (h0 : 0 ≤ a) (h1 : a < 4294967296) (h2 : 0 ≤ b) (h3 : b < 4294967296) : a * b ≤ 18446744073709551615 := by
  have : a * b ≤ 4294967295 * 4294967295 := Int.mul_le_mul (by omega) (by omega) h2 (by omega)
  omega

theorem lead_s (x s : Nat) (w : World) (h : x < 18446744073709551616) (hb : Lib.bitLen x ≤ 64) (hs : s = 64 - Lib.bitLen x) :
    Calls Try.prog 86 #[.int .u64 x] w fun e w' => e = .returned (.int .i64 (s : Int)) ∧ w = w' :=
  (lead_any x w h).mono fun e w' ⟨he, hw⟩ => ⟨by rw [he]; exact ret_int (by omega), hw⟩

theorem div64_0 (lo d : Int) (w : World) (h1 : 0 < d) (h2 : d ≤ 18446744073709551615) (h3 : 0 ≤ lo) (h4 : lo ≤ 18446744073709551615) :
    Calls Try.prog 78 #[.int .u64 0, .int .u64 lo, .int .u64 d] w fun e w' => e = .returned (.tuple #[.int .u64 (lo / d), .int .u64 (lo % d)]) ∧ Below w.heap.size w w' := by
  have hd : ¬ d = 0 := by omega
  have hd' : (d == 0) = false := by simpa using hd
  go_enter Try.func78, Try.ntmps78
  go_wp2_with fail
  refine region_grow (by kernel_rfl) (by kernel_rfl) ?_
  repeat (go_big_quiet_step (fail))
  refine wpQuiet_nil ?_
  intro _ hw'
  obtain ⟨k, m, rfl⟩ := hw'
  go_wp2
  go_ret2
  exact ⟨rfl, by repeat (first | exact Below.refl _ _ | apply Below.drew | apply Below.al | apply Below.ex)⟩

set_option maxHeartbeats 1000000 in
theorem div64_1 (H Lo D : Nat) (w : World) (h0 : 1 ≤ H) (h1 : H < D) (h2 : D < 18446744073709551616) (h4 : Lo < 18446744073709551616) :
    Calls Try.prog 78 #[.int .u64 H, .int .u64 Lo, .int .u64 D] w fun e w' => e = .returned (.tuple #[.int .u64 (joinI H Lo / D), .int .u64 (joinI H Lo % D)]) ∧ w = w' := by
  have hd' : ((D : Int) == 0) = false := by simp; omega
  have hh' : ((H : Int) == 0) = false := by simp; omega
  obtain ⟨b1, b2, b3, b4⟩ := bitLen_bd D (by omega) h2
  obtain ⟨s, hs⟩ : ∃ s, s = 64 - Lib.bitLen D := ⟨_, rfl⟩
  obtain ⟨y, v1, v0, u32, u10, u1, u0, hsh⟩ := shifted H Lo D (Lib.bitLen D) s hs b1 b2 b3 b4 h1 h4
  have s1 : s ≤ 63 := by omega
  have dg := hsh.d1
  have HSH := Lib.hid hsh
  obtain ⟨E1, E2, E3, E4, E5, E6, E7, -, z1, z2, -, -, yh⟩ := hsh
  have HDG := Lib.hid dg
  have HS := Lib.hid hs
  have HB2 := Lib.hid b2
  clear b1 b2 b3 b4 hs dg
  have n1 := HDG.out.v1l
  have n2 := HDG.out.v1h
  have n3 := HDG.out.v0l
  have n4 := HDG.out.v0h
  have n5 := HDG.out.ul
  have n6 := HDG.out.uh
  have n7 := HDG.out.unl
  have n8 := HDG.out.unh
  have first := Dig.first HDG.out
  obtain ⟨q, hq⟩ : ∃ q, q = u32 / v1 := ⟨_, rfl⟩
  have E8 := hq.symm
  rw [← hq] at first
  have hrl := rem_lt u32 v1 (by omega)
  rw [← hq] at hrl
  obtain ⟨r, hr⟩ : ∃ r, r = u32 - q * v1 := ⟨_, rfl⟩
  rw [← hr] at hrl
  have E9 := hr.symm
  rw [← hr] at first
  have f1 := first.e
  have f2 := first.rl
  have f3 := first.ql
  have f4 := first.qh
  have HQ1 := Lib.hid E8
  have m1 : 0 ≤ q * v1 := Int.mul_nonneg f3 (by omega)
  clear hq hr
  have HF1 := Lib.hid first
  have m2 : q * v1 ≤ 18446744073709551615 := by omega
  have m3 : 0 ≤ u32 - q * v1 := by omega
  have m4 : u32 - q * v1 ≤ 18446744073709551615 := by omega
  clear first f1
  have HDG1 := HDG
  clear HDG
  go_enter Try.func78, Try.ntmps78
  go_wp2_with (go_at_call 86; (with_reducible refine (lead_s _ s _ (by omega) HB2.out HS.out).mono ?_); rintro e w' ⟨rfl, rfl⟩)
  go_loop [15, 16] (fun q r => ∃ Q R : Int, q = .int .u64 Q ∧ r = .int .u64 R ∧ Dig u32 u1 v1 y Q R ∧ R < 4294967296) (fun q _ => (intOf q).toNat)
  case atStart => exact ⟨_, _, rfl, rfl, by first | exact HF1.out | (rw [HQ1.out]; exact HF1.out), by omega⟩
  case round =>
    obtain ⟨Q, R, rfl, rfl, hd, hR⟩ := hrel
    have g1 := hd.rl
    have g2 := hd.ql
    have g3 := hd.qh
    have HD := Lib.hid hd
    clear hd
    by_cases cA : 4294967296 ≤ Q
    · skip
      have st := Dig.step HDG1.out HD.out (.inl cA)
      have st1 := st.ql
      have st2 := st.rl
      have st3 := st.qh
      have HST := Lib.hid st
      clear st
      by_cases hbr : R + v1 < 4294967296
      · go_wp2_with fail
        go_round
        case rel => exact ⟨Q - 1, R + v1, rfl, rfl, HST.out, hbr⟩
        case measure => simp [intOf]; omega
      · have hk := Dig.over HDG1.out HST.out (by omega) (by omega)
        obtain ⟨qx1, hqq⟩ : ∃ qx, qx = Q - 1 := ⟨_, rfl⟩
        rw [← hqq] at hk
        have EQ1 := hqq.symm
        clear hqq
        have HK1 := Lib.hid hk
        clear hk HST
        obtain ⟨w1, w2⟩ := IsQ.rest HK1.out
        have w3 := rest_wraps u32 u1 y qx1 w1 (by omega)
        obtain ⟨w5, w6⟩ := IsQ.bd HDG1.out HK1.out
        obtain ⟨t, ht⟩ : ∃ t, t = u32 * 4294967296 + u1 - qx1 * y := ⟨_, rfl⟩
        rw [← ht] at w1 w2 w3
        have HT := Lib.hid ht
        clear ht
        have dg0 : Digs t u0 v1 v0 y := ⟨n1, n2, n3, n4, HDG1.out.yy, z1, z2, w1, w2⟩
        have HDG0 := Lib.hid dg0
        have first0 := Dig.first dg0
        clear dg0
        obtain ⟨q00, hq0⟩ : ∃ q, q = t / v1 := ⟨_, rfl⟩
        have hq0l := hq0
        rw [← hq0] at first0
        have hrl0 := rem_lt t v1 (by omega)
        rw [← hq0] at hrl0
        obtain ⟨r00, hr0⟩ : ∃ r, r = t - q00 * v1 := ⟨_, rfl⟩
        rw [← hr0] at hrl0 first0
        have E18 := hq0.symm
        have E19 := hr0.symm
        have HQ0 := Lib.hid E18
        have j1 := first0.e
        have j2 := first0.rl
        have j3 := first0.ql
        have HF0 := Lib.hid first0
        have k1 : 0 ≤ q00 * v1 := Int.mul_nonneg j3 (by omega)
        have k2 : q00 * v1 ≤ 18446744073709551615 := by omega
        have k3 : 0 ≤ t - q00 * v1 := by omega
        have k4 : t - q00 * v1 ≤ 18446744073709551615 := by omega
        clear hq0 hr0 first0 hq0l j1
        go_wp2_with fail
        go_loop [18, 16] (fun q r => ∃ Q R : Int, q = .int .u64 Q ∧ r = .int .u64 R ∧ Dig t u0 v1 y Q R ∧ R < 4294967296) (fun q _ => (intOf q).toNat)
        case atStart => exact ⟨_, _, rfl, rfl, by first | exact HF0.out | (rw [HQ0.out]; exact HF0.out), by omega⟩
        case round =>
          obtain ⟨Q, R, rfl, rfl, hd, hR⟩ := hrel
          have g1 := hd.rl
          have g2 := hd.ql
          have g3 := hd.qh
          have HD := Lib.hid hd
          clear hd
          by_cases cA : 4294967296 ≤ Q
          · skip
            have st := Dig.step HDG0.out HD.out (.inl cA)
            have st1 := st.ql
            have st2 := st.rl
            have st3 := st.qh
            have HST := Lib.hid st
            clear st
            by_cases hbr : R + v1 < 4294967296
            · go_wp2_with fail
              go_round
              case rel => exact ⟨Q - 1, R + v1, rfl, rfl, HST.out, hbr⟩
              case measure => simp [intOf]; omega
            · have hk := Dig.over HDG0.out HST.out (by omega) (by omega)
              obtain ⟨qx0, hqq⟩ : ∃ qx, qx = Q - 1 := ⟨_, rfl⟩
              rw [← hqq] at hk
              have EQ0 := hqq.symm
              clear hqq
              have HK0 := Lib.hid hk
              clear hk HST
              obtain ⟨x1, x2⟩ := IsQ.rest HK0.out
              have x3 := rest_wraps t u0 y qx0 x1 (by omega)
              obtain ⟨x5, x6⟩ := IsQ.bd HDG0.out HK0.out
              obtain ⟨t2, ht2⟩ : ∃ t2, t2 = t * 4294967296 + u0 - qx0 * y := ⟨_, rfl⟩
              rw [← ht2] at x3
              have HT2 := Lib.hid ht2
              clear ht2 x1 x2
              go_wp2
              go_ret2
              have hw := whole (joinI H Lo) D (2 ^ s) y u32 u1 u0 qx1 qx0 (two_pos s) (by omega) HSH.out.yD HSH.out.nn HK1.out (by rw [← HT.out]; exact HK0.out)
              rw [← HT.out, ← HT2.out] at hw
              exact ⟨by rw [← hw.1, ← hw.2]; rfl, rfl⟩
          · have m5 : 0 ≤ Q * v0 := Int.mul_nonneg g2 (by omega)
            have m6 : Q * v0 ≤ 18446744073709551615 := prod_lt Q v0 (by omega) (by omega) (by omega) (by omega)
            by_cases cB : 4294967296 * R + u0 < Q * v0
            · skip
              have st := Dig.step HDG0.out HD.out (.inr cB)
              have st1 := st.ql
              have st2 := st.rl
              have st3 := st.qh
              have HST := Lib.hid st
              clear st
              by_cases hbr : R + v1 < 4294967296
              · go_wp2_with fail
                go_round
                case rel => exact ⟨Q - 1, R + v1, rfl, rfl, HST.out, hbr⟩
                case measure => simp [intOf]; omega
              · have hk := Dig.over HDG0.out HST.out (by omega) (by omega)
                obtain ⟨qx0, hqq⟩ : ∃ qx, qx = Q - 1 := ⟨_, rfl⟩
                rw [← hqq] at hk
                have EQ0 := hqq.symm
                clear hqq
                have HK0 := Lib.hid hk
                clear hk HST
                obtain ⟨x1, x2⟩ := IsQ.rest HK0.out
                have x3 := rest_wraps t u0 y qx0 x1 (by omega)
                obtain ⟨x5, x6⟩ := IsQ.bd HDG0.out HK0.out
                obtain ⟨t2, ht2⟩ : ∃ t2, t2 = t * 4294967296 + u0 - qx0 * y := ⟨_, rfl⟩
                rw [← ht2] at x3
                have HT2 := Lib.hid ht2
                clear ht2 x1 x2
                go_wp2
                go_ret2
                have hw := whole (joinI H Lo) D (2 ^ s) y u32 u1 u0 qx1 qx0 (two_pos s) (by omega) HSH.out.yD HSH.out.nn HK1.out (by rw [← HT.out]; exact HK0.out)
                rw [← HT.out, ← HT2.out] at hw
                exact ⟨by rw [← hw.1, ← hw.2]; rfl, rfl⟩
            · have hk := Dig.last HDG0.out HD.out (by omega)
              have HK0 := Lib.hid hk
              clear hk HD
              obtain ⟨x1, x2⟩ := IsQ.rest HK0.out
              have x3 := rest_wraps t u0 y Q x1 (by omega)
              obtain ⟨x5, x6⟩ := IsQ.bd HDG0.out HK0.out
              obtain ⟨t2, ht2⟩ : ∃ t2, t2 = t * 4294967296 + u0 - Q * y := ⟨_, rfl⟩
              rw [← ht2] at x3
              have HT2 := Lib.hid ht2
              clear ht2 x1 x2
              go_wp2
              go_ret2
              have hw := whole (joinI H Lo) D (2 ^ s) y u32 u1 u0 qx1 Q (two_pos s) (by omega) HSH.out.yD HSH.out.nn HK1.out (by rw [← HT.out]; exact HK0.out)
              rw [← HT.out, ← HT2.out] at hw
              exact ⟨by rw [← hw.1, ← hw.2]; rfl, rfl⟩
    · have m5 : 0 ≤ Q * v0 := Int.mul_nonneg g2 (by omega)
      have m6 : Q * v0 ≤ 18446744073709551615 := prod_lt Q v0 (by omega) (by omega) (by omega) (by omega)
      by_cases cB : 4294967296 * R + u1 < Q * v0
      · skip
        have st := Dig.step HDG1.out HD.out (.inr cB)
        have st1 := st.ql
        have st2 := st.rl
        have st3 := st.qh
        have HST := Lib.hid st
        clear st
        by_cases hbr : R + v1 < 4294967296
        · go_wp2_with fail
          go_round
          case rel => exact ⟨Q - 1, R + v1, rfl, rfl, HST.out, hbr⟩
          case measure => simp [intOf]; omega
        · have hk := Dig.over HDG1.out HST.out (by omega) (by omega)
          obtain ⟨qx1, hqq⟩ : ∃ qx, qx = Q - 1 := ⟨_, rfl⟩
          rw [← hqq] at hk
          have EQ1 := hqq.symm
          clear hqq
          have HK1 := Lib.hid hk
          clear hk HST
          obtain ⟨w1, w2⟩ := IsQ.rest HK1.out
          have w3 := rest_wraps u32 u1 y qx1 w1 (by omega)
          obtain ⟨w5, w6⟩ := IsQ.bd HDG1.out HK1.out
          obtain ⟨t, ht⟩ : ∃ t, t = u32 * 4294967296 + u1 - qx1 * y := ⟨_, rfl⟩
          rw [← ht] at w1 w2 w3
          have HT := Lib.hid ht
          clear ht
          have dg0 : Digs t u0 v1 v0 y := ⟨n1, n2, n3, n4, HDG1.out.yy, z1, z2, w1, w2⟩
          have HDG0 := Lib.hid dg0
          have first0 := Dig.first dg0
          clear dg0
          obtain ⟨q00, hq0⟩ : ∃ q, q = t / v1 := ⟨_, rfl⟩
          have hq0l := hq0
          rw [← hq0] at first0
          have hrl0 := rem_lt t v1 (by omega)
          rw [← hq0] at hrl0
          obtain ⟨r00, hr0⟩ : ∃ r, r = t - q00 * v1 := ⟨_, rfl⟩
          rw [← hr0] at hrl0 first0
          have E18 := hq0.symm
          have E19 := hr0.symm
          have HQ0 := Lib.hid E18
          have j1 := first0.e
          have j2 := first0.rl
          have j3 := first0.ql
          have HF0 := Lib.hid first0
          have k1 : 0 ≤ q00 * v1 := Int.mul_nonneg j3 (by omega)
          have k2 : q00 * v1 ≤ 18446744073709551615 := by omega
          have k3 : 0 ≤ t - q00 * v1 := by omega
          have k4 : t - q00 * v1 ≤ 18446744073709551615 := by omega
          clear hq0 hr0 first0 hq0l j1
          go_wp2_with fail
          go_loop [18, 16] (fun q r => ∃ Q R : Int, q = .int .u64 Q ∧ r = .int .u64 R ∧ Dig t u0 v1 y Q R ∧ R < 4294967296) (fun q _ => (intOf q).toNat)
          case atStart => exact ⟨_, _, rfl, rfl, by first | exact HF0.out | (rw [HQ0.out]; exact HF0.out), by omega⟩
          case round =>
            obtain ⟨Q, R, rfl, rfl, hd, hR⟩ := hrel
            have g1 := hd.rl
            have g2 := hd.ql
            have g3 := hd.qh
            have HD := Lib.hid hd
            clear hd
            by_cases cA : 4294967296 ≤ Q
            · skip
              have st := Dig.step HDG0.out HD.out (.inl cA)
              have st1 := st.ql
              have st2 := st.rl
              have st3 := st.qh
              have HST := Lib.hid st
              clear st
              by_cases hbr : R + v1 < 4294967296
              · go_wp2_with fail
                go_round
                case rel => exact ⟨Q - 1, R + v1, rfl, rfl, HST.out, hbr⟩
                case measure => simp [intOf]; omega
              · have hk := Dig.over HDG0.out HST.out (by omega) (by omega)
                obtain ⟨qx0, hqq⟩ : ∃ qx, qx = Q - 1 := ⟨_, rfl⟩
                rw [← hqq] at hk
                have EQ0 := hqq.symm
                clear hqq
                have HK0 := Lib.hid hk
                clear hk HST
                obtain ⟨x1, x2⟩ := IsQ.rest HK0.out
                have x3 := rest_wraps t u0 y qx0 x1 (by omega)
                obtain ⟨x5, x6⟩ := IsQ.bd HDG0.out HK0.out
                obtain ⟨t2, ht2⟩ : ∃ t2, t2 = t * 4294967296 + u0 - qx0 * y := ⟨_, rfl⟩
                rw [← ht2] at x3
                have HT2 := Lib.hid ht2
                clear ht2 x1 x2
                go_wp2
                go_ret2
                have hw := whole (joinI H Lo) D (2 ^ s) y u32 u1 u0 qx1 qx0 (two_pos s) (by omega) HSH.out.yD HSH.out.nn HK1.out (by rw [← HT.out]; exact HK0.out)
                rw [← HT.out, ← HT2.out] at hw
                exact ⟨by rw [← hw.1, ← hw.2]; rfl, rfl⟩
            · have m5 : 0 ≤ Q * v0 := Int.mul_nonneg g2 (by omega)
              have m6 : Q * v0 ≤ 18446744073709551615 := prod_lt Q v0 (by omega) (by omega) (by omega) (by omega)
              by_cases cB : 4294967296 * R + u0 < Q * v0
              · skip
                have st := Dig.step HDG0.out HD.out (.inr cB)
                have st1 := st.ql
                have st2 := st.rl
                have st3 := st.qh
                have HST := Lib.hid st
                clear st
                by_cases hbr : R + v1 < 4294967296
                · go_wp2_with fail
                  go_round
                  case rel => exact ⟨Q - 1, R + v1, rfl, rfl, HST.out, hbr⟩
                  case measure => simp [intOf]; omega
                · have hk := Dig.over HDG0.out HST.out (by omega) (by omega)
                  obtain ⟨qx0, hqq⟩ : ∃ qx, qx = Q - 1 := ⟨_, rfl⟩
                  rw [← hqq] at hk
                  have EQ0 := hqq.symm
                  clear hqq
                  have HK0 := Lib.hid hk
                  clear hk HST
                  obtain ⟨x1, x2⟩ := IsQ.rest HK0.out
                  have x3 := rest_wraps t u0 y qx0 x1 (by omega)
                  obtain ⟨x5, x6⟩ := IsQ.bd HDG0.out HK0.out
                  obtain ⟨t2, ht2⟩ : ∃ t2, t2 = t * 4294967296 + u0 - qx0 * y := ⟨_, rfl⟩
                  rw [← ht2] at x3
                  have HT2 := Lib.hid ht2
                  clear ht2 x1 x2
                  go_wp2
                  go_ret2
                  have hw := whole (joinI H Lo) D (2 ^ s) y u32 u1 u0 qx1 qx0 (two_pos s) (by omega) HSH.out.yD HSH.out.nn HK1.out (by rw [← HT.out]; exact HK0.out)
                  rw [← HT.out, ← HT2.out] at hw
                  exact ⟨by rw [← hw.1, ← hw.2]; rfl, rfl⟩
              · have hk := Dig.last HDG0.out HD.out (by omega)
                have HK0 := Lib.hid hk
                clear hk HD
                obtain ⟨x1, x2⟩ := IsQ.rest HK0.out
                have x3 := rest_wraps t u0 y Q x1 (by omega)
                obtain ⟨x5, x6⟩ := IsQ.bd HDG0.out HK0.out
                obtain ⟨t2, ht2⟩ : ∃ t2, t2 = t * 4294967296 + u0 - Q * y := ⟨_, rfl⟩
                rw [← ht2] at x3
                have HT2 := Lib.hid ht2
                clear ht2 x1 x2
                go_wp2
                go_ret2
                have hw := whole (joinI H Lo) D (2 ^ s) y u32 u1 u0 qx1 Q (two_pos s) (by omega) HSH.out.yD HSH.out.nn HK1.out (by rw [← HT.out]; exact HK0.out)
                rw [← HT.out, ← HT2.out] at hw
                exact ⟨by rw [← hw.1, ← hw.2]; rfl, rfl⟩
      · have hk := Dig.last HDG1.out HD.out (by omega)
        have HK1 := Lib.hid hk
        clear hk HD
        obtain ⟨w1, w2⟩ := IsQ.rest HK1.out
        have w3 := rest_wraps u32 u1 y Q w1 (by omega)
        obtain ⟨w5, w6⟩ := IsQ.bd HDG1.out HK1.out
        obtain ⟨t, ht⟩ : ∃ t, t = u32 * 4294967296 + u1 - Q * y := ⟨_, rfl⟩
        rw [← ht] at w1 w2 w3
        have HT := Lib.hid ht
        clear ht
        have dg0 : Digs t u0 v1 v0 y := ⟨n1, n2, n3, n4, HDG1.out.yy, z1, z2, w1, w2⟩
        have HDG0 := Lib.hid dg0
        have first0 := Dig.first dg0
        clear dg0
        obtain ⟨q00, hq0⟩ : ∃ q, q = t / v1 := ⟨_, rfl⟩
        have hq0l := hq0
        rw [← hq0] at first0
        have hrl0 := rem_lt t v1 (by omega)
        rw [← hq0] at hrl0
        obtain ⟨r00, hr0⟩ : ∃ r, r = t - q00 * v1 := ⟨_, rfl⟩
        rw [← hr0] at hrl0 first0
        have E18 := hq0.symm
        have E19 := hr0.symm
        have HQ0 := Lib.hid E18
        have j1 := first0.e
        have j2 := first0.rl
        have j3 := first0.ql
        have HF0 := Lib.hid first0
        have k1 : 0 ≤ q00 * v1 := Int.mul_nonneg j3 (by omega)
        have k2 : q00 * v1 ≤ 18446744073709551615 := by omega
        have k3 : 0 ≤ t - q00 * v1 := by omega
        have k4 : t - q00 * v1 ≤ 18446744073709551615 := by omega
        clear hq0 hr0 first0 hq0l j1
        go_wp2_with fail
        go_loop [18, 16] (fun q r => ∃ P T : Int, q = .int .u64 P ∧ r = .int .u64 T ∧ Dig t u0 v1 y P T ∧ T < 4294967296) (fun q _ => (intOf q).toNat)
        case atStart => exact ⟨_, _, rfl, rfl, by first | exact HF0.out | (rw [HQ0.out]; exact HF0.out), by omega⟩
        case round =>
          obtain ⟨P, T, rfl, rfl, hd, hR⟩ := hrel
          have g1 := hd.rl
          have g2 := hd.ql
          have g3 := hd.qh
          have HD := Lib.hid hd
          clear hd
          by_cases cA : 4294967296 ≤ P
          · skip
            have st := Dig.step HDG0.out HD.out (.inl cA)
            have st1 := st.ql
            have st2 := st.rl
            have st3 := st.qh
            have HST := Lib.hid st
            clear st
            by_cases hbr : T + v1 < 4294967296
            · go_wp2_with fail
              go_round
              case rel => exact ⟨P - 1, T + v1, rfl, rfl, HST.out, hbr⟩
              case measure => simp [intOf]; omega
            · have hk := Dig.over HDG0.out HST.out (by omega) (by omega)
              obtain ⟨qx0, hqq⟩ : ∃ qx, qx = P - 1 := ⟨_, rfl⟩
              rw [← hqq] at hk
              have EQ0 := hqq.symm
              clear hqq
              have HK0 := Lib.hid hk
              clear hk HST
              obtain ⟨x1, x2⟩ := IsQ.rest HK0.out
              have x3 := rest_wraps t u0 y qx0 x1 (by omega)
              obtain ⟨x5, x6⟩ := IsQ.bd HDG0.out HK0.out
              obtain ⟨t2, ht2⟩ : ∃ t2, t2 = t * 4294967296 + u0 - qx0 * y := ⟨_, rfl⟩
              rw [← ht2] at x3
              have HT2 := Lib.hid ht2
              clear ht2 x1 x2
              go_wp2
              go_ret2
              have hw := whole (joinI H Lo) D (2 ^ s) y u32 u1 u0 Q qx0 (two_pos s) (by omega) HSH.out.yD HSH.out.nn HK1.out (by rw [← HT.out]; exact HK0.out)
              rw [← HT.out, ← HT2.out] at hw
              exact ⟨by rw [← hw.1, ← hw.2]; rfl, rfl⟩
          · have m5 : 0 ≤ P * v0 := Int.mul_nonneg g2 (by omega)
            have m6 : P * v0 ≤ 18446744073709551615 := prod_lt P v0 (by omega) (by omega) (by omega) (by omega)
            by_cases cB : 4294967296 * T + u0 < P * v0
            · skip
              have st := Dig.step HDG0.out HD.out (.inr cB)
              have st1 := st.ql
              have st2 := st.rl
              have st3 := st.qh
              have HST := Lib.hid st
              clear st
              by_cases hbr : T + v1 < 4294967296
              · go_wp2_with fail
                go_round
                case rel => exact ⟨P - 1, T + v1, rfl, rfl, HST.out, hbr⟩
                case measure => simp [intOf]; omega
              · have hk := Dig.over HDG0.out HST.out (by omega) (by omega)
                obtain ⟨qx0, hqq⟩ : ∃ qx, qx = P - 1 := ⟨_, rfl⟩
                rw [← hqq] at hk
                have EQ0 := hqq.symm
                clear hqq
                have HK0 := Lib.hid hk
                clear hk HST
                obtain ⟨x1, x2⟩ := IsQ.rest HK0.out
                have x3 := rest_wraps t u0 y qx0 x1 (by omega)
                obtain ⟨x5, x6⟩ := IsQ.bd HDG0.out HK0.out
                obtain ⟨t2, ht2⟩ : ∃ t2, t2 = t * 4294967296 + u0 - qx0 * y := ⟨_, rfl⟩
                rw [← ht2] at x3
                have HT2 := Lib.hid ht2
                clear ht2 x1 x2
                go_wp2
                go_ret2
                have hw := whole (joinI H Lo) D (2 ^ s) y u32 u1 u0 Q qx0 (two_pos s) (by omega) HSH.out.yD HSH.out.nn HK1.out (by rw [← HT.out]; exact HK0.out)
                rw [← HT.out, ← HT2.out] at hw
                exact ⟨by rw [← hw.1, ← hw.2]; rfl, rfl⟩
            · have hk := Dig.last HDG0.out HD.out (by omega)
              have HK0 := Lib.hid hk
              clear hk HD
              obtain ⟨x1, x2⟩ := IsQ.rest HK0.out
              have x3 := rest_wraps t u0 y P x1 (by omega)
              obtain ⟨x5, x6⟩ := IsQ.bd HDG0.out HK0.out
              obtain ⟨t2, ht2⟩ : ∃ t2, t2 = t * 4294967296 + u0 - P * y := ⟨_, rfl⟩
              rw [← ht2] at x3
              have HT2 := Lib.hid ht2
              clear ht2 x1 x2
              go_wp2
              go_ret2
              have hw := whole (joinI H Lo) D (2 ^ s) y u32 u1 u0 Q P (two_pos s) (by omega) HSH.out.yD HSH.out.nn HK1.out (by rw [← HT.out]; exact HK0.out)
              rw [← HT.out, ← HT2.out] at hw
              exact ⟨by rw [← hw.1, ← hw.2]; rfl, rfl⟩
end Go.Proofs.Ytdnepccjgclgiaa
