/- Plain bounds: turns around the third axis. -/
import Derived.Test.YtdnepccjgclgiaaQkeep
import Derived.Test.YtdnepccjgclgiaaVturn
namespace Go.Proofs.Ytdnepccjgclgiaa
open Go.RowKit

theorem rt_60 : rt 1152921504606846976 = 1073741824 := by
  have h1 := le_rt (X := 1152921504606846976) (n := 1073741824) (by decide)
  have h2 := (rt_is 1152921504606846976).1
  rcases Nat.lt_or_ge 1073741824 (rt 1152921504606846976) with h | h
  · have := Nat.mul_le_mul (show 1073741825 ≤ rt 1152921504606846976 by omega) (show 1073741825 ≤ rt 1152921504606846976 by omega)
    omega
  · omega
theorem axis_unit : QUnit [0, 0, 1] [0, 0, 65536] := by
  refine ⟨30, 1073741824, ?_, by decide, by decide, by decide⟩
  rw [show ssq ([0, 0, 1].map (fun x => x * 2 ^ 30)) = 1152921504606846976 by decide, rt_60]
theorem axis_qat : qat [0, 0, 1] 0 = 0 ∧ qat [0, 0, 1] 1 = 0 ∧ qat [0, 0, 1] 2 = 65536 := by
  unfold qat
  rw [qvec_is axis_unit]
  exact ⟨rfl, rfl, rfl⟩
theorem fmul_left0 (s : Int) (h1 : -65536 ≤ s) (h2 : s ≤ 65536) : fmul 0 s = 0 := by
  rw [fmul_in 0 s (by omega) (by omega) (by omega) (by omega) (by omega) (by omega)]; omega
theorem fmul_leftOne (s : Int) (h1 : -65536 ≤ s) (h2 : s ≤ 65536) : fmul 65536 s = s := by
  rw [fmul_in 65536 s (by omega) (by omega) (by omega) (by omega) (by omega) (by omega)]; omega
theorem of_axis (k : Int) (w : World) :
    Calls Try.prog 62 #[.agg #[.int .i64 0, .int .i64 0, .int .i64 1], .int .i64 (2 * k)] w fun e w' => e = .returned (.agg #[.int .i64 (cos k), .int .i64 0, .int .i64 0, .int .i64 (sin k)]) ∧ Below w.heap.size w w' := by
  have h := of_any 0 0 1 (2 * k) w (by decide) (by decide) (by decide) (by decide) (by decide) (by decide)
  have s := sin_bd k
  have hm : ¬ most [0, 0, 1] = 0 := by decide
  obtain ⟨q0, q1, q2⟩ := axis_qat
  have e : 2 * k / 2 = k := by omega
  unfold ofw ofv at h
  rw [if_neg hm, if_neg hm, if_neg hm, if_neg hm, q0, q1, q2, e, fmul_left0 _ s.1 s.2, fmul_leftOne _ s.1 s.2] at h
  exact h

theorem axis_tn (k : Int) : Tn (cos k) 0 0 (sin k) := by
  have h := circle k
  unfold Tn nn
  omega

/-- The double angle. -/
theorem double (k : Int) (hk : 0 ≤ k) : (65536 * sin (2 * k) - 2 * (sin k * cos k) ≤ 917833 ∧ -917833 ≤ 65536 * sin (2 * k) - 2 * (sin k * cos k)) ∧
    (65536 * cos (2 * k) - (cos k * cos k - sin k * sin k) ≤ 917833 ∧ -917833 ≤ 65536 * cos (2 * k) - (cos k * cos k - sin k * sin k)) := by
  have h1 := sums k k hk hk
  have h2 := sums (k + 16384) k (by omega) hk
  rw [← cos_eq, cos_q, show k + 16384 + k = 2 * k + 16384 by omega, ← cos_eq, Int.neg_mul] at h2
  rw [show k + k = 2 * k by omega, Int.mul_comm (cos k) (sin k)] at h1
  omega

theorem plane_one (x y l c s C S t v f : Int) (hx : x ≤ l ∧ -x ≤ l) (hy : y ≤ l ∧ -y ≤ l) (hl : 0 ≤ l) (hC : 65536 * C - c ≤ 917833 ∧ -917833 ≤ 65536 * C - c) (hS : 65536 * S - s ≤ 917833 ∧ -917833 ≤ 65536 * S - s)
    (ht : 4294967296 * t - f ≤ 25771900928 ∧ -25771900928 ≤ 4294967296 * t - f) (hf : f = x * c - y * s) (hv : 65536 * v - (x * C - y * S) ≤ 65536 ∧ (x * C - y * S) - 65536 * v ≤ 65536) :
    t - v ≤ l / 500 + 16 ∧ v - t ≤ l / 500 + 16 := by
  have m1 := mul_bd x (65536 * C - c) l 917833 hl (by omega) (by omega) hx.1 (by omega) hC.1
  have m2 := mul_bd y (65536 * S - s) l 917833 hl (by omega) (by omega) hy.1 (by omega) hS.1
  rw [show x * (65536 * C - c) = 65536 * (x * C) - x * c by grind] at m1
  rw [show y * (65536 * S - s) = 65536 * (y * S) - y * s by grind] at m2
  omega

/-- The third coordinate. -/
theorem plane_third (k x y : Int) (x1 : -16777216 ≤ x) (x2 : x ≤ 16777216) (y1 : -16777216 ≤ y) (y2 : y ≤ 16777216) : qt qmz (cos k) 0 0 (sin k) x y 5 - 5 ≤ 4 ∧ 5 - qt qmz (cos k) 0 0 (sin k) x y 5 ≤ 4 := by
  have s := sin_bd k
  have c := cos_bd k
  have h := circle k
  generalize sin k = S at *
  generalize cos k = C at *
  have z1 : ∀ a : Int, -67108864 ≤ a → a ≤ 67108864 → fmul a 0 = 0 ∧ fmul 0 a = 0 := fun a h1 h2 => by
    rw [fmul_in 0 a (by omega) (by omega) (by omega) (by omega) (by omega) (by omega)]
    exact ⟨fmul_zero a, by omega⟩
  have f5 := fmul_near S 5 (by omega) (by omega) (by omega) (by omega)
  have g5 := fmul_near C 5 (by omega) (by omega) (by omega) (by omega)
  have b5 := mul_bd S 5 65536 5 (by omega) (by omega) s.1 s.2 (by omega) (by omega)
  have c5 := mul_bd C 5 65536 5 (by omega) (by omega) c.1 c.2 (by omega) (by omega)
  obtain ⟨n0, n1, n2, n3⟩ := qm_near C 0 0 S 0 x y 5 ⟨by omega, by omega, by omega, by omega⟩ ⟨by omega, by omega, by omega, by omega⟩
  have e0 : qmw C 0 0 S 0 x y 5 = -fmul S 5 := by
    unfold qmw
    rw [(z1 C (by omega) (by omega)).1, (z1 x (by omega) (by omega)).2, (z1 y (by omega) (by omega)).2]
    rw [show qsum [0, -0, -0, -fmul S 5] = 0 + -0 + -0 + -fmul S 5 from qsum_in _ _ _ _ (by omega) (by omega) (by omega) (by omega) (by omega) (by omega) (by omega) (by omega)]
    omega
  have e3 : qmz C 0 0 S 0 x y 5 = fmul C 5 := by
    unfold qmz
    rw [(z1 S (by omega) (by omega)).1, (z1 x (by omega) (by omega)).2, (z1 y (by omega) (by omega)).2]
    rw [show qsum [fmul C 5, 0, -0, 0] = fmul C 5 + 0 + -0 + 0 from qsum_in _ _ _ _ (by omega) (by omega) (by omega) (by omega) (by omega) (by omega) (by omega) (by omega)]
    omega
  have r1 : -67108864 ≤ qmx C 0 0 S 0 x y 5 ∧ qmx C 0 0 S 0 x y 5 ≤ 67108864 := by
    have p1 := mul_bd C x 65536 16777216 (by omega) (by omega) c.1 c.2 x1 x2
    have p2 := mul_bd S y 65536 16777216 (by omega) (by omega) s.1 s.2 y1 y2
    omega
  have r2 : -67108864 ≤ qmy C 0 0 S 0 x y 5 ∧ qmy C 0 0 S 0 x y 5 ≤ 67108864 := by
    have p1 := mul_bd C y 65536 16777216 (by omega) (by omega) c.1 c.2 y1 y2
    have p2 := mul_bd S x 65536 16777216 (by omega) (by omega) s.1 s.2 x1 x2
    omega
  unfold qt
  rw [clamp_in C (by omega) (by omega), clamp_in S (by omega) (by omega), show clamp 0 = 0 by decide, e0, e3]
  generalize qmx C 0 0 S 0 x y 5 = R1 at *
  generalize qmy C 0 0 S 0 x y 5 = R2 at *
  clear n0 n1 n2 n3 e0 e3
  generalize fmul S 5 = u at *
  generalize fmul C 5 = v at *
  unfold qmz
  rw [Int.neg_zero, (z1 R1 (by omega) (by omega)).1, (z1 R2 (by omega) (by omega)).1]
  have p := fmul_near (-u) (-S) (by omega) (by omega) (by omega) (by omega)
  have q := fmul_near v C (by omega) (by omega) (by omega) (by omega)
  have pb := mul_bd (-u) (-S) 67108864 67108864 (by omega) (by omega) (by omega) (by omega) (by omega) (by omega)
  have qb := mul_bd v C 67108864 67108864 (by omega) (by omega) (by omega) (by omega) (by omega) (by omega)
  rw [show qsum [fmul (-u) (-S), 0, -0, fmul v C] = fmul (-u) (-S) + 0 + -0 + fmul v C from qsum_in _ _ _ _ (by omega) (by omega) (by omega) (by omega) (by omega) (by omega) (by omega) (by omega)]
  have m1 := mul_bd (65536 * u - S * 5) S 32768 65536 (by omega) (by omega) (by omega) (by omega) s.1 s.2
  have m2 := mul_bd (65536 * v - C * 5) C 32768 65536 (by omega) (by omega) (by omega) (by omega) c.1 c.2
  rw [show (65536 * u - S * 5) * S = 65536 * (-u * -S) - 5 * (S * S) by grind] at m1
  rw [show (65536 * v - C * 5) * C = 65536 * (v * C) - 5 * (C * C) by grind] at m2
  omega

theorem plane_facts (k x y : Int) (hk : 0 ≤ k) (x1 : -16777216 ≤ x) (x2 : x ≤ 16777216) (y1 : -16777216 ≤ y) (y2 : y ≤ 16777216) :
    ∃ l u v t1 t2 t3, vlen x y = l ∧ vtx x y (2 * k) = u ∧ vty x y (2 * k) = v ∧ qt qmx (cos k) 0 0 (sin k) x y 5 = t1 ∧ qt qmy (cos k) 0 0 (sin k) x y 5 = t2 ∧ qt qmz (cos k) 0 0 (sin k) x y 5 = t3 ∧ 0 ≤ l ∧ l ≤ 33554432 ∧ (-2147483648 ≤ u ∧ u ≤ 2147483648) ∧ (-2147483648 ≤ v ∧ v ≤ 2147483648) ∧
    (t1 - u ≤ l / 500 + 16 ∧ u - t1 ≤ l / 500 + 16) ∧ (t2 - v ≤ l / 500 + 16 ∧ v - t2 ≤ l / 500 + 16) ∧ t3 - 5 ≤ 4 ∧ 5 - t3 ≤ 4 := by
  obtain ⟨b1, b2, b3, b4, b5, b6⟩ := turn_bd x y (2 * k) (by omega) (by omega) (by omega) (by omega)
  obtain ⟨n1, n2, -⟩ := qt_near (axis_tn k) x y 5 x1 x2 y1 y2 (by omega) (by omega)
  obtain ⟨d1, d2⟩ := double k hk
  have l1 := len_le x y
  obtain ⟨g1, g2, g3, g4⟩ := len_ge x y
  have e1 : fx (cos k) 0 0 (sin k) x y 5 = x * (cos k * cos k - sin k * sin k) - y * (2 * (sin k * cos k)) := by unfold fx; grind
  have e2 : fy (cos k) 0 0 (sin k) x y 5 = x * (2 * (sin k * cos k)) - -y * (cos k * cos k - sin k * sin k) := by unfold fy; grind
  refine ⟨len x y, _, _, _, _, _, vlen_in x y (by omega) (by omega) (by omega) (by omega), rfl, rfl, rfl, rfl, rfl, by omega, by omega, ⟨b1, b2⟩, ⟨b3, b4⟩, ?_, ?_, (plane_third k x y x1 x2 y1 y2).1, (plane_third k x y x1 x2 y1 y2).2⟩
  · exact plane_one x y (len x y) _ _ _ _ _ _ _ ⟨g1, g2⟩ ⟨g3, g4⟩ (by omega) d2 d1 n1 e1 b5
  · exact plane_one x (-y) (len x y) _ _ _ _ _ _ _ ⟨g1, g2⟩ ⟨g4, by omega⟩ (by omega) d1 d2 n2 e2 (by rw [show x * sin (2 * k) - -y * cos (2 * k) = x * sin (2 * k) + y * cos (2 * k) by grind]; exact b6)
end Go.Proofs.Ytdnepccjgclgiaa
