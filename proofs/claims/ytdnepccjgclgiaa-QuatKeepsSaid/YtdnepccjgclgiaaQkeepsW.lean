/- For every input, QuatKeeps returns true. No condition. -/
import Derived.Test.YtdnepccjgclgiaaQkeep
namespace Go.Proofs.Ytdnepccjgclgiaa
open Go.RowKit

set_option maxRecDepth 8000 in
set_option maxHeartbeats 2000000 in
theorem keeps_core (a0 a1 a2 a3 x y z p0 p1 p2 p3 : Int) (w : World)
    (T1 : ∀ w, Calls Try.prog 54 #[.agg #[.int .i64 a0, .int .i64 a1, .int .i64 a2, .int .i64 a3]] w fun e w' => e = .returned (.agg #[.int .i64 p0, .int .i64 p1, .int .i64 p2, .int .i64 p3]) ∧ Below w.heap.size w w')
    (hp : Tn p0 p1 p2 p3) (hx : -9223372036854775808 ≤ x ∧ x ≤ 9223372036854775807) (hy : -9223372036854775808 ≤ y ∧ y ≤ 9223372036854775807) (hz : -9223372036854775808 ≤ z ∧ z ≤ 9223372036854775807) :
    Calls Try.prog 21 #[.agg #[.int .i64 a0, .int .i64 a1, .int .i64 a2, .int .i64 a3], .int .i64 x, .int .i64 y, .int .i64 z] w fun e w' => e = .returned (.bool true) ∧ Below w.heap.size w w' := by
  have X1 := num_lo x 16777216 (by omega)
  have X2 := num_hi x 16777216 (by omega)
  have Y1 := num_lo y 16777216 (by omega)
  have Y2 := num_hi y 16777216 (by omega)
  have Z1 := num_lo z 16777216 (by omega)
  have Z2 := num_hi z 16777216 (by omega)
  obtain ⟨L, M, eL, eM, L0, L1, M0, M1, k1, k2⟩ := keeps_len hp _ _ _ X1 X2 Y1 Y2 Z1 Z2
  obtain ⟨A, eA, A0, A1, ⟨f1, f2⟩, ⟨f3, f4⟩, ⟨f5, f6⟩⟩ := keeps_axis hp
  obtain ⟨-, ⟨g1, g2⟩, ⟨g3, g4⟩, ⟨g5, g6⟩⟩ := hp.bd
  go_enter Try.func21, Try.ntmps21
  go_wp2_with (first
    | (go_at_call 53; (with_reducible refine (quatBegun_any _).mono ?_); rintro e w1 ⟨rfl, hb⟩; obtain ⟨l0, n0, rfl⟩ := ext_of hb; clear hb)
    | (go_at_call 54; (with_reducible refine (T1 _).mono ?_); rintro e w1 ⟨rfl, hb⟩; obtain ⟨l1, n1, rfl⟩ := ext_of hb; clear hb)
    | (go_at_call 42; (with_reducible refine (num_any _ _ _ (by omega) (by omega) (by omega) (by omega)).mono ?_); rintro e w1 ⟨rfl, rfl⟩)
    | (go_at_call 58; (with_reducible refine (long_any _ _ _ _).mono ?_); rintro e w1 ⟨rfl, hb⟩; obtain ⟨l3, n3, rfl⟩ := ext_of hb; clear hb)
    | (go_at_call 59; (with_reducible refine (qturn_any _ _ _ _ _ _ _ _).mono ?_); rintro e w1 ⟨rfl, hb⟩; obtain ⟨l2, n2, rfl⟩ := ext_of hb; clear hb))
  generalize num x 16777216 = X at *
  generalize num y 16777216 = Y at *
  generalize num z 16777216 = Z at *
  obtain ⟨t1, e1⟩ : ∃ t, qt qmx p0 p1 p2 p3 (p1 * 16) (p2 * 16) (p3 * 16) = t := ⟨_, rfl⟩
  obtain ⟨t2, e2⟩ : ∃ t, qt qmy p0 p1 p2 p3 (p1 * 16) (p2 * 16) (p3 * 16) = t := ⟨_, rfl⟩
  obtain ⟨t3, e3⟩ : ∃ t, qt qmz p0 p1 p2 p3 (p1 * 16) (p2 * 16) (p3 * 16) = t := ⟨_, rfl⟩
  rw [e1, e2, e3]
  rw [e1] at f1 f2
  rw [e2] at f3 f4
  rw [e3] at f5 f6
  clear T1
  refine region_grow_ext (by kernel_rfl) (by kernel_rfl) ?_
  repeat (go_big_quiet_step ((first | (intro _; go_at_call 59; with_reducible exact grow_of (qturn_any _ _ _ _ _ _ _ _)) | (intro _; go_at_call 58; with_reducible exact grow_of (long_any _ _ _ _)) | (intro _; go_at_call 33; exact grow_same (near_any _ _ _ _ (by omega) (by omega) (by omega) (by omega) (by omega) (by omega))))))
  refine wpQuiet_nil ?_
  intro _ hw'
  obtain ⟨k, m, rfl⟩ := hw'
  go_wp2
  go_ret
  exact ⟨rfl, by repeat (first | exact Below.refl _ _ | apply Below.drew | apply Below.al | apply Below.ex)⟩

theorem QuatKeepsW (a0 a1 a2 a3 x y z : Int) (w0 : (Lit.int .i64 a0).wf = true) (w1 : (Lit.int .i64 a1).wf = true) (w2 : (Lit.int .i64 a2).wf = true) (_w3 : (Lit.int .i64 a3).wf = true) (wx : (Lit.int .i64 x).wf = true) (wy : (Lit.int .i64 y).wf = true) (wz : (Lit.int .i64 z).wf = true) (w : World) :
    Calls Try.prog 21 #[.agg #[.int .i64 a0, .int .i64 a1, .int .i64 a2, .int .i64 a3], .int .i64 x, .int .i64 y, .int .i64 z] w fun e w' => e = .returned (.bool true) ∧ Below w.heap.size w w' :=
  keeps_core a0 a1 a2 a3 x y z _ _ _ _ w (fun v => turner_any a0 a1 a2 a3 v (bounds_i64 w0) (bounds_i64 w1) (bounds_i64 w2))
    (turner_norm _ _ _ a3 (num_lo a0 1048576 (by omega)) (num_hi a0 1048576 (by omega)) (num_lo a1 1048576 (by omega)) (num_hi a1 1048576 (by omega)) (num_lo a2 1048576 (by omega)) (num_hi a2 1048576 (by omega)))
    (bounds_i64 wx) (bounds_i64 wy) (bounds_i64 wz)
end Go.Proofs.Ytdnepccjgclgiaa
