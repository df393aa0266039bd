/- For every input, QuatUnits returns true. No condition. -/
import Derived.Test.YtdnepccjgclgiaaQunitsW
import Derived.Test.YtdnepccjgclgiaaQfact
namespace Go.Proofs.Ytdnepccjgclgiaa
open Go.RowKit

theorem units_any (a0 a1 a2 a3 b0 b1 b2 b3 p0 p1 p2 p3 q0 q1 q2 q3 : Int) (w : World)
    (T1 : ∀ w, Calls Try.prog 54 #[.agg #[.int .i64 a0, .int .i64 a1, .int .i64 a2, .int .i64 a3]] w fun e w' => e = .returned (.agg #[.int .i64 p0, .int .i64 p1, .int .i64 p2, .int .i64 p3]) ∧ Below w.heap.size w w')
    (T2 : ∀ w, Calls Try.prog 54 #[.agg #[.int .i64 b0, .int .i64 b1, .int .i64 b2, .int .i64 b3]] w fun e w' => e = .returned (.agg #[.int .i64 q0, .int .i64 q1, .int .i64 q2, .int .i64 q3]) ∧ Below w.heap.size w w')
    (hp : Tn p0 p1 p2 p3) (hq : Tn q0 q1 q2 q3) :
    Calls Try.prog 20 #[.agg #[.int .i64 a0, .int .i64 a1, .int .i64 a2, .int .i64 a3], .agg #[.int .i64 b0, .int .i64 b1, .int .i64 b2, .int .i64 b3]] w fun e w' => e = .returned (.bool true) ∧ Below w.heap.size w w' := by
  have n := qm_norm hp hq
  obtain ⟨k0, k1, k2, k3⟩ := nn_coords n.1 65600 (by omega) (by omega)
  obtain ⟨g0, g1, g2, g3⟩ := hp.bd
  refine units_core a0 a1 a2 a3 b0 b1 b2 b3 p0 p1 p2 p3 q0 q1 q2 q3 w T1 T2 ⟨by omega, by omega, by omega, by omega⟩ hp.sqq _ _ _ _ _ _ _ _ rfl rfl rfl rfl ⟨by omega, by omega, by omega, by omega⟩ ?_ rfl rfl rfl rfl ?_
  · unfold nn at n
    unfold sqq
    omega
  · rw [clamp_in p0 (by omega) (by omega), clamp_in p1 (by omega) (by omega), clamp_in p2 (by omega) (by omega), clamp_in p3 (by omega) (by omega)]
    exact qm_back hp

theorem QuatUnitsW (a0 a1 a2 a3 b0 b1 b2 b3 : Int) (w0 : (Lit.int .i64 a0).wf = true) (w1 : (Lit.int .i64 a1).wf = true) (w2 : (Lit.int .i64 a2).wf = true) (_w3 : (Lit.int .i64 a3).wf = true) (v0 : (Lit.int .i64 b0).wf = true) (v1 : (Lit.int .i64 b1).wf = true) (v2 : (Lit.int .i64 b2).wf = true) (_v3 : (Lit.int .i64 b3).wf = true) (w : World) :
    Calls Try.prog 20 #[.agg #[.int .i64 a0, .int .i64 a1, .int .i64 a2, .int .i64 a3], .agg #[.int .i64 b0, .int .i64 b1, .int .i64 b2, .int .i64 b3]] w fun e w' => e = .returned (.bool true) ∧ Below w.heap.size w w' :=
  units_any a0 a1 a2 a3 b0 b1 b2 b3 _ _ _ _ _ _ _ _ w (fun v => turner_any a0 a1 a2 a3 v (bounds_i64 w0) (bounds_i64 w1) (bounds_i64 w2)) (fun v => turner_any b0 b1 b2 b3 v (bounds_i64 v0) (bounds_i64 v1) (bounds_i64 v2))
    (turner_norm _ _ _ a3 (num_lo a0 1048576 (by omega)) (num_hi a0 1048576 (by omega)) (num_lo a1 1048576 (by omega)) (num_hi a1 1048576 (by omega)) (num_lo a2 1048576 (by omega)) (num_hi a2 1048576 (by omega)))
    (turner_norm _ _ _ b3 (num_lo b0 1048576 (by omega)) (num_hi b0 1048576 (by omega)) (num_lo b1 1048576 (by omega)) (num_hi b1 1048576 (by omega)) (num_lo b2 1048576 (by omega)) (num_hi b2 1048576 (by omega)))
end Go.Proofs.Ytdnepccjgclgiaa
