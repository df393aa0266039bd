/- For every input, VecProducts returns true. No condition. -/
import Derived.Test.YtdnepccjgclgiaaProducts
import Derived.BigRegion
import Derived.Test.YtdnepccjgclgiaaGrow
namespace Go.Proofs.Ytdnepccjgclgiaa
open Go.RowKit
attribute [local go_sem ↓] run_mx run_mx4

theorem VecProductsW (a0 a1 a2 a3 : Int) (w0 : (Lit.int .i64 a0).wf = true) (w1 : (Lit.int .i64 a1).wf = true) (w2 : (Lit.int .i64 a2).wf = true) (w3 : (Lit.int .i64 a3).wf = true) (w : World) :
    Calls Try.prog 17 #[.int .i64 a0, .int .i64 a1, .int .i64 a2, .int .i64 a3] w fun e w' => e = .returned (.bool true) ∧ Below w.heap.size w w' := by
  have h0 := bounds_i64 w0
  have h1 := bounds_i64 w1
  have h2 := bounds_i64 w2
  have h3 := bounds_i64 w3
  clear w0 w1 w2 w3
  have X1 := num_lo a0 1073741824 (by omega)
  have X2 := num_hi a0 1073741824 (by omega)
  have Y1 := num_lo a1 1073741824 (by omega)
  have Y2 := num_hi a1 1073741824 (by omega)
  have Z1 := num_lo a2 1073741824 (by omega)
  have Z2 := num_hi a2 1073741824 (by omega)
  have V1 := num_lo a3 1073741824 (by omega)
  have V2 := num_hi a3 1073741824 (by omega)
  go_enter Try.func17, Try.ntmps17
  go_wp2_with (first
    | (go_at_call 24; (with_reducible refine (vecBegun_any _).mono ?_); rintro e w1 ⟨rfl, hb⟩; obtain ⟨l0, n0, rfl⟩ := ext_of hb; clear hb)
    | (go_at_call 25; (with_reducible refine (small_any _ _ _ (by omega) (by omega)).mono ?_); rintro e w1 ⟨rfl, hb⟩; obtain ⟨l1, n1, rfl⟩ := ext_of hb; clear hb))
  generalize num a0 1073741824 = x at *
  generalize num a1 1073741824 = y at *
  generalize num a2 1073741824 = z at *
  generalize num a3 1073741824 = v at *
  go_region
  go_wp2
  obtain ⟨d, c, A, B, L, R, M, e1, e2, e3, e4, e5, e6, e7, e8, e9, e10, f1, f2, f3, f4, f5, f6, f7, f8, f9, f10, g1, g2, g3, g4, g5, g6, g7, g8, k1, k2, k3, k4, r1, r2⟩ := product_facts (x / 256) (y / 256) (z / 256) (v / 256) (by omega) (by omega) (by omega) (by omega) (by omega) (by omega) (by omega) (by omega)
  clear X1 X2 Y1 Y2 Z1 Z2 V1 V2
  refine region_grow (by kernel_rfl) (by kernel_rfl) ?_
  repeat (go_big_quiet_step ((first | (intro _; go_at_call 50; exact grow_of (vdot_any _ _ _ _ _)) | (intro _; go_at_call 51; exact grow_of (vcross_any _ _ _ _ _)))))
  refine wpQuiet_nil ?_
  intro _ hw'
  obtain ⟨k, m, rfl⟩ := hw'
  go_wp2_with (first
    | (go_at_call 50; (with_reducible refine (vdot_any _ _ _ _ _).mono ?_); rintro e w1 ⟨rfl, hb⟩; obtain ⟨l0, n0, rfl⟩ := ext_of hb; clear hb))
  refine region_grow_ext (by kernel_rfl) (by kernel_rfl) ?_
  repeat (go_big_quiet_step ((first | (intro _; go_at_call 50; exact grow_of (vdot_any _ _ _ _ _)) | (intro _; go_at_call 51; exact grow_of (vcross_any _ _ _ _ _)) | (intro _; go_at_call 33; exact grow_same (near_any _ _ _ _ (by omega) (by omega) (by omega) (by omega) (by omega) (by omega))))))
  refine wpQuiet_nil ?_
  intro _ hw'
  obtain ⟨k, m, rfl⟩ := hw'
  go_wp2
  go_ret
  exact ⟨rfl, by repeat (first | exact Below.refl _ _ | apply Below.drew | apply Below.al | apply Below.ex)⟩
end Go.Proofs.Ytdnepccjgclgiaa
