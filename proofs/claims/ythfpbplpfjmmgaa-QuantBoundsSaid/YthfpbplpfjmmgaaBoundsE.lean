/- For every input, QuantBounds returns true. No condition. -/
import Derived.Test.YthfpbplpfjmmgaaBoundsW
namespace Go.Proofs.Ythfpbplpfjmmgaa
open Go.RowKit

set_option maxRecDepth 4000 in
theorem bounds_eq (a0 a1 n v u : Int) (w : World) (h0 : -9223372036854775808 ≤ a0 ∧ a0 ≤ 9223372036854775807) (h1 : -9223372036854775808 ≤ a1 ∧ a1 ≤ 9223372036854775807) (h2 : -9223372036854775808 ≤ n ∧ n ≤ 9223372036854775807)
    (h : num a0 1099511627776 = num a1 1099511627776) :
    Calls Try.prog 7 #[.int .i64 a0, .int .i64 a1, .int .i64 n, .int .i64 v, .int .i64 u] w fun e w' => e = .returned (.bool true) ∧ Below w.heap.size w w' := by
  have X1 := num_lo a1 1099511627776 (by omega)
  have X2 := num_hi a1 1099511627776 (by omega)
  have m0 : 0 ≤ n % 32 := by omega
  have m1 : n % 32 < 32 := by omega
  obtain ⟨lo, hlo⟩ : ∃ lo, num a1 1099511627776 = lo := ⟨_, rfl⟩
  rw [hlo] at h X1 X2
  go_enter Try.func7, Try.ntmps7
  go_wp2_with (first
    | (go_at_call 27; (with_reducible refine (quantBegun_any _).mono ?_); rintro e w1 ⟨rfl, hb⟩; obtain ⟨lb, nb, rfl⟩ := ext_of hb; clear hb)
    | (go_at_call 28; (with_reducible refine (num_any _ _ _ (by omega) (by omega) (by omega) (by omega)).mono ?_); rintro e w1 ⟨rfl, rfl⟩)
    | (go_at_call 15; (with_reducible refine (below_any _ _ _ (by omega) (by omega) (by omega) (by omega)).mono ?_); rintro e w1 ⟨rfl, rfl⟩)
    | (go_at_call 29; (with_reducible refine (bound_bad _ _ _ X1 X2).mono ?_); rintro e w1 ⟨rfl, hb⟩; obtain ⟨l0, n0, rfl⟩ := ext_of hb; clear hb))
  go_ret
  exact ⟨rfl, by repeat (first | exact Below.refl _ _ | apply Below.drew | apply Below.al | apply Below.ex)⟩

theorem QuantBoundsW (a0 a1 a2 a3 a4 : Int) (w0 : (Lit.int .i64 a0).wf = true) (w1 : (Lit.int .i64 a1).wf = true) (w2 : (Lit.int .i64 a2).wf = true) (_w3 : (Lit.int .i64 a3).wf = true) (_w4 : (Lit.int .i64 a4).wf = true) (w : World) :
    Calls Try.prog 7 #[.int .i64 a0, .int .i64 a1, .int .i64 a2, .int .i64 a3, .int .i64 a4] w fun e w' => e = .returned (.bool true) ∧ Below w.heap.size w w' := by
  have X1 := num_lo a0 1099511627776 (by omega)
  have X2 := num_hi a0 1099511627776 (by omega)
  have Y1 := num_lo a1 1099511627776 (by omega)
  have Y2 := num_hi a1 1099511627776 (by omega)
  rcases Int.lt_trichotomy (num a0 1099511627776) (num a1 1099511627776) with c | c | c
  · exact bounds_ne a0 a1 a2 a3 a4 _ _ w (bounds_i64 w0) (bounds_i64 w1) (bounds_i64 w2) c (.inl ⟨rfl, rfl⟩) X1 Y2
  · exact bounds_eq a0 a1 a2 a3 a4 w (bounds_i64 w0) (bounds_i64 w1) (bounds_i64 w2) c
  · exact bounds_ne a0 a1 a2 a3 a4 _ _ w (bounds_i64 w0) (bounds_i64 w1) (bounds_i64 w2) c (.inr ⟨rfl, rfl⟩) Y1 X2
end Go.Proofs.Ythfpbplpfjmmgaa
