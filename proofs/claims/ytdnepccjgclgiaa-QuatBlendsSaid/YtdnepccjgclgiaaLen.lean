/- Contracts of lengths of vectors. -/
import Derived.Test.YtdnepccjgclgiaaNum64
import Derived.Test.YtdnepccjgclgiaaTail
namespace Go.Proofs.Ytdnepccjgclgiaa
open Go.RowKit

theorem natAbs_sq_lt (x : Int) (h1 : -1099511627776 ≤ x) (h2 : x ≤ 1099511627776) : x.natAbs * x.natAbs ≤ 1099511627776 * 1099511627776 := Nat.mul_le_mul (by omega) (by omega)

/-- The length of a vector of bounded numbers. -/
noncomputable def len (x y : Int) : Nat := rt (x.natAbs * x.natAbs + y.natAbs * y.natAbs)

theorem len_lt (x y : Int) (h1 : -1099511627776 ≤ x) (h2 : x ≤ 1099511627776) (h3 : -1099511627776 ≤ y) (h4 : y ≤ 1099511627776) : len x y < 2199023255552 := by
  refine rt_lt _ _ ?_
  have := natAbs_sq_lt x h1 h2
  have := natAbs_sq_lt y h3 h4
  omega

theorem length_any (x y : Int) (w : World) (h1 : -1099511627776 ≤ x) (h2 : x ≤ 1099511627776) (h3 : -1099511627776 ≤ y) (h4 : y ≤ 1099511627776) :
    Calls Try.prog 63 #[.int .i64 x, .int .i64 y] w fun e w' => e = .returned (.int .i64 (len x y)) ∧ w = w' := by
  have bx := natAbs_sq_lt x h1 h2
  have by' := natAbs_sq_lt y h3 h4
  have hj : join (loW (hiW (x.natAbs * x.natAbs) + hiW (y.natAbs * y.natAbs) + hiW (loW (x.natAbs * x.natAbs) + loW (y.natAbs * y.natAbs)))) (loW (loW (x.natAbs * x.natAbs) + loW (y.natAbs * y.natAbs))) = x.natAbs * x.natAbs + y.natAbs * y.natAbs := by
    unfold join; exact sum_words _ _ (by omega) (by omega)
  have hr : rt (x.natAbs * x.natAbs + y.natAbs * y.natAbs) < 2199023255552 := len_lt x y h1 h2 h3 h4
  have a1 : x.natAbs < 18446744073709551616 := by omega
  have a2 : y.natAbs < 18446744073709551616 := by omega
  unfold len
  clear bx by'
  go_enter Try.func63, Try.ntmps63
  go_wp2_with (first
    | (go_at_call 65; (with_reducible refine (vmag_any _ _ (by omega) (by omega)).mono ?_); rintro e w' ⟨rfl, rfl⟩)
    | (go_at_call 77; (with_reducible refine (mul64_any _ _ (by assumption) (by assumption) _).mono ?_); rintro e w' ⟨rfl, rfl⟩)
    | (go_at_call 76; (with_reducible refine (root_any _ _ _ (loW_lt _) (loW_lt _)).mono ?_); rintro e w' ⟨rfl, rfl⟩))
  go_ret
  exact ⟨rfl, rfl⟩

/-- vec.Len. -/
noncomputable def vlen (x y : Int) : Int := clamp (len (clamp x) (clamp y) : Int)
theorem vlen_any (x y : Int) (w : World) :
    Calls Try.prog 26 #[.agg #[.int .i64 x, .int .i64 y]] w fun e w' => e = .returned (.int .i64 (vlen x y)) ∧ Below w.heap.size w w' := by
  have x1 := clamp_lo x
  have x2 := clamp_hi x
  have y1 := clamp_lo y
  have y2 := clamp_hi y
  go_enter Try.func26, Try.ntmps26
  go_wp2_with fail
  refine region_grow (by kernel_rfl) (by kernel_rfl) ?_
  repeat (go_big_quiet_step (first | (intro _; go_at_call 35; exact grow_same (clamp_any _ _)) | (intro _; go_at_call 63; exact grow_same (length_any _ _ _ x1 x2 y1 y2))))
  refine wpQuiet_nil ?_
  intro _ hw'
  obtain ⟨k, m, rfl⟩ := hw'
  go_wp2
  go_ret
  exact ⟨rfl, by repeat (first | exact Below.refl _ _ | apply Below.drew | apply Below.al | apply Below.ex)⟩

theorem vadd_any (x y z v : Int) (w : World) :
    Calls Try.prog 27 #[.agg #[.int .i64 x, .int .i64 y], .agg #[.int .i64 z, .int .i64 v]] w fun e w' => e = .returned (.agg #[.int .i64 (fadd x z), .int .i64 (fadd y v)]) ∧ Below w.heap.size w w' := by
  go_enter Try.func27, Try.ntmps27
  go_wp2_with fail
  refine region_tail 11 (by kernel_rfl) (by kernel_rfl) ?_
  simp only [List.take_succ_cons, List.take_zero, List.drop_succ_cons, List.drop_zero]
  repeat (go_big_quiet_step ((intro _; go_at_call 46; exact grow_same (fadd_any _ _ _))))
  refine wpQuiet_nil ?_
  intro _ hw'
  obtain ⟨k, m, rfl⟩ := hw'
  go_wp2
  exact bodyPost_ret (v := .agg #[.int .i64 (fadd x z), .int .i64 (fadd y v)]) (by simp [results, Try.results27, go_sem]) rfl ⟨rfl, by repeat (first | exact Below.refl _ _ | apply Below.drew | apply Below.al | apply Below.ex)⟩
theorem vsub_any (x y z v : Int) (w : World) :
    Calls Try.prog 28 #[.agg #[.int .i64 x, .int .i64 y], .agg #[.int .i64 z, .int .i64 v]] w fun e w' => e = .returned (.agg #[.int .i64 (fsub x z), .int .i64 (fsub y v)]) ∧ Below w.heap.size w w' := by
  go_enter Try.func28, Try.ntmps28
  go_wp2_with fail
  refine region_tail 11 (by kernel_rfl) (by kernel_rfl) ?_
  simp only [List.take_succ_cons, List.take_zero, List.drop_succ_cons, List.drop_zero]
  repeat (go_big_quiet_step ((intro _; go_at_call 47; exact grow_same (fsub_any _ _ _))))
  refine wpQuiet_nil ?_
  intro _ hw'
  obtain ⟨k, m, rfl⟩ := hw'
  go_wp2
  exact bodyPost_ret (v := .agg #[.int .i64 (fsub x z), .int .i64 (fsub y v)]) (by simp [results, Try.results28, go_sem]) rfl ⟨rfl, by repeat (first | exact Below.refl _ _ | apply Below.drew | apply Below.al | apply Below.ex)⟩

theorem small_any (x y : Int) (w : World) (h1 : -9223372036854775808 ≤ x ∧ x ≤ 9223372036854775807) (h2 : -9223372036854775808 ≤ y ∧ y ≤ 9223372036854775807) :
    Calls Try.prog 25 #[.int .i64 x, .int .i64 y] w fun e w' => e = .returned (.agg #[.int .i64 (num x 1073741824), .int .i64 (num y 1073741824)]) ∧ Below w.heap.size w w' := by
  go_enter Try.func25, Try.ntmps25
  go_wp2_with (go_at_call 42; (with_reducible refine (num_any _ _ _ (by omega) (by omega) (by omega) (by omega)).mono ?_); rintro e w' ⟨rfl, rfl⟩)
  exact bodyPost_ret (v := .agg #[.int .i64 (num x 1073741824), .int .i64 (num y 1073741824)]) (by simp [results, Try.results25, go_sem]) rfl ⟨rfl, by repeat (first | exact Below.refl _ _ | apply Below.drew | apply Below.al | apply Below.ex)⟩

theorem vlen_34 : vlen 3 (-4) = 5 := by
  have h1 : clamp 3 = 3 := by decide
  have h2 : clamp (-4) = -4 := by decide
  have h3 : len 3 (-4) = 5 := rt_eq ⟨by decide, by decide⟩
  unfold vlen
  rw [h1, h2, h3]
  decide
theorem vecBegun_any (w : World) :
    Calls Try.prog 24 #[] w fun e w' => e = .returned (.bool true) ∧ Below w.heap.size w w' := by
  have h := vlen_34
  go_enter Try.func24, Try.ntmps24
  go_wp2_with (go_at_call 26; (with_reducible refine (vlen_any _ _ _).mono ?_); rintro e w1 ⟨rfl, hb⟩; obtain ⟨l1, n1, rfl⟩ := ext_of hb; clear hb)
  go_ret
  exact ⟨rfl, by repeat (first | exact Below.refl _ _ | apply Below.drew | apply Below.al | apply Below.ex)⟩
end Go.Proofs.Ytdnepccjgclgiaa
