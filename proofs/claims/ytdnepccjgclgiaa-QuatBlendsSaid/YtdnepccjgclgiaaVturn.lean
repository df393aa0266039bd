/- vec.Turn: what it computes, and how it keeps lengths. -/
import Derived.Test.YtdnepccjgclgiaaProducts
import Derived.Test.YtdnepccjgclgiaaTurns
import Derived.Test.YtdnepccjgclgiaaGrow
import Derived.Test.YtdnepccjgclgiaaGrow2
namespace Go.Proofs.Ytdnepccjgclgiaa
open Go.RowKit

noncomputable def vtx (x y a : Int) : Int := fsub (fmul x (cos a)) (fmul y (sin a))
noncomputable def vty (x y a : Int) : Int := fadd (fmul x (sin a)) (fmul y (cos a))

theorem vturn_any (x y t : Int) (w : World) :
    Calls Try.prog 52 #[.agg #[.int .i64 x, .int .i64 y], .int .i64 t] w fun e w' => e = .returned (.agg #[.int .i64 (vtx x y t), .int .i64 (vty x y t)]) ∧ Below w.heap.size w w' := by
  go_enter Try.func52, Try.ntmps52
  go_wp2_with (first
    | (go_at_call 31; (with_reducible refine (sin_any _ _).mono ?_); rintro e w1 ⟨rfl, hb⟩; obtain ⟨l1, n1, rfl⟩ := ext_of hb; clear hb)
    | (go_at_call 32; (with_reducible refine (cos_any _ _).mono ?_); rintro e w1 ⟨rfl, hb⟩; obtain ⟨l2, n2, rfl⟩ := ext_of hb; clear hb))
  refine region_tail_ext 19 (by kernel_rfl) (by kernel_rfl) ?_
  simp only [List.take_succ_cons, List.take_zero, List.drop_succ_cons, List.drop_zero]
  repeat (go_big_quiet_step ((first | (intro _; go_at_call 43; exact grow_of (fmul_any _ _ _)) | (intro _; go_at_call 46; exact grow_same (fadd_any _ _ _)) | (intro _; go_at_call 47; exact grow_same (fsub_any _ _ _)))))
  refine wpQuiet_nil ?_
  intro _ hw'
  obtain ⟨k, m, rfl⟩ := hw'
  go_wp2
  exact bodyPost_ret (v := .agg #[.int .i64 (vtx x y t), .int .i64 (vty x y t)]) (by simp [results, Try.results52, go_sem, vtx, vty]) rfl ⟨rfl, by repeat (first | exact Below.refl _ _ | apply Below.drew | apply Below.al | apply Below.ex)⟩

theorem sq_add (x y z v a b : Int) (ha : 0 ≤ a) (hb : 0 ≤ b) (h1 : x * x + y * y < a * a) (h2 : z * z + v * v < b * b) : (x + z) * (x + z) + (y + v) * (y + v) < (a + b) * (a + b) := by
  have c := cauchy x y z v a b ha hb h1 h2
  have e1 : (x + z) * (x + z) + (y + v) * (y + v) = (x * x + y * y) + (z * z + v * v) + 2 * (x * z + y * v) := by grind
  have e2 : (a + b) * (a + b) = a * a + b * b + 2 * (a * b) := by grind
  omega

/-- A product with a number of at most 65536 units. -/
theorem unit_mul (a c : Int) (h1 : -1073741824 ≤ a) (h2 : a ≤ 1073741824) (h3 : -65536 ≤ c) (h4 : c ≤ 65536) :
    -1073741824 ≤ fmul a c ∧ fmul a c ≤ 1073741824 ∧ 65536 * fmul a c - a * c ≤ 32768 ∧ a * c - 65536 * fmul a c ≤ 32767 := by
  have e : a.natAbs * c.natAbs ≤ 1073741824 * 65536 := Nat.mul_le_mul (by omega) (by omega)
  have e2 := Int.natAbs_mul a c
  rw [fmul_in a c (by omega) (by omega) (by omega) (by omega) (by omega) (by omega)]
  omega

/-- How a turn keeps the length: la of the vector, lb of the turned one. -/
theorem turn_len (x y c s X Y la lb : Int) (hla0 : 0 ≤ la) (hlb0 : 0 ≤ lb) (hla : la * la ≤ x * x + y * y ∧ x * x + y * y < (la + 1) * (la + 1)) (hlb : lb * lb ≤ X * X + Y * Y ∧ X * X + Y * Y < (lb + 1) * (lb + 1))
    (hc : s * s + c * c ≤ 4295753728 ∧ 4294180864 ≤ s * s + c * c) (h1 : 65536 * X - (x * c - y * s) ≤ 65536 ∧ (x * c - y * s) - 65536 * X ≤ 65536) (h2 : 65536 * Y - (x * s + y * c) ≤ 65536 ∧ (x * s + y * c) - 65536 * Y ≤ 65536) :
    65536 * lb < 65543 * (la + 1) + 92683 ∧ 65529 * la < 65536 * (lb + 1) + 92683 := by
  obtain ⟨e, he⟩ : ∃ e, e = 65536 * X - (x * c - y * s) := ⟨_, rfl⟩
  obtain ⟨f, hf⟩ : ∃ f, f = 65536 * Y - (x * s + y * c) := ⟨_, rfl⟩
  have pe := prod_in e e 65536 (by omega) (by omega) (by omega) (by omega)
  have pf := prod_in f f 65536 (by omega) (by omega) (by omega) (by omega)
  have id : (x * c - y * s) * (x * c - y * s) + (x * s + y * c) * (x * s + y * c) = (x * x + y * y) * (s * s + c * c) := by grind
  obtain ⟨N, hN⟩ : ∃ N, N = x * x + y * y := ⟨_, rfl⟩
  obtain ⟨K, hK⟩ : ∃ K, K = s * s + c * c := ⟨_, rfl⟩
  rw [← hN] at hla
  rw [← hN, ← hK] at id
  rw [← hK] at hc
  have n0 : 0 ≤ N := by have := sq_nonneg x; have := sq_nonneg y; omega
  constructor
  · refine sq_lt_of _ _ (by omega) ?_
    have u : (x * c - y * s) * (x * c - y * s) + (x * s + y * c) * (x * s + y * c) < (65543 * (la + 1)) * (65543 * (la + 1)) := by
      rw [id]
      have a1 : N * K ≤ N * 4295884849 := Int.mul_le_mul_of_nonneg_left (by omega) n0
      have a2 : (65543 * (la + 1)) * (65543 * (la + 1)) = 4295884849 * ((la + 1) * (la + 1)) := by grind
      omega
    have v := sq_add _ _ e f _ 92683 (by omega) (by omega) u (by omega)
    have ex : x * c - y * s + e = 65536 * X := by omega
    have ey : x * s + y * c + f = 65536 * Y := by omega
    rw [ex, ey] at v
    have z1 : 65536 * X * (65536 * X) = 4294967296 * (X * X) := by grind
    have z2 : 65536 * Y * (65536 * Y) = 4294967296 * (Y * Y) := by grind
    have z3 : 65536 * lb * (65536 * lb) = 4294967296 * (lb * lb) := by grind
    omega
  · refine sq_lt_of _ _ (by omega) ?_
    have u : (65536 * X) * (65536 * X) + (65536 * Y) * (65536 * Y) < (65536 * (lb + 1)) * (65536 * (lb + 1)) := by
      have z1 : 65536 * X * (65536 * X) = 4294967296 * (X * X) := by grind
      have z2 : 65536 * Y * (65536 * Y) = 4294967296 * (Y * Y) := by grind
      have z3 : 65536 * (lb + 1) * (65536 * (lb + 1)) = 4294967296 * ((lb + 1) * (lb + 1)) := by grind
      omega
    have v := sq_add _ _ (-e) (-f) _ 92683 (by omega) (by omega) u (by rw [Int.neg_mul_neg, Int.neg_mul_neg]; omega)
    have ex : 65536 * X + -e = x * c - y * s := by omega
    have ey : 65536 * Y + -f = x * s + y * c := by omega
    rw [ex, ey, id] at v
    have a1 : N * 4294049841 ≤ N * K := Int.mul_le_mul_of_nonneg_left (by omega) n0
    have a2 : (65529 * la) * (65529 * la) = 4294049841 * (la * la) := by grind
    omega

theorem turn_bd (x y t : Int) (x1 : -1073741824 ≤ x) (x2 : x ≤ 1073741824) (y1 : -1073741824 ≤ y) (y2 : y ≤ 1073741824) :
    -2147483648 ≤ vtx x y t ∧ vtx x y t ≤ 2147483648 ∧ -2147483648 ≤ vty x y t ∧ vty x y t ≤ 2147483648 ∧
    (65536 * vtx x y t - (x * cos t - y * sin t) ≤ 65536 ∧ (x * cos t - y * sin t) - 65536 * vtx x y t ≤ 65536) ∧ (65536 * vty x y t - (x * sin t + y * cos t) ≤ 65536 ∧ (x * sin t + y * cos t) - 65536 * vty x y t ≤ 65536) := by
  obtain ⟨s1, s2⟩ := sin_bd t
  obtain ⟨t1, t2⟩ := cos_bd t
  have a1 := unit_mul x (cos t) x1 x2 t1 t2
  have a2 := unit_mul y (sin t) y1 y2 s1 s2
  have a3 := unit_mul x (sin t) x1 x2 s1 s2
  have a4 := unit_mul y (cos t) y1 y2 t1 t2
  have e1 : vtx x y t = fmul x (cos t) - fmul y (sin t) := by unfold vtx; exact fsub_in _ _ (by omega) (by omega) (by omega) (by omega)
  have e2 : vty x y t = fmul x (sin t) + fmul y (cos t) := by unfold vty; exact fadd_in _ _ (by omega) (by omega) (by omega) (by omega)
  rw [e1, e2]
  omega

theorem sin_0 : sin 0 = 0 := by decide
theorem sin_16 : sin 16384 = 65536 := sin_quarterTurn
theorem cos_0 : cos 0 = 65536 := by rw [cos_eq]; exact sin_16
theorem sin_32 : sin 32768 = 0 := by have := sin_half 0; rw [sin_0] at this; exact this
theorem cos_16 : cos 16384 = 0 := by rw [cos_eq]; exact sin_32
theorem sin_49 : sin 49152 = -65536 := by have := sin_half 16384; rw [sin_16] at this; exact this
theorem cos_49 : cos 49152 = 0 := by have := cos_half 16384; rw [cos_16] at this; exact this
theorem fmul_zero (a : Int) : fmul a 0 = 0 := by
  rw [fmul_eq, show clamp 0 = 0 by decide, Int.mul_zero]; decide
theorem quarters (x y : Int) (x1 : -1073741824 ≤ x) (x2 : x ≤ 1073741824) (y1 : -1073741824 ≤ y) (y2 : y ≤ 1073741824) :
    vtx x y 16384 = -y ∧ vty x y 16384 = x ∧ vtx x y 49152 = y ∧ vty x y 49152 = -x ∧ vtx x y 0 = x ∧ vty x y 0 = y := by
  unfold vtx vty
  rw [sin_0, sin_16, cos_0, cos_16, sin_49, cos_49, fmul_zero, fmul_zero, fmul_one, fmul_one, fmul_none, fmul_none, clamp_in x (by omega) (by omega), clamp_in y (by omega) (by omega),
    fsub_in 0 y (by omega) (by omega) (by omega) (by omega), fsub_in 0 (-y) (by omega) (by omega) (by omega) (by omega), fsub_in x 0 (by omega) (by omega) (by omega) (by omega),
    fadd_in x 0 (by omega) (by omega) (by omega) (by omega), fadd_in (-x) 0 (by omega) (by omega) (by omega) (by omega), fadd_in 0 y (by omega) (by omega) (by omega) (by omega)]
  omega
end Go.Proofs.Ytdnepccjgclgiaa
