/- For every input, VecUnits returns true. No condition. -/
import Derived.Test.YtdnepccjgclgiaaUnit
import Derived.Test.YtdnepccjgclgiaaVturn
import Derived.Test.YtdnepccjgclgiaaSums
namespace Go.Proofs.Ytdnepccjgclgiaa
open Go.RowKit
attribute [local go_sem ↓] run_mx run_mx4

/-- A rounded part. -/
theorem round_part (n l X : Int) (hl : 0 < l) (h : X = (131072 * n + l) / (2 * l)) : 2 * l * X - 131072 * n ≤ l ∧ -l < 2 * l * X - 131072 * n := by
  have h1 := Int.mul_ediv_self_le (x := 131072 * n + l) (k := 2 * l) (by omega)
  have h2 := Int.lt_mul_ediv_self_add (x := 131072 * n + l) (k := 2 * l) (by omega)
  rw [← h] at h1 h2
  omega

theorem unit_facts (x y X Y : Int) (h : IsUnit x y X Y) :
    65534 ≤ (len X Y : Int) ∧ (len X Y : Int) ≤ 65538 ∧ x * Y - y * X ≤ ((len x y : Int) + 1) * 4 ∧ -(((len x y : Int) + 1) * 4) ≤ x * Y - y * X ∧ 0 < x * X + y * Y := by
  obtain ⟨k, u, v, hu, hv, u1, u2, v1, v2, hb, hX, hY⟩ := h
  have g := len_ge u v
  obtain ⟨l, hl⟩ : ∃ l : Int, l = (len u v : Int) := ⟨_, rfl⟩
  have sq := len_sq u v
  rw [← hl] at g sq hX hY
  have lp : 1073741824 ≤ l := by omega
  have rX := round_part u l X (by omega) hX
  have rY := round_part v l Y (by omega) hY
  obtain ⟨e, he⟩ : ∃ e, e = 2 * l * X - 131072 * u := ⟨_, rfl⟩
  obtain ⟨f, hf⟩ : ∃ f, f = 2 * l * Y - 131072 * v := ⟨_, rfl⟩
  rw [← he] at rX
  rw [← hf] at rY
  have ee := (prod_in e e l (by omega) (by omega) (by omega) (by omega)).2
  have ff := (prod_in f f l (by omega) (by omega) (by omega) (by omega)).2
  have l2 : (2 * l) * (2 * l) = 4 * (l * l) := by grind
  have lpos : 0 < l * l := Int.mul_pos (by omega) (by omega)
  have ef : e * e + f * f < (2 * l) * (2 * l) := by omega
  have lenU := len_sq X Y
  obtain ⟨z, hz⟩ : ∃ z : Int, z = (len X Y : Int) := ⟨_, rfl⟩
  have z0 : 0 ≤ z := by omega
  rw [← hz] at lenU ⊢
  have ex : 131072 * u + e = 2 * l * X := by omega
  have ey : 131072 * v + f = 2 * l * Y := by omega
  have p2 : (0 : Int) < 2 ^ k := Int.pow_pos (by omega)
  obtain ⟨p, hp⟩ : ∃ p : Int, p = 2 ^ k := ⟨_, rfl⟩
  rw [← hp] at hu hv p2
  obtain ⟨A, hA⟩ : ∃ A : Int, A = (len x y : Int) := ⟨_, rfl⟩
  have sqA := len_sq x y
  rw [← hA] at sqA ⊢
  have A0 : 0 ≤ A := by omega
  have lA : l < p * (A + 1) := by
    refine sq_lt_of _ _ (Int.mul_nonneg (by omega) (by omega)) ?_
    have i1 : u * u + v * v = p * p * (x * x + y * y) := by rw [hu, hv]; grind
    have i2 : p * (A + 1) * (p * (A + 1)) = p * p * ((A + 1) * (A + 1)) := by grind
    have i3 := Int.mul_lt_mul_of_pos_left sqA.2 (Int.mul_pos p2 p2)
    omega
  refine ⟨?_, ?_, ?_, ?_, ?_⟩
  · -- not too short
    have s := sq_add (2 * l * X) (2 * l * Y) (-e) (-f) (2 * l * (z + 1)) (2 * l) (Int.mul_nonneg (by omega) (by omega)) (by omega) (by
      have i1 : 2 * l * X * (2 * l * X) + 2 * l * Y * (2 * l * Y) = 4 * (l * l) * (X * X + Y * Y) := by grind
      have i2 : 2 * l * (z + 1) * (2 * l * (z + 1)) = 4 * (l * l) * ((z + 1) * (z + 1)) := by grind
      rw [i1, i2]
      exact Int.mul_lt_mul_of_pos_left lenU.2 (by omega)) (by rw [Int.neg_mul_neg, Int.neg_mul_neg]; exact ef)
    have j1 : 2 * l * X + -e = 131072 * u := by omega
    have j2 : 2 * l * Y + -f = 131072 * v := by omega
    rw [j1, j2] at s
    have s2 : 131072 * l < 2 * l * (z + 1) + 2 * l := by
      refine sq_lt_of _ _ (by have : 0 ≤ 2 * l * (z + 1) := Int.mul_nonneg (by omega) (by omega); omega) ?_
      have i1 : 131072 * u * (131072 * u) + 131072 * v * (131072 * v) = 17179869184 * (u * u + v * v) := by grind
      have i2 : 131072 * l * (131072 * l) = 17179869184 * (l * l) := by grind
      omega
    have s3 : l * 65536 < l * (z + 2) := by have : 2 * l * (z + 1) + 2 * l = 2 * (l * (z + 2)) := by grind
                                            omega
    have := Int.lt_of_mul_lt_mul_left s3 (by omega)
    omega
  · -- not too long
    have s := sq_add (131072 * u) (131072 * v) e f (131072 * (l + 1)) (2 * l) (by omega) (by omega) (by
      have i1 : 131072 * u * (131072 * u) + 131072 * v * (131072 * v) = 17179869184 * (u * u + v * v) := by grind
      have i2 : 131072 * (l + 1) * (131072 * (l + 1)) = 17179869184 * ((l + 1) * (l + 1)) := by grind
      omega) ef
    rw [ex, ey] at s
    have s2 : 2 * l * z < 131072 * (l + 1) + 2 * l := by
      refine sq_lt_of _ _ (by omega) ?_
      have i1 : 2 * l * X * (2 * l * X) + 2 * l * Y * (2 * l * Y) = 4 * (l * l) * (X * X + Y * Y) := by grind
      have i2 : 2 * l * z * (2 * l * z) = 4 * (l * l) * (z * z) := by grind
      have i3 := Int.mul_le_mul_of_nonneg_left lenU.1 (show 0 ≤ 4 * (l * l) by omega)
      omega
    have s3 : l * z < l * 65538 := by
      have : 2 * l * z = 2 * (l * z) := by grind
      omega
    have := Int.lt_of_mul_lt_mul_left s3 (by omega)
    omega
  · have c := cauchy u v f (-e) (l + 1) (2 * l) (by omega) (by omega) sq.2 (by rw [Int.neg_mul_neg]; omega)
    have i1 : u * f + v * -e = 2 * (l * (p * (x * Y - y * X))) := by rw [hf, he, hu, hv]; grind
    have i2 : (l + 1) * (2 * l) = 2 * (l * (l + 1)) := by grind
    have c2 : l * (p * (x * Y - y * X)) < l * (p * ((A + 1) * 4)) := by
      have i3 : l * (l + 1) ≤ l * (p * (A + 1)) := Int.mul_le_mul_of_nonneg_left (by omega) (by omega)
      have i4 : l * (p * ((A + 1) * 4)) = 4 * (l * (p * (A + 1))) := by grind
      have i5 : 0 < l * (p * (A + 1)) := Int.mul_pos (by omega) (by omega)
      omega
    have c3 := Int.lt_of_mul_lt_mul_left c2 (by omega)
    have c4 := Int.lt_of_mul_lt_mul_left c3 (by omega)
    omega
  · have c := cauchy u v (-f) e (l + 1) (2 * l) (by omega) (by omega) sq.2 (by rw [Int.neg_mul_neg]; omega)
    have i1 : u * -f + v * e = 2 * (l * (p * (y * X - x * Y))) := by rw [hf, he, hu, hv]; grind
    have i2 : (l + 1) * (2 * l) = 2 * (l * (l + 1)) := by grind
    have c2 : l * (p * (y * X - x * Y)) < l * (p * ((A + 1) * 4)) := by
      have i3 : l * (l + 1) ≤ l * (p * (A + 1)) := Int.mul_le_mul_of_nonneg_left (by omega) (by omega)
      have i4 : l * (p * ((A + 1) * 4)) = 4 * (l * (p * (A + 1))) := by grind
      have i5 : 0 < l * (p * (A + 1)) := Int.mul_pos (by omega) (by omega)
      omega
    have c3 := Int.lt_of_mul_lt_mul_left c2 (by omega)
    have c4 := Int.lt_of_mul_lt_mul_left c3 (by omega)
    omega
  · have c := cauchy u v (-e) (-f) (l + 1) (2 * l) (by omega) (by omega) sq.2 (by rw [Int.neg_mul_neg, Int.neg_mul_neg]; exact ef)
    have i1 : 2 * (l * (p * (x * X + y * Y))) = 131072 * (u * u + v * v) - (u * -e + v * -f) := by rw [hf, he, hu, hv]; grind
    have i2 : (l + 1) * (2 * l) = 2 * (l * l) + 2 * l := by grind
    have i3 : l * 1073741824 ≤ l * l := Int.mul_le_mul_of_nonneg_left lp (by omega)
    have c2 : l * (p * 0) < l * (p * (x * X + y * Y)) := by rw [Int.mul_zero, Int.mul_zero]; omega
    have c3 := Int.lt_of_mul_lt_mul_left c2 (by omega)
    exact Int.lt_of_mul_lt_mul_left c3 (by omega)

/-- What the walk needs. -/
theorem unit_walk (x y X Y : Int) (h : IsUnit x y X Y) (x1 : -1073741824 ≤ x) (x2 : x ≤ 1073741824) (y1 : -1073741824 ≤ y) (y2 : y ≤ 1073741824) :
    ∃ L A C D p1 p2 p3 p4 : Int, vlen X Y = L ∧ vlen x y = A ∧ x * Y = p1 ∧ y * X = p2 ∧ p1 - p2 = C ∧ x * X = p3 ∧ y * Y = p4 ∧ p3 + p4 = D ∧ 65534 ≤ L ∧ L ≤ 65538 ∧ 0 ≤ A ∧ A ≤ 2147483648 ∧ mx C (-C) ≤ (A + 1) * 4 ∧ 0 < D ∧
      -70371965403136 ≤ p1 ∧ p1 ≤ 70371965403136 ∧ -70371965403136 ≤ p2 ∧ p2 ≤ 70371965403136 ∧ -70371965403136 ≤ p3 ∧ p3 ≤ 70371965403136 ∧ -70371965403136 ≤ p4 ∧ p4 ≤ 70371965403136 ∧ -1000000000000000 ≤ C ∧ C ≤ 1000000000000000 ∧ D ≤ 1000000000000000 := by
  obtain ⟨f1, f2, f3, f4, f5⟩ := unit_facts x y X Y h
  have g := len_ge X Y
  have l1 := len_le x y
  have q1 := mul_bd x Y 1073741824 65539 (by omega) (by omega) (by omega) (by omega) (by omega) (by omega)
  have q2 := mul_bd y X 1073741824 65539 (by omega) (by omega) (by omega) (by omega) (by omega) (by omega)
  have q3 := mul_bd x X 1073741824 65539 (by omega) (by omega) (by omega) (by omega) (by omega) (by omega)
  have q4 := mul_bd y Y 1073741824 65539 (by omega) (by omega) (by omega) (by omega) (by omega) (by omega)
  have m := mx_abs (x * Y - y * X)
  refine ⟨len X Y, len x y, x * Y - y * X, x * X + y * Y, _, _, _, _, vlen_in _ _ (by omega) (by omega) (by omega) (by omega), vlen_in _ _ (by omega) (by omega) (by omega) (by omega), rfl, rfl, rfl, rfl, rfl, rfl, f1, f2, by omega, by omega, by omega, f5, by omega, by omega, by omega, by omega, by omega, by omega, by omega, by omega, by omega, by omega, by omega⟩

theorem unit_walk0 (y X Y : Int) (h : IsUnit 0 y X Y) (y1 : -1073741824 ≤ y) (y2 : y ≤ 1073741824) :
    ∃ L A p2 p4 : Int, vlen X Y = L ∧ vlen 0 y = A ∧ y * X = p2 ∧ y * Y = p4 ∧ 65534 ≤ L ∧ L ≤ 65538 ∧ 0 ≤ A ∧ A ≤ 2147483648 ∧ mx (-p2) p2 ≤ (A + 1) * 4 ∧ 0 < p4 ∧
      -70371965403136 ≤ p2 ∧ p2 ≤ 70371965403136 ∧ -70371965403136 ≤ p4 ∧ p4 ≤ 70371965403136 := by
  obtain ⟨L, A, C, D, p1, p2, p3, p4, e1, e2, e3, e4, e5, e6, e7, e8, f1, f2, f3, f4, f5, f6, g1, g2, g3, g4, g5, g6, g7, g8, g9, g10, g11⟩ := unit_walk 0 y X Y h (by omega) (by omega) y1 y2
  rw [Int.zero_mul] at e3 e6
  obtain rfl : C = -p2 := by omega
  rw [Int.neg_neg] at f5
  exact ⟨L, A, p2, p4, e1, e2, e4, e7, f1, f2, f3, f4, f5, by omega, g3, g4, g7, g8⟩

theorem VecUnitsW (a0 a1 : Int) (w0 : (Lit.int .i64 a0).wf = true) (w1 : (Lit.int .i64 a1).wf = true) (w : World) :
    Calls Try.prog 8 #[.int .i64 a0, .int .i64 a1] w fun e w' => e = .returned (.bool true) ∧ Below w.heap.size w w' := by
  have h0 := bounds_i64 w0
  have h1 := bounds_i64 w1
  clear w0 w1
  have X1 := num_lo a0 1073741824 (by omega)
  have X2 := num_hi a0 1073741824 (by omega)
  have Y1 := num_lo a1 1073741824 (by omega)
  have Y2 := num_hi a1 1073741824 (by omega)
  by_cases hz : num a0 1073741824 = 0 ∧ num a1 1073741824 = 0
  · obtain ⟨z1, z2⟩ := hz
    go_enter Try.func8, Try.ntmps8
    go_wp2_with (first
      | (go_at_call 24; (with_reducible refine (vecBegun_any _).mono ?_); rintro e w1 ⟨rfl, hb⟩; obtain ⟨l0, n0, rfl⟩ := ext_of hb; clear hb)
      | (go_at_call 25; (with_reducible refine (small_any _ _ _ (by omega) (by omega)).mono ?_); rintro e w1 ⟨rfl, hb⟩; obtain ⟨l1, n1, rfl⟩ := ext_of hb; clear hb)
      | (go_at_call 36; (with_reducible refine (vunit_0 _).mono ?_); rintro e w1 ⟨rfl, hb⟩; obtain ⟨l1, n1, rfl⟩ := ext_of hb; clear hb))
    go_ret
    exact ⟨rfl, by repeat (first | exact Below.refl _ _ | apply Below.drew | apply Below.al | apply Below.ex)⟩
  by_cases hx : num a0 1073741824 = 0
  · have hy := Lib.hid (show ¬ num a1 1073741824 = 0 from fun h => hz ⟨hx, h⟩)
    have hy' : (num a1 1073741824 == 0) = false := by simpa using hy.out
    clear hz X1 X2
    go_enter Try.func8, Try.ntmps8
    go_wp2_with (first
      | (go_at_call 24; (with_reducible refine (vecBegun_any _).mono ?_); rintro e w1 ⟨rfl, hb⟩; obtain ⟨l0, n0, rfl⟩ := ext_of hb; clear hb)
      | (go_at_call 25; (with_reducible refine (small_any _ _ _ (by omega) (by omega)).mono ?_); rintro e w1 ⟨rfl, hb⟩; obtain ⟨l1, n1, rfl⟩ := ext_of hb; clear hb)
      | (go_at_call 36; (with_reducible refine (vunit_y _ _ Y1 Y2 hy.out).mono ?_); rintro e w1 ⟨X, Y, hu, rfl, hb⟩; obtain ⟨l1, n1, rfl⟩ := ext_of hb; clear hb; obtain ⟨L, A, p2, p4, e1, e2, e4, e7, f1, f2, f3, f4, f5, f6, g3, g4, g7, g8⟩ := unit_walk0 _ _ _ hu Y1 Y2; clear hu Y1 Y2)
      | (go_at_call 26; (with_reducible refine (vlen_any _ _ _).mono ?_); rintro e w1 ⟨rfl, hb⟩; obtain ⟨l1, n1, rfl⟩ := ext_of hb; clear hb)
      | (go_at_call 33; (with_reducible refine (near_any _ _ _ _ (by omega) (by omega) (by omega) (by omega) (by omega) (by omega)).mono ?_); rintro e w1 ⟨rfl, rfl⟩))
    go_ret
    exact ⟨rfl, by repeat (first | exact Below.refl _ _ | apply Below.drew | apply Below.al | apply Below.ex)⟩
  · have hz' := Lib.hid hz
    have hne : (num a0 1073741824 == 0) = false := by simpa using hx
    clear hz hx
    go_enter Try.func8, Try.ntmps8
    go_wp2_with (first
      | (go_at_call 24; (with_reducible refine (vecBegun_any _).mono ?_); rintro e w1 ⟨rfl, hb⟩; obtain ⟨l0, n0, rfl⟩ := ext_of hb; clear hb)
      | (go_at_call 25; (with_reducible refine (small_any _ _ _ (by omega) (by omega)).mono ?_); rintro e w1 ⟨rfl, hb⟩; obtain ⟨l1, n1, rfl⟩ := ext_of hb; clear hb)
      | (go_at_call 36; (with_reducible refine (vunit_any _ _ _ X1 X2 Y1 Y2 hz'.out).mono ?_); rintro e w1 ⟨X, Y, hu, rfl, hb⟩; obtain ⟨l1, n1, rfl⟩ := ext_of hb; clear hb; obtain ⟨L, A, C, D, p1, p2, p3, p4, e1, e2, e3, e4, e5, e6, e7, e8, f1, f2, f3, f4, f5, f6, g1, g2, g3, g4, g5, g6, g7, g8, g9, g10, g11⟩ := unit_walk _ _ _ _ hu X1 X2 Y1 Y2; clear hu X1 X2 Y1 Y2)
      | (go_at_call 26; (with_reducible refine (vlen_any _ _ _).mono ?_); rintro e w1 ⟨rfl, hb⟩; obtain ⟨l1, n1, rfl⟩ := ext_of hb; clear hb)
      | (go_at_call 33; (with_reducible refine (near_any _ _ _ _ (by omega) (by omega) (by omega) (by omega) (by omega) (by omega)).mono ?_); rintro e w1 ⟨rfl, rfl⟩))
    go_ret
    exact ⟨rfl, by repeat (first | exact Below.refl _ _ | apply Below.drew | apply Below.al | apply Below.ex)⟩
end Go.Proofs.Ytdnepccjgclgiaa
