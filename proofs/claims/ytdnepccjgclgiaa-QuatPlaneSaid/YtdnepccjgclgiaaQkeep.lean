/- Plain bounds: turning keeps lengths and the axis. -/
import Derived.Test.YtdnepccjgclgiaaQfact
import Derived.Test.YtdnepccjgclgiaaSums
namespace Go.Proofs.Ytdnepccjgclgiaa

/-- The length of three numbers. -/
theorem long_is (x y z : Int) (x1 : -1073741824 ≤ x) (x2 : x ≤ 1073741824) (y1 : -1073741824 ≤ y) (y2 : y ≤ 1073741824) (z1 : -1073741824 ≤ z) (z2 : z ≤ 1073741824) :
    ∃ L, long x y z = L ∧ 0 ≤ L ∧ L ≤ 4294967296 ∧ L * L ≤ nn 0 x y z ∧ nn 0 x y z < (L + 2) * (L + 2) := by
  have a1 := len_le x y
  have a2 := len_sq x y
  have e1 := vlen_in x y (by omega) (by omega) (by omega) (by omega)
  have b1 := len_le (len x y : Int) z
  have b2 := len_sq (len x y : Int) z
  have b3 := (len_ge (len x y : Int) z).1
  have e2 := vlen_in (len x y : Int) z (by omega) (by omega) (by omega) (by omega)
  refine ⟨(len (len x y : Int) z : Int), ?_, by omega, by omega, ?_, ?_⟩
  · unfold long; rw [e1, e2]
  · unfold nn; omega
  · generalize (len (len x y : Int) z : Int) = L at *
    generalize (len x y : Int) = l at *
    have t1 : (L + 2) * (L + 2) = (L + 1) * (L + 1) + 2 * L + 3 := by grind
    have t2 : (l + 1) * (l + 1) = l * l + 2 * l + 1 := by grind
    unfold nn; omega

/-- What a turn is, without rounding: times 2 ^ 32. -/
def fx (a b c d x y z : Int) : Int := (-b * x - c * y - d * z) * -b + (a * x + c * z - d * y) * a + (a * y - b * z + d * x) * -d - (a * z + b * y - c * x) * -c
def fy (a b c d x y z : Int) : Int := (-b * x - c * y - d * z) * -c - (a * x + c * z - d * y) * -d + (a * y - b * z + d * x) * a + (a * z + b * y - c * x) * -b
def fz (a b c d x y z : Int) : Int := (-b * x - c * y - d * z) * -d + (a * x + c * z - d * y) * -c - (a * y - b * z + d * x) * -b + (a * z + b * y - c * x) * a
theorem f_nn (a b c d x y z : Int) : nn 0 (fx a b c d x y z) (fy a b c d x y z) (fz a b c d x y z) = nn a b c d * nn a b c d * nn 0 x y z := by
  have e1 := euler4 (-b * x - c * y - d * z) (a * x + c * z - d * y) (a * y - b * z + d * x) (a * z + b * y - c * x) a (-b) (-c) (-d)
  have e0 : (-b * x - c * y - d * z) * a - (a * x + c * z - d * y) * -b - (a * y - b * z + d * x) * -c - (a * z + b * y - c * x) * -d = 0 := by grind
  have e2 : nn (-b * x - c * y - d * z) (a * x + c * z - d * y) (a * y - b * z + d * x) (a * z + b * y - c * x) = nn a b c d * nn 0 x y z := by unfold nn; grind
  have e3 : nn a (-b) (-c) (-d) = nn a b c d := by unfold nn; grind
  rw [e0, e2, e3] at e1
  unfold fx fy fz
  rw [e1]
  grind
theorem f_axis (a b c d : Int) : fx a b c d (b * 16) (c * 16) (d * 16) = nn a b c d * (b * 16) ∧ fy a b c d (b * 16) (c * 16) (d * 16) = nn a b c d * (c * 16) ∧ fz a b c d (b * 16) (c * 16) (d * 16) = nn a b c d * (d * 16) := by
  unfold fx fy fz nn
  refine ⟨by grind, by grind, by grind⟩

/-- One coordinate of the second product. -/
theorem turn_one (T R0 R1 R2 R3 E0 E1 E2 E3 a b c d f : Int) (h : 65536 * T - (R0 * a + R1 * b + R2 * c + R3 * d) ≤ 131072 ∧ -131072 ≤ 65536 * T - (R0 * a + R1 * b + R2 * c + R3 * d))
    (hf : f = E0 * a + E1 * b + E2 * c + E3 * d) (hn : nn a b c d ≤ 65544 * 65544) (b0 : nn (65536 * R0 - E0) (65536 * R1 - E1) (65536 * R2 - E2) (65536 * R3 - E3) ≤ (2 * 131072) * (2 * 131072)) :
    4294967296 * T - f ≤ 25771900928 ∧ -25771900928 ≤ 4294967296 * T - f := by
  have k := cauchy4 _ _ _ _ a b c d (2 * 131072) 65544 (by omega) (by omega) b0 hn
  have e : (65536 * R0 - E0) * a + (65536 * R1 - E1) * b + (65536 * R2 - E2) * c + (65536 * R3 - E3) * d = 65536 * (R0 * a + R1 * b + R2 * c + R3 * d) - f := by subst hf; grind
  omega

/-- Turning, with its rounding. -/
theorem qt_near {a b c d : Int} (h : Tn a b c d) (x y z : Int) (x1 : -16777216 ≤ x) (x2 : x ≤ 16777216) (y1 : -16777216 ≤ y) (y2 : y ≤ 16777216) (z1 : -16777216 ≤ z) (z2 : z ≤ 16777216) :
    (4294967296 * qt qmx a b c d x y z - fx a b c d x y z ≤ 25771900928 ∧ -25771900928 ≤ 4294967296 * qt qmx a b c d x y z - fx a b c d x y z) ∧
    (4294967296 * qt qmy a b c d x y z - fy a b c d x y z ≤ 25771900928 ∧ -25771900928 ≤ 4294967296 * qt qmy a b c d x y z - fy a b c d x y z) ∧
    (4294967296 * qt qmz a b c d x y z - fz a b c d x y z ≤ 25771900928 ∧ -25771900928 ≤ 4294967296 * qt qmz a b c d x y z - fz a b c d x y z) := by
  obtain ⟨g0, g1, g2, g3⟩ := h.bd
  obtain ⟨n0, n1, n2, n3⟩ := qm_near a b c d 0 x y z h.big ⟨by omega, by omega, by omega, by omega⟩
  unfold qt
  rw [clamp_in a (by omega) (by omega), clamp_in b (by omega) (by omega), clamp_in c (by omega) (by omega), clamp_in d (by omega) (by omega)]
  generalize qmw a b c d 0 x y z = R0 at *
  generalize qmx a b c d 0 x y z = R1 at *
  generalize qmy a b c d 0 x y z = R2 at *
  generalize qmz a b c d 0 x y z = R3 at *
  have e0 : a * 0 - b * x - c * y - d * z = -b * x - c * y - d * z := by grind
  have e1 : a * x + b * 0 + c * z - d * y = a * x + c * z - d * y := by grind
  have e2 : a * y - b * z + c * 0 + d * x = a * y - b * z + d * x := by grind
  have e3 : a * z + b * y - c * x + d * 0 = a * z + b * y - c * x := by grind
  rw [e0] at n0
  rw [e1] at n1
  rw [e2] at n2
  rw [e3] at n3
  have hE : nn (-b * x - c * y - d * z) (a * x + c * z - d * y) (a * y - b * z + d * x) (a * z + b * y - c * x) = nn a b c d * nn 0 x y z := by unfold nn; grind
  have hv : nn 0 x y z ≤ 844424930131968 := by
    have q1 := (prod_in x x 16777216 x1 x2 x1 x2).2
    have q2 := (prod_in y y 16777216 y1 y2 y1 y2).2
    have q3 := (prod_in z z 16777216 z1 z2 z1 z2).2
    unfold nn; omega
  have hnn : nn a b c d ≤ 65544 * 65544 := by unfold Tn at h; omega
  have hB := Int.mul_le_mul hnn hv (nn_nn _ _ _ _) (by omega)
  rw [← hE] at hB
  have hnb : nn (-b) a (-d) (- -c) ≤ 65544 * 65544 := by rw [show nn (-b) a (-d) (- -c) = nn a b c d by unfold nn; grind]; exact hnn
  have hnc : nn (-c) (- -d) a (-b) ≤ 65544 * 65544 := by rw [show nn (-c) (- -d) a (-b) = nn a b c d by unfold nn; grind]; exact hnn
  have hnd : nn (-d) (-c) (- -b) a ≤ 65544 * 65544 := by rw [show nn (-d) (-c) (- -b) a = nn a b c d by unfold nn; grind]; exact hnn
  unfold fx fy fz
  generalize -b * x - c * y - d * z = E0 at *
  generalize a * x + c * z - d * y = E1 at *
  generalize a * y - b * z + d * x = E2 at *
  generalize a * z + b * y - c * x = E3 at *
  obtain ⟨m0, m1, m2, m3⟩ := nn_coords hB 2199023255552 (by omega) (by omega)
  have b0 := nn_bd _ _ _ _ 131072 n0.2 n0.1 n1.2 n1.1 n2.2 n2.1 n3.2 n3.1
  obtain ⟨-, t1, t2, t3⟩ := qm_near R0 R1 R2 R3 a (-b) (-c) (-d) ⟨by omega, by omega, by omega, by omega⟩ ⟨by omega, by omega, by omega, by omega⟩
  refine ⟨turn_one _ R0 R1 R2 R3 E0 E1 E2 E3 (-b) a (-d) (- -c) _ ?_ (by grind) hnb b0, turn_one _ R0 R1 R2 R3 E0 E1 E2 E3 (-c) (- -d) a (-b) _ ?_ (by grind) hnc b0, turn_one _ R0 R1 R2 R3 E0 E1 E2 E3 (-d) (-c) (- -b) a _ ?_ (by grind) hnd b0⟩
  · rw [show R0 * -b + R1 * a + R2 * -d + R3 * - -c = R0 * -b + R1 * a + R2 * -d - R3 * -c by grind]; exact t1
  · rw [show R0 * -c + R1 * - -d + R2 * a + R3 * -b = R0 * -c - R1 * -d + R2 * a + R3 * -b by grind]; exact t2
  · rw [show R0 * -d + R1 * -c + R2 * - -b + R3 * a = R0 * -d + R1 * -c - R2 * -b + R3 * a by grind]; exact t3

/-- Lengths are kept. -/
theorem keeps_len {a b c d : Int} (h : Tn a b c d) (x y z : Int) (x1 : -16777216 ≤ x) (x2 : x ≤ 16777216) (y1 : -16777216 ≤ y) (y2 : y ≤ 16777216) (z1 : -16777216 ≤ z) (z2 : z ≤ 16777216) :
    ∃ L M, long x y z = L ∧ long (qt qmx a b c d x y z) (qt qmy a b c d x y z) (qt qmz a b c d x y z) = M ∧ 0 ≤ L ∧ L ≤ 4294967296 ∧ 0 ≤ M ∧ M ≤ 4294967296 ∧ M - L ≤ L / 500 + 16 ∧ L - M ≤ L / 500 + 16 := by
  obtain ⟨n1, n2, n3⟩ := qt_near h x y z x1 x2 y1 y2 z1 z2
  have hF := f_nn a b c d x y z
  obtain ⟨L, eL, L0, L1, L2, L3⟩ := long_is x y z (by omega) (by omega) (by omega) (by omega) (by omega) (by omega)
  have hv : nn 0 x y z ≤ 844424930131968 := by
    have q1 := (prod_in x x 16777216 x1 x2 x1 x2).2
    have q2 := (prod_in y y 16777216 y1 y2 y1 y2).2
    have q3 := (prod_in z z 16777216 z1 z2 z1 z2).2
    unfold nn; omega
  unfold Tn at h
  have hn0 := nn_nn a b c d
  have hk0 := nn_nn 0 x y z
  obtain ⟨n, hn⟩ : ∃ n, n = nn a b c d := ⟨_, rfl⟩
  rw [← hn] at h hn0 hF
  obtain ⟨K, hK⟩ : ∃ K, K = nn 0 x y z := ⟨_, rfl⟩
  rw [← hK] at hF L2 L3 hv hk0
  have q1 := Int.mul_le_mul h.1 h.1 hn0 (by omega)
  have q2 := Int.mul_le_mul h.2 h.2 (by omega) hn0
  have q0 : 0 ≤ n * n := Int.mul_nonneg hn0 hn0
  have q3 := Int.mul_le_mul q1 hv hk0 (by omega)
  rw [← hF] at q3
  generalize qt qmx a b c d x y z = t1 at *
  generalize qt qmy a b c d x y z = t2 at *
  generalize qt qmz a b c d x y z = t3 at *
  generalize fx a b c d x y z = f1 at *
  generalize fy a b c d x y z = f2 at *
  generalize fz a b c d x y z = f3 at *
  obtain ⟨-, m1, m2, m3⟩ := nn_coords q3 (4296015872 * 33554432) (by omega) (by omega)
  obtain ⟨M, eM, M0, M1, M2, M3⟩ := long_is t1 t2 t3 (by omega) (by omega) (by omega) (by omega) (by omega) (by omega)
  have s1 := (prod_in _ _ 25771900928 n1.2 n1.1 n1.2 n1.1).2
  have s2 := (prod_in _ _ 25771900928 n2.2 n2.1 n2.2 n2.1).2
  have s3 := (prod_in _ _ 25771900928 n3.2 n3.1 n3.2 n3.1).2
  have d1 : nn 0 (4294967296 * t1 - f1) (4294967296 * t2 - f2) (4294967296 * t3 - f3) ≤ 44640000000 * 44640000000 := by unfold nn; omega
  have d2 : nn 0 (-(4294967296 * t1 - f1)) (-(4294967296 * t2 - f2)) (-(4294967296 * t3 - f3)) ≤ 44640000000 * 44640000000 := by
    rw [show nn 0 (-(4294967296 * t1 - f1)) (-(4294967296 * t2 - f2)) (-(4294967296 * t3 - f3)) = nn 0 (4294967296 * t1 - f1) (4294967296 * t2 - f2) (4294967296 * t3 - f3) by unfold nn; grind]; exact d1
  have eT : nn 0 (4294967296 * t1) (4294967296 * t2) (4294967296 * t3) = 4294967296 * 4294967296 * nn 0 t1 t2 t3 := by unfold nn; grind
  obtain ⟨Q, hQ⟩ : ∃ Q, Q = nn 0 t1 t2 t3 := ⟨_, rfl⟩
  rw [← hQ] at eT M2 M3
  -- above
  have u1 : nn 0 f1 f2 f3 ≤ (4296015872 * (L + 2)) * (4296015872 * (L + 2)) := by
    rw [hF]
    have := Int.mul_le_mul q1 (Int.le_of_lt L3) hk0 (by omega)
    have e : 4296015872 * (L + 2) * (4296015872 * (L + 2)) = 4296015872 * 4296015872 * ((L + 2) * (L + 2)) := by grind
    omega
  have u2 := (nn_add 0 f1 f2 f3 0 _ _ _ _ 44640000000 (show 0 ≤ 4296015872 * (L + 2) by omega) (by omega) u1 d1).1
  rw [show f1 + (4294967296 * t1 - f1) = 4294967296 * t1 by omega, show f2 + (4294967296 * t2 - f2) = 4294967296 * t2 by omega, show f3 + (4294967296 * t3 - f3) = 4294967296 * t3 by omega, show (0 : Int) + 0 = 0 by omega, eT] at u2
  have u3 : (4294967296 * M) * (4294967296 * M) ≤ (4296015872 * (L + 2) + 44640000000) * (4296015872 * (L + 2) + 44640000000) := by
    have e1 : (4294967296 * M) * (4294967296 * M) = 4294967296 * 4294967296 * (M * M) := by grind
    have e2 : (4296015872 * (L + 2) + 44640000000) * (4296015872 * (L + 2) + 44640000000) = (4296015872 * (L + 2)) * (4296015872 * (L + 2)) + 2 * (4296015872 * (L + 2) * 44640000000) + 44640000000 * 44640000000 := by grind
    omega
  have u4 := sq_le_of _ _ (by omega) u3
  -- below
  have v1 : nn 0 (4294967296 * t1) (4294967296 * t2) (4294967296 * t3) ≤ (4294967296 * (M + 2)) * (4294967296 * (M + 2)) := by
    rw [eT]
    have e : 4294967296 * (M + 2) * (4294967296 * (M + 2)) = 4294967296 * 4294967296 * ((M + 2) * (M + 2)) := by grind
    omega
  have v2 := (nn_add 0 _ _ _ 0 _ _ _ _ 44640000000 (show 0 ≤ 4294967296 * (M + 2) by omega) (by omega) v1 d2).1
  rw [show 4294967296 * t1 + -(4294967296 * t1 - f1) = f1 by omega, show 4294967296 * t2 + -(4294967296 * t2 - f2) = f2 by omega, show 4294967296 * t3 + -(4294967296 * t3 - f3) = f3 by omega, show (0 : Int) + 0 = 0 by omega, hF] at v2
  have v3 : (4293918720 * L) * (4293918720 * L) ≤ (4294967296 * (M + 2) + 44640000000) * (4294967296 * (M + 2) + 44640000000) := by
    have e1 : (4293918720 * L) * (4293918720 * L) = 4293918720 * 4293918720 * (L * L) := by grind
    have e2 : (4294967296 * (M + 2) + 44640000000) * (4294967296 * (M + 2) + 44640000000) = (4294967296 * (M + 2)) * (4294967296 * (M + 2)) + 2 * (4294967296 * (M + 2) * 44640000000) + 44640000000 * 44640000000 := by grind
    have e3 := Int.mul_le_mul q2 L2 (sq_nonneg L) q0
    omega
  have v4 := sq_le_of _ _ (by omega) v3
  exact ⟨L, M, eL, eM, L0, L1, M0, M1, by omega, by omega⟩

theorem axis_one (n b A t f : Int) (h : n ≤ 4296015872 ∧ 4293918720 ≤ n) (hA : b ≤ A + 2 ∧ -(A + 2) ≤ b) (hA0 : 0 ≤ A) (hf : f = n * b) (ht : 4294967296 * t - f ≤ 25771900928 ∧ -25771900928 ≤ 4294967296 * t - f) :
    t - b ≤ A / 500 + 16 ∧ b - t ≤ A / 500 + 16 := by
  have m := mul_bd (n - 4294967296) b 1048576 (A + 2) (by omega) (by omega) (by omega) (by omega) (by omega) (by omega)
  have e : (n - 4294967296) * b = n * b - 4294967296 * b := by grind
  omega
/-- The axis is kept. -/
theorem keeps_axis {a b c d : Int} (h : Tn a b c d) :
    ∃ A, long (b * 16) (c * 16) (d * 16) = A ∧ 0 ≤ A ∧ A ≤ 4294967296 ∧
    (qt qmx a b c d (b * 16) (c * 16) (d * 16) - b * 16 ≤ A / 500 + 16 ∧ b * 16 - qt qmx a b c d (b * 16) (c * 16) (d * 16) ≤ A / 500 + 16) ∧
    (qt qmy a b c d (b * 16) (c * 16) (d * 16) - c * 16 ≤ A / 500 + 16 ∧ c * 16 - qt qmy a b c d (b * 16) (c * 16) (d * 16) ≤ A / 500 + 16) ∧
    (qt qmz a b c d (b * 16) (c * 16) (d * 16) - d * 16 ≤ A / 500 + 16 ∧ d * 16 - qt qmz a b c d (b * 16) (c * 16) (d * 16) ≤ A / 500 + 16) := by
  obtain ⟨-, g1, g2, g3⟩ := h.bd
  obtain ⟨n1, n2, n3⟩ := qt_near h (b * 16) (c * 16) (d * 16) (by omega) (by omega) (by omega) (by omega) (by omega) (by omega)
  obtain ⟨f1, f2, f3⟩ := f_axis a b c d
  obtain ⟨A, eA, A0, A1, -, A3⟩ := long_is (b * 16) (c * 16) (d * 16) (by omega) (by omega) (by omega) (by omega) (by omega) (by omega)
  obtain ⟨-, k1, k2, k3⟩ := nn_coords (Int.le_refl _) (A + 2) (by omega) A3
  exact ⟨A, eA, A0, A1, axis_one _ _ A _ _ h ⟨k1.2, k1.1⟩ A0 f1 n1, axis_one _ _ A _ _ h ⟨k2.2, k2.1⟩ A0 f2 n2, axis_one _ _ A _ _ h ⟨k3.2, k3.1⟩ A0 f3 n3⟩
end Go.Proofs.Ytdnepccjgclgiaa
