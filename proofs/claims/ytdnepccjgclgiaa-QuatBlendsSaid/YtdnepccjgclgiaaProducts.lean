/- For every input, VecProducts returns true. No condition. -/
import Derived.Test.YtdnepccjgclgiaaFixLaws
import Derived.Test.YtdnepccjgclgiaaTriangle
namespace Go.Proofs.Ytdnepccjgclgiaa
open Go.RowKit
attribute [local go_sem ↓] run_mx run_mx4

/-- vec.Dot and vec.Cross. -/
def vdot (x y z v : Int) : Int := fadd (fmul x z) (fmul y v)
def vcross (x y z v : Int) : Int := fsub (fmul x v) (fmul y z)
theorem vdot_any (x y z v : Int) (w : World) :
    Calls Try.prog 50 #[.agg #[.int .i64 x, .int .i64 y], .agg #[.int .i64 z, .int .i64 v]] w fun e w' => e = .returned (.int .i64 (vdot x y z v)) ∧ Below w.heap.size w w' := by
  go_enter Try.func50, Try.ntmps50
  go_wp2_with fail
  refine region_grow (by kernel_rfl) (by kernel_rfl) ?_
  repeat (go_big_quiet_step ((first | (intro _; go_at_call 43; exact grow_of (fmul_any _ _ _)) | (intro _; go_at_call 46; exact grow_same (fadd_any _ _ _)))))
  refine wpQuiet_nil ?_
  intro _ hw'
  obtain ⟨k, m, rfl⟩ := hw'
  go_wp2
  go_ret
  exact ⟨rfl, by repeat (first | exact Below.refl _ _ | apply Below.drew | apply Below.al | apply Below.ex)⟩
theorem vcross_any (x y z v : Int) (w : World) :
    Calls Try.prog 51 #[.agg #[.int .i64 x, .int .i64 y], .agg #[.int .i64 z, .int .i64 v]] w fun e w' => e = .returned (.int .i64 (vcross x y z v)) ∧ Below w.heap.size w w' := by
  go_enter Try.func51, Try.ntmps51
  go_wp2_with fail
  refine region_grow (by kernel_rfl) (by kernel_rfl) ?_
  repeat (go_big_quiet_step ((first | (intro _; go_at_call 43; exact grow_of (fmul_any _ _ _)) | (intro _; go_at_call 47; exact grow_same (fsub_any _ _ _)))))
  refine wpQuiet_nil ?_
  intro _ hw'
  obtain ⟨k, m, rfl⟩ := hw'
  go_wp2
  go_ret
  exact ⟨rfl, by repeat (first | exact Below.refl _ _ | apply Below.drew | apply Below.al | apply Below.ex)⟩

theorem vdot_comm (x y z v : Int) : vdot z v x y = vdot x y z v := by
  unfold vdot; rw [fmul_comm z x, fmul_comm v y]
theorem vcross_comm (x y z v : Int) : vcross z v x y = - vcross x y z v := by
  unfold vcross fsub
  rw [fmul_comm z y, fmul_comm v x, ← clamp_neg]
  congr 1; omega
theorem vcross_self (x y : Int) : vcross x y x y = 0 := by
  have h := vcross_comm x y x y
  omega

/-- The products of numbers of at most 2^22 units, and how far they are from the exact ones. -/
theorem half_mul (a b : Int) (h1 : -4194304 ≤ a) (h2 : a ≤ 4194304) (h3 : -4194304 ≤ b) (h4 : b ≤ 4194304) :
    -268435456 ≤ fmul a b ∧ fmul a b ≤ 268435456 ∧ 65536 * fmul a b - a * b ≤ 32768 ∧ a * b - 65536 * fmul a b ≤ 32767 := by
  have p := prod_in a b 4194304 h1 h2 h3 h4
  rw [fmul_in a b (by omega) (by omega) (by omega) (by omega) (by omega) (by omega)]
  omega

theorem lagrange (d c A B D C P Q : Int) (hD : 65536 * d - D ≤ 65536 ∧ D - 65536 * d ≤ 65536) (hC : 65536 * c - C ≤ 65536 ∧ C - 65536 * c ≤ 65536)
    (hA : 65536 * A - P ≤ 65536 ∧ P - 65536 * A ≤ 65536) (hB : 65536 * B - Q ≤ 65536 ∧ Q - 65536 * B ≤ 65536) (h : D * D + C * C = P * Q) (hA0 : 0 ≤ A) (hB0 : 0 ≤ B) :
    d * d + c * c - A * B ≤ 2 * d.natAbs + 2 * c.natAbs + 2 + A + B + 1 ∧ A * B - (d * d + c * c) ≤ 2 * d.natAbs + 2 * c.natAbs + 2 + A + B + 1 := by
  obtain ⟨e1, h1⟩ : ∃ e, e = 65536 * d - D := ⟨_, rfl⟩
  obtain ⟨e2, h2⟩ : ∃ e, e = 65536 * c - C := ⟨_, rfl⟩
  obtain ⟨e3, h3⟩ : ∃ e, e = 65536 * A - P := ⟨_, rfl⟩
  obtain ⟨e4, h4⟩ : ∃ e, e = 65536 * B - Q := ⟨_, rfl⟩
  have key : 4294967296 * (d * d + c * c - A * B) = 131072 * (d * e1) - e1 * e1 + 131072 * (c * e2) - e2 * e2 - 65536 * (A * e4) - 65536 * (B * e3) + e3 * e4 := by
    have : D = 65536 * d - e1 := by omega
    have : C = 65536 * c - e2 := by omega
    have : P = 65536 * A - e3 := by omega
    have : Q = 65536 * B - e4 := by omega
    subst_vars
    grind
  have ab : ∀ (x e : Int), e ≤ 65536 → -65536 ≤ e → x * e ≤ 65536 * (x.natAbs : Int) ∧ -(65536 * (x.natAbs : Int)) ≤ x * e := by
    intro x e k1 k2
    have e1 : x.natAbs * e.natAbs ≤ x.natAbs * 65536 := Nat.mul_le_mul_left _ (by omega)
    have e2 := Int.natAbs_mul x e
    omega
  have q1 := ab d e1 (by omega) (by omega)
  have q2 := ab c e2 (by omega) (by omega)
  have q3 := ab A e4 (by omega) (by omega)
  have q4 := ab B e3 (by omega) (by omega)
  have q5 := prod_in e3 e4 65536 (by omega) (by omega) (by omega) (by omega)
  have q6 := prod_in e1 e1 65536 (by omega) (by omega) (by omega) (by omega)
  have q7 := prod_in e2 e2 65536 (by omega) (by omega) (by omega) (by omega)
  have n1 := sq_nonneg e1
  have n2 := sq_nonneg e2
  omega

/-- What the walk needs. -/
theorem product_facts (x y z v : Int) (x1 : -4194304 ≤ x) (x2 : x ≤ 4194304) (y1 : -4194304 ≤ y) (y2 : y ≤ 4194304) (z1 : -4194304 ≤ z) (z2 : z ≤ 4194304) (v1 : -4194304 ≤ v) (v2 : v ≤ 4194304) :
    ∃ d c A B L R M : Int, vdot x y z v = d ∧ vcross x y z v = c ∧ vdot z v x y = d ∧ vcross z v x y = -c ∧ vdot x y x y = A ∧ vdot z v z v = B ∧ vcross x y x y = 0 ∧
      d * d + c * c = L ∧ A * B = R ∧ 2 * mx d (-d) + 2 * mx c (-c) + 2 = M ∧ 0 ≤ L ∧ L ≤ 1000000000000000000 ∧ 0 ≤ R ∧ R ≤ 1000000000000000000 ∧ 0 ≤ M ∧ M ≤ 10000000000 ∧ 0 ≤ A ∧ A ≤ 536870912 ∧ 0 ≤ B ∧ B ≤ 536870912 ∧
      -536870912 ≤ d ∧ d ≤ 536870912 ∧ -536870912 ≤ c ∧ c ≤ 536870912 ∧ 0 ≤ d * d ∧ d * d ≤ 288230376151711744 ∧ 0 ≤ c * c ∧ c * c ≤ 288230376151711744 ∧ 0 ≤ mx d (-d) ∧ mx d (-d) ≤ 536870912 ∧ 0 ≤ mx c (-c) ∧ mx c (-c) ≤ 536870912 ∧
      L / 65536 - R / 65536 ≤ M / 65536 + A / 65536 + B / 65536 + 5 ∧ R / 65536 - L / 65536 ≤ M / 65536 + A / 65536 + B / 65536 + 5 := by
  have a1 := half_mul x z x1 x2 z1 z2
  have a2 := half_mul y v y1 y2 v1 v2
  have a3 := half_mul x v x1 x2 v1 v2
  have a4 := half_mul y z y1 y2 z1 z2
  have a5 := half_mul x x x1 x2 x1 x2
  have a6 := half_mul y y y1 y2 y1 y2
  have a7 := half_mul z z z1 z2 z1 z2
  have a8 := half_mul v v v1 v2 v1 v2
  have s1 := sq_nonneg x
  have s2 := sq_nonneg y
  have s3 := sq_nonneg z
  have s4 := sq_nonneg v
  have e1 : vdot x y z v = fmul x z + fmul y v := by unfold vdot; exact fadd_in _ _ (by omega) (by omega) (by omega) (by omega)
  have e2 : vcross x y z v = fmul x v - fmul y z := by unfold vcross; exact fsub_in _ _ (by omega) (by omega) (by omega) (by omega)
  have e3 : vdot x y x y = fmul x x + fmul y y := by unfold vdot; exact fadd_in _ _ (by omega) (by omega) (by omega) (by omega)
  have e4 : vdot z v z v = fmul z z + fmul v v := by unfold vdot; exact fadd_in _ _ (by omega) (by omega) (by omega) (by omega)
  have hl : (x * z + y * v) * (x * z + y * v) + (x * v - y * z) * (x * v - y * z) = (x * x + y * y) * (z * z + v * v) := by grind
  obtain ⟨d, hd⟩ : ∃ d, d = fmul x z + fmul y v := ⟨_, rfl⟩
  obtain ⟨c, hc⟩ : ∃ c, c = fmul x v - fmul y z := ⟨_, rfl⟩
  obtain ⟨A, hA⟩ : ∃ A, A = fmul x x + fmul y y := ⟨_, rfl⟩
  obtain ⟨B, hB⟩ : ∃ B, B = fmul z z + fmul v v := ⟨_, rfl⟩
  have la := lagrange d c A B _ _ _ _ (by omega) (by omega) (by omega) (by omega) hl (by omega) (by omega)
  clear hl
  rw [← hd] at e1
  rw [← hc] at e2
  rw [← hA] at e3
  rw [← hB] at e4
  have d1 : -536870912 ≤ d ∧ d ≤ 536870912 := by omega
  have c1 : -536870912 ≤ c ∧ c ≤ 536870912 := by omega
  have A1 : 0 ≤ A ∧ A ≤ 536870912 := by omega
  have B1 : 0 ≤ B ∧ B ≤ 536870912 := by omega
  clear a1 a2 a3 a4 a5 a6 a7 a8 s1 s2 s3 s4 hd hc hA hB
  have f1 := prod_in d d 536870912 (by omega) (by omega) (by omega) (by omega)
  have f2 := prod_in c c 536870912 (by omega) (by omega) (by omega) (by omega)
  have f3 := prod_in A B 536870912 (by omega) (by omega) (by omega) (by omega)
  have f4 := Int.mul_nonneg A1.1 B1.1
  have g1 := sq_nonneg d
  have g2 := sq_nonneg c
  have m1 := mx_abs d
  have m2 := mx_abs c
  obtain ⟨L, hL⟩ : ∃ L, d * d + c * c = L := ⟨_, rfl⟩
  obtain ⟨R, hR⟩ : ∃ R, A * B = R := ⟨_, rfl⟩
  obtain ⟨M, hM⟩ : ∃ M, 2 * mx d (-d) + 2 * mx c (-c) + 2 = M := ⟨_, rfl⟩
  rw [hL, hR] at la
  refine ⟨d, c, A, B, L, R, M, e1, e2, by rw [vdot_comm]; exact e1, by rw [vcross_comm, e2], e3, e4, vcross_self x y, hL, hR, hM, by omega, by omega, by omega, by omega, by omega, by omega, A1.1, A1.2, B1.1, B1.2, d1.1, d1.2, c1.1, c1.2, g1, by omega, g2, by omega, by omega, by omega, by omega, by omega, ?_, ?_⟩
  · omega
  · omega
end Go.Proofs.Ytdnepccjgclgiaa
