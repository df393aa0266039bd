/- For every input, VecTriangle returns true. No condition. -/
import Derived.Test.YtdnepccjgclgiaaPlane
import Derived.WalkLawsBesides
namespace Go.Proofs.Ytdnepccjgclgiaa
open Go.RowKit

/-- The greater one of two numbers, and of four. -/
def mx (x y : Int) : Int := if y > x then y else x
def mx4 (x y z v : Int) : Int := mx (mx (mx x y) z) v
theorem run_mx (ts : Array TypeId) (t : TypeId) (k : IntKind) (x y : Int) (w : World) : (Builtin.max_ ts t #[.int k x, .int k y]).run Try.prog w = .ok (.int k (mx x y)) w := by
  rw [run_max_int2]; rfl
theorem run_mx4 (ts : Array TypeId) (t : TypeId) (k : IntKind) (x y z v : Int) (w : World) : (Builtin.max_ ts t #[.int k x, .int k y, .int k z, .int k v]).run Try.prog w = .ok (.int k (mx4 x y z v)) w := by
  have h2 : ∀ (x y : Int) (w : World), (Builtin.max2 (.int k x) (.int k y)).run Try.prog w = .ok (.int k (mx x y)) w := by
    intro x y w; simp [Builtin.max2, mx]
  simp [Builtin.max_, h2, mx4]
theorem mx_abs (x : Int) : mx x (-x) = x.natAbs := by unfold mx; split <;> omega
theorem mx4_le (x y z v n : Int) (h1 : x ≤ n) (h2 : y ≤ n) (h3 : z ≤ n) (h4 : v ≤ n) : mx4 x y z v ≤ n := by
  unfold mx4 mx; split <;> (try split) <;> (try split) <;> (try split) <;> omega
attribute [local go_sem ↓] run_mx run_mx4

/-- What the walk needs of the four numbers. -/
theorem triangle_facts (X Y Z V : Int) (x1 : -1073741824 ≤ X) (x2 : X ≤ 1073741824) (y1 : -1073741824 ≤ Y) (y2 : Y ≤ 1073741824) (z1 : -1073741824 ≤ Z) (z2 : Z ≤ 1073741824) (v1 : -1073741824 ≤ V) (v2 : V ≤ 1073741824) :
    ∃ LA LB LS LD : Int, vlen X Y = LA ∧ vlen Z V = LB ∧ vlen (fadd X Z) (fadd Y V) = LS ∧ vlen (fsub X Z) (fsub Y V) = LD ∧
      LS ≤ LA + LB + 2 ∧ LD ≤ LA + LB + 2 ∧ X ≤ LA ∧ -X ≤ LA ∧ Y ≤ LA ∧ -Y ≤ LA ∧ LA ≤ X.natAbs + Y.natAbs ∧ 0 ≤ LA ∧ 0 ≤ LB ∧ LB ≤ 2147483648 ∧ 0 ≤ LS ∧ 0 ≤ LD := by
  have t1 := triangle X Y Z V
  have t2 := triangle' X Y Z V
  have g := len_ge X Y
  have l1 := len_le X Y
  have l2 := len_le Z V
  refine ⟨len X Y, len Z V, len (X + Z) (Y + V), len (X - Z) (Y - V), vlen_in _ _ (by omega) (by omega) (by omega) (by omega), vlen_in _ _ (by omega) (by omega) (by omega) (by omega), ?_, ?_, by omega, by omega, g.1, g.2.1, g.2.2.1, g.2.2.2, l1, by omega, by omega, by omega, by omega, by omega⟩
  · rw [fadd_in X Z (by omega) (by omega) (by omega) (by omega), fadd_in Y V (by omega) (by omega) (by omega) (by omega), vlen_in _ _ (by omega) (by omega) (by omega) (by omega)]
  · rw [fsub_in X Z (by omega) (by omega) (by omega) (by omega), fsub_in Y V (by omega) (by omega) (by omega) (by omega), vlen_in _ _ (by omega) (by omega) (by omega) (by omega)]

theorem VecTriangleW (a0 a1 a2 a3 : Int) (w0 : (Lit.int .i64 a0).wf = true) (w1 : (Lit.int .i64 a1).wf = true) (w2 : (Lit.int .i64 a2).wf = true) (w3 : (Lit.int .i64 a3).wf = true) (w : World) :
    Calls Try.prog 3 #[.int .i64 a0, .int .i64 a1, .int .i64 a2, .int .i64 a3] w fun e w' => e = .returned (.bool true) ∧ Below w.heap.size w w' := by
  have h0 := bounds_i64 w0
  have h1 := bounds_i64 w1
  have h2 := bounds_i64 w2
  have h3 := bounds_i64 w3
  clear w0 w1 w2 w3
  have X1 := num_lo a0 1073741824 (by omega)
  have X2 := num_hi a0 1073741824 (by omega)
  have Y1 := num_lo a1 1073741824 (by omega)
  have Y2 := num_hi a1 1073741824 (by omega)
  obtain ⟨LA, LB, LS, LD, e1, e2, e3, e4, f1, f2, f3, f4, f5, f6, f7, f8, f9, f10, f11, f12⟩ := triangle_facts (num a0 1073741824) (num a1 1073741824) (num a2 1073741824) (num a3 1073741824)
    X1 X2 Y1 Y2 (num_lo a2 1073741824 (by omega)) (num_hi a2 1073741824 (by omega)) (num_lo a3 1073741824 (by omega)) (num_hi a3 1073741824 (by omega))
  have m4 := mx4_le _ _ _ _ LA f3 f4 f5 f6
  have m2 := mx_abs (num a0 1073741824)
  have m3 := mx_abs (num a1 1073741824)
  have m5 : LA ≤ mx (num a0 1073741824) (-num a0 1073741824) + mx (num a1 1073741824) (-num a1 1073741824) := by omega
  have m6 : mx (num a0 1073741824) (-num a0 1073741824) ≤ 1073741824 := by omega
  have m7 : mx (num a1 1073741824) (-num a1 1073741824) ≤ 1073741824 := by omega
  have m8 : 0 ≤ mx (num a0 1073741824) (-num a0 1073741824) := by omega
  have m9 : 0 ≤ mx (num a1 1073741824) (-num a1 1073741824) := by omega
  clear m2 m3 f3 f4 f5 f6 f7
  go_enter Try.func3, Try.ntmps3
  go_wp2_with (first
    | (go_at_call 24; (with_reducible refine (vecBegun_any _).mono ?_); rintro e w1 ⟨rfl, hb⟩; obtain ⟨l0, n0, rfl⟩ := ext_of hb; clear hb)
    | (go_at_call 25; (with_reducible refine (small_any _ _ _ (by omega) (by omega)).mono ?_); rintro e w1 ⟨rfl, hb⟩; obtain ⟨l1, n1, rfl⟩ := ext_of hb; clear hb))
  refine region_grow (by kernel_rfl) (by kernel_rfl) ?_
  repeat (go_big_quiet_step ((intro _; go_at_call 26; exact grow_of (vlen_any _ _ _))))
  refine wpQuiet_nil ?_
  intro _ hw'
  obtain ⟨k, m, rfl⟩ := hw'
  go_wp2_with (first
    | (go_at_call 26; (with_reducible refine (vlen_any _ _ _).mono ?_); rintro e w1 ⟨rfl, hb⟩; obtain ⟨l0, n0, rfl⟩ := ext_of hb; clear hb)
    | (go_at_call 27; (with_reducible refine (vadd_any _ _ _ _ _).mono ?_); rintro e w1 ⟨rfl, hb⟩; obtain ⟨l0, n0, rfl⟩ := ext_of hb; clear hb)
    | (go_at_call 28; (with_reducible refine (vsub_any _ _ _ _ _).mono ?_); rintro e w1 ⟨rfl, hb⟩; obtain ⟨l1, n1, rfl⟩ := ext_of hb; clear hb))
  go_ret
  exact ⟨rfl, by repeat (first | exact Below.refl _ _ | apply Below.drew | apply Below.al | apply Below.ex)⟩
end Go.Proofs.Ytdnepccjgclgiaa
