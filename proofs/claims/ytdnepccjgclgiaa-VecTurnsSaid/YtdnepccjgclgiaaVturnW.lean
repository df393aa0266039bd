/- For every input, VecTurns returns true. No condition. -/
import Derived.Test.YtdnepccjgclgiaaVturn
namespace Go.Proofs.Ytdnepccjgclgiaa
open Go.RowKit

/-- What the walk needs. -/
theorem turn_facts (x y t : Int) (x1 : -1073741824 ≤ x) (x2 : x ≤ 1073741824) (y1 : -1073741824 ≤ y) (y2 : y ≤ 1073741824) :
    ∃ LA LB : Int, vlen x y = LA ∧ vlen (vtx x y t) (vty x y t) = LB ∧ 0 ≤ LA ∧ LA ≤ 2147483648 ∧ 0 ≤ LB ∧ LB ≤ 4294967296 ∧ LA - LB ≤ LA / 5000 + 3 ∧ LB - LA ≤ LA / 5000 + 3 := by
  obtain ⟨b1, b2, b3, b4, b5, b6⟩ := turn_bd x y t x1 x2 y1 y2
  have l1 := len_le x y
  have l2 := len_le (vtx x y t) (vty x y t)
  have h := turn_len x y (cos t) (sin t) (vtx x y t) (vty x y t) (len x y) (len (vtx x y t) (vty x y t)) (by omega) (by omega) (len_sq _ _) (len_sq _ _) (circle t) b5 b6
  refine ⟨len x y, len (vtx x y t) (vty x y t), vlen_in _ _ (by omega) (by omega) (by omega) (by omega), vlen_in _ _ (by omega) (by omega) (by omega) (by omega), by omega, by omega, by omega, by omega, by omega, by omega⟩

theorem VecTurnsW (a0 a1 a2 : Int) (w0 : (Lit.int .i64 a0).wf = true) (w1 : (Lit.int .i64 a1).wf = true) (_w2 : (Lit.int .i64 a2).wf = true) (w : World) :
    Calls Try.prog 19 #[.int .i64 a0, .int .i64 a1, .int .i64 a2] w fun e w' => e = .returned (.bool true) ∧ Below w.heap.size w w' := by
  have h0 := bounds_i64 w0
  have h1 := bounds_i64 w1
  clear w0 w1 _w2
  have X1 := num_lo a0 1073741824 (by omega)
  have X2 := num_hi a0 1073741824 (by omega)
  have Y1 := num_lo a1 1073741824 (by omega)
  have Y2 := num_hi a1 1073741824 (by omega)
  go_enter Try.func19, Try.ntmps19
  go_wp2_with (first
    | (go_at_call 24; (with_reducible refine (vecBegun_any _).mono ?_); rintro e w1 ⟨rfl, hb⟩; obtain ⟨l0, n0, rfl⟩ := ext_of hb; clear hb)
    | (go_at_call 25; (with_reducible refine (small_any _ _ _ (by omega) (by omega)).mono ?_); rintro e w1 ⟨rfl, hb⟩; obtain ⟨l1, n1, rfl⟩ := ext_of hb; clear hb)
    | (go_at_call 52; (with_reducible refine (vturn_any _ _ _ _).mono ?_); rintro e w1 ⟨rfl, hb⟩; obtain ⟨l1, n1, rfl⟩ := ext_of hb; clear hb))
  generalize num a0 1073741824 = x at *
  generalize num a1 1073741824 = y at *
  obtain ⟨LA, LB, e1, e2, f1, f2, f3, f4, f5, f6⟩ := turn_facts x y a2 X1 X2 Y1 Y2
  obtain ⟨q1, q2, -, -, q5, q6⟩ := quarters x y X1 X2 Y1 Y2
  obtain ⟨-, -, p3, p4, -, -⟩ := quarters (-y) x (by omega) (by omega) X1 X2
  rw [Int.neg_neg] at p4
  refine region_grow (by kernel_rfl) (by kernel_rfl) ?_
  repeat (go_big_quiet_step ((first | (intro _; go_at_call 26; exact grow_of (vlen_any _ _ _)) | (intro _; go_at_call 52; exact grow_of (vturn_any _ _ _ _)) | (intro _; go_at_call 33; exact grow_same (near_any _ _ _ _ (by omega) (by omega) (by omega) (by omega) (by omega) (by omega))))))
  refine wpQuiet_nil ?_
  intro _ hw'
  obtain ⟨k, m, rfl⟩ := hw'
  go_wp2
  go_ret
  exact ⟨rfl, by repeat (first | exact Below.refl _ _ | apply Below.drew | apply Below.al | apply Below.ex)⟩
end Go.Proofs.Ytdnepccjgclgiaa
