/- flow.Check, flow.Step. -/
import Derived.Test.YtaiflkjchbpphaaFars
namespace Go.Proofs.Ytaiflkjchbpphaa
open Go.RowKit

theorem ret_int {k : IntKind} {a b : Int} (h : a = b) : Ending.returned (.int k a) = .returned (.int k b) := by rw [h]
/-- Numbers in a block. -/
def IRow (W : World) (g : Nat) (l : List Int) : Prop := (∀ k, k < l.length → W.cell? ⟨g, k, none⟩ = some (.int .i64 (l[k]?.getD 0))) ∧ ∀ k, k < l.length → W.frozen? ⟨g, k, none⟩ = false
theorem IRow.set {W : World} {g : Nat} {l : List Int} (h : IRow W g l) (k : Nat) (x : Int) : IRow (W.setCell ⟨g, k, none⟩ (.int .i64 x)) g (l.set k x) := by
  refine ⟨fun j hj => ?_, fun j hj => by rw [World.frozen?_setCell]; exact h.2 j (by rwa [List.length_set] at hj)⟩
  rw [List.length_set] at hj
  by_cases e : k = j
  · subst e
    rw [World.cell?_setCell_same _ _ _ (h.1 k hj), List.getElem?_set_self hj]; rfl
  · rw [World.cell?_setCell_other _ _ _ _ (fun e' => e (congrArg Addr.off e')), h.1 j hj, List.getElem?_set_ne e]
theorem IRow.below {B : Nat} {W W' : World} {g : Nat} {l : List Int} (h : IRow W g l) (hb : Below B W W') (hg : g < B) : IRow W' g l :=
  ⟨fun k hk => (hb.cell (p := ⟨g, k, none⟩) hg).trans (h.1 k hk), fun k hk => (hb.frozen (p := ⟨g, k, none⟩) hg).trans (h.2 k hk)⟩
theorem IRow.at {W : World} {g : Nat} {l : List Int} (h : IRow W g l) (k : Nat) (hk : k < l.length) : W.cell? ⟨g, k, none⟩ = some (.int .i64 l[k]) := by
  rw [h.1 k hk, List.getElem?_eq_getElem hk]; rfl
theorem IRow.other {W : World} {g : Nat} {l : List Int} (h : IRow W g l) (p : Addr) (hp : p.block ≠ g) (v : Value) : IRow (W.setCell p v) g l :=
  ⟨fun k hk => (World.cell?_setCell_other _ _ _ _ (fun e => hp (by rw [e]))).trans (h.1 k hk), fun k hk => (World.frozen?_setCell _ _ _ _).trans (h.2 k hk)⟩

/-- The cell next to one. -/
def stp (W H x y d : Nat) : Int :=
  if d = 1 then (if x + 1 < W then ((y * W + x + 1 : Nat) : Int) else -1)
  else if d = 2 then (if y + 1 < H then (((y + 1) * W + x : Nat) : Int) else -1)
  else if d = 3 then (if 1 ≤ x then ((y * W + (x - 1) : Nat) : Int) else -1)
  else (if 1 ≤ y then (((y - 1) * W + x : Nat) : Int) else -1)

set_option maxHeartbeats 4000000 in
theorem step_any (W H x y d N : Nat) (s : Value) (w : World) (hW1 : 1 ≤ W) (hW2 : W ≤ 64) (hH1 : 1 ≤ H) (hH2 : H ≤ 64) (hx : x < W) (hy : y < H) (hN : W * H = N) (hd1 : 1 ≤ d) (hd2 : d ≤ 4) (c : Nat) (hc : y * W + x = c) :
    Calls Try.prog 34 #[.agg #[.int .i64 W, .int .i64 H, s], .int .i64 c, .int .i64 d] w fun e w' => e = .returned (.int .i64 (stp W H x y d)) ∧ Below w.heap.size w w' := by
  have hNb : N ≤ 4096 := by rw [← hN]; exact Nat.mul_le_mul hW2 hH2
  have hcN : c < N := by
    have h1 : y * W + W ≤ H * W := by rw [← Nat.succ_mul]; exact Nat.mul_le_mul_right _ hy
    rw [Nat.mul_comm H W, hN] at h1
    omega
  have e1 : (W : Int) * (H : Int) = (N : Int) := by rw [← hN]; push_cast; rfl
  have e2 : (c : Int) / (W : Int) = (y : Int) := by
    rw [← hc]
    have : (y * W + x) / W = y := by rw [Nat.mul_comm, Nat.mul_add_div (by omega), Nat.div_eq_of_lt hx]; rfl
    exact_mod_cast this
  have e3 : (c : Int) % (W : Int) = (x : Int) := by
    rw [← hc]
    have : (y * W + x) % W = x := by rw [Nat.mul_comm, Nat.mul_add_mod, Nat.mod_eq_of_lt hx]
    exact_mod_cast this
  have e4 : (c : Int).tmod (W : Int) = (x : Int) := by rw [Int.tmod_eq_emod_of_nonneg (by omega)]; exact e3
  have e5 : (c : Int).tdiv (W : Int) = (y : Int) := by rw [Int.tdiv_eq_ediv_of_nonneg (by omega)]; exact e2
  have hz : ¬ (W : Int) = 0 := by omega
  have hyb : y ≤ 63 := by omega
  obtain ⟨P, hP⟩ : ∃ P, y * W = P := ⟨_, rfl⟩
  have hPb : P ≤ 4032 := by rw [← hP]; exact Nat.mul_le_mul hyb hW2
  have e6 : (y : Int) * (W : Int) = (P : Int) := by rw [← hP]; push_cast; rfl
  obtain rfl | rfl | rfl | rfl : d = 1 ∨ d = 2 ∨ d = 3 ∨ d = 4 := by omega
  · by_cases hb : x + 1 < W
    · have hv : Hid (stp W H x y 1 = (P : Int) + ((x : Int) + 1)) := by unfold Hid stp; rw [if_pos rfl, if_pos hb, hP]; omega
      have i1 : ¬ (x : Int) + 1 < 0 := by omega
      have i2 : ¬ (y : Int) < 0 := by omega
      have i3 : (x : Int) + 1 < W := by omega
      have i4 : (y : Int) < H := by omega
      go_enter Try.func34, Try.ntmps34
      go_wp2_with fail
      refine region_grow (by kernel_rfl) (by kernel_rfl) ?_
      repeat (go_big_quiet_step ((fail)))
      refine wpQuiet_nil ?_
      intro _ hw'
      obtain ⟨k, m, rfl⟩ := hw'
      go_wp2_with fail
      go_ret
      exact ⟨ret_int (by rw [hv.out] <;> omega), by repeat (first | exact Below.refl _ _ | apply Below.drew | apply Below.al | apply Below.ex)⟩
    · have hv : Hid (stp W H x y 1 = -1) := by unfold Hid stp; rw [if_pos rfl, if_neg hb]
      have i1 : ¬ (x : Int) + 1 < 0 := by omega
      have i2 : ¬ (y : Int) < 0 := by omega
      have i3 : ¬ (x : Int) + 1 < W := by omega
      go_enter Try.func34, Try.ntmps34
      go_wp2_with fail
      refine region_grow (by kernel_rfl) (by kernel_rfl) ?_
      repeat (go_big_quiet_step ((fail)))
      refine wpQuiet_nil ?_
      intro _ hw'
      obtain ⟨k, m, rfl⟩ := hw'
      go_wp2_with fail
      go_ret
      exact ⟨ret_int (by rw [hv.out] <;> omega), by repeat (first | exact Below.refl _ _ | apply Below.drew | apply Below.al | apply Below.ex)⟩
  · obtain ⟨Q, hQ⟩ : ∃ Q, (y + 1) * W = Q := ⟨_, rfl⟩
    have hQP : Q = P + W := by rw [← hQ, ← hP, Nat.succ_mul]
    have e7 : ((y : Int) + 1) * (W : Int) = (Q : Int) := by rw [← hQ]; push_cast; rfl
    by_cases hb : y + 1 < H
    · have hv : Hid (stp W H x y 2 = (Q : Int) + (x : Int)) := by unfold Hid stp; rw [if_neg (by omega), if_pos rfl, if_pos hb, hQ]; omega
      have i1 : ¬ (x : Int) < 0 := by omega
      have i2 : ¬ (y : Int) + 1 < 0 := by omega
      have i3 : (x : Int) < W := by omega
      have i4 : (y : Int) + 1 < H := by omega
      go_enter Try.func34, Try.ntmps34
      go_wp2_with fail
      refine region_grow (by kernel_rfl) (by kernel_rfl) ?_
      repeat (go_big_quiet_step ((fail)))
      refine wpQuiet_nil ?_
      intro _ hw'
      obtain ⟨k, m, rfl⟩ := hw'
      go_wp2_with fail
      go_ret
      exact ⟨ret_int (by rw [hv.out] <;> omega), by repeat (first | exact Below.refl _ _ | apply Below.drew | apply Below.al | apply Below.ex)⟩
    · have hv : Hid (stp W H x y 2 = -1) := by unfold Hid stp; rw [if_neg (by omega), if_pos rfl, if_neg hb]
      have i1 : ¬ (x : Int) < 0 := by omega
      have i2 : ¬ (y : Int) + 1 < 0 := by omega
      have i3 : (x : Int) < W := by omega
      have i4 : ¬ (y : Int) + 1 < H := by omega
      go_enter Try.func34, Try.ntmps34
      go_wp2_with fail
      refine region_grow (by kernel_rfl) (by kernel_rfl) ?_
      repeat (go_big_quiet_step ((fail)))
      refine wpQuiet_nil ?_
      intro _ hw'
      obtain ⟨k, m, rfl⟩ := hw'
      go_wp2_with fail
      go_ret
      exact ⟨ret_int (by rw [hv.out] <;> omega), by repeat (first | exact Below.refl _ _ | apply Below.drew | apply Below.al | apply Below.ex)⟩
  · by_cases hb : 1 ≤ x
    · have hv : Hid (stp W H x y 3 = (P : Int) + ((x : Int) - 1)) := by unfold Hid stp; rw [if_neg (by omega), if_neg (by omega), if_pos rfl, if_pos hb, hP]; omega
      have i1 : ¬ (x : Int) - 1 < 0 := by omega
      have i2 : ¬ (y : Int) < 0 := by omega
      have i3 : (x : Int) - 1 < W := by omega
      have i4 : (y : Int) < H := by omega
      go_enter Try.func34, Try.ntmps34
      go_wp2_with fail
      refine region_grow (by kernel_rfl) (by kernel_rfl) ?_
      repeat (go_big_quiet_step ((fail)))
      refine wpQuiet_nil ?_
      intro _ hw'
      obtain ⟨k, m, rfl⟩ := hw'
      go_wp2_with fail
      go_ret
      exact ⟨ret_int (by rw [hv.out] <;> omega), by repeat (first | exact Below.refl _ _ | apply Below.drew | apply Below.al | apply Below.ex)⟩
    · have hv : Hid (stp W H x y 3 = -1) := by unfold Hid stp; rw [if_neg (by omega), if_neg (by omega), if_pos rfl, if_neg hb]
      have i1 : (x : Int) - 1 < 0 := by omega
      go_enter Try.func34, Try.ntmps34
      go_wp2_with fail
      refine region_grow (by kernel_rfl) (by kernel_rfl) ?_
      repeat (go_big_quiet_step ((fail)))
      refine wpQuiet_nil ?_
      intro _ hw'
      obtain ⟨k, m, rfl⟩ := hw'
      go_wp2_with fail
      go_ret
      exact ⟨ret_int (by rw [hv.out] <;> omega), by repeat (first | exact Below.refl _ _ | apply Below.drew | apply Below.al | apply Below.ex)⟩
  · by_cases hb : 1 ≤ y
    · obtain ⟨Q, hQ⟩ : ∃ Q, (y - 1) * W = Q := ⟨_, rfl⟩
      have hQP : Q + W = P := by rw [← hQ, ← hP, ← Nat.succ_mul]; congr 1; omega
      have e7 : ((y : Int) - 1) * (W : Int) = (Q : Int) := by rw [← hQ, Int.natCast_mul, Int.natCast_sub hb]; rfl
      have hv : Hid (stp W H x y 4 = (Q : Int) + (x : Int)) := by unfold Hid stp; rw [if_neg (by omega), if_neg (by omega), if_neg (by omega), if_pos hb, hQ]; omega
      have i1 : ¬ (x : Int) < 0 := by omega
      have i2 : ¬ (y : Int) - 1 < 0 := by omega
      have i3 : (x : Int) < W := by omega
      have i4 : (y : Int) - 1 < H := by omega
      go_enter Try.func34, Try.ntmps34
      go_wp2_with fail
      refine region_grow (by kernel_rfl) (by kernel_rfl) ?_
      repeat (go_big_quiet_step ((fail)))
      refine wpQuiet_nil ?_
      intro _ hw'
      obtain ⟨k, m, rfl⟩ := hw'
      go_wp2_with fail
      go_ret
      exact ⟨ret_int (by rw [hv.out] <;> omega), by repeat (first | exact Below.refl _ _ | apply Below.drew | apply Below.al | apply Below.ex)⟩
    · have hv : Hid (stp W H x y 4 = -1) := by unfold Hid stp; rw [if_neg (by omega), if_neg (by omega), if_neg (by omega), if_neg hb]
      have i1 : ¬ (x : Int) < 0 := by omega
      have i2 : (y : Int) - 1 < 0 := by omega
      go_enter Try.func34, Try.ntmps34
      go_wp2_with fail
      refine region_grow (by kernel_rfl) (by kernel_rfl) ?_
      repeat (go_big_quiet_step ((fail)))
      refine wpQuiet_nil ?_
      intro _ hw'
      obtain ⟨k, m, rfl⟩ := hw'
      go_wp2_with fail
      go_ret
      exact ⟨ret_int (by rw [hv.out] <;> omega), by repeat (first | exact Below.refl _ _ | apply Below.drew | apply Below.al | apply Below.ex)⟩
end Go.Proofs.Ytaiflkjchbpphaa
