/- quat.Blend. -/
import Derived.Test.YtdnepccjgclgiaaQturn
import Derived.Test.YtdnepccjgclgiaaQplain
import Derived.Test.YtdnepccjgclgiaaSums
namespace Go.Proofs.Ytdnepccjgclgiaa
open Go.RowKit

def mn (x y : Int) : Int := if y < x then y else x
theorem run_mn (ts : Array TypeId) (t : TypeId) (k : IntKind) (x y : Int) (w : World) : (Builtin.min_ ts t #[.int k x, .int k y]).run Try.prog w = .ok (.int k (mn x y)) w := by
  rw [run_min_int2]; rfl
attribute [local go_sem ↓] run_mx run_mn

theorem fmul_small (a s : Int) (a1 : -1048576 ≤ a) (a2 : a ≤ 1048576) (s1 : 0 ≤ s) (s2 : s ≤ 65536) : -1048576 ≤ fmul a s ∧ fmul a s ≤ 1048576 := by
  have h := mul_bd a s 1048576 65536 (by omega) (by omega) a1 a2 (by omega) s2
  rw [fmul_in a s (by omega) (by omega) (by omega) (by omega) (by omega) (by omega)]
  omega
theorem sum4_any (a b c d : Int) (g : Nat) (w : World) (hg : g = w.heap.size) :
    Calls Try.prog 79 #[.slice (some ⟨g, 0, none⟩) 4 4] (w.alloc (.cells #[.int .i64 a, .int .i64 b, .int .i64 c, .int .i64 d] 3)) fun e w' => e = .returned (.int .i64 (qsum [a, b, c, d])) ∧ w.alloc (.cells #[.int .i64 a, .int .i64 b, .int .i64 c, .int .i64 d] 3) = w' := by
  subst hg
  exact sum_any w.heap.size 4 4 [a, b, c, d] _ rfl (by omega) (irow_al _ _ _ _ _ _)
/-- A number between two. -/
def mix (a x s t : Int) : Int := fadd (fmul a s) (fmul x t)
theorem mix_bd (a x s t : Int) (a1 : -1048576 ≤ a) (a2 : a ≤ 1048576) (x1 : -1048576 ≤ x) (x2 : x ≤ 1048576) (s1 : 0 ≤ s) (s2 : s ≤ 65536) (t1 : 0 ≤ t) (t2 : t ≤ 65536) : -1073741824 ≤ mix a x s t ∧ mix a x s t ≤ 1073741824 := by
  have h1 := fmul_small a s a1 a2 s1 s2
  have h2 := fmul_small x t x1 x2 t1 t2
  unfold mix
  rw [fadd_in _ _ (by omega) (by omega) (by omega) (by omega)]
  omega
def tcut (t : Int) : Int := mn (mx t 0) 65536
theorem tcut_bd (t : Int) : 0 ≤ tcut t ∧ tcut t ≤ 65536 := by unfold tcut mn mx; split <;> split <;> omega

set_option maxRecDepth 8000 in
set_option maxHeartbeats 2000000 in
theorem blend_pos (a b c d x y z v t : Int) (w : World) (hd : ¬ qsum [fmul a x, fmul b y, fmul c z, fmul d v] < 0) (a1 : -1048576 ≤ a) (a2 : a ≤ 1048576) (b1 : -1048576 ≤ b) (b2 : b ≤ 1048576) (c1 : -1048576 ≤ c) (c2 : c ≤ 1048576) (d1 : -1048576 ≤ d) (d2 : d ≤ 1048576)
    (x1 : -1048576 ≤ x) (x2 : x ≤ 1048576) (y1 : -1048576 ≤ y) (y2 : y ≤ 1048576) (z1 : -1048576 ≤ z) (z2 : z ≤ 1048576) (v1 : -1048576 ≤ v) (v2 : v ≤ 1048576) :
    Calls Try.prog 60 #[.agg #[.int .i64 a, .int .i64 b, .int .i64 c, .int .i64 d], .agg #[.int .i64 x, .int .i64 y, .int .i64 z, .int .i64 v], .int .i64 t] w fun e w' => e = .returned (.agg #[.int .i64 (un [mix a x (65536 - tcut t) (tcut t), mix b y (65536 - tcut t) (tcut t), mix c z (65536 - tcut t) (tcut t), mix d v (65536 - tcut t) (tcut t)] 0), .int .i64 (un [mix a x (65536 - tcut t) (tcut t), mix b y (65536 - tcut t) (tcut t), mix c z (65536 - tcut t) (tcut t), mix d v (65536 - tcut t) (tcut t)] 1), .int .i64 (un [mix a x (65536 - tcut t) (tcut t), mix b y (65536 - tcut t) (tcut t), mix c z (65536 - tcut t) (tcut t), mix d v (65536 - tcut t) (tcut t)] 2), .int .i64 (un [mix a x (65536 - tcut t) (tcut t), mix b y (65536 - tcut t) (tcut t), mix c z (65536 - tcut t) (tcut t), mix d v (65536 - tcut t) (tcut t)] 3)]) ∧ Below w.heap.size w w' := by
  unfold tcut
  obtain ⟨T, hT⟩ : ∃ T, mn (mx t 0) 65536 = T := ⟨_, rfl⟩
  have t1 : 0 ≤ T := by have := tcut_bd t; unfold tcut at this; omega
  have t2 : T ≤ 65536 := by have := tcut_bd t; unfold tcut at this; omega
  obtain ⟨A1, A2⟩ := mix_bd a x (65536 - T) T a1 a2 x1 x2 (by omega) (by omega) t1 t2
  obtain ⟨B1, B2⟩ := mix_bd b y (65536 - T) T b1 b2 y1 y2 (by omega) (by omega) t1 t2
  obtain ⟨C1, C2⟩ := mix_bd c z (65536 - T) T c1 c2 z1 z2 (by omega) (by omega) t1 t2
  obtain ⟨D1, D2⟩ := mix_bd d v (65536 - T) T d1 d2 v1 v2 (by omega) (by omega) t1 t2
  clear a1 a2 b1 b2 c1 c2 d1 d2 x1 x2 y1 y2 z1 z2 v1 v2
  rw [hT]
  unfold mix
  unfold mix at A1 A2 B1 B2 C1 C2 D1 D2
  go_enter Try.func60, Try.ntmps60
  go_wp2_with fail
  refine region_tail 24 (by kernel_rfl) (by kernel_rfl) ?_
  simp only [List.take_succ_cons, List.take_zero, List.drop_succ_cons, List.drop_zero]
  repeat (go_big_quiet_step ((intro _; go_at_call 43; exact grow_of (fmul_any _ _ _))))
  refine wpQuiet_nil ?_
  intro _ hw'
  obtain ⟨k, m, rfl⟩ := hw'
  go_wp2_with (go_at_call 79; (with_reducible refine (sum4_any _ _ _ _ _ _ (by simp [go_sem])).mono ?_); rintro e w1 ⟨rfl, rfl⟩)
  refine region_tail 46 (by kernel_rfl) (by kernel_rfl) ?_
  simp only [List.take_succ_cons, List.take_zero, List.drop_succ_cons, List.drop_zero]
  repeat (go_big_quiet_step ((first | (intro _; go_at_call 43; exact grow_of (fmul_any _ _ _)) | (intro _; go_at_call 46; exact grow_same (fadd_any _ _ _)) | (intro _; go_at_call 61; exact grow_of (unit_any _ _ _ _ _ A1 A2 B1 B2 C1 C2 D1 D2)))))
  refine wpQuiet_nil ?_
  intro _ hw'
  obtain ⟨k2, m2, rfl⟩ := hw'
  go_wp2
  exact bodyPost_ret (by simp [results, Try.results60, go_sem]) rfl ⟨rfl, by
    repeat (first | exact Below.refl _ _ | apply Below.drew | apply Below.al | apply Below.ex)⟩
set_option maxRecDepth 8000 in
set_option maxHeartbeats 2000000 in
theorem blend_neg (a b c d x y z v t : Int) (w : World) (hd : qsum [fmul a x, fmul b y, fmul c z, fmul d v] < 0) (a1 : -1048576 ≤ a) (a2 : a ≤ 1048576) (b1 : -1048576 ≤ b) (b2 : b ≤ 1048576) (c1 : -1048576 ≤ c) (c2 : c ≤ 1048576) (d1 : -1048576 ≤ d) (d2 : d ≤ 1048576)
    (x1 : -1048576 ≤ x) (x2 : x ≤ 1048576) (y1 : -1048576 ≤ y) (y2 : y ≤ 1048576) (z1 : -1048576 ≤ z) (z2 : z ≤ 1048576) (v1 : -1048576 ≤ v) (v2 : v ≤ 1048576) :
    Calls Try.prog 60 #[.agg #[.int .i64 a, .int .i64 b, .int .i64 c, .int .i64 d], .agg #[.int .i64 x, .int .i64 y, .int .i64 z, .int .i64 v], .int .i64 t] w fun e w' => e = .returned (.agg #[.int .i64 (un [mix a (-x) (65536 - tcut t) (tcut t), mix b (-y) (65536 - tcut t) (tcut t), mix c (-z) (65536 - tcut t) (tcut t), mix d (-v) (65536 - tcut t) (tcut t)] 0), .int .i64 (un [mix a (-x) (65536 - tcut t) (tcut t), mix b (-y) (65536 - tcut t) (tcut t), mix c (-z) (65536 - tcut t) (tcut t), mix d (-v) (65536 - tcut t) (tcut t)] 1), .int .i64 (un [mix a (-x) (65536 - tcut t) (tcut t), mix b (-y) (65536 - tcut t) (tcut t), mix c (-z) (65536 - tcut t) (tcut t), mix d (-v) (65536 - tcut t) (tcut t)] 2), .int .i64 (un [mix a (-x) (65536 - tcut t) (tcut t), mix b (-y) (65536 - tcut t) (tcut t), mix c (-z) (65536 - tcut t) (tcut t), mix d (-v) (65536 - tcut t) (tcut t)] 3)]) ∧ Below w.heap.size w w' := by
  unfold tcut
  obtain ⟨T, hT⟩ : ∃ T, mn (mx t 0) 65536 = T := ⟨_, rfl⟩
  have t1 : 0 ≤ T := by have := tcut_bd t; unfold tcut at this; omega
  have t2 : T ≤ 65536 := by have := tcut_bd t; unfold tcut at this; omega
  obtain ⟨A1, A2⟩ := mix_bd a (-x) (65536 - T) T a1 a2 (by omega) (by omega) (by omega) (by omega) t1 t2
  obtain ⟨B1, B2⟩ := mix_bd b (-y) (65536 - T) T b1 b2 (by omega) (by omega) (by omega) (by omega) t1 t2
  obtain ⟨C1, C2⟩ := mix_bd c (-z) (65536 - T) T c1 c2 (by omega) (by omega) (by omega) (by omega) t1 t2
  obtain ⟨D1, D2⟩ := mix_bd d (-v) (65536 - T) T d1 d2 (by omega) (by omega) (by omega) (by omega) t1 t2
  have hx := clamp_in x (by omega) (by omega)
  have hy := clamp_in y (by omega) (by omega)
  have hz := clamp_in z (by omega) (by omega)
  have hv := clamp_in v (by omega) (by omega)
  clear a1 a2 b1 b2 c1 c2 d1 d2
  rw [hT]
  unfold mix
  unfold mix at A1 A2 B1 B2 C1 C2 D1 D2
  go_enter Try.func60, Try.ntmps60
  go_wp2_with fail
  refine region_tail 24 (by kernel_rfl) (by kernel_rfl) ?_
  simp only [List.take_succ_cons, List.take_zero, List.drop_succ_cons, List.drop_zero]
  repeat (go_big_quiet_step ((intro _; go_at_call 43; exact grow_of (fmul_any _ _ _))))
  refine wpQuiet_nil ?_
  intro _ hw'
  obtain ⟨k, m, rfl⟩ := hw'
  go_wp2_with (go_at_call 79; (with_reducible refine (sum4_any _ _ _ _ _ _ (by simp [go_sem])).mono ?_); rintro e w1 ⟨rfl, rfl⟩)
  refine region_tail 17 (by kernel_rfl) (by kernel_rfl) ?_
  simp only [List.take_succ_cons, List.take_zero, List.drop_succ_cons, List.drop_zero]
  repeat (go_big_quiet_step ((intro _; go_at_call 35; exact grow_same (clamp_any _ _))))
  refine wpQuiet_nil ?_
  intro _ hw'
  obtain ⟨k1, m1, rfl⟩ := hw'
  try simp only [hx, hy, hz, hv]
  go_wp2_with fail
  refine region_tail_ext 46 (by kernel_rfl) (by kernel_rfl) ?_
  simp only [List.take_succ_cons, List.take_zero, List.drop_succ_cons, List.drop_zero]
  repeat (go_big_quiet_step ((first | (intro _; go_at_call 43; exact grow_of (fmul_any _ _ _)) | (intro _; go_at_call 46; exact grow_same (fadd_any _ _ _)) | (intro _; go_at_call 61; exact grow_of (unit_any _ _ _ _ _ A1 A2 B1 B2 C1 C2 D1 D2)))))
  refine wpQuiet_nil ?_
  intro _ hw'
  obtain ⟨k2, m2, rfl⟩ := hw'
  go_wp2
  exact bodyPost_ret (by simp [results, Try.results60, go_sem]) rfl ⟨rfl, by
    repeat (first | exact Below.refl _ _ | apply Below.drew | apply Below.al | apply Below.ex)⟩
end Go.Proofs.Ytdnepccjgclgiaa
