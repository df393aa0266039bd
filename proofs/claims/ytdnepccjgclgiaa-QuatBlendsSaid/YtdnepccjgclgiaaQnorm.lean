/- Plain bounds: unit rows, turners, products (under way). -/
import Derived.Test.YtdnepccjgclgiaaQlaws
import Derived.Test.YtdnepccjgclgiaaQplain
namespace Go.Proofs.Ytdnepccjgclgiaa

theorem qu_near (d : Nat) (u : Int) (hd : 0 < d) : 2 * (d : Int) * qu d u - 131072 * u ≤ d ∧ -(d : Int) < 2 * (d : Int) * qu d u - 131072 * u := by
  unfold qu
  have h1 := Int.mul_ediv_self_le (x := 131072 * u + (d : Int)) (k := 2 * (d : Int)) (by omega)
  have h2 := Int.lt_mul_ediv_self_add (x := 131072 * u + (d : Int)) (k := 2 * (d : Int)) (by omega)
  omega

theorem unit_norm (u0 u1 u2 u3 x y z v d : Int) (hd : 1073741824 ≤ d) (h1 : d * d ≤ nn u0 u1 u2 u3) (h2 : nn u0 u1 u2 u3 < (d + 1) * (d + 1))
    (e0 : 2 * d * x - 131072 * u0 ≤ d ∧ -d ≤ 2 * d * x - 131072 * u0) (e1 : 2 * d * y - 131072 * u1 ≤ d ∧ -d ≤ 2 * d * y - 131072 * u1) (e2 : 2 * d * z - 131072 * u2 ≤ d ∧ -d ≤ 2 * d * z - 131072 * u2) (e3 : 2 * d * v - 131072 * u3 ≤ d ∧ -d ≤ 2 * d * v - 131072 * u3) :
    nn x y z v ≤ 4295098496 ∧ 4294836096 ≤ nn x y z v := by
  have b := nn_bd _ _ _ _ d e0.2 e0.1 e1.2 e1.1 e2.2 e2.1 e3.2 e3.1
  have q : nn (131072 * u0) (131072 * u1) (131072 * u2) (131072 * u3) = 17179869184 * nn u0 u1 u2 u3 := by unfold nn; grind
  have m2 : (131072 * (d + 1)) * (131072 * (d + 1)) = 17179869184 * ((d + 1) * (d + 1)) := by grind
  have a := nn_add (131072 * u0) (131072 * u1) (131072 * u2) (131072 * u3) _ _ _ _ (131072 * (d + 1)) (2 * d) (by omega) (by omega) (by omega) b
  rw [show 131072 * u0 + (2 * d * x - 131072 * u0) = 2 * d * x by omega, show 131072 * u1 + (2 * d * y - 131072 * u1) = 2 * d * y by omega, show 131072 * u2 + (2 * d * z - 131072 * u2) = 2 * d * z by omega, show 131072 * u3 + (2 * d * v - 131072 * u3) = 2 * d * v by omega] at a
  have r : nn (2 * d * x) (2 * d * y) (2 * d * z) (2 * d * v) = 4 * (d * d * nn x y z v) := by unfold nn; grind
  have t1 : 131072 * (d + 1) * (2 * d) = 262144 * (d * d) + 262144 * d := by grind
  have t2 : 2 * d * (2 * d) = 4 * (d * d) := by grind
  have t3 : (d + 1) * (d + 1) = d * d + 2 * d + 1 := by grind
  have t4 : 1073741824 * d ≤ d * d := Int.mul_le_mul_of_nonneg_right hd (by omega)
  obtain ⟨D, hD⟩ : ∃ D, D = d * d := ⟨_, rfl⟩
  obtain ⟨n, hn⟩ : ∃ n, n = nn x y z v := ⟨_, rfl⟩
  rw [← hn] at r ⊢
  rw [← hD] at h1 t1 t2 t3 t4 r
  constructor
  · rcases Int.lt_or_le 4295098496 n with h | h
    · have := Int.mul_le_mul_of_nonneg_left (show 4295098497 ≤ n by omega) (show 0 ≤ D by omega)
      omega
    · exact h
  · rcases Int.lt_or_le n 4294836096 with h | h
    · have := Int.mul_le_mul_of_nonneg_left (show n ≤ 4294836095 by omega) (show 0 ≤ D by omega)
      omega
    · exact h

theorem rt_nn (n : Nat) (N : Int) (h : (n : Int) = N) : ((rt n : Nat) : Int) * (rt n : Nat) ≤ N ∧ N < ((rt n : Nat) + 1 : Int) * ((rt n : Nat) + 1) := by
  have h1 := (rt_is n).1
  have h2 := (rt_is n).2
  subst h
  exact ⟨by exact_mod_cast h1, by exact_mod_cast h2⟩
theorem ssq_big {l : List Int} {j : Nat} (h : 1073741824 ≤ most l * 2 ^ j) (hb : most l * 2 ^ j < 2147483648) : 1073741824 ≤ rt (ssq (l.map (fun x => x * 2 ^ j))) := by
  have hUb : ∀ u, u ∈ l.map (fun x => x * 2 ^ j) → u.natAbs ≤ 2147483648 := fun u hu => by have := scaled_le rfl j hu; omega
  rcases most_is l with h0 | ⟨x, hx, h0⟩
  · rw [h0] at h; omega
  · have hpp : (0 : Int) ≤ 2 ^ j := Int.le_of_lt (Int.pow_pos (by omega))
    have e1 : (x * 2 ^ j).natAbs = x.natAbs * (2 ^ j : Int).natAbs := Int.natAbs_mul _ _
    have e2 : ((x.natAbs * (2 ^ j : Int).natAbs : Nat) : Int) = most l * 2 ^ j := by rw [Int.natCast_mul, Int.natAbs_of_nonneg hpp, ← h0]
    have hm := le_ssq _ hUb (List.mem_map_of_mem (f := fun x => x * 2 ^ j) hx)
    have hk : 1073741824 ≤ (x * 2 ^ j).natAbs := by omega
    have := Nat.mul_le_mul hk hk
    exact le_rt (by omega)
theorem qunit3_norm {a b c : Int} {L : List Int} (h : QUnit [a, b, c] L) : nn (L[0]?.getD 0) (L[1]?.getD 0) (L[2]?.getD 0) 0 ≤ 4295098496 ∧ 4294836096 ≤ nn (L[0]?.getD 0) (L[1]?.getD 0) (L[2]?.getD 0) 0 := by
  obtain ⟨j, d, hd, h1, h2, rfl⟩ := h
  simp only [List.map_cons, List.map_nil] at hd
  generalize hu : a * 2 ^ j = u at *
  generalize hv : b * 2 ^ j = v at *
  generalize hw : c * 2 ^ j = w at *
  have e := rt_nn (ssq [u, v, w]) (nn u v w 0) (by simp [ssq, nn])
  have hbig := ssq_big h1 h2
  simp only [List.map_cons, List.map_nil, hu, hv, hw] at hbig
  rw [← hd] at e hbig
  have q0 := qu_near d u (by omega)
  have q1 := qu_near d v (by omega)
  have q2 := qu_near d w (by omega)
  have := unit_norm u v w 0 (qu d u) (qu d v) (qu d w) 0 d (by omega) e.1 e.2 ⟨q0.1, by omega⟩ ⟨q1.1, by omega⟩ ⟨q2.1, by omega⟩ ⟨by omega, by omega⟩
  simpa [hu, hv, hw] using this

theorem pow_ex : ∀ (n : Nat) (m : Int), 1 ≤ m → m < 2147483648 → (2147483648 - m).toNat ≤ n → ∃ j : Nat, 1073741824 ≤ m * 2 ^ j ∧ m * 2 ^ j < 2147483648
  | 0, m, h1, h2, h => by omega
  | n + 1, m, h1, h2, h => by
    by_cases hm : 1073741824 ≤ m
    · exact ⟨0, by simpa using hm, by simpa using h2⟩
    · obtain ⟨j, h3, h4⟩ := pow_ex n (m * 2) (by omega) (by omega) (by omega)
      refine ⟨j + 1, ?_, ?_⟩
      · rw [Int.pow_succ, Int.mul_comm (2 ^ j) 2, ← Int.mul_assoc]; exact h3
      · rw [Int.pow_succ, Int.mul_comm (2 ^ j) 2, ← Int.mul_assoc]; exact h4
theorem qvec_unit {l : List Int} (h0 : ¬ most l = 0) (h : most l < 2147483648) : QUnit l (qvec l) := by
  have := most_nn l
  obtain ⟨j, h3, h4⟩ := pow_ex _ (most l) (by omega) h (Nat.le_refl _)
  have hq : QUnit l _ := ⟨j, _, rfl, h3, h4, rfl⟩
  rw [qvec_is hq]; exact hq
theorem qat3_norm (a b c : Int) (h0 : ¬ most [a, b, c] = 0) (h : most [a, b, c] < 2147483648) : nn (qat [a, b, c] 0) (qat [a, b, c] 1) (qat [a, b, c] 2) 0 ≤ 4295098496 ∧ 4294836096 ≤ nn (qat [a, b, c] 0) (qat [a, b, c] 1) (qat [a, b, c] 2) 0 := qunit3_norm (qvec_unit h0 h)

theorem coord_bd {x r n : Int} (h : x * x + r ≤ n) (hr : 0 ≤ r) (b : Int) (hb : 0 ≤ b) (hn : n < b * b) : -b ≤ x ∧ x ≤ b := by
  have h1 := sq_le_of x b hb (by omega)
  have h2 := sq_le_of (-x) b hb (by rw [Int.neg_mul_neg]; omega)
  omega
theorem nn_coords {x y z v n : Int} (h : nn x y z v ≤ n) (b : Int) (hb : 0 ≤ b) (hn : n < b * b) : (-b ≤ x ∧ x ≤ b) ∧ (-b ≤ y ∧ y ≤ b) ∧ (-b ≤ z ∧ z ≤ b) ∧ (-b ≤ v ∧ v ≤ b) := by
  unfold nn at h
  have := sq_nonneg x; have := sq_nonneg y; have := sq_nonneg z; have := sq_nonneg v
  exact ⟨coord_bd (r := y * y + z * z + v * v) (by omega) (by omega) b hb hn, coord_bd (r := x * x + z * z + v * v) (by omega) (by omega) b hb hn, coord_bd (r := x * x + y * y + v * v) (by omega) (by omega) b hb hn, coord_bd (r := x * x + y * y + z * z) (by omega) (by omega) b hb hn⟩

theorem turner_norm0 (c s x y z : Int) (hc : s * s + c * c ≤ 4295753728 ∧ 4294180864 ≤ s * s + c * c) (s1 : -65536 ≤ s) (s2 : s ≤ 65536) (hn : nn x y z 0 ≤ 4295098496 ∧ 4294836096 ≤ nn x y z 0) :
    nn c (fmul x s) (fmul y s) (fmul z s) ≤ 4296015872 ∧ 4293918720 ≤ nn c (fmul x s) (fmul y s) (fmul z s) := by
  obtain ⟨⟨x1, x2⟩, ⟨y1, y2⟩, ⟨z1, z2⟩, -⟩ := nn_coords hn.1 65538 (by omega) (by omega)
  have fx := fmul_near x s (by omega) (by omega) (by omega) (by omega)
  have fy := fmul_near y s (by omega) (by omega) (by omega) (by omega)
  have fz := fmul_near z s (by omega) (by omega) (by omega) (by omega)
  generalize fmul x s = p at *
  generalize fmul y s = q at *
  generalize fmul z s = r at *
  have b1 := (prod_in (65536 * p - x * s) (65536 * p - x * s) 32768 (by omega) (by omega) (by omega) (by omega)).2
  have b2 := (prod_in (65536 * q - y * s) (65536 * q - y * s) 32768 (by omega) (by omega) (by omega) (by omega)).2
  have b3 := (prod_in (65536 * r - z * s) (65536 * r - z * s) 32768 (by omega) (by omega) (by omega) (by omega)).2
  have b : nn (65536 * p - x * s) (65536 * q - y * s) (65536 * r - z * s) 0 ≤ 56756 * 56756 := by unfold nn; omega
  have ss := prod_in s s 65536 s1 s2 s1 s2
  have s0 := sq_nonneg s
  have e : nn (x * s) (y * s) (z * s) 0 = s * s * nn x y z 0 := by unfold nn; grind
  obtain ⟨N, hN⟩ : ∃ N, N = nn x y z 0 := ⟨_, rfl⟩
  obtain ⟨K, hK⟩ : ∃ K, K = s * s := ⟨_, rfl⟩
  rw [← hN, ← hK] at e
  rw [← hN] at hn
  rw [← hK] at ss s0 hc
  have m1 := Int.mul_le_mul_of_nonneg_left hn.1 s0
  have m2 := Int.mul_le_mul_of_nonneg_left hn.2 s0
  have a := nn_add (x * s) (y * s) (z * s) 0 _ _ _ 0 4295098368 56756 (by omega) (by omega) (by omega) b
  rw [show x * s + (65536 * p - x * s) = 65536 * p by omega, show y * s + (65536 * q - y * s) = 65536 * q by omega, show z * s + (65536 * r - z * s) = 65536 * r by omega, show (0 : Int) + 0 = 0 by omega] at a
  have t : nn (65536 * p) (65536 * q) (65536 * r) 0 = 4294967296 * (nn c p q r - c * c) := by unfold nn; grind
  omega
end Go.Proofs.Ytdnepccjgclgiaa
