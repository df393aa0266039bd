/- Plain bounds: unit quaternions of near quaternions are near. -/
import Derived.Test.YtdnepccjgclgiaaQfact
import Derived.Test.YtdnepccjgclgiaaQblend
namespace Go.Proofs.Ytdnepccjgclgiaa

theorem qunit4_norm {a b c e : Int} {L : List Int} (h : QUnit [a, b, c, e] L) : nn (L[0]?.getD 0) (L[1]?.getD 0) (L[2]?.getD 0) (L[3]?.getD 0) ≤ 4295098496 ∧ 4294836096 ≤ nn (L[0]?.getD 0) (L[1]?.getD 0) (L[2]?.getD 0) (L[3]?.getD 0) := by
  obtain ⟨j, d, hd, h1, h2, rfl⟩ := h
  simp only [List.map_cons, List.map_nil] at hd
  generalize hu : a * 2 ^ j = u at *
  generalize hv : b * 2 ^ j = v at *
  generalize hw : c * 2 ^ j = w at *
  generalize hx : e * 2 ^ j = x at *
  have r := rt_nn (ssq [u, v, w, x]) (nn u v w x) (by simp [ssq, nn])
  have hbig := ssq_big h1 h2
  simp only [List.map_cons, List.map_nil, hu, hv, hw, hx] at hbig
  rw [← hd] at r hbig
  have q0 := qu_near d u (by omega)
  have q1 := qu_near d v (by omega)
  have q2 := qu_near d w (by omega)
  have q3 := qu_near d x (by omega)
  have := unit_norm u v w x (qu d u) (qu d v) (qu d w) (qu d x) d (by omega) r.1 r.2 ⟨q0.1, by omega⟩ ⟨q1.1, by omega⟩ ⟨q2.1, by omega⟩ ⟨q3.1, by omega⟩
  simpa [hu, hv, hw, hx] using this

theorem most4_lt {a b c d : Int} (n : Int) (hn : 0 ≤ n) (ha : -n ≤ a ∧ a ≤ n) (hb : -n ≤ b ∧ b ≤ n) (hc : -n ≤ c ∧ c ≤ n) (hd : -n ≤ d ∧ d ≤ n) : most [a, b, c, d] ≤ n :=
  most_bd _ n hn (fun x hx => by
    simp only [List.mem_cons, List.not_mem_nil, or_false] at hx
    rcases hx with rfl | rfl | rfl | rfl <;> assumption)
theorem most4_zero {a b c d : Int} (h : most [a, b, c, d] = 0) : nn a b c d = 0 := by
  have h0 := most_le [a, b, c, d] (x := a) (by simp)
  have h1 := most_le [a, b, c, d] (x := b) (by simp)
  have h2 := most_le [a, b, c, d] (x := c) (by simp)
  have h3 := most_le [a, b, c, d] (x := d) (by simp)
  obtain rfl : a = 0 := by omega
  obtain rfl : b = 0 := by omega
  obtain rfl : c = 0 := by omega
  obtain rfl : d = 0 := by omega
  rfl
theorem un_norm {a b c d : Int} (hm : most [a, b, c, d] < 2147483648) : nn (un [a, b, c, d] 0) (un [a, b, c, d] 1) (un [a, b, c, d] 2) (un [a, b, c, d] 3) ≤ 4295098496 ∧ 4294836096 ≤ nn (un [a, b, c, d] 0) (un [a, b, c, d] 1) (un [a, b, c, d] 2) (un [a, b, c, d] 3) := by
  unfold un
  split
  · simp (decide := true) only
  · rename_i h0
    exact qunit4_norm (qvec_unit h0 hm)
theorem un_facts {a b c d : Int} (hm : most [a, b, c, d] < 2147483648) :
    ((-65538 ≤ un [a, b, c, d] 0 ∧ un [a, b, c, d] 0 ≤ 65538) ∧ (-65538 ≤ un [a, b, c, d] 1 ∧ un [a, b, c, d] 1 ≤ 65538) ∧ (-65538 ≤ un [a, b, c, d] 2 ∧ un [a, b, c, d] 2 ≤ 65538) ∧ (-65538 ≤ un [a, b, c, d] 3 ∧ un [a, b, c, d] 3 ≤ 65538)) ∧
    sqq (un [a, b, c, d] 0) (un [a, b, c, d] 1) (un [a, b, c, d] 2) (un [a, b, c, d] 3) - 65536 ≤ 8 ∧ 65536 - sqq (un [a, b, c, d] 0) (un [a, b, c, d] 1) (un [a, b, c, d] 2) (un [a, b, c, d] 3) ≤ 8 := by
  have h := un_norm hm
  refine ⟨nn_coords h.1 65538 (by omega) (by omega), ?_⟩
  unfold nn at h
  unfold sqq
  omega

/-- What a unit row is made of. -/
structure Made (a b c e : Int) (d P X : Int) (x : Int) : Prop where
  hp : 0 < P
  hd : 1073741824 ≤ d
  lo : d * d ≤ P * P * nn a b c e
  hi : P * P * nn a b c e < (d + 1) * (d + 1)
  up : 2 * d * X - 131072 * (x * P) ≤ d
  dn : -d ≤ 2 * d * X - 131072 * (x * P)
theorem un_made {a b c e : Int} (h0 : ¬ most [a, b, c, e] = 0) (hm : most [a, b, c, e] < 2147483648) :
    ∃ d P, Made a b c e d P (un [a, b, c, e] 0) a ∧ Made a b c e d P (un [a, b, c, e] 1) b ∧ Made a b c e d P (un [a, b, c, e] 2) c ∧ Made a b c e d P (un [a, b, c, e] 3) e := by
  obtain ⟨j, d, hd, h1, h2, hL⟩ := qvec_unit h0 hm
  have hP : (0 : Int) < 2 ^ j := Int.pow_pos (by omega)
  have hbig := ssq_big h1 h2
  rw [← hd] at hbig
  unfold un qat
  rw [if_neg h0, if_neg h0, if_neg h0, if_neg h0, hL]
  simp only [List.map_cons, List.map_nil] at hd ⊢
  obtain ⟨P, hPe⟩ : ∃ P : Int, P = 2 ^ j := ⟨_, rfl⟩
  rw [← hPe] at hd hP
  have r := rt_nn (ssq [a * P, b * P, c * P, e * P]) (nn (a * P) (b * P) (c * P) (e * P)) (by simp [ssq, nn])
  rw [← hd, show nn (a * P) (b * P) (c * P) (e * P) = P * P * nn a b c e by unfold nn; grind] at r
  have q : ∀ u : Int, 2 * (d : Int) * qu d (u * P) - 131072 * (u * P) ≤ d ∧ -(d : Int) ≤ 2 * d * qu d (u * P) - 131072 * (u * P) := fun u => by
    have := qu_near d (u * P) (by omega)
    omega
  refine ⟨d, P, ⟨hP, by omega, r.1, r.2, ?_, ?_⟩, ⟨hP, by omega, r.1, r.2, ?_, ?_⟩, ⟨hP, by omega, r.1, r.2, ?_, ?_⟩, ⟨hP, by omega, r.1, r.2, ?_, ?_⟩⟩ <;> simp only [← hPe, List.getElem?_cons_zero, List.getElem?_cons_succ, Option.getD_some]
  · exact (q a).1
  · exact (q a).2
  · exact (q b).1
  · exact (q b).2
  · exact (q c).1
  · exact (q c).2
  · exact (q e).1
  · exact (q e).2

/-- d lies near P times the length. -/
theorem Made.near {a b c e d P X x : Int} (h : Made a b c e d P X x) (l1 : 65525 * 65525 ≤ nn a b c e) (l2 : nn a b c e ≤ 65546 * 65546) : 65525 * P ≤ d + 1 ∧ d ≤ 65546 * P := by
  have h1 := h.lo
  have h2 := h.hi
  have hp := h.hp
  have hd := h.hd
  have pp : 0 ≤ P * P := sq_nonneg P
  have m1 := Int.mul_le_mul_of_nonneg_left l1 pp
  have m2 := Int.mul_le_mul_of_nonneg_left l2 pp
  refine ⟨sq_le_of _ _ (by omega) ?_, sq_le_of _ _ (by omega) ?_⟩
  · rw [show 65525 * P * (65525 * P) = P * P * (65525 * 65525) by grind]; omega
  · rw [show 65546 * P * (65546 * P) = P * P * (65546 * 65546) by grind]; omega

/-- The rounded lengths of near rows are near. -/
theorem made_d {a b c e d P X x a' b' c' e' d' P' X' x' : Int} (h : Made a b c e d P X x) (h' : Made a' b' c' e' d' P' X' x') (k : nn (a' - a) (b' - b) (c' - c) (e' - e) ≤ 4) :
    d' * P ≤ (d + 1) * P' + 2 * (P * P') := by
  have hp := h.hp
  have hp' := h'.hp
  have hd := h.hd
  have hd' := h'.hd
  have K0 : 0 ≤ P * P' := Int.mul_nonneg (by omega) (by omega)
  have D0 : 0 ≤ (d + 1) * P' := Int.mul_nonneg (by omega) (by omega)
  have m1 := Int.mul_le_mul_of_nonneg_left (Int.le_of_lt h.hi) (sq_nonneg P')
  have m2 := Int.mul_le_mul_of_nonneg_left h'.lo (sq_nonneg P)
  have m3 := Int.mul_le_mul_of_nonneg_left k (sq_nonneg (P * P'))
  obtain ⟨K, hK⟩ : ∃ K, K = P * P' := ⟨_, rfl⟩
  have e1 : nn (K * a) (K * b) (K * c) (K * e) = P' * P' * (P * P * nn a b c e) := by subst hK; unfold nn; grind
  have e2 : nn (K * (a' - a)) (K * (b' - b)) (K * (c' - c)) (K * (e' - e)) = P * P' * (P * P') * nn (a' - a) (b' - b) (c' - c) (e' - e) := by subst hK; unfold nn; grind
  have e3 : nn (K * a') (K * b') (K * c') (K * e') = P * P * (P' * P' * nn a' b' c' e') := by subst hK; unfold nn; grind
  have n := (nn_add (K * a) (K * b) (K * c) (K * e) (K * (a' - a)) (K * (b' - b)) (K * (c' - c)) (K * (e' - e)) ((d + 1) * P') (2 * K) D0 (by omega)
    (by rw [e1, show (d + 1) * P' * ((d + 1) * P') = P' * P' * ((d + 1) * (d + 1)) by grind]; exact m1)
    (by rw [e2, show 2 * K * (2 * K) = P * P' * (P * P') * 4 by subst hK; grind]; exact m3)).1
  rw [show K * a + K * (a' - a) = K * a' by grind, show K * b + K * (b' - b) = K * b' by grind, show K * c + K * (c' - c) = K * c' by grind, show K * e + K * (e' - e) = K * e' by grind, e3, e1] at n
  rw [← hK]
  refine sq_le_of _ _ (by omega) ?_
  rw [show d' * P * (d' * P) = P * P * (d' * d') by grind, show ((d + 1) * P' + 2 * K) * ((d + 1) * P' + 2 * K) = P' * P' * ((d + 1) * (d + 1)) + 2 * ((d + 1) * P' * (2 * K)) + 2 * K * (2 * K) by grind]
  omega

/-- Near rows have near unit rows. -/
theorem made_near {a b c e d P X x a' b' c' e' d' P' X' x' : Int} (h : Made a b c e d P X x) (h' : Made a' b' c' e' d' P' X' x') (k : nn (a' - a) (b' - b) (c' - c) (e' - e) ≤ 4)
    (l1 : 65525 * 65525 ≤ nn a b c e) (l2 : nn a b c e ≤ 65546 * 65546) (l3 : 65525 * 65525 ≤ nn a' b' c' e') (l4 : nn a' b' c' e' ≤ 65546 * 65546) (hx : x' ≤ x + 1) (X1 : -65538 ≤ X) (X2 : X ≤ 65538) : X' - X ≤ 4 := by
  rcases Int.lt_or_le (X' - X) 5 with hlt | hge
  · omega
  have n := h.near l1 l2
  have n' := h'.near l3 l4
  have dd := made_d h h' k
  have dd' := made_d h' h (by rw [show nn (a - a') (b - b') (c - c') (e - e') = nn (a' - a) (b' - b) (c' - c) (e' - e) by unfold nn; grind]; exact k)
  have hp := h.hp
  have hp' := h'.hp
  have hd := h.hd
  have hd' := h'.hd
  have K0 : 0 < P * P' := Int.mul_pos hp hp'
  -- everything times P * P'
  have a1 := Int.mul_le_mul_of_nonneg_right n.1 (show 0 ≤ P' by omega)
  have a2 := Int.mul_le_mul_of_nonneg_right n.2 (show 0 ≤ P' by omega)
  have a3 := Int.mul_le_mul_of_nonneg_right n'.1 (show 0 ≤ P by omega)
  have a4 := Int.mul_le_mul_of_nonneg_right n'.2 (show 0 ≤ P by omega)
  have b1 := Int.mul_le_mul_of_nonneg_right (show 16000 ≤ P by omega) (show 0 ≤ P' by omega)
  have b2 := Int.mul_le_mul_of_nonneg_right (show 16000 ≤ P' by omega) (show 0 ≤ P by omega)
  have c1 := Int.mul_le_mul_of_nonneg_right h.up (show 0 ≤ P' by omega)
  have c2 := Int.mul_le_mul_of_nonneg_right h.dn (show 0 ≤ P' by omega)
  have c3 := Int.mul_le_mul_of_nonneg_right h'.up (show 0 ≤ P by omega)
  have c4 := Int.mul_le_mul_of_nonneg_right h'.dn (show 0 ≤ P by omega)
  have hxK := Int.mul_le_mul_of_nonneg_right hx (Int.le_of_lt K0)
  obtain ⟨K, hK⟩ : ∃ K, K = P * P' := ⟨_, rfl⟩
  obtain ⟨A, hA⟩ : ∃ A, A = d * P' := ⟨_, rfl⟩
  obtain ⟨A', hA'⟩ : ∃ A', A' = d' * P := ⟨_, rfl⟩
  rw [show (65525 * P) * P' = 65525 * K by subst hK; grind, show (d + 1) * P' = A + P' by subst hA; grind] at a1
  rw [show (65546 * P) * P' = 65546 * K by subst hK; grind, ← hA] at a2
  rw [show (65525 * P') * P = 65525 * K by subst hK; grind, show (d' + 1) * P = A' + P by subst hA'; grind] at a3
  rw [show (65546 * P') * P = 65546 * K by subst hK; grind, ← hA'] at a4
  rw [← hK] at b1 K0 hxK dd
  rw [show P' * P = K by subst hK; grind] at b2
  rw [← hA', show (d + 1) * P' = A + P' by subst hA; grind] at dd
  rw [← hA, show (d' + 1) * P = A' + P by subst hA'; grind, show P' * P = K by subst hK; grind] at dd'
  rw [show (2 * d * X - 131072 * (x * P)) * P' = 2 * (A * X) - 131072 * (x * K) by subst hA hK; grind, ← hA] at c1
  rw [show (2 * d * X - 131072 * (x * P)) * P' = 2 * (A * X) - 131072 * (x * K) by subst hA hK; grind, show -d * P' = -A by subst hA; grind] at c2
  rw [show (2 * d' * X' - 131072 * (x' * P')) * P = 2 * (A' * X') - 131072 * (x' * K) by subst hA' hK; grind, ← hA'] at c3
  rw [show (2 * d' * X' - 131072 * (x' * P')) * P = 2 * (A' * X') - 131072 * (x' * K) by subst hA' hK; grind, show -d' * P = -A' by subst hA'; grind] at c4
  rw [show (x + 1) * K = x * K + K by grind] at hxK
  clear hA hA' hK n n'
  have g1 := Int.mul_le_mul_of_nonneg_left hge (show 0 ≤ A' by omega)
  rw [show A' * (X' - X) = A' * X' - A' * X by grind] at g1
  have m := mul_bd (A' - A) X (2 * K + P + P') 65538 (by omega) (by omega) (by omega) (by omega) (by omega) (by omega)
  rw [show (A' - A) * X = A' * X - A * X by grind] at m
  omega
end Go.Proofs.Ytdnepccjgclgiaa
