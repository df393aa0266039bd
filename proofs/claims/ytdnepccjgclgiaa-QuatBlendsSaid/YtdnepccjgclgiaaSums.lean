/- The addition theorem of the sines of the table, and of those between. No program. -/
import Derived.Test.YtdnepccjgclgiaaTurns
import Derived.Test.YtdnepccjgclgiaaPlane
namespace Go.Proofs.Ytdnepccjgclgiaa

/-- The sine and the cosine of k 256th parts of a turn, k below 128. -/
def sN (n : Nat) : Int := if n ≤ 64 then S n else S ((128 : Nat) - n : Nat)
def cN (n : Nat) : Int := if n ≤ 64 then S ((64 : Nat) - n : Nat) else - S ((n : Nat) - 64 : Nat)
theorem sN_is : ∀ n : Fin 128, sin (256 * (n.val : Int)) = sN n.val ∧ cos (256 * (n.val : Int)) = cN n.val := by decide +kernel
def nodeOk (k j : Nat) : Bool :=
  decide (sN k * cN j + cN k * sN j - 65536 * sN (k + j) ≤ 98633) && decide (-98633 ≤ sN k * cN j + cN k * sN j - 65536 * sN (k + j)) &&
  decide (cN k * cN j - sN k * sN j - 65536 * cN (k + j) ≤ 98633) && decide (-98633 ≤ cN k * cN j - sN k * sN j - 65536 * cN (k + j))
theorem nodes_hold : ∀ k : Fin 64, ∀ j : Fin 64, nodeOk k.val j.val = true := by decide +kernel

def Node (k j : Nat) : Prop :=
  (sin (256 * (k : Int)) * cos (256 * (j : Int)) + cos (256 * (k : Int)) * sin (256 * (j : Int)) - 65536 * sin (256 * ((k : Int) + j)) ≤ 98633 ∧ -98633 ≤ sin (256 * (k : Int)) * cos (256 * (j : Int)) + cos (256 * (k : Int)) * sin (256 * (j : Int)) - 65536 * sin (256 * ((k : Int) + j))) ∧
  (cos (256 * (k : Int)) * cos (256 * (j : Int)) - sin (256 * (k : Int)) * sin (256 * (j : Int)) - 65536 * cos (256 * ((k : Int) + j)) ≤ 98633 ∧ -98633 ≤ cos (256 * (k : Int)) * cos (256 * (j : Int)) - sin (256 * (k : Int)) * sin (256 * (j : Int)) - 65536 * cos (256 * ((k : Int) + j)))

theorem cos_q (a : Int) : cos (a + 16384) = - sin a := by
  rw [cos_eq, ← sin_half a]; congr 1; omega
theorem node_base (k j : Nat) (hk : k < 64) (hj : j < 64) : Node k j := by
  have h := nodes_hold ⟨k, hk⟩ ⟨j, hj⟩
  simp only [nodeOk, Bool.and_eq_true, decide_eq_true_eq] at h
  obtain ⟨⟨⟨h1, h2⟩, h3⟩, h4⟩ := h
  obtain ⟨a1, a2⟩ := sN_is ⟨k, by omega⟩
  obtain ⟨b1, b2⟩ := sN_is ⟨j, by omega⟩
  obtain ⟨c1, c2⟩ := sN_is ⟨k + j, by omega⟩
  simp only [Int.natCast_add] at a1 a2 b1 b2 c1 c2
  unfold Node
  rw [a1, a2, b1, b2, c1, c2]
  exact ⟨⟨h1, h2⟩, h3, h4⟩
theorem node_step (k j : Nat) (h : Node k j) : Node (k + 64) j := by
  unfold Node at *
  have e1 : 256 * (((k + 64 : Nat) : Int)) = 256 * (k : Int) + 16384 := by omega
  have e2 : 256 * (((k + 64 : Nat) : Int) + j) = 256 * ((k : Int) + j) + 16384 := by omega
  rw [e1, e2, cos_q, ← cos_eq, cos_q, ← cos_eq, Int.neg_mul, Int.neg_mul]
  omega
theorem node_comm (k j : Nat) (h : Node k j) : Node j k := by
  unfold Node at *
  rw [Int.add_comm (j : Int) k, Int.mul_comm (sin (256 * (j : Int))), Int.mul_comm (cos (256 * (j : Int))), Int.mul_comm (cos (256 * (j : Int))) (cos (256 * (k : Int))), Int.mul_comm (sin (256 * (j : Int))) (sin (256 * (k : Int)))]
  omega
theorem node_left (j : Nat) (hj : j < 64) : ∀ k, Node k j := by
  intro k
  induction k using Nat.strongRecOn with
  | ind k ih =>
    by_cases hk : k < 64
    · exact node_base k j hk hj
    · have := node_step (k - 64) j (ih (k - 64) (by omega))
      rwa [show k - 64 + 64 = k by omega] at this
theorem node (k j : Nat) : Node k j := by
  induction j using Nat.strongRecOn with
  | ind j ih =>
    by_cases hj : j < 64
    · exact node_left j hj k
    · have := node_step (j - 64) k (node_comm _ _ (ih (j - 64) (by omega)))
      rw [show j - 64 + 64 = j by omega] at this
      exact node_comm _ _ this

/-- Second differences. -/
theorem second_check : ∀ k : Fin 128, sin (256 * (k.val : Int)) - 2 * sin (256 * ((k.val : Int) + 1)) + sin (256 * ((k.val : Int) + 2)) ≤ 40 ∧ -40 ≤ sin (256 * (k.val : Int)) - 2 * sin (256 * ((k.val : Int) + 1)) + sin (256 * ((k.val : Int) + 2)) := by decide +kernel
theorem second (k : Nat) : sin (256 * (k : Int)) - 2 * sin (256 * ((k : Int) + 1)) + sin (256 * ((k : Int) + 2)) ≤ 40 ∧ -40 ≤ sin (256 * (k : Int)) - 2 * sin (256 * ((k : Int) + 1)) + sin (256 * ((k : Int) + 2)) := by
  induction k using Nat.strongRecOn with
  | ind k ih =>
    by_cases hk : k < 128
    · exact second_check ⟨k, hk⟩
    · have h := ih (k - 128) (by omega)
      have e0 : 256 * (k : Int) = 256 * ((k - 128 : Nat) : Int) + 32768 := by omega
      have e1 : 256 * ((k : Int) + 1) = 256 * (((k - 128 : Nat) : Int) + 1) + 32768 := by omega
      have e2 : 256 * ((k : Int) + 2) = 256 * (((k - 128 : Nat) : Int) + 2) + 32768 := by omega
      rw [e0, e1, e2, sin_half, sin_half, sin_half]
      omega

/-- Between two of the table. -/
theorem seg (k r : Nat) (hr : r < 256) :
    256 * sin (256 * (k : Int) + r) - (sin (256 * (k : Int)) * (256 - r) + sin (256 * ((k : Int) + 1)) * r) ≤ 128 ∧
    -128 ≤ 256 * sin (256 * (k : Int) + r) - (sin (256 * (k : Int)) * (256 - r) + sin (256 * ((k : Int) + 1)) * r) := by
  have base : ∀ (k r : Nat), k < 64 → r < 256 → 256 * sin (256 * (k : Int) + r) - (sin (256 * (k : Int)) * (256 - r) + sin (256 * ((k : Int) + 1)) * r) ≤ 128 ∧
      -128 ≤ 256 * sin (256 * (k : Int) + r) - (sin (256 * (k : Int)) * (256 - r) + sin (256 * ((k : Int) + 1)) * r) := by
    intro k r hk hr
    have s1 := (sN_is ⟨k, by omega⟩).1
    have s2 := (sN_is ⟨k + 1, by omega⟩).1
    simp only [Int.natCast_add, Int.cast_ofNat_Int] at s1 s2
    rw [s1, show sin (256 * ((k : Int) + 1)) = sN (k + 1) from s2, sin_of _ (256 * (k : Int) + r) (by omega), sinT0 _ (by omega) (by omega)]
    have e1 : sN k = S (k : Int) := by unfold sN; rw [if_pos (by omega)]
    have e2 : sN (k + 1) = S ((k : Int) + 1) := by unfold sN; rw [if_pos (by omega)]; rfl
    rw [e1, e2]
    have d1 : (256 * (k : Int) + r) / 256 = k := by omega
    have d2 : (256 * (k : Int) + r) % 256 = r := by omega
    unfold sinQ
    rw [d1, d2]
    have id : S (k : Int) * (256 - r) + S ((k : Int) + 1) * r = 256 * S k + (S ((k : Int) + 1) - S k) * r := by grind
    rw [id]
    split
    · rename_i h0; rw [h0, Int.mul_zero]; omega
    · omega
  induction k using Nat.strongRecOn generalizing r with
  | ind k ih =>
    by_cases h1 : k < 64
    · exact base k r h1 hr
    by_cases h2 : k < 128
    · have f0 : 256 * (k : Int) + r = 32768 - (256 * ((127 - k : Nat) : Int) + ((256 - r : Nat) : Int)) := by omega
      have f1 : 256 * (k : Int) = 32768 - (256 * (((127 - k : Nat) : Int) + 1)) := by omega
      have f2 : 256 * ((k : Int) + 1) = 32768 - (256 * ((127 - k : Nat) : Int)) := by omega
      rw [f0, f1, f2, sin_refl, sin_refl, sin_refl]
      by_cases h3 : r = 0
      · subst h3
        rw [show 256 * ((127 - k : Nat) : Int) + ((256 - 0 : Nat) : Int) = 256 * (((127 - k : Nat) : Int) + 1) by omega]
        simp only [Int.cast_ofNat_Int, Int.sub_zero, Int.mul_zero, Int.add_zero]
        omega
      · have b := base (127 - k) (256 - r) (by omega) (by omega)
        rw [show (256 : Int) - ((256 - r : Nat) : Int) = r by omega, show ((256 - r : Nat) : Int) = 256 - r by omega] at b
        rw [show ((256 - r : Nat) : Int) = 256 - r by omega]
        omega
    · have h := ih (k - 128) (by omega) r hr
      have e0 : 256 * (k : Int) + r = 256 * ((k - 128 : Nat) : Int) + r + 32768 := by omega
      have e1 : 256 * (k : Int) = 256 * ((k - 128 : Nat) : Int) + 32768 := by omega
      have e2 : 256 * ((k : Int) + 1) = 256 * (((k - 128 : Nat) : Int) + 1) + 32768 := by omega
      rw [e0, e1, e2, sin_half, sin_half, sin_half, Int.neg_mul, Int.neg_mul]
      omega
theorem segC (k r : Nat) (hr : r < 256) :
    256 * cos (256 * (k : Int) + r) - (cos (256 * (k : Int)) * (256 - r) + cos (256 * ((k : Int) + 1)) * r) ≤ 128 ∧
    -128 ≤ 256 * cos (256 * (k : Int) + r) - (cos (256 * (k : Int)) * (256 - r) + cos (256 * ((k : Int) + 1)) * r) := by
  have h := seg (k + 64) r hr
  rw [show 256 * ((k + 64 : Nat) : Int) + r = 256 * (k : Int) + r + 16384 by omega, show 256 * (((k + 64 : Nat) : Int) + 1) = 256 * ((k : Int) + 1) + 16384 by omega, show 256 * ((k + 64 : Nat) : Int) = 256 * (k : Int) + 16384 by omega, ← cos_eq, ← cos_eq, ← cos_eq] at h
  exact h

/-- Four products of numbers with their weights. -/
theorem weights (p q g00 g10 g01 g11 E : Int) (hp : 0 ≤ p) (hp' : p ≤ 256) (hq : 0 ≤ q) (hq' : q ≤ 256) (h00 : g00 ≤ E ∧ -E ≤ g00) (h10 : g10 ≤ E ∧ -E ≤ g10) (h01 : g01 ≤ E ∧ -E ≤ g01) (h11 : g11 ≤ E ∧ -E ≤ g11) :
    (256 - p) * (256 - q) * g00 + p * (256 - q) * g10 + (256 - p) * q * g01 + p * q * g11 ≤ 65536 * E ∧
    -(65536 * E) ≤ (256 - p) * (256 - q) * g00 + p * (256 - q) * g10 + (256 - p) * q * g01 + p * q * g11 := by
  have w : ∀ a b : Int, 0 ≤ a → 0 ≤ b → 0 ≤ a * b := fun a b => Int.mul_nonneg
  have m : ∀ (c g : Int), 0 ≤ c → g ≤ E ∧ -E ≤ g → c * g ≤ c * E ∧ -(c * E) ≤ c * g := by
    intro c g hc hg
    refine ⟨Int.mul_le_mul_of_nonneg_left hg.1 hc, ?_⟩
    have := Int.mul_le_mul_of_nonneg_left hg.2 hc
    rw [Int.mul_neg] at this
    exact this
  have a1 := m _ _ (w (256 - p) (256 - q) (by omega) (by omega)) h00
  have a2 := m _ _ (w p (256 - q) (by omega) (by omega)) h10
  have a3 := m _ _ (w (256 - p) q (by omega) (by omega)) h01
  have a4 := m _ _ (w p q (by omega) (by omega)) h11
  have id : (256 - p) * (256 - q) * E + p * (256 - q) * E + (256 - p) * q * E + p * q * E = 65536 * E := by grind
  omega
theorem mul_bd (a b m n : Int) (hm : 0 ≤ m) (hn : 0 ≤ n) (h1 : -m ≤ a) (h2 : a ≤ m) (h3 : -n ≤ b) (h4 : b ≤ n) : -(m * n) ≤ a * b ∧ a * b ≤ m * n := by
  have e : a.natAbs * b.natAbs ≤ m.natAbs * n.natAbs := Nat.mul_le_mul (by omega) (by omega)
  have e2 := Int.natAbs_mul a b
  have e3 : ((m.natAbs * n.natAbs : Nat) : Int) = m * n := by rw [Int.natCast_mul]; rw [Int.natAbs_of_nonneg hm, Int.natAbs_of_nonneg hn]
  omega

/-- A product of two numbers whose sum is at most 256. -/
theorem area (p q d : Int) (hp : 0 ≤ p) (hq : 0 ≤ q) (h : p + q ≤ 256) (hd : d ≤ 40 ∧ -40 ≤ d) : p * q * d ≤ 655360 ∧ -655360 ≤ p * q * d := by
  have h1 : p * q ≤ 16384 := by
    have id : 4 * (p * q) + (p - q) * (p - q) = (p + q) * (p + q) := by grind
    have s := sq_nonneg (p - q)
    have t := mul_bd (p + q) (p + q) 256 256 (by omega) (by omega) (by omega) (by omega) (by omega) (by omega)
    omega
  have h0 : 0 ≤ p * q := Int.mul_nonneg hp hq
  have e : (p * q).natAbs * d.natAbs ≤ 16384 * 40 := Nat.mul_le_mul (by omega) (by omega)
  have e2 := Int.natAbs_mul (p * q) d
  omega

/-- The sum of the errors. -/
theorem combine (sa ca sb cb s0 s1 c0 c1 u0 u1 v0 v1 N0 N1 N2 r t Z I : Int) (hr : 0 ≤ r) (hr' : r ≤ 256) (ht : 0 ≤ t) (ht' : t ≤ 256)
    (h1 : 256 * sa - (s0 * (256 - r) + s1 * r) ≤ 128 ∧ -128 ≤ 256 * sa - (s0 * (256 - r) + s1 * r)) (h2 : 256 * ca - (c0 * (256 - r) + c1 * r) ≤ 128 ∧ -128 ≤ 256 * ca - (c0 * (256 - r) + c1 * r))
    (h3 : 256 * sb - (u0 * (256 - t) + u1 * t) ≤ 128 ∧ -128 ≤ 256 * sb - (u0 * (256 - t) + u1 * t)) (h4 : 256 * cb - (v0 * (256 - t) + v1 * t) ≤ 128 ∧ -128 ≤ 256 * cb - (v0 * (256 - t) + v1 * t))
    (g00 : s0 * v0 + c0 * u0 - 65536 * N0 ≤ 98633 ∧ -98633 ≤ s0 * v0 + c0 * u0 - 65536 * N0) (g10 : s1 * v0 + c1 * u0 - 65536 * N1 ≤ 98633 ∧ -98633 ≤ s1 * v0 + c1 * u0 - 65536 * N1)
    (g01 : s0 * v1 + c0 * u1 - 65536 * N1 ≤ 98633 ∧ -98633 ≤ s0 * v1 + c0 * u1 - 65536 * N1) (g11 : s1 * v1 + c1 * u1 - 65536 * N2 ≤ 98633 ∧ -98633 ≤ s1 * v1 + c1 * u1 - 65536 * N2)
    (b1 : -65536 ≤ sa ∧ sa ≤ 65536) (b2 : -65536 ≤ ca ∧ ca ≤ 65536) (b3 : -65536 ≤ sb ∧ sb ≤ 65536) (b4 : -65536 ≤ cb ∧ cb ≤ 65536)
    (i1 : 65536 * I - 256 * ((256 - r) * (256 - t) * N0 + (r * (256 - t) + (256 - r) * t) * N1 + r * t * N2) ≤ 256 * 655360)
    (i2 : -(256 * 655360) ≤ 65536 * I - 256 * ((256 - r) * (256 - t) * N0 + (r * (256 - t) + (256 - r) * t) * N1 + r * t * N2)) (i3 : 256 * Z - I ≤ 128) (i4 : -128 ≤ 256 * Z - I) :
    65536 * Z - (sa * cb + ca * sb) ≤ 917833 ∧ -917833 ≤ 65536 * Z - (sa * cb + ca * sb) := by
  have w := weights r t _ _ _ _ 98633 hr hr' ht ht' g00 g10 g01 g11
  obtain ⟨B, hB⟩ : ∃ B, B = (256 - r) * (256 - t) * N0 + (r * (256 - t) + (256 - r) * t) * N1 + r * t * N2 := ⟨_, rfl⟩
  obtain ⟨G, hG⟩ : ∃ G, G = (256 - r) * (256 - t) * (s0 * v0 + c0 * u0 - 65536 * N0) + r * (256 - t) * (s1 * v0 + c1 * u0 - 65536 * N1) + (256 - r) * t * (s0 * v1 + c0 * u1 - 65536 * N1) + r * t * (s1 * v1 + c1 * u1 - 65536 * N2) := ⟨_, rfl⟩
  rw [← hG] at w
  rw [← hB] at i1 i2
  obtain ⟨A1, k1⟩ : ∃ A, A = s0 * (256 - r) + s1 * r := ⟨_, rfl⟩
  obtain ⟨A2, k2⟩ : ∃ A, A = c0 * (256 - r) + c1 * r := ⟨_, rfl⟩
  obtain ⟨A3, k3⟩ : ∃ A, A = u0 * (256 - t) + u1 * t := ⟨_, rfl⟩
  obtain ⟨A4, k4⟩ : ∃ A, A = v0 * (256 - t) + v1 * t := ⟨_, rfl⟩
  have idW : A1 * A4 + A2 * A3 = G + 65536 * B := by rw [hG, hB, k1, k2, k3, k4]; grind
  rw [← k1] at h1
  rw [← k2] at h2
  rw [← k3] at h3
  rw [← k4] at h4
  clear k1 k2 k3 k4 hG hB g00 g10 g01 g11
  obtain ⟨e1, f1⟩ : ∃ e, e = 256 * sa - A1 := ⟨_, rfl⟩
  obtain ⟨e2, f2⟩ : ∃ e, e = 256 * ca - A2 := ⟨_, rfl⟩
  obtain ⟨e3, f3⟩ : ∃ e, e = 256 * sb - A3 := ⟨_, rfl⟩
  obtain ⟨e4, f4⟩ : ∃ e, e = 256 * cb - A4 := ⟨_, rfl⟩
  have idP : 65536 * (sa * cb + ca * sb) = A1 * A4 + A2 * A3 + (e1 * (256 * cb) + A1 * e4 + e2 * (256 * sb) + A2 * e3) := by
    rw [f1, f2, f3, f4]; grind
  have q1 := mul_bd e1 (256 * cb) 128 16777216 (by omega) (by omega) (by omega) (by omega) (by omega) (by omega)
  have q2 := mul_bd A1 e4 16777344 128 (by omega) (by omega) (by omega) (by omega) (by omega) (by omega)
  have q3 := mul_bd e2 (256 * sb) 128 16777216 (by omega) (by omega) (by omega) (by omega) (by omega) (by omega)
  have q4 := mul_bd A2 e3 16777344 128 (by omega) (by omega) (by omega) (by omega) (by omega) (by omega)
  omega

theorem sums (a b : Int) (a0 : 0 ≤ a) (b0 : 0 ≤ b) :
    65536 * sin (a + b) - (sin a * cos b + cos a * sin b) ≤ 917833 ∧ -917833 ≤ 65536 * sin (a + b) - (sin a * cos b + cos a * sin b) := by
  obtain ⟨k, hk⟩ := Int.eq_ofNat_of_zero_le (show 0 ≤ a / 256 by omega)
  obtain ⟨r, hr⟩ := Int.eq_ofNat_of_zero_le (show 0 ≤ a % 256 by omega)
  obtain ⟨j, hj⟩ := Int.eq_ofNat_of_zero_le (show 0 ≤ b / 256 by omega)
  obtain ⟨t, ht⟩ := Int.eq_ofNat_of_zero_le (show 0 ≤ b % 256 by omega)
  have ha : a = 256 * (k : Int) + r := by omega
  have hb : b = 256 * (j : Int) + t := by omega
  have hr' : r < 256 := by omega
  have ht' : t < 256 := by omega
  clear hk hr hj ht a0 b0
  subst ha hb
  have s1 := seg k r hr'
  have s2 := segC k r hr'
  have s3 := seg j t ht'
  have s4 := segC j t ht'
  have n00 := (node k j).1
  have n10 := (node (k + 1) j).1
  have n01 := (node k (j + 1)).1
  have n11 := (node (k + 1) (j + 1)).1
  have q := second (k + j)
  have c1 := sin_bd (256 * (k : Int) + r)
  have c2 := cos_bd (256 * (k : Int) + r)
  have c3 := sin_bd (256 * (j : Int) + t)
  have c4 := cos_bd (256 * (j : Int) + t)
  have S5 : ∃ I : Int, 65536 * I - 256 * ((256 - (r : Int)) * (256 - t) * sin (256 * ((k : Int) + j)) + (r * (256 - t) + (256 - r) * t) * sin (256 * ((k : Int) + j + 1)) + r * t * sin (256 * ((k : Int) + j + 2))) ≤ 256 * 655360 ∧
      -(256 * 655360) ≤ 65536 * I - 256 * ((256 - (r : Int)) * (256 - t) * sin (256 * ((k : Int) + j)) + (r * (256 - t) + (256 - r) * t) * sin (256 * ((k : Int) + j + 1)) + r * t * sin (256 * ((k : Int) + j + 2))) ∧
      256 * sin (256 * (k : Int) + r + (256 * (j : Int) + t)) - I ≤ 128 ∧ -128 ≤ 256 * sin (256 * (k : Int) + r + (256 * (j : Int) + t)) - I := by
    by_cases hu : r + t < 256
    · have h := seg (k + j) (r + t) hu
      have ar := area r t _ (by omega) (by omega) (by omega) q
      rw [show 256 * ((k + j : Nat) : Int) + ((r + t : Nat) : Int) = 256 * (k : Int) + r + (256 * (j : Int) + t) by omega] at h
      simp only [Int.natCast_add] at h ar
      refine ⟨_, ?_, ?_, h.1, h.2⟩ <;> grind
    · have h := seg (k + j + 1) (r + t - 256) (by omega)
      have ar := area (256 - r) (256 - t) _ (by omega) (by omega) (by omega) q
      rw [show 256 * ((k + j + 1 : Nat) : Int) + ((r + t - 256 : Nat) : Int) = 256 * (k : Int) + r + (256 * (j : Int) + t) by omega, show ((r + t - 256 : Nat) : Int) = (r : Int) + t - 256 by omega,
        show ((k + j + 1 : Nat) : Int) + 1 = (k : Int) + j + 2 by omega, show ((k + j + 1 : Nat) : Int) = (k : Int) + j + 1 by omega] at h
      simp only [Int.natCast_add] at ar
      refine ⟨_, ?_, ?_, h.1, h.2⟩ <;> grind
  obtain ⟨I, i1, i2, i3, i4⟩ := S5
  simp only [Int.natCast_add, Int.cast_ofNat_Int] at n10 n01 n11
  refine combine _ _ _ _ _ _ _ _ _ _ _ _ _ _ _ r t _ I (by omega) (by omega) (by omega) (by omega) s1 s2 s3 s4 n00 ?_ ?_ ?_ c1 c2 c3 c4 i1 i2 i3 i4
  · rw [show (k : Int) + j + 1 = k + 1 + j by omega]; exact n10
  · rw [show (k : Int) + j + 1 = k + (j + 1) by omega]; exact n01
  · rw [show (k : Int) + j + 2 = k + 1 + (j + 1) by omega]; exact n11
end Go.Proofs.Ytdnepccjgclgiaa
