/- Plain bounds: turners, products of turners. -/
import Derived.Test.YtdnepccjgclgiaaQnorm
import Derived.Test.YtdnepccjgclgiaaTurns
namespace Go.Proofs.Ytdnepccjgclgiaa

theorem most3_lt (a b c : Int) (a1 : -1048576 ≤ a) (a2 : a ≤ 1048576) (b1 : -1048576 ≤ b) (b2 : b ≤ 1048576) (c1 : -1048576 ≤ c) (c2 : c ≤ 1048576) : most [a, b, c] < 2147483648 := by
  rcases most_is [a, b, c] with h | ⟨x, hx, h⟩
  · omega
  · simp only [List.mem_cons, List.not_mem_nil, or_false] at hx
    rcases hx with rfl | rfl | rfl <;> omega

/-- Quaternions of length One, nearly. -/
def Tn (a b c d : Int) : Prop := nn a b c d ≤ 4296015872 ∧ 4293918720 ≤ nn a b c d
theorem turner_norm (a b c h : Int) (a1 : -1048576 ≤ a) (a2 : a ≤ 1048576) (b1 : -1048576 ≤ b) (b2 : b ≤ 1048576) (c1 : -1048576 ≤ c) (c2 : c ≤ 1048576) :
    Tn (ofw a b c h) (ofv 0 a b c h) (ofv 1 a b c h) (ofv 2 a b c h) := by
  unfold Tn ofw ofv
  split
  · simp (decide := true) only
  · rename_i h0
    have s := sin_bd (h / 2)
    exact turner_norm0 _ _ _ _ _ (circle (h / 2)) s.1 s.2 (qat3_norm a b c h0 (most3_lt a b c a1 a2 b1 b2 c1 c2))
theorem Tn.bd {a b c d : Int} (h : Tn a b c d) : (-65544 ≤ a ∧ a ≤ 65544) ∧ (-65544 ≤ b ∧ b ≤ 65544) ∧ (-65544 ≤ c ∧ c ≤ 65544) ∧ (-65544 ≤ d ∧ d ≤ 65544) :=
  nn_coords h.1 65544 (by omega) (by omega)
theorem Tn.sqq {a b c d : Int} (h : Tn a b c d) : sqq a b c d - 65536 ≤ 24 ∧ 65536 - sqq a b c d ≤ 24 := by
  have h1 := h.1
  have h2 := h.2
  unfold nn at h1 h2
  unfold Go.Proofs.Ytdnepccjgclgiaa.sqq
  omega

/-- A sum of four rounded products. -/
theorem qsum_near (a b c d x y z v E : Int) (p q r s : Int) (h1 : 65536 * p - a * x ≤ 32768 ∧ a * x - 65536 * p ≤ 32768) (h2 : 65536 * q - b * y ≤ 32768 ∧ b * y - 65536 * q ≤ 32768)
    (h3 : 65536 * r - c * z ≤ 32768 ∧ c * z - 65536 * r ≤ 32768) (h4 : 65536 * s - d * v ≤ 32768 ∧ d * v - 65536 * s ≤ 32768) (hE : E = a * x + b * y + c * z + d * v)
    (g1 : -4503599627370496 ≤ a * x ∧ a * x ≤ 4503599627370496) (g2 : -4503599627370496 ≤ b * y ∧ b * y ≤ 4503599627370496) (g3 : -4503599627370496 ≤ c * z ∧ c * z ≤ 4503599627370496) (g4 : -4503599627370496 ≤ d * v ∧ d * v ≤ 4503599627370496) :
    65536 * qsum [p, q, r, s] - E ≤ 131072 ∧ -131072 ≤ 65536 * qsum [p, q, r, s] - E := by
  have e : qsum [p, q, r, s] = p + q + r + s := qsum_in p q r s (by omega) (by omega) (by omega) (by omega) (by omega) (by omega) (by omega) (by omega)
  rw [e]
  omega

structure Bd (a b c d : Int) : Prop where
  h0 : -67108864 ≤ a ∧ a ≤ 67108864
  h1 : -67108864 ≤ b ∧ b ≤ 67108864
  h2 : -67108864 ≤ c ∧ c ≤ 67108864
  h3 : -67108864 ≤ d ∧ d ≤ 67108864

theorem qm_near (a b c d x y z v : Int) (h : Bd a b c d) (k : Bd x y z v) :
    (65536 * qmw a b c d x y z v - (a * x - b * y - c * z - d * v) ≤ 131072 ∧ -131072 ≤ 65536 * qmw a b c d x y z v - (a * x - b * y - c * z - d * v)) ∧
    (65536 * qmx a b c d x y z v - (a * y + b * x + c * v - d * z) ≤ 131072 ∧ -131072 ≤ 65536 * qmx a b c d x y z v - (a * y + b * x + c * v - d * z)) ∧
    (65536 * qmy a b c d x y z v - (a * z - b * v + c * x + d * y) ≤ 131072 ∧ -131072 ≤ 65536 * qmy a b c d x y z v - (a * z - b * v + c * x + d * y)) ∧
    (65536 * qmz a b c d x y z v - (a * v + b * z - c * y + d * x) ≤ 131072 ∧ -131072 ≤ 65536 * qmz a b c d x y z v - (a * v + b * z - c * y + d * x)) := by
  have F : ∀ u w : Int, -67108864 ≤ u ∧ u ≤ 67108864 → -67108864 ≤ w ∧ w ≤ 67108864 → (65536 * fmul u w - u * w ≤ 32768 ∧ u * w - 65536 * fmul u w ≤ 32768) ∧ (-4503599627370496 ≤ u * w ∧ u * w ≤ 4503599627370496) := fun u w h1 h2 =>
    ⟨fmul_near u w h1.1 h1.2 h2.1 h2.2, prod_in u w 67108864 h1.1 h1.2 h2.1 h2.2⟩
  have N : ∀ u w : Int, -67108864 ≤ u ∧ u ≤ 67108864 → -67108864 ≤ w ∧ w ≤ 67108864 → (65536 * -fmul u w - -u * w ≤ 32768 ∧ -u * w - 65536 * -fmul u w ≤ 32768) ∧ (-4503599627370496 ≤ -u * w ∧ -u * w ≤ 4503599627370496) := fun u w h1 h2 => by
    have := F u w h1 h2
    rw [Int.neg_mul]
    omega
  obtain ⟨h0, h1, h2, h3⟩ := h
  obtain ⟨k0, k1, k2, k3⟩ := k
  refine ⟨?_, ?_, ?_, ?_⟩
  · exact qsum_near a (-b) (-c) (-d) x y z v _ _ _ _ _ (F a x h0 k0).1 (N b y h1 k1).1 (N c z h2 k2).1 (N d v h3 k3).1 (by grind) (F a x h0 k0).2 (N b y h1 k1).2 (N c z h2 k2).2 (N d v h3 k3).2
  · exact qsum_near a b c (-d) y x v z _ _ _ _ _ (F a y h0 k1).1 (F b x h1 k0).1 (F c v h2 k3).1 (N d z h3 k2).1 (by grind) (F a y h0 k1).2 (F b x h1 k0).2 (F c v h2 k3).2 (N d z h3 k2).2
  · exact qsum_near a (-b) c d z v x y _ _ _ _ _ (F a z h0 k2).1 (N b v h1 k3).1 (F c x h2 k0).1 (F d y h3 k1).1 (by grind) (F a z h0 k2).2 (N b v h1 k3).2 (F c x h2 k0).2 (F d y h3 k1).2
  · exact qsum_near a b (-c) d v z y x _ _ _ _ _ (F a v h0 k3).1 (F b z h1 k2).1 (N c y h2 k1).1 (F d x h3 k0).1 (by grind) (F a v h0 k3).2 (F b z h1 k2).2 (N c y h2 k1).2 (F d x h3 k0).2

theorem Tn.big {a b c d : Int} (h : Tn a b c d) : Bd a b c d := by
  obtain ⟨h0, h1, h2, h3⟩ := h.bd
  exact ⟨by omega, by omega, by omega, by omega⟩

/-- The product of two turners. -/
theorem qm_norm {a b c d x y z v : Int} (h : Tn a b c d) (k : Tn x y z v) :
    nn (qmw a b c d x y z v) (qmx a b c d x y z v) (qmy a b c d x y z v) (qmz a b c d x y z v) ≤ 4297589200 ∧ 4292345800 ≤ nn (qmw a b c d x y z v) (qmx a b c d x y z v) (qmy a b c d x y z v) (qmz a b c d x y z v) := by
  obtain ⟨n0, n1, n2, n3⟩ := qm_near a b c d x y z v h.big k.big
  generalize qmw a b c d x y z v = s0 at *
  generalize qmx a b c d x y z v = s1 at *
  generalize qmy a b c d x y z v = s2 at *
  generalize qmz a b c d x y z v = s3 at *
  have e := euler4 a b c d x y z v
  generalize a * x - b * y - c * z - d * v = E0 at *
  generalize a * y + b * x + c * v - d * z = E1 at *
  generalize a * z - b * v + c * x + d * y = E2 at *
  generalize a * v + b * z - c * y + d * x = E3 at *
  have hb := nn_bd _ _ _ _ 131072 n0.2 n0.1 n1.2 n1.1 n2.2 n2.1 n3.2 n3.1
  obtain ⟨N, hN⟩ : ∃ N, N = nn a b c d := ⟨_, rfl⟩
  obtain ⟨M, hM⟩ : ∃ M, M = nn x y z v := ⟨_, rfl⟩
  unfold Tn at h k
  rw [← hN] at h e
  rw [← hM] at k e
  have u := Int.mul_le_mul h.1 k.1 (by omega) (by omega)
  have l := Int.mul_le_mul h.2 k.2 (by omega) (by omega)
  have a := nn_add E0 E1 E2 E3 _ _ _ _ 4296015872 (2 * 131072) (by omega) (by omega) (by omega) hb
  rw [show E0 + (65536 * s0 - E0) = 65536 * s0 by omega, show E1 + (65536 * s1 - E1) = 65536 * s1 by omega, show E2 + (65536 * s2 - E2) = 65536 * s2 by omega, show E3 + (65536 * s3 - E3) = 65536 * s3 by omega] at a
  have t : nn (65536 * s0) (65536 * s1) (65536 * s2) (65536 * s3) = 4294967296 * nn s0 s1 s2 s3 := by unfold nn; grind
  omega

/-- A turner times its conjugate. -/
theorem qm_back {a b c d : Int} (h : Tn a b c d) :
    (qmw a b c d a (-b) (-c) (-d) - 65536 ≤ 40 ∧ 65536 - qmw a b c d a (-b) (-c) (-d) ≤ 40) ∧ (qmx a b c d a (-b) (-c) (-d) ≤ 4 ∧ -4 ≤ qmx a b c d a (-b) (-c) (-d)) ∧
    (qmy a b c d a (-b) (-c) (-d) ≤ 4 ∧ -4 ≤ qmy a b c d a (-b) (-c) (-d)) ∧ (qmz a b c d a (-b) (-c) (-d) ≤ 4 ∧ -4 ≤ qmz a b c d a (-b) (-c) (-d)) := by
  obtain ⟨g0, g1, g2, g3⟩ := h.big
  obtain ⟨n0, n1, n2, n3⟩ := qm_near a b c d a (-b) (-c) (-d) h.big ⟨g0, by omega, by omega, by omega⟩
  have e0 : a * a - b * -b - c * -c - d * -d = nn a b c d := by unfold nn; grind
  have e1 : a * -b + b * a + c * -d - d * -c = 0 := by grind
  have e2 : a * -c - b * -d + c * a + d * -b = 0 := by grind
  have e3 : a * -d + b * -c - c * -b + d * a = 0 := by grind
  rw [e0] at n0
  rw [e1] at n1
  rw [e2] at n2
  rw [e3] at n3
  unfold Tn at h
  refine ⟨?_, ?_, ?_, ?_⟩ <;> omega
end Go.Proofs.Ytdnepccjgclgiaa
