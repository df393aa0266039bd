/- Blends: their ends, their length, a turn with itself. -/
import Derived.Test.YtdnepccjgclgiaaQclose
namespace Go.Proofs.Ytdnepccjgclgiaa
open Go.RowKit

theorem mix_zero (a x : Int) (a1 : -1048576 ≤ a) (a2 : a ≤ 1048576) : mix a x 65536 0 = a := by
  unfold mix
  rw [fmul_one, fmul_zero, clamp_in a (by omega) (by omega), fadd_in a 0 (by omega) (by omega) (by omega) (by omega)]
  omega
theorem mix_one (a x : Int) (a1 : -1048576 ≤ x) (a2 : x ≤ 1048576) : mix a x 0 65536 = x := by
  unfold mix
  rw [fmul_one, fmul_zero, clamp_in x (by omega) (by omega), fadd_in 0 x (by omega) (by omega) (by omega) (by omega)]
  omega
theorem mix_same (a t : Int) (a1 : -1048576 ≤ a) (a2 : a ≤ 1048576) (t1 : 0 ≤ t) (t2 : t ≤ 65536) : mix a a (65536 - t) t - a ≤ 1 ∧ -1 ≤ mix a a (65536 - t) t - a := by
  have h1 := fmul_near a (65536 - t) (by omega) (by omega) (by omega) (by omega)
  have h2 := fmul_near a t (by omega) (by omega) (by omega) (by omega)
  have b1 := fmul_small a (65536 - t) a1 a2 (by omega) (by omega)
  have b2 := fmul_small a t a1 a2 t1 t2
  have e : a * (65536 - t) + a * t = 65536 * a := by grind
  unfold mix
  rw [fadd_in _ _ (by omega) (by omega) (by omega) (by omega)]
  omega
theorem tcut_0 : tcut 0 = 0 := by decide
theorem tcut_1 : tcut 65536 = 65536 := by decide

/-- One of both signs. -/
theorem blend_any (a b c d x y z v : Int) (ha : -65544 ≤ a ∧ a ≤ 65544) (hb : -65544 ≤ b ∧ b ≤ 65544) (hc : -65544 ≤ c ∧ c ≤ 65544) (hd : -65544 ≤ d ∧ d ≤ 65544)
    (hx : -65544 ≤ x ∧ x ≤ 65544) (hy : -65544 ≤ y ∧ y ≤ 65544) (hz : -65544 ≤ z ∧ z ≤ 65544) (hv : -65544 ≤ v ∧ v ≤ 65544) :
    ∃ X Y Z V, ((X = x ∧ Y = y ∧ Z = z ∧ V = v) ∨ (X = -x ∧ Y = -y ∧ Z = -z ∧ V = -v)) ∧ ∀ t w, Calls Try.prog 60 #[.agg #[.int .i64 a, .int .i64 b, .int .i64 c, .int .i64 d], .agg #[.int .i64 x, .int .i64 y, .int .i64 z, .int .i64 v], .int .i64 t] w fun e w' => e = .returned (.agg #[.int .i64 (un [mix a X (65536 - tcut t) (tcut t), mix b Y (65536 - tcut t) (tcut t), mix c Z (65536 - tcut t) (tcut t), mix d V (65536 - tcut t) (tcut t)] 0), .int .i64 (un [mix a X (65536 - tcut t) (tcut t), mix b Y (65536 - tcut t) (tcut t), mix c Z (65536 - tcut t) (tcut t), mix d V (65536 - tcut t) (tcut t)] 1), .int .i64 (un [mix a X (65536 - tcut t) (tcut t), mix b Y (65536 - tcut t) (tcut t), mix c Z (65536 - tcut t) (tcut t), mix d V (65536 - tcut t) (tcut t)] 2), .int .i64 (un [mix a X (65536 - tcut t) (tcut t), mix b Y (65536 - tcut t) (tcut t), mix c Z (65536 - tcut t) (tcut t), mix d V (65536 - tcut t) (tcut t)] 3)]) ∧ Below w.heap.size w w' := by
  by_cases h : qsum [fmul a x, fmul b y, fmul c z, fmul d v] < 0
  · exact ⟨-x, -y, -z, -v, .inr ⟨rfl, rfl, rfl, rfl⟩, fun t w => blend_neg a b c d x y z v t w h (by omega) (by omega) (by omega) (by omega) (by omega) (by omega) (by omega) (by omega) (by omega) (by omega) (by omega) (by omega) (by omega) (by omega) (by omega) (by omega)⟩
  · exact ⟨x, y, z, v, .inl ⟨rfl, rfl, rfl, rfl⟩, fun t w => blend_pos a b c d x y z v t w h (by omega) (by omega) (by omega) (by omega) (by omega) (by omega) (by omega) (by omega) (by omega) (by omega) (by omega) (by omega) (by omega) (by omega) (by omega) (by omega)⟩

theorem dot_same {a b c d : Int} (h : Tn a b c d) : ¬ qsum [fmul a a, fmul b b, fmul c c, fmul d d] < 0 := by
  obtain ⟨h0, h1, h2, h3⟩ := h.big
  have F : ∀ u : Int, -67108864 ≤ u ∧ u ≤ 67108864 → (65536 * fmul u u - u * u ≤ 32768 ∧ u * u - 65536 * fmul u u ≤ 32768) ∧ (-4503599627370496 ≤ u * u ∧ u * u ≤ 4503599627370496) := fun u k =>
    ⟨fmul_near u u k.1 k.2 k.1 k.2, prod_in u u 67108864 k.1 k.2 k.1 k.2⟩
  have n := qsum_near a b c d a b c d (nn a b c d) _ _ _ _ (F a h0).1 (F b h1).1 (F c h2).1 (F d h3).1 (by unfold nn; rfl) (F a h0).2 (F b h1).2 (F c h2).2 (F d h3).2
  have := h.2
  omega

theorem mix_most {a b c d x y z v s t : Int} (ha : -65544 ≤ a ∧ a ≤ 65544) (hb : -65544 ≤ b ∧ b ≤ 65544) (hc : -65544 ≤ c ∧ c ≤ 65544) (hd : -65544 ≤ d ∧ d ≤ 65544)
    (hx : -65544 ≤ x ∧ x ≤ 65544) (hy : -65544 ≤ y ∧ y ≤ 65544) (hz : -65544 ≤ z ∧ z ≤ 65544) (hv : -65544 ≤ v ∧ v ≤ 65544) (s1 : 0 ≤ s) (s2 : s ≤ 65536) (t1 : 0 ≤ t) (t2 : t ≤ 65536) :
    most [mix a x s t, mix b y s t, mix c z s t, mix d v s t] < 2147483648 := by
  have := most4_lt 1073741824 (by omega) (mix_bd a x s t (by omega) (by omega) (by omega) (by omega) s1 s2 t1 t2) (mix_bd b y s t (by omega) (by omega) (by omega) (by omega) s1 s2 t1 t2) (mix_bd c z s t (by omega) (by omega) (by omega) (by omega) s1 s2 t1 t2) (mix_bd d v s t (by omega) (by omega) (by omega) (by omega) s1 s2 t1 t2)
  omega

theorem same_near {a b c d : Int} (h : Tn a b c d) (a' b' c' d' : Int) (ha : a' - a ≤ 1 ∧ -1 ≤ a' - a) (hb : b' - b ≤ 1 ∧ -1 ≤ b' - b) (hc : c' - c ≤ 1 ∧ -1 ≤ c' - c) (hd : d' - d ≤ 1 ∧ -1 ≤ d' - d) :
    ((un [a', b', c', d'] 0 - un [a, b, c, d] 0 ≤ 4 ∧ un [a, b, c, d] 0 - un [a', b', c', d'] 0 ≤ 4) ∧ (un [a', b', c', d'] 1 - un [a, b, c, d] 1 ≤ 4 ∧ un [a, b, c, d] 1 - un [a', b', c', d'] 1 ≤ 4) ∧
    (un [a', b', c', d'] 2 - un [a, b, c, d] 2 ≤ 4 ∧ un [a, b, c, d] 2 - un [a', b', c', d'] 2 ≤ 4) ∧ (un [a', b', c', d'] 3 - un [a, b, c, d] 3 ≤ 4 ∧ un [a, b, c, d] 3 - un [a', b', c', d'] 3 ≤ 4)) := by
  obtain ⟨g0, g1, g2, g3⟩ := h.bd
  have s0 := (prod_in (a' - a) (a' - a) 1 (by omega) (by omega) (by omega) (by omega)).2
  have s1 := (prod_in (b' - b) (b' - b) 1 (by omega) (by omega) (by omega) (by omega)).2
  have s2 := (prod_in (c' - c) (c' - c) 1 (by omega) (by omega) (by omega) (by omega)).2
  have s3 := (prod_in (d' - d) (d' - d) 1 (by omega) (by omega) (by omega) (by omega)).2
  have k : nn (a' - a) (b' - b) (c' - c) (d' - d) ≤ 4 := by unfold nn; omega
  have k' : nn (a - a') (b - b') (c - c') (d - d') ≤ 4 := by rw [show nn (a - a') (b - b') (c - c') (d - d') = nn (a' - a) (b' - b) (c' - c) (d' - d) by unfold nn; grind]; exact k
  have n := nn_add a b c d (a' - a) (b' - b) (c' - c) (d' - d) 65544 2 (by omega) (by omega) (by have := h.1; omega) (by omega)
  rw [show a + (a' - a) = a' by omega, show b + (b' - b) = b' by omega, show c + (c' - c) = c' by omega, show d + (d' - d) = d' by omega] at n
  have u1 := h.1
  have u2 := h.2
  have hm : most [a, b, c, d] < 2147483648 := by
    have := most4_lt 65544 (by omega) g0 g1 g2 g3
    omega
  have hm' : most [a', b', c', d'] < 2147483648 := by
    have := most4_lt (a := a') (b := b') (c := c') (d := d') 65545 (by omega) (by omega) (by omega) (by omega) (by omega)
    omega
  have h0 : ¬ most [a, b, c, d] = 0 := fun e => by have := most4_zero e; omega
  have h0' : ¬ most [a', b', c', d'] = 0 := fun e => by have := most4_zero e; omega
  obtain ⟨⟨x0, x0'⟩, ⟨x1, x1'⟩, ⟨x2, x2'⟩, ⟨x3, x3'⟩⟩ := (un_facts hm).1
  obtain ⟨⟨y0, y0'⟩, ⟨y1, y1'⟩, ⟨y2, y2'⟩, ⟨y3, y3'⟩⟩ := (un_facts hm').1
  obtain ⟨D, P, p0, p1, p2, p3⟩ := un_made h0 hm
  obtain ⟨D', P', q0, q1, q2, q3⟩ := un_made h0' hm'
  have l1 : 65525 * 65525 ≤ nn a b c d := by omega
  have l2 : nn a b c d ≤ 65546 * 65546 := by omega
  have l3 : 65525 * 65525 ≤ nn a' b' c' d' := by omega
  have l4 : nn a' b' c' d' ≤ 65546 * 65546 := by omega
  exact ⟨⟨made_near p0 q0 k l1 l2 l3 l4 (by omega) x0 x0', made_near q0 p0 k' l3 l4 l1 l2 (by omega) y0 y0'⟩, ⟨made_near p1 q1 k l1 l2 l3 l4 (by omega) x1 x1', made_near q1 p1 k' l3 l4 l1 l2 (by omega) y1 y1'⟩,
    ⟨made_near p2 q2 k l1 l2 l3 l4 (by omega) x2 x2', made_near q2 p2 k' l3 l4 l1 l2 (by omega) y2 y2'⟩, ⟨made_near p3 q3 k l1 l2 l3 l4 (by omega) x3 x3', made_near q3 p3 k' l3 l4 l1 l2 (by omega) y3 y3'⟩⟩
end Go.Proofs.Ytdnepccjgclgiaa
