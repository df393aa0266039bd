/- poly.Check of four corners. -/
import Derived.Test.YtaiflkjchbpphaaGrid
namespace Go.Proofs.Ytaiflkjchbpphaa
open Go.RowKit

theorem within_any (x y : Int) (w : World) (h1 : -65536000 ≤ x) (h2 : x ≤ 65536000) (h3 : -65536000 ≤ y) (h4 : y ≤ 65536000) :
    Calls Try.prog 40 #[.agg #[.int .i64 x, .int .i64 y]] w fun e w' => e = .returned (.bool true) ∧ Below w.heap.size w w' := by
  go_enter Try.func40, Try.ntmps40
  go_wp2_with fail
  go_ret
  exact ⟨rfl, by repeat (first | exact Below.refl _ _ | apply Below.drew | apply Below.al | apply Below.ex)⟩

/-- Twice the area of a triangle. -/
def ara (a b c d x y : Int) : Int := (c - a) * (y - b) - (d - b) * (x - a)
theorem side_any (a b c d x y : Int) (w : World) (hb : ∀ z ∈ [a, b, c, d, x, y], -65536000 ≤ z ∧ z ≤ 65536000) :
    Calls Try.prog 41 #[.agg #[.int .i64 a, .int .i64 b], .agg #[.int .i64 c, .int .i64 d], .agg #[.int .i64 x, .int .i64 y]] w fun e w' => e = .returned (.int .i64 (ara a b c d x y)) ∧ Below w.heap.size w w' := by
  have ha := hb a (by simp)
  have hbb := hb b (by simp)
  have hc := hb c (by simp)
  have hd := hb d (by simp)
  have hx := hb x (by simp)
  have hy := hb y (by simp)
  obtain ⟨p, hp⟩ : ∃ p, (c - a) * (y - b) = p := ⟨_, rfl⟩
  obtain ⟨q, hq⟩ : ∃ q, (d - b) * (x - a) = q := ⟨_, rfl⟩
  have bd : ∀ u v : Int, -131072000 ≤ u → u ≤ 131072000 → -131072000 ≤ v → v ≤ 131072000 → -17179869184000000 ≤ u * v ∧ u * v ≤ 17179869184000000 := fun u v h1 h2 h3 h4 => by
    have e1 : u.natAbs * v.natAbs ≤ 131072000 * 131072000 := Nat.mul_le_mul (by omega) (by omega)
    have e2 := Int.natAbs_mul u v
    omega
  have bp := bd (c - a) (y - b) (by omega) (by omega) (by omega) (by omega)
  have bq := bd (d - b) (x - a) (by omega) (by omega) (by omega) (by omega)
  rw [hp] at bp
  rw [hq] at bq
  unfold ara
  rw [hp, hq]
  clear hb bd
  go_enter Try.func41, Try.ntmps41
  go_wp2_with fail
  go_ret
  exact ⟨rfl, by repeat (first | exact Below.refl _ _ | apply Below.drew | apply Below.al | apply Below.ex)⟩

theorem clos_any (x y : Int) (w : World) (h1 : -65536000 ≤ x) (h2 : x ≤ 65536000) (h3 : -65536000 ≤ y) (h4 : y ≤ 65536000) :
    Calls Try.prog 52 #[.agg #[.int .i64 x, .int .i64 y]] w fun e w' => e = .returned (.bool false) ∧ Below w.heap.size w w' := by
  go_enter Try.func52, Try.ntmps52
  go_wp2_with (go_at_call 40; (with_reducible refine (within_any _ _ _ h1 h2 h3 h4).mono ?_); rintro e w1 ⟨rfl, hb⟩; obtain ⟨l0, n0, rfl⟩ := ext_of hb; clear hb)
  go_ret
  exact ⟨rfl, by repeat (first | exact Below.refl _ _ | apply Below.drew | apply Below.al | apply Below.ex)⟩

/-- Points in a block. -/
def Pts (w : World) (g n : Nat) (X Y : Nat → Int) : Prop := ∀ k, k < n → w.cell? ⟨g, k * 2, none⟩ = some (.int .i64 (X k)) ∧ w.cell? ⟨g, k * 2 + 1, none⟩ = some (.int .i64 (Y k))
theorem Pts.on {w w' : World} {g n : Nat} {X Y : Nat → Int} (h : Pts w g n X Y) (hb : Below w.heap.size w w') (hg : g < w.heap.size) : Pts w' g n X Y :=
  fun k hk => ⟨(hb.cell (p := ⟨g, k * 2, none⟩) hg).trans (h k hk).1, (hb.cell (p := ⟨g, k * 2 + 1, none⟩) hg).trans (h k hk).2⟩

theorem idx_any (g n cap : Nat) (X Y : Nat → Int) (w : World) (h : Pts w g n X Y) (hg : g < w.heap.size) (hn : n ≤ 64) (hb : ∀ k, k < n → (-65536000 ≤ X k ∧ X k ≤ 65536000) ∧ (-65536000 ≤ Y k ∧ Y k ≤ 65536000)) :
    Calls Try.prog 58 #[.slice (some ⟨g, 0, none⟩) n cap, .func (.func 52) #[] #[]] w fun e w' => e = .returned (.int .i64 (-1)) ∧ Below w.heap.size w w' := by
  have HP := Lib.hid h
  have HB := Lib.hid hb
  clear h hb
  go_enter Try.func58, Try.ntmps58
  go_wp2_with fail
  go_loopw [8] (fun v8 wr => ∃ i : Nat, v8 = .int .i64 i ∧ i ≤ n ∧ Below w.heap.size w wr) (fun v8 _ => n - (intOf v8).toNat)
  case atStart => exact ⟨0, rfl, Nat.zero_le _, Below.refl _ _⟩
  case round =>
    obtain ⟨i, rfl, hi, hbl⟩ := hrel
    by_cases h0 : i = n
    · have i1 : ¬ (i : Int) < (n : Int) := by omega
      clear h0
      go_wp2_with fail
      go_ret
      exact ⟨rfl, hbl⟩
    · have hil : i < n := by omega
      have i1 : (i : Int) < (n : Int) := by omega
      obtain ⟨x0, y0⟩ := HP.out i hil
      obtain ⟨⟨b1, b2⟩, ⟨b3, b4⟩⟩ := HB.out i hil
      have x1 := (hbl.cell (p := ⟨g, i * 2, none⟩) hg).trans x0
      have y1 := (hbl.cell (p := ⟨g, i * 2 + 1, none⟩) hg).trans y0
      obtain ⟨x, hx⟩ : ∃ x, X i = x := ⟨_, rfl⟩
      obtain ⟨y, hy⟩ : ∃ y, Y i = y := ⟨_, rfl⟩
      rw [hx] at x1 b1 b2
      rw [hy] at y1 b3 b4
      have HBL := Lib.hid hbl
      clear x0 y0 hx hy hbl
      go_wp2_with (go_at_call 52; (with_reducible refine (clos_any _ _ _ b1 b2 b3 b4).mono ?_); rintro e w1 ⟨rfl, hb⟩; have HB1 := Lib.hid hb; clear hb)
      go_roundw
      case rel => exact ⟨i + 1, rfl, by omega, HBL.out.trans (HB1.out.mono HBL.out.size)⟩
      case measure => simp [intOf] <;> omega
end Go.Proofs.Ytaiflkjchbpphaa
