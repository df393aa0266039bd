/- The first quarter turn, number by number: sines increase, the angle increases, and the squares add up to 1 within 12 units. No program. -/
import Derived.Test.YtdnepccjgclgiaaSin
namespace Go.Proofs.Ytdnepccjgclgiaa

/-- The table in natural numbers, and the number between two of the table. -/
def tn (k : Nat) : Nat := (tab[k]?.getD 0).toNat
def sn (a b f : Nat) : Nat := a + ((b - a) * f + 128) / 256
def test (a b c d f : Nat) : Bool :=
  Nat.blt (sn c d (255 - f) * sn a b f) (sn a b (f + 1) * sn c d (256 - f)) && Nat.ble (sn a b f) (sn a b (f + 1)) &&
  Nat.ble (sn a b f * sn a b f + sn c d (256 - f) * sn c d (256 - f)) (4294967296 + 786432) && Nat.ble 4294967296 (sn a b f * sn a b f + sn c d (256 - f) * sn c d (256 - f) + 786432) &&
  Nat.blt 0 (sn c d (256 - f))
def row (a b c d : Nat) : Nat → Bool
  | 0 => true
  | f + 1 => test a b c d f && row a b c d f
def rows : Nat → Bool
  | 0 => true
  | k + 1 => row (tn k) (tn (k + 1)) (tn (63 - k)) (tn (64 - k)) 256 && rows k

theorem rows_hold : rows 64 = true := by decide +kernel
theorem rows_row (n k : Nat) (h : rows n = true) (hk : k < n) : row (tn k) (tn (k + 1)) (tn (63 - k)) (tn (64 - k)) 256 = true := by
  induction n with
  | zero => omega
  | succ n ih =>
    simp only [rows, Bool.and_eq_true] at h
    by_cases e : k = n
    · subst e; exact h.1
    · exact ih h.2 (by omega)
theorem row_test (a b c d n f : Nat) (h : row a b c d n = true) (hf : f < n) : test a b c d f = true := by
  induction n with
  | zero => omega
  | succ n ih =>
    simp only [row, Bool.and_eq_true] at h
    by_cases e : f = n
    · subst e; exact h.1
    · exact ih h.2 (by omega)

theorem tn_S (k : Nat) (hk : k ≤ 64) : ((tn k : Nat) : Int) = S (k : Int) := by
  have h : 0 ≤ S (k : Int) := by
    by_cases e : k = 64
    · subst e; rw [show ((64 : Nat) : Int) = 64 from rfl, S_64]; decide
    · exact (S_step k (by omega) (by omega)).1
  unfold tn S at *
  rw [Int.toNat_natCast] at *
  omega
theorem tn_mono (k : Nat) (hk : k < 64) : tn k ≤ tn (k + 1) := by
  have h1 := tn_S k (by omega)
  have h2 := tn_S (k + 1) (by omega)
  have h3 := S_step k (by omega) (by omega)
  rw [show ((k + 1 : Nat) : Int) = (k : Int) + 1 from rfl] at h2
  omega

theorem sinQ_seg (k f : Nat) (hk : k < 64) (hf : f ≤ 256) (m : Int) (hm : m = 256 * k + f) : sinQ m = ((sn (tn k) (tn (k + 1)) f : Nat) : Int) := by
  have h1 := tn_S k (by omega)
  have h2 := tn_S (k + 1) (by omega)
  have h3 := tn_mono k hk
  rw [show ((k + 1 : Nat) : Int) = (k : Int) + 1 from rfl] at h2
  unfold sinQ sn
  by_cases e : f = 256
  · subst e
    have e1 : m / 256 = (k : Int) + 1 := by omega
    rw [if_pos (by omega), e1, ← h2]
    have : ((tn (k + 1) - tn k) * 256 + 128) / 256 = tn (k + 1) - tn k := by omega
    rw [this]
    omega
  · have e1 : m / 256 = (k : Int) := by omega
    have e2 : m % 256 = (f : Int) := by omega
    rw [e1, e2, ← h1, ← h2]
    by_cases e3 : f = 0
    · subst e3
      rw [if_pos (by rfl)]; simp
    · rw [if_neg (by omega)]
      rw [Int.natCast_add, Int.natCast_ediv, Int.natCast_add, Int.natCast_mul, Int.natCast_sub h3]
      rfl

/-- A step of one unit in the first quarter turn. -/
theorem quarter (m : Int) (h0 : 0 ≤ m) (h1 : m < 16384) :
    sinQ (16384 - (m + 1)) * sinQ m < sinQ (m + 1) * sinQ (16384 - m) ∧ sinQ m ≤ sinQ (m + 1) ∧
    sinQ m * sinQ m + sinQ (16384 - m) * sinQ (16384 - m) ≤ 4294967296 + 786432 ∧ 4294967296 ≤ sinQ m * sinQ m + sinQ (16384 - m) * sinQ (16384 - m) + 786432 ∧
    0 < sinQ (16384 - m) := by
  obtain ⟨m, rfl⟩ := Int.eq_ofNat_of_zero_le h0
  have hk : m / 256 < 64 := by omega
  have hf : m % 256 < 256 := Nat.mod_lt _ (by decide)
  have ht := row_test _ _ _ _ _ _ (rows_row 64 (m / 256) rows_hold hk) hf
  rw [sinQ_seg (m / 256) (m % 256) hk (by omega) (m : Int) (by omega), sinQ_seg (m / 256) (m % 256 + 1) hk (by omega) ((m : Int) + 1) (by omega)]
  have e1 := sinQ_seg (63 - m / 256) (256 - m % 256) (by omega) (by omega) (16384 - (m : Int)) (by omega)
  have e2 := sinQ_seg (63 - m / 256) (255 - m % 256) (by omega) (by omega) (16384 - ((m : Int) + 1)) (by omega)
  rw [show 63 - m / 256 + 1 = 64 - m / 256 by omega] at e1 e2
  rw [e1, e2]
  simp only [test, Bool.and_eq_true, Nat.blt_eq, Nat.ble_eq] at ht
  obtain ⟨⟨⟨⟨t1, t2⟩, t3⟩, t4⟩, t5⟩ := ht
  generalize sn (tn (m / 256)) (tn (m / 256 + 1)) (m % 256) = x at *
  generalize sn (tn (63 - m / 256)) (tn (64 - m / 256)) (256 - m % 256) = y at *
  have hc : ((x * x + y * y : Nat) : Int) = (x : Int) * x + (y : Int) * y := by rw [Int.natCast_add, Int.natCast_mul, Int.natCast_mul]
  refine ⟨?_, ?_, ?_, ?_, ?_⟩
  · exact_mod_cast t1
  · exact_mod_cast t2
  · rw [← hc]; omega
  · rw [← hc]; omega
  · exact_mod_cast t5

theorem sinQ_0 : sinQ 0 = 0 := by decide
theorem sinQ_end : sinQ 16384 = 65536 := by decide
end Go.Proofs.Ytdnepccjgclgiaa
