/- Bits as numbers: what is written, and what is read. No program. -/
import Derived.Test.YthfpbplpfjmmgaaPlain
namespace Go.Proofs.Ythfpbplpfjmmgaa

/-- Byte k of a number. -/
def byteN (N k : Nat) : Int := ((N / 256 ^ k % 256 : Nat) : Int)
def bytesN (N c : Nat) : List Int := (List.range c).map (byteN N)
theorem bytesN_length (N c : Nat) : (bytesN N c).length = c := by simp [bytesN]
theorem bytesN_get (N c k : Nat) (h : k < c) : (bytesN N c)[k]?.getD 0 = byteN N k := by
  unfold bytesN; rw [List.getElem?_map, List.getElem?_range h]; rfl
theorem bytesN_succ (N c : Nat) : bytesN N (c + 1) = bytesN N c ++ [byteN N c] := by
  unfold bytesN; rw [List.range_succ, List.map_append]; rfl
theorem byteN_bd (N k : Nat) : 0 ≤ byteN N k ∧ byteN N k < 256 := by unfold byteN; omega

theorem pow256 (k : Nat) : 256 ^ k = 2 ^ (8 * k) := by rw [Nat.pow_mul]

/-- Behind its bits a number has only zeros. -/
theorem byteN_zero (N n k : Nat) (h : N < 2 ^ n) (hk : n ≤ 8 * k) : byteN N k = 0 := by
  unfold byteN
  have : N < 256 ^ k := by rw [pow256]; exact Nat.lt_of_lt_of_le h (Nat.pow_le_pow_right (by omega) hk)
  rw [Nat.div_eq_of_lt this]; rfl
/-- A bit further on leaves a byte alone. -/
theorem byteN_far (N n k b : Nat) (hk : 8 * k + 8 ≤ n) : byteN (N + b * 2 ^ n) k = byteN N k := by
  unfold byteN
  have e : b * 2 ^ n = 256 ^ k * (256 * (b * 2 ^ (n - (8 * k + 8)))) := by
    rw [pow256, show n = 8 * k + 8 + (n - (8 * k + 8)) by omega, Nat.pow_add, Nat.pow_add]
    rw [show 8 * k + 8 + (n - (8 * k + 8)) - (8 * k + 8) = n - (8 * k + 8) by omega]
    generalize 2 ^ (8 * k) = x
    generalize 2 ^ (n - (8 * k + 8)) = y
    grind
  rw [e, Nat.add_mul_div_left _ _ (Nat.pow_pos (by omega)), Nat.add_mul_mod_self_left]
/-- The byte of a bit. -/
theorem byteN_here (N n b : Nat) (h : N < 2 ^ n) (hb : b ≤ 1) : byteN (N + b * 2 ^ n) (n / 8) = byteN N (n / 8) + (b : Int) * 2 ^ (n % 8) ∧ byteN N (n / 8) < 2 ^ (n % 8) := by
  have e0 : 2 ^ n = 256 ^ (n / 8) * 2 ^ (n % 8) := by rw [pow256, ← Nat.pow_add]; congr 1; omega
  have hx : N / 256 ^ (n / 8) < 2 ^ (n % 8) := by
    rw [Nat.div_lt_iff_lt_mul (Nat.pow_pos (by omega)), Nat.mul_comm, ← e0]; exact h
  have hr : 2 ^ (n % 8) ≤ 128 := by
    have : 2 ^ (n % 8) ≤ 2 ^ 7 := Nat.pow_le_pow_right (by omega) (by omega)
    omega
  have e1 : (N + b * 2 ^ n) / 256 ^ (n / 8) = N / 256 ^ (n / 8) + b * 2 ^ (n % 8) := by
    rw [e0, show b * (256 ^ (n / 8) * 2 ^ (n % 8)) = 256 ^ (n / 8) * (b * 2 ^ (n % 8)) by grind]
    exact Nat.add_mul_div_left _ _ (Nat.pow_pos (by omega))
  unfold byteN
  rw [e1]
  have hI : ((2 : Int) ^ (n % 8)) = ((2 ^ (n % 8) : Nat) : Int) := by simp
  have hb2 : b * 2 ^ (n % 8) ≤ 2 ^ (n % 8) := by
    have := Nat.mul_le_mul_right (2 ^ (n % 8)) hb
    omega
  rw [hI]
  have hM : (b : Int) * ((2 ^ (n % 8) : Nat) : Int) = ((b * 2 ^ (n % 8) : Nat) : Int) := (Int.natCast_mul _ _).symm
  rw [hM]
  clear e0 e1 hI hM h
  generalize b * 2 ^ (n % 8) = z at *
  generalize 2 ^ (n % 8) = P at *
  generalize N / 256 ^ (n / 8) = y at *
  omega

/-- Bytes behind one bit more. -/
theorem bytesN_bit (N n b : Nat) (h : N < 2 ^ n) (hb : b ≤ 1) : (bytesN N (n / 8 + 1)).set (n / 8) (byteN N (n / 8) + (b : Int) * 2 ^ (n % 8)) = bytesN (N + b * 2 ^ n) (n / 8 + 1) := by
  rw [bytesN_succ, bytesN_succ, (byteN_here N n b h hb).1, List.set_append_right _ _ (by rw [bytesN_length]; omega), bytesN_length, Nat.sub_self, List.set_cons_zero]
  congr 1
  unfold bytesN
  apply List.map_congr_left
  intro k hk
  have : k < n / 8 := by simpa using hk
  exact (byteN_far N n k b (by omega)).symm

theorem bit_lt (N n b : Nat) (h : N < 2 ^ n) (hb : b ≤ 1) : N + b * 2 ^ n < 2 ^ (n + 1) := by
  rw [Nat.pow_succ]
  have := Nat.mul_le_mul_right (2 ^ n) hb
  omega
theorem mod_succ (v i : Nat) : v % 2 ^ (i + 1) = v % 2 ^ i + 2 ^ i * (v / 2 ^ i % 2) := by
  rw [Nat.pow_succ, Nat.mod_mul]
theorem put_step (N n v i : Nat) : N + v % 2 ^ (i + 1) * 2 ^ n = N + v % 2 ^ i * 2 ^ n + v / 2 ^ i % 2 * 2 ^ (n + i) := by
  rw [mod_succ, Nat.pow_add]
  generalize v / 2 ^ i % 2 = b
  generalize v % 2 ^ i = c
  grind
theorem put_lt (N n v i : Nat) (h : N < 2 ^ n) : N + v % 2 ^ i * 2 ^ n < 2 ^ (n + i) := by
  have h1 : v % 2 ^ i < 2 ^ i := Nat.mod_lt _ (Nat.pow_pos (by omega))
  have h2 : (v % 2 ^ i + 1) * 2 ^ n ≤ 2 ^ i * 2 ^ n := Nat.mul_le_mul_right _ h1
  rw [Nat.pow_add, Nat.mul_comm (2 ^ n)]
  rw [Nat.add_mul] at h2
  omega

/-- Bit i of a list of bytes, and the number that they are. -/
def numB : List Int → Nat
  | [] => 0
  | b :: r => b.toNat + 256 * numB r
theorem numB_byte (bs : List Int) (hb : ∀ c ∈ bs, 0 ≤ c ∧ c < 256) : ∀ k, k < bs.length → byteN (numB bs) k = bs[k]?.getD 0 := by
  induction bs with
  | nil => intro k hk; simp at hk
  | cons c r ih =>
    intro k hk
    have hc := hb c (by simp)
    cases k with
    | zero => unfold byteN; simp only [numB, Nat.pow_zero, Nat.div_one, List.getElem?_cons_zero, Option.getD_some]; omega
    | succ k =>
      have := ih (fun x hx => hb x (by simp [hx])) k (by simpa using hk)
      rw [List.getElem?_cons_succ, ← this]
      unfold byteN
      rw [Nat.pow_succ, Nat.mul_comm (256 ^ k), ← Nat.div_div_eq_div_mul]
      simp only [numB]
      rw [show (c.toNat + 256 * numB r) / 256 = numB r by omega]
theorem numB_lt (bs : List Int) (hb : ∀ c ∈ bs, 0 ≤ c ∧ c < 256) : numB bs < 2 ^ (8 * bs.length) := by
  induction bs with
  | nil => simp [numB]
  | cons c r ih =>
    have hc := hb c (by simp)
    have := ih (fun x hx => hb x (by simp [hx]))
    simp only [numB, List.length_cons]
    rw [Nat.mul_add, Nat.pow_add]
    have e : 2 ^ (8 * 1) = 256 := rfl
    rw [e]
    omega
theorem byte_bit (D k : Nat) : byteN D (k / 8) / 2 ^ (k % 8) % 2 = ((D / 2 ^ k % 2 : Nat) : Int) := by
  unfold byteN
  have e : D / 2 ^ k = D / 256 ^ (k / 8) / 2 ^ (k % 8) := by
    rw [Nat.div_div_eq_div_mul, pow256, ← Nat.pow_add]; congr 2; omega
  rw [e]
  generalize D / 256 ^ (k / 8) = x
  have hr : k % 8 < 8 := Nat.mod_lt _ (by omega)
  have h2 : x % 256 / 2 ^ (k % 8) % 2 = x / 2 ^ (k % 8) % 2 := by
    have : k % 8 = 0 ∨ k % 8 = 1 ∨ k % 8 = 2 ∨ k % 8 = 3 ∨ k % 8 = 4 ∨ k % 8 = 5 ∨ k % 8 = 6 ∨ k % 8 = 7 := by omega
    rcases this with h | h | h | h | h | h | h | h <;> rw [h] <;> omega
  rw [← h2]
  simp
end Go.Proofs.Ythfpbplpfjmmgaa
