/- Floating-point numbers of 64 bits, exactly: their words, and how a number with at most 53 digits is written. No program. -/
import Derived.WalkLawsBesides
namespace Go.Proofs.Ytdnepccjgclgiaa.F
open Ieee

/-- One, in units of the least place: 2 to the 1074th. -/
def pw (e : Nat) : Nat := 2 ^ e
def unit : Nat := pw 1074
theorem pw_eq (e : Nat) : pw e = 2 ^ e := rfl
theorem unit_pow {e : Nat} (h : e = 1074) : unit = 2 ^ e := (congrArg pw h.symm).trans (pw_eq e)
theorem unit_pos : 0 < unit := by
  obtain ⟨e, he⟩ : ∃ e : Nat, e = 1074 := ⟨_, rfl⟩
  rw [unit_pow he]
  exact Nat.two_pow_pos _
/-- A magnitude m * 2 ^ (j - 1074) as the format has it. -/
structure Norm (m j : Nat) : Prop where
  small : m < 2 ^ 53
  full : 2 ^ 52 ≤ m ∨ j = 0
  fin : j * 2 ^ 52 + m < 2047 * 2 ^ 52
def wd (s : Bool) (m j : Nat) : Nat := double.word s (j * 2 ^ 52 + m)

theorem least : double.leastPlace = -1074 := by decide
theorem binade : double.binade = 2 ^ 52 := rfl
theorem infR : double.infRung = 2047 * 2 ^ 52 := rfl
theorem signW : double.signWeight = 2 ^ 63 := rfl

theorem log2_of {n k : Nat} (h1 : 2 ^ k ≤ n) (h2 : n < 2 ^ (k + 1)) : n.log2 = k := by
  have hn : n ≠ 0 := by have := Nat.two_pow_pos k; omega
  have a := (Nat.le_log2 hn).2 h1
  have b := (Nat.log2_lt hn).2 h2
  omega
theorem log2_mul {n : Nat} (hn : n ≠ 0) (t : Nat) : (n * 2 ^ t).log2 = n.log2 + t := by
  refine log2_of ?_ ?_
  · rw [Nat.pow_add]; exact Nat.mul_le_mul_right _ ((Nat.le_log2 hn).1 (Nat.le_refl _))
  · rw [show n.log2 + t + 1 = (n.log2 + 1) + t by omega, Nat.pow_add]
    exact Nat.mul_lt_mul_of_pos_right ((Nat.log2_lt hn).1 (Nat.lt_succ_self _)) (Nat.two_pow_pos _)

/-- What is cut exactly. -/
theorem cut_exact (way : Toward) (s : Bool) (m t : Nat) : way.cut s (m * 2 ^ t) t = m := by
  unfold Toward.cut
  by_cases hm : m = 0
  · subst hm
    simp
    cases way <;> rfl
  · have hl := log2_mul hm t
    have hmin : min t ((m * 2 ^ t).log2 + 2) = t := by rw [hl]; omega
    rw [hmin]
    have hg : (1 <<< t : Nat) = 2 ^ t := by rw [Nat.shiftLeft_eq, Nat.one_mul]
    have hp := Nat.two_pow_pos t
    simp only [hg, Nat.mul_div_cancel _ hp, Nat.mul_mod_left]
    cases way <;> simp <;> omega
/-- Towards zero. -/
theorem cut_zero (s : Bool) (n t : Nat) : Toward.zero.cut s n t = n / 2 ^ t := by
  unfold Toward.cut
  have hg : (1 <<< min t (n.log2 + 2) : Nat) = 2 ^ min t (n.log2 + 2) := by rw [Nat.shiftLeft_eq, Nat.one_mul]
  simp only [hg]
  show n / 2 ^ min t (n.log2 + 2) + 0 = _
  rw [Nat.add_zero]
  rcases Nat.le_total t (n.log2 + 2) with h | h
  · rw [Nat.min_eq_left h]
  · rw [Nat.min_eq_right h]
    by_cases hn : n = 0
    · subst hn; simp
    · have h1 : n < 2 ^ (n.log2 + 1) := (Nat.log2_lt hn).1 (Nat.lt_succ_self _)
      have h2 : 2 ^ (n.log2 + 1) ≤ 2 ^ (n.log2 + 2) := Nat.pow_le_pow_right (by decide) (by omega)
      have h3 : 2 ^ (n.log2 + 2) ≤ 2 ^ t := Nat.pow_le_pow_right (by decide) h
      rw [Nat.div_eq_of_lt (by omega), Nat.div_eq_of_lt (by omega)]

/-- A number that the format has is written as it is. -/
theorem nearest_exact (s : Bool) {M m a b j : Nat} {E : Int} (hn : Norm m j) (hm : m ≠ 0) (h : M * 2 ^ a = m * 2 ^ b) (hE : E = (j : Int) - 1074 + a - b) : double.nearest s M E = wd s m j := by
  have hM : M ≠ 0 := by
    intro e
    subst e
    have := Nat.two_pow_pos b
    rw [Nat.zero_mul] at h
    rcases Nat.mul_eq_zero.1 h.symm with h | h <;> omega
  have hlog : M.log2 + a = m.log2 + b := by rw [← log2_mul hM, ← log2_mul hm, h]
  have hl52 : m.log2 ≤ 52 := by have := (Nat.log2_lt hm).2 hn.small; omega
  have hfull : m.log2 = 52 ∨ j = 0 := by
    rcases hn.full with h | h
    · left; have := (Nat.le_log2 hm).2 h; omega
    · exact .inr h
  have hlast : max (E + M.log2 - 52) (-1074) = (j : Int) - 1074 := by
    rcases hfull with h1 | h1
    · omega
    · omega
  have hk : Toward.even.cut s (M <<< (E - ((j : Int) - 1074)).toNat) (((j : Int) - 1074) - E).toNat = m := by
    rcases Nat.le_total b a with hab | hab
    · have e1 : (E - ((j : Int) - 1074)).toNat = a - b := by omega
      have e2 : (((j : Int) - 1074) - E).toNat = 0 := by omega
      have e3 : M * 2 ^ (a - b) = m := by
        have : M * 2 ^ (a - b) * 2 ^ b = m * 2 ^ b := by rw [Nat.mul_assoc, ← Nat.pow_add, show a - b + b = a by omega]; exact h
        exact Nat.eq_of_mul_eq_mul_right (Nat.two_pow_pos b) this
      rw [e1, e2, Nat.shiftLeft_eq, e3]
      have := cut_exact .even s m 0
      simpa using this
    · have e1 : (E - ((j : Int) - 1074)).toNat = 0 := by omega
      have e2 : (((j : Int) - 1074) - E).toNat = b - a := by omega
      have e3 : M = m * 2 ^ (b - a) := by
        have : M * 2 ^ a = m * 2 ^ (b - a) * 2 ^ a := by rw [Nat.mul_assoc, ← Nat.pow_add, show b - a + a = b by omega]; exact h
        exact Nat.eq_of_mul_eq_mul_right (Nat.two_pow_pos a) this
      rw [e1, e2, Nat.shiftLeft_eq, Nat.pow_zero, Nat.mul_one, e3]
      exact cut_exact .even s m (b - a)
  unfold Format.nearest
  rw [if_neg hM]
  have hl : max (E + (M.log2 : Int) - (double.fractionBits : Nat)) double.leastPlace = (j : Int) - 1074 := by rw [least]; exact hlast
  simp only [hl, hk]
  unfold wd
  rw [least, binade, infR, show ((j : Int) - 1074 - -1074).toNat = j by omega, Nat.min_eq_left (Nat.le_of_lt hn.fin)]
theorem nearest_zero (s : Bool) (E : Int) : double.nearest s 0 E = wd s 0 0 := by
  unfold Format.nearest wd
  simp

/-- A word is read as it was written. -/
theorem read_wd (s : Bool) {m j : Nat} (hn : Norm m j) : double.read (wd s m j) = .number s m ((j : Int) - 1074) := by
  have h1 := hn.fin
  have h2 := hn.small
  have hr : wd s m j / 2 ^ 63 % 2 = (if s then 1 else 0) ∧ wd s m j % 2 ^ 63 = j * 2 ^ 52 + m := by
    unfold wd Format.word
    rw [signW]
    cases s <;> simp <;> omega
  unfold Format.read
  rw [signW, binade, infR, least, hr.1, hr.2]
  have hs : ((if s then 1 else 0 : Nat) == 1) = s := by cases s <;> rfl
  simp only [hs]
  rcases hn.full with h | h
  · have hq : (j * 2 ^ 52 + m) / 2 ^ 52 = j + 1 := by omega
    have hm : (j * 2 ^ 52 + m) % 2 ^ 52 = m - 2 ^ 52 := by omega
    have e1 : 2 ^ 52 + (m - 2 ^ 52) = m := by omega
    have e2 : (-1074 : Int) + ((j + 1 - 1 : Nat) : Int) = (j : Int) - 1074 := by omega
    rw [if_neg (by omega), if_pos h1, hq, hm, e1, e2]
  · subst h
    by_cases hs2 : m < 2 ^ 52
    · rw [if_pos (by omega)]
      congr 1; omega
    · have hq : (0 * 2 ^ 52 + m) / 2 ^ 52 = 1 := by omega
      have hm : (0 * 2 ^ 52 + m) % 2 ^ 52 = m - 2 ^ 52 := by omega
      have e1 : 2 ^ 52 + (m - 2 ^ 52) = m := by omega
      rw [if_neg (by omega), if_pos h1, hq, hm, e1]
      rfl

theorem norm_of {m0 : Nat} (h : m0 < 2 ^ 53) : ∀ k : Nat, ∃ m j, m < 2 ^ 53 ∧ (2 ^ 52 ≤ m ∨ j = 0) ∧ m * 2 ^ j = m0 * 2 ^ k
  | 0 => ⟨m0, 0, h, .inr rfl, rfl⟩
  | k + 1 => by
    obtain ⟨m, j, h1, h2, h3⟩ := norm_of h k
    by_cases h4 : 2 ^ 52 ≤ m
    · exact ⟨m, j + 1, h1, .inl h4, by rw [Nat.pow_succ, Nat.pow_succ, ← Nat.mul_assoc, h3, Nat.mul_assoc]⟩
    · have h5 : j = 0 := by rcases h2 with h2 | h2 <;> omega
      subst h5
      refine ⟨m * 2, 0, by omega, .inr rfl, ?_⟩
      rw [Nat.pow_succ, ← Nat.mul_assoc, ← h3]
      simp
theorem norm_fin {m j : Nat} (h1 : m < 2 ^ 53) (h2 : 2 ^ 52 ≤ m ∨ j = 0) (h3 : m * 2 ^ j < 2 ^ 2000) : Norm m j := by
  refine ⟨h1, h2, ?_⟩
  rcases h2 with h2 | h2
  · have h4 : 2 ^ (52 + j) ≤ m * 2 ^ j := by rw [Nat.pow_add]; exact Nat.mul_le_mul_right _ h2
    have h5 : 52 + j < 2000 := (Nat.pow_lt_pow_iff_right (by decide)).1 (Nat.lt_of_le_of_lt h4 h3)
    omega
  · omega
theorem norm_zero : Norm 0 0 := ⟨by decide, .inr rfl, by decide⟩
theorem Norm.j_le {m j : Nat} (h : Norm m j) : j ≤ 2046 := by have := h.fin; omega
/-- The same number has one word. -/
theorem wd_unique (s : Bool) {m j n k : Nat} (h1 : Norm m j) (h2 : Norm n k) (h : m * 2 ^ j = n * 2 ^ k) : wd s m j = wd s n k := by
  by_cases hm : m = 0
  · subst hm
    have hn : n = 0 := by
      rw [Nat.zero_mul] at h
      rcases Nat.mul_eq_zero.1 h.symm with h | h
      · exact h
      · exact absurd h (Nat.ne_of_gt (Nat.two_pow_pos _))
    subst hn
    have e1 : j = 0 := by rcases h1.full with h | h <;> omega
    have e2 : k = 0 := by rcases h2.full with h | h <;> omega
    rw [e1, e2]
  · have hn : n ≠ 0 := by
      intro e
      subst e
      rw [Nat.zero_mul] at h
      rcases Nat.mul_eq_zero.1 h with h | h
      · exact hm h
      · exact absurd h (Nat.ne_of_gt (Nat.two_pow_pos _))
    rw [← nearest_exact s (M := m) (a := 0) (b := 0) (E := (j : Int) - 1074) h1 hm rfl (by omega)]
    exact nearest_exact s (a := j) (b := k) h2 hn h (by omega)

/-- A whole number with its sign. -/
def sg (s : Bool) (x : Nat) : Int := if s then -(x : Int) else (x : Int)
theorem sg_mul (s : Bool) (x c : Nat) : sg s (x * c) = sg s x * (c : Int) := by
  unfold sg; cases s <;> simp [Int.neg_mul]
theorem compare_mul (a b : Int) (c : Nat) (hc : 0 < c) : compare (a * c) (b * c) = compare a b := by
  have h1 : (a * c < b * c) ↔ a < b := Int.mul_lt_mul_right (by omega)
  have h2 : (a * c = b * c) ↔ a = b := ⟨fun h => Int.eq_of_mul_eq_mul_right (by omega) h, fun h => by rw [h]⟩
  show compareOfLessAndEq _ _ = compareOfLessAndEq _ _
  unfold compareOfLessAndEq
  simp only [h1, h2]
theorem signed_sg (s : Bool) (m u : Nat) : signed s m u = sg s (m * 2 ^ u) := by
  unfold signed sg
  rw [Nat.shiftLeft_eq]
theorem order_wd (s t : Bool) {m j n k : Nat} (h1 : Norm m j) (h2 : Norm n k) : double.order (wd s m j) (wd t n k) = some (compare (sg s (m * 2 ^ j)) (sg t (n * 2 ^ k))) := by
  unfold Format.order
  rw [read_wd s h1, read_wd t h2]
  unfold Datum.order
  have e1 : ((j : Int) - 1074 - min ((j : Int) - 1074) ((k : Int) - 1074)).toNat = j - min j k := by omega
  have e2 : ((k : Int) - 1074 - min ((j : Int) - 1074) ((k : Int) - 1074)).toNat = k - min j k := by omega
  simp only [e1, e2, signed_sg]
  have e3 : m * 2 ^ j = m * 2 ^ (j - min j k) * 2 ^ min j k := by rw [Nat.mul_assoc, ← Nat.pow_add, show j - min j k + min j k = j by omega]
  have e4 : n * 2 ^ k = n * 2 ^ (k - min j k) * 2 ^ min j k := by rw [Nat.mul_assoc, ← Nat.pow_add, show k - min j k + min j k = k by omega]
  congr 1
  rw [e3, e4, sg_mul s (m * 2 ^ (j - min j k)) (2 ^ min j k), sg_mul t (n * 2 ^ (k - min j k)) (2 ^ min j k), compare_mul _ _ _ (Nat.two_pow_pos _)]
theorem cmp_eq (a b : Int) : (some (compare a b) == some Ordering.eq) = decide (a = b) := by
  show (some (compareOfLessAndEq a b) == some Ordering.eq) = _
  unfold compareOfLessAndEq
  by_cases h : a < b
  · rw [if_pos h]; have : ¬ a = b := by omega
    simp [this]
  · rw [if_neg h]
    by_cases h2 : a = b <;> simp [h2]
theorem cmp_gt (a b : Int) : (some (compare a b) == some Ordering.gt) = decide (b < a) := by
  show (some (compareOfLessAndEq a b) == some Ordering.gt) = _
  unfold compareOfLessAndEq
  by_cases h : a < b
  · rw [if_pos h]; have : ¬ b < a := by omega
    simp [this]
  · rw [if_neg h]
    by_cases h2 : a = b
    · subst h2; simp
    · have : b < a := by omega
      simp [h2, this]
/-- The constants of the text. -/
theorem c65536 : 4679240012837945344 = wd false (2 ^ 52) 1038 := by decide
theorem n65536 : Norm (2 ^ 52) 1038 := ⟨by decide, .inl (Nat.le_refl _), by decide⟩
theorem cLarge : 4715268809856909312 = wd false (2 ^ 52) 1046 := by decide
theorem nLarge : Norm (2 ^ 52) 1046 := ⟨by decide, .inl (Nat.le_refl _), by decide⟩
theorem cMost : 9218868437227405311 = wd false (2 ^ 53 - 1) 2045 := by decide
theorem nMost : Norm (2 ^ 53 - 1) 2045 := ⟨by decide, .inl (by decide), by decide⟩

/-- Times 2 ^ 16. -/
theorem mul_wd (s : Bool) {m j m' j' : Nat} (h1 : Norm m j) (h2 : Norm m' j') (h : m' * 2 ^ j' = m * 2 ^ (j + 16)) : floatBits .mul .f64 (wd s m j) 4679240012837945344 = some (wd s m' j') := by
  show double.mul _ _ = _
  unfold Format.mul
  rw [c65536, read_wd s h1, read_wd false n65536]
  show (some (Datum.number (s ^^ false) (m * 2 ^ 52) _)).map double.write = _
  rw [Bool.xor_false]
  show some (double.nearest s (m * 2 ^ 52) _) = _
  congr 1
  by_cases hm : m' = 0
  · subst hm
    have hm0 : m = 0 := by
      rw [Nat.zero_mul] at h
      rcases Nat.mul_eq_zero.1 h.symm with h | h
      · exact h
      · exact absurd h (Nat.ne_of_gt (Nat.two_pow_pos _))
    have e2 : j' = 0 := by rcases h2.full with h | h <;> omega
    rw [hm0, e2, Nat.zero_mul, nearest_zero]
  · refine nearest_exact s (a := j) (b := j' + 36) h2 hm ?_ (by omega)
    rw [Nat.pow_add, ← Nat.mul_assoc, h, Nat.mul_assoc, Nat.mul_assoc, ← Nat.pow_add, ← Nat.pow_add]
    congr 2; omega
/-- Through 2 ^ 16. -/
theorem div_wd (s : Bool) {m j : Nat} (h1 : Norm m (j + 16)) (h2 : Norm m j) : floatBits .quo .f64 (wd s m (j + 16)) 4679240012837945344 = some (wd s m j) := by
  show double.div _ _ = _
  unfold Format.div
  rw [c65536, read_wd s h1, read_wd false n65536]
  simp only [Datum.quotient]
  rw [if_neg (by decide)]
  have hl : (2 ^ 52 : Nat).log2 = 52 := log2_of (Nat.le_refl _) (by decide)
  have hm52 : m.log2 ≤ 52 := by
    by_cases hm : m = 0
    · subst hm; decide
    · have := (Nat.log2_lt hm).2 h1.small; omega
  obtain ⟨r, hr⟩ : ∃ r, double.fractionBits + 2 + (2 ^ 52 : Nat).log2 - m.log2 = r + 52 := ⟨54 - m.log2, by rw [hl]; show 52 + 2 + 52 - m.log2 = _; omega⟩
  have hd : m <<< (r + 52) / 2 ^ 52 = m * 2 ^ r := by rw [Nat.shiftLeft_eq, Nat.pow_add, ← Nat.mul_assoc, Nat.mul_div_cancel _ (Nat.two_pow_pos _)]
  have hm' : m <<< (r + 52) % 2 ^ 52 = 0 := by rw [Nat.shiftLeft_eq, Nat.pow_add, ← Nat.mul_assoc, Nat.mul_mod_left]
  simp only [hr, hd, hm', Bool.xor_false]
  show some (double.nearest s (2 * (m * 2 ^ r) + 0) _) = _
  congr 1
  by_cases hm : m = 0
  · subst hm
    have e2 : j = 0 := by rcases h2.full with h | h <;> omega
    rw [e2]
    simp [nearest_zero]
  · refine nearest_exact s (a := 0) (b := r + 1) h2 hm ?_ (by omega)
    rw [Nat.pow_succ]
    generalize 2 ^ r = x
    grind
/-- A whole number of at most 53 digits. -/
theorem whole_wd (s : Bool) {a : Nat} (ha : a < 2 ^ 53) : ∃ m j, Norm m j ∧ m * 2 ^ j = a * unit ∧ double.nearest s a 0 = wd s m j ∧ (a = 0 ∨ 1022 ≤ j) := by
  by_cases h0 : a = 0
  · subst h0
    exact ⟨0, 0, norm_zero, by rw [Nat.zero_mul, Nat.zero_mul], nearest_zero s 0, .inl rfl⟩
  · have hl : a.log2 ≤ 52 := by have := (Nat.log2_lt h0).2 ha; omega
    have h1 : 2 ^ a.log2 ≤ a := (Nat.le_log2 h0).1 (Nat.le_refl _)
    have h2 : a < 2 ^ (a.log2 + 1) := (Nat.log2_lt h0).1 (Nat.lt_succ_self _)
    obtain ⟨t, ht⟩ : ∃ t, a.log2 + t = 52 := ⟨52 - a.log2, by omega⟩
    have h3 : 2 ^ 52 ≤ a * 2 ^ t := by rw [← ht, Nat.pow_add]; exact Nat.mul_le_mul_right _ h1
    have h4 : a * 2 ^ t < 2 ^ 53 := by rw [show 53 = (a.log2 + 1) + t by omega, Nat.pow_add]; exact Nat.mul_lt_mul_of_pos_right h2 (Nat.two_pow_pos _)
    have hn : Norm (a * 2 ^ t) (1074 - t) := ⟨h4, .inl h3, by omega⟩
    refine ⟨_, _, hn, ?_, ?_, .inr (by omega)⟩
    · rw [Nat.mul_assoc, ← Nat.pow_add, ← unit_pow (show t + (1074 - t) = 1074 by omega)]
    · exact nearest_exact s (a := t) (b := 0) hn (by omega) (by simp) (by omega)
/-- What stands ahead of the point. -/
theorem integral_wd (s : Bool) {m j : Nat} (h : Norm m j) : (double.read (wd s m j)).integral .zero = .number s (m * 2 ^ j / unit) 0 := by
  rw [read_wd s h]
  unfold Datum.integral
  simp only
  congr 1
  rw [cut_zero, Nat.shiftLeft_eq]
  rcases Nat.le_total j 1074 with hj | hj
  · rw [show ((j : Int) - 1074).toNat = 0 by omega, show (-((j : Int) - 1074)).toNat = 1074 - j by omega, Nat.pow_zero, Nat.mul_one]
    have : unit = 2 ^ (1074 - j) * 2 ^ j := by rw [← Nat.pow_add, ← unit_pow (show 1074 - j + j = 1074 by omega)]
    rw [this, Nat.mul_div_mul_right _ _ (Nat.two_pow_pos _)]
  · rw [show ((j : Int) - 1074).toNat = j - 1074 by omega, show (-((j : Int) - 1074)).toNat = 0 by omega, Nat.pow_zero, Nat.div_one]
    have : (2 : Nat) ^ j = 2 ^ (j - 1074) * unit := by
      obtain ⟨e, he⟩ : ∃ e : Nat, e = 1074 := ⟨_, rfl⟩
      rw [unit_pow he, ← Nat.pow_add, show j - 1074 + e = j by omega]
    rw [this, ← Nat.mul_assoc, Nat.mul_div_cancel _ unit_pos]
/-- The kinds of words. -/
theorem kinds {b : Nat} (hb : b < 2 ^ 64) : (∃ s m j, Norm m j ∧ b = wd s m j) ∨ (∃ s, b = double.word s (2047 * 2 ^ 52)) ∨ (∃ s r, 2047 * 2 ^ 52 < r ∧ r < 2 ^ 63 ∧ b = double.word s r) := by
  obtain ⟨s, r, hr, rfl⟩ : ∃ s r, r < 2 ^ 63 ∧ b = double.word s r := by
    by_cases h : b < 2 ^ 63
    · exact ⟨false, b, h, rfl⟩
    · refine ⟨true, b - 2 ^ 63, by omega, ?_⟩
      show b = double.signWeight + (b - 2 ^ 63)
      rw [signW]; omega
  rcases Nat.lt_trichotomy r (2047 * 2 ^ 52) with h | h | h
  · left
    by_cases h2 : r < 2 ^ 52
    · exact ⟨s, r, 0, ⟨by omega, .inr rfl, by omega⟩, by unfold wd; rw [Nat.zero_mul, Nat.zero_add]⟩
    · obtain ⟨q, f, hq, hf⟩ : ∃ q f, r = (q + 1) * 2 ^ 52 + f ∧ f < 2 ^ 52 := ⟨r / 2 ^ 52 - 1, r % 2 ^ 52, by omega, by omega⟩
      refine ⟨s, 2 ^ 52 + f, q, ⟨by omega, .inl (by omega), by omega⟩, ?_⟩
      unfold wd
      rw [hq, show (q + 1) * 2 ^ 52 + f = q * 2 ^ 52 + (2 ^ 52 + f) by omega]
  · exact .inr (.inl ⟨s, by rw [h]⟩)
  · exact .inr (.inr ⟨s, r, h, hr, rfl⟩)
end Go.Proofs.Ytdnepccjgclgiaa.F
