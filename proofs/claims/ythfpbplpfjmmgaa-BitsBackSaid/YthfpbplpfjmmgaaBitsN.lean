/- Numbers of varying length, as bits: what is written is read back, and there is only one way to write it. No program. -/
import Derived.Test.YthfpbplpfjmmgaaBitsP
namespace Go.Proofs.Ythfpbplpfjmmgaa

/-- How many groups of four bits a number has. -/
def grps (x : Nat) : Nat := if x < 16 then 1 else grps (x / 16) + 1
termination_by x
decreasing_by omega
theorem grps_lo (x : Nat) (h : x < 16) : grps x = 1 := by rw [grps, if_pos h]
theorem grps_hi (x : Nat) (h : 16 ≤ x) : grps x = grps (x / 16) + 1 := by rw [grps, if_neg (by omega)]
theorem grps_pos (x : Nat) : 1 ≤ grps x := by rw [grps]; split <;> omega
theorem lt_grps : ∀ (k x : Nat), x < 16 ^ k → 1 ≤ k → grps x ≤ k
  | 0, _, _, h => by omega
  | k + 1, x, h, _ => by
    by_cases hx : x < 16
    · rw [grps_lo x hx]; omega
    · rw [grps_hi x (by omega)]
      have h2 : x / 16 < 16 ^ k := by rw [Nat.pow_succ] at h; omega
      have hk : 1 ≤ k := by
        rcases Nat.eq_zero_or_pos k with hz | hz
        · subst hz; simp at h2; omega
        · exact hz
      have := lt_grps k (x / 16) h2 hk
      omega

/-- A number's groups, as one number: five bits each, the fifth one says that more follows. -/
def codeN (x : Nat) : Nat := if x < 16 then x else x % 16 + 16 + 32 * codeN (x / 16)
termination_by x
decreasing_by omega
theorem codeN_lo (x : Nat) (h : x < 16) : codeN x = x := by rw [codeN, if_pos h]
theorem codeN_hi (x : Nat) (h : 16 ≤ x) : codeN x = x % 16 + 16 + 32 * codeN (x / 16) := by rw [codeN, if_neg (by omega)]
theorem pow32 (k : Nat) : 32 ^ k = 2 ^ (5 * k) := by rw [Nat.pow_mul]
theorem codeN_lt (x : Nat) : codeN x < 32 ^ grps x := by
  induction x using Nat.strongRecOn with
  | _ x ih =>
    by_cases hx : x < 16
    · rw [codeN_lo x hx, grps_lo x hx]; omega
    · rw [codeN_hi x (by omega), grps_hi x (by omega), Nat.pow_succ]
      have := ih (x / 16) (by omega)
      omega
/-- Group k. -/
theorem codeN_digit : ∀ (k x : Nat), k < grps x → codeN x / 32 ^ k % 32 = x / 16 ^ k % 16 + if k + 1 < grps x then 16 else 0
  | 0, x, _ => by
    by_cases hx : x < 16
    · rw [codeN_lo x hx, grps_lo x hx, if_neg (by omega)]; simp; omega
    · have := grps_pos (x / 16)
      rw [codeN_hi x (by omega), grps_hi x (by omega), if_pos (by omega)]; simp; omega
  | k + 1, x, h => by
    have hx : 16 ≤ x := by
      rcases Nat.lt_or_ge x 16 with hl | hl
      · rw [grps_lo x hl] at h; omega
      · exact hl
    rw [grps_hi x hx] at h
    have ih := codeN_digit k (x / 16) (by omega)
    rw [Nat.pow_succ, Nat.mul_comm (32 ^ k), ← Nat.div_div_eq_div_mul, Nat.pow_succ, Nat.mul_comm (16 ^ k), ← Nat.div_div_eq_div_mul]
    rw [codeN_hi x hx, grps_hi x hx, show (x % 16 + 16 + 32 * codeN (x / 16)) / 32 = codeN (x / 16) by omega, ih]
    congr 1
    by_cases hc : k + 1 < grps (x / 16)
    · rw [if_pos hc, if_pos (by omega)]
    · rw [if_neg hc, if_neg (by omega)]

/-- The bits D begin with the groups of x. -/
def At (D x : Nat) : Prop := if x < 16 then D % 32 = x else D % 32 = x % 16 + 16 ∧ At (D / 32) (x / 16)
termination_by x
decreasing_by omega
theorem At_lo (D x : Nat) (h : x < 16) : At D x ↔ D % 32 = x := by rw [At, if_pos h]
theorem At_hi (D x : Nat) (h : 16 ≤ x) : At D x ↔ D % 32 = x % 16 + 16 ∧ At (D / 32) (x / 16) := by rw [At, if_neg (by omega)]
theorem At_iff (x : Nat) : ∀ D, At D x ↔ D % 32 ^ grps x = codeN x := by
  induction x using Nat.strongRecOn with
  | _ x ih =>
    intro D
    by_cases hx : x < 16
    · rw [At_lo D x hx, grps_lo x hx, codeN_lo x hx, Nat.pow_one]
    · rw [At_hi D x (by omega), grps_hi x (by omega), codeN_hi x (by omega), ih (x / 16) (by omega), Nat.pow_succ, Nat.mul_comm (32 ^ _), Nat.mod_mul]
      have := codeN_lt (x / 16)
      generalize D / 32 % 32 ^ grps (x / 16) = a
      omega
theorem At_uniq (x : Nat) : ∀ (D y : Nat), At D x → At D y → x = y := by
  induction x using Nat.strongRecOn with
  | _ x ih =>
    intro D y h1 h2
    by_cases hx : x < 16
    · rw [At_lo D x hx] at h1
      by_cases hy : y < 16
      · rw [At_lo D y hy] at h2; omega
      · rw [At_hi D y (by omega)] at h2; omega
    · rw [At_hi D x (by omega)] at h1
      by_cases hy : y < 16
      · rw [At_lo D y hy] at h2; omega
      · rw [At_hi D y (by omega)] at h2
        have := ih (x / 16) (by omega) _ _ h1.2 h2.2
        omega

/-- The bits D begin with i groups that say that more follows; v is the number so far. -/
def Cont (D : Nat) : Nat → Nat → Prop
  | 0, v => v = 0
  | i + 1, v => D % 32 = v % 16 + 16 ∧ Cont (D / 32) i (v / 16)
theorem Cont_lt : ∀ (i D v : Nat), Cont D i v → v < 16 ^ i
  | 0, _, _, h => by unfold Cont at h; subst h; simp
  | i + 1, D, v, h => by
    have := Cont_lt i _ _ h.2
    rw [Nat.pow_succ]; omega
theorem div_pow32 (D i : Nat) : D / 32 / 32 ^ i = D / 32 ^ (i + 1) := by rw [Nat.div_div_eq_div_mul, Nat.pow_succ, Nat.mul_comm]
theorem Cont_snoc : ∀ (i D v d : Nat), Cont D i v → D / 32 ^ i % 32 = d + 16 → d < 16 → Cont D (i + 1) (v + d * 16 ^ i)
  | 0, D, v, d, h, hd, h16 => by
    unfold Cont at h; subst h
    simp at hd ⊢
    exact ⟨by omega, by unfold Cont; omega⟩
  | i + 1, D, v, d, h, hd, h16 => by
    rw [← div_pow32] at hd
    have := Cont_snoc i (D / 32) (v / 16) d h.2 hd h16
    have e : d * 16 ^ (i + 1) = 16 * (d * 16 ^ i) := by rw [Nat.pow_succ]; grind
    rw [e]
    refine ⟨by have := h.1; omega, ?_⟩
    rw [show (v + 16 * (d * 16 ^ i)) / 16 = v / 16 + d * 16 ^ i by omega]
    exact this
theorem Cont_end : ∀ (i D v d : Nat), Cont D i v → D / 32 ^ i % 32 = d → d < 16 → (i = 0 ∨ d ≠ 0) → At D (v + d * 16 ^ i) ∧ grps (v + d * 16 ^ i) = i + 1
  | 0, D, v, d, h, hd, h16, _ => by
    unfold Cont at h; subst h
    simp at hd ⊢
    rw [At_lo _ _ h16, grps_lo _ h16]
    exact ⟨hd, rfl⟩
  | i + 1, D, v, d, h, hd, h16, h0 => by
    rw [← div_pow32] at hd
    have hd0 : d ≠ 0 := by omega
    have ih := Cont_end i (D / 32) (v / 16) d h.2 hd h16 (.inr hd0)
    have e : d * 16 ^ (i + 1) = 16 * (d * 16 ^ i) := by rw [Nat.pow_succ]; grind
    have hp : 1 ≤ d * 16 ^ i := Nat.mul_pos (by omega) (Nat.pow_pos (by omega))
    rw [e, At_hi _ _ (by omega), grps_hi _ (by omega), show (v + 16 * (d * 16 ^ i)) / 16 = v / 16 + d * 16 ^ i by omega]
    exact ⟨⟨by have := h.1; omega, ih.1⟩, by rw [ih.2]⟩
/-- A number whose groups stand there has more than those that say so. -/
theorem Cont_At : ∀ (i D v x : Nat), Cont D i v → At D x → i < grps x ∧ At (D / 32 ^ i) (x / 16 ^ i) ∧ grps x = i + grps (x / 16 ^ i) ∧ (1 ≤ i → 1 ≤ x / 16 ^ i)
  | 0, D, v, x, _, hx => by
    have := grps_pos x
    simp
    exact ⟨by omega, hx⟩
  | i + 1, D, v, x, h, hx => by
    have h16 : 16 ≤ x := by
      rcases Nat.lt_or_ge x 16 with hl | hl
      · rw [At_lo D x hl] at hx; have := h.1; omega
      · exact hl
    rw [At_hi D x h16] at hx
    obtain ⟨a, b, c, d⟩ := Cont_At i (D / 32) (v / 16) (x / 16) h.2 hx.2
    have e : x / 16 / 16 ^ i = x / 16 ^ (i + 1) := by rw [Nat.div_div_eq_div_mul, Nat.pow_succ, Nat.mul_comm]
    rw [e] at b c d
    rw [div_pow32] at b
    rw [grps_hi x h16]
    refine ⟨by omega, b, by omega, fun _ => ?_⟩
    rcases Nat.eq_zero_or_pos i with hz | hz
    · subst hz; simp; omega
    · exact d hz
/-- Why a reader that gives up is right: the group that stands there ends no number. -/
theorem no_At_zero (i D v x : Nat) (h : Cont D i v) (hi : 1 ≤ i) (hd : D / 32 ^ i % 32 = 0) : ¬ At D x := by
  intro hx
  obtain ⟨_, b, _, d⟩ := Cont_At i D v x h hx
  have := d hi
  by_cases hl : x / 16 ^ i < 16
  · rw [At_lo _ _ hl] at b; omega
  · rw [At_hi _ _ (by omega)] at b; omega

/-- One piece of writing behind another one. -/
structure Pre (N n N' n' : Nat) : Prop where
  le : n ≤ n'
  eq : N' % 2 ^ n = N
theorem Pre.refl (N n : Nat) (h : N < 2 ^ n) : Pre N n N n := ⟨Nat.le_refl _, Nat.mod_eq_of_lt h⟩
theorem Pre.trans {N n N' n' N'' n'' : Nat} (h : Pre N n N' n') (k : Pre N' n' N'' n'') : Pre N n N'' n'' := by
  refine ⟨Nat.le_trans h.le k.le, ?_⟩
  rw [← h.eq, ← k.eq, Nat.mod_mod_of_dvd]
  exact Nat.pow_dvd_pow 2 h.le
theorem Pre.put (N n v m : Nat) (h : N < 2 ^ n) : Pre N n (N + v * 2 ^ n) (n + m) := by
  refine ⟨by omega, ?_⟩
  rw [Nat.add_mul_mod_self_right, Nat.mod_eq_of_lt h]
/-- What was put is read. -/
theorem Pre.get {N n v m D d : Nat} (h : N < 2 ^ n) (k : Pre (N + v * 2 ^ n) (n + m) D d) : D / 2 ^ n % 2 ^ m = v := by
  have h1 : D % 2 ^ (n + m) / 2 ^ n = D / 2 ^ n % 2 ^ m := by
    rw [Nat.pow_add, Nat.mod_mul_right_div_self]
  rw [← h1, k.eq, Nat.add_mul_div_right _ _ (Nat.pow_pos (by omega)), Nat.div_eq_of_lt h, Nat.zero_add]
theorem Pre.at {N n x D d : Nat} (h : N < 2 ^ n) (k : Pre (N + codeN x * 2 ^ n) (n + 5 * grps x) D d) : At (D / 2 ^ n) x := by
  rw [At_iff, pow32]
  exact k.get h
theorem code_bits (N n x : Nat) (h : N < 2 ^ n) : N + codeN x * 2 ^ n < 2 ^ (n + 5 * grps x) := by
  have := put_lt N n (codeN x) (5 * grps x) h
  rwa [Nat.mod_eq_of_lt (by rw [← pow32]; exact codeN_lt x)] at this
end Go.Proofs.Ythfpbplpfjmmgaa
