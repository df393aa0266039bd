/- Decimal notation: digits of natural numbers and of binary fractions. No program. -/
import Derived.WalkKit
namespace Go.Proofs.Ytdnepccjgclgiaa.D

/-- The digits of a natural number, as letters. -/
def digs (n : Nat) : List Nat := if n < 10 then [48 + n] else digs (n / 10) ++ [48 + n % 10]
termination_by n
decreasing_by omega
theorem digs_small {n : Nat} (h : n < 10) : digs n = [48 + n % 10] := by rw [digs, if_pos h, Nat.mod_eq_of_lt h]
theorem digs_great {n : Nat} (h : ¬ n < 10) : digs n = digs (n / 10) ++ [48 + n % 10] := by rw [digs, if_neg h]
theorem digs_len : ∀ (k n : Nat), n < 10 ^ (k + 1) → (digs n).length ≤ k + 1
  | 0, n, h => by rw [digs_small (by simpa using h)]; simp
  | k + 1, n, h => by
    by_cases h1 : n < 10
    · rw [digs_small h1]; simp
    · rw [digs_great h1, List.length_append]
      have := digs_len k (n / 10) (by rw [Nat.pow_succ] at h; omega)
      simp; omega
theorem digs_pos (n : Nat) : 1 ≤ (digs n).length := by
  by_cases h : n < 10
  · rw [digs_small h]; simp
  · rw [digs_great h]; simp
/-- Digits, as letters. -/
def Digs (l : List Nat) : Prop := ∀ c ∈ l, 48 ≤ c ∧ c ≤ 57
theorem digs_digs (n : Nat) : Digs (digs n) := by
  induction n using Nat.strongRecOn with
  | _ n ih =>
    by_cases h : n < 10
    · rw [digs_small h]; intro c hc; simp at hc; omega
    · rw [digs_great h]
      intro c hc
      rcases List.mem_append.1 hc with hc | hc
      · exact ih (n / 10) (by omega) c hc
      · simp at hc; omega
/-- The number of such digits, cut off at 2 ^ 30. -/
def pv (l : List Nat) : Nat := l.foldl (fun n c => min (n * 10 + (c - 48)) 1073741824) 0
theorem pv_snoc (l : List Nat) (c : Nat) : pv (l ++ [c]) = min (pv l * 10 + (c - 48)) 1073741824 := by simp [pv]
theorem pv_le (l : List Nat) : pv l ≤ 1073741824 := by
  rcases List.eq_nil_or_concat l with rfl | ⟨a, c, rfl⟩
  · simp [pv]
  · rw [List.concat_eq_append, pv_snoc]; omega
theorem pv_digs : ∀ n, n ≤ 1073741824 → pv (digs n) = n := by
  intro n
  induction n using Nat.strongRecOn with
  | _ n ih =>
    intro hn
    by_cases h : n < 10
    · rw [digs_small h]; simp [pv]; omega
    · rw [digs_great h, pv_snoc, ih (n / 10) (by omega) (by omega)]; omega

/-- The digits behind the point, at most so many. -/
def frac : Nat → Nat → List Nat
  | 0, _ => []
  | k + 1, f => if f = 0 then [] else (48 + f * 10 / 65536) :: frac k (f * 10 % 65536)
theorem frac_zero (k : Nat) : frac k 0 = [] := by cases k <;> simp [frac]
theorem frac_len : ∀ k f, (frac k f).length ≤ k
  | 0, _ => by simp [frac]
  | k + 1, f => by
    unfold frac
    split
    · simp
    · simp; exact frac_len k _
theorem frac_digs : ∀ k f, f < 65536 → Digs (frac k f)
  | 0, _, _ => by intro c hc; simp [frac] at hc
  | k + 1, f, h => by
    unfold frac
    split
    · intro c hc; simp at hc
    · intro c hc
      rcases List.mem_cons.1 hc with rfl | hc
      · omega
      · exact frac_digs k _ (by omega) c hc
/-- The number of digits. -/
def vd : List Nat → Nat
  | [] => 0
  | c :: l => (c - 48) * 10 ^ l.length + vd l
theorem next_div {f j : Nat} (h : f % 2 ^ j = 0) (hj : j < 16) : (f * 10 % 65536) % 2 ^ (j + 1) = 0 := by
  have h1 : 2 ^ (j + 1) ∣ f * 10 := by
    rw [Nat.pow_succ]
    exact Nat.mul_dvd_mul (Nat.dvd_of_mod_eq_zero h) ⟨5, rfl⟩
  have h2 : (2 ^ (j + 1) : Nat) ∣ 65536 := ⟨2 ^ (16 - (j + 1)), by rw [← Nat.pow_add, show j + 1 + (16 - (j + 1)) = 16 by omega]⟩
  rw [Nat.mod_mod_of_dvd _ h2]
  exact Nat.mod_eq_zero_of_dvd h1
theorem frac_vd : ∀ (k f : Nat), k ≤ 16 → f < 65536 → f % 2 ^ (16 - k) = 0 → vd (frac k f) * 65536 = f * 10 ^ (frac k f).length
  | 0, f, _, h, hd => by
    have : f = 0 := by rw [Nat.mod_eq_of_lt (by simpa using h)] at hd; exact hd
    subst this
    simp [frac, vd]
  | k + 1, f, hk, h, hd => by
    unfold frac
    split
    · rename_i h0; subst h0; simp [vd]
    · have ih := frac_vd k (f * 10 % 65536) (by omega) (Nat.mod_lt _ (by decide)) (by
        have := next_div hd (by omega)
        rwa [show 16 - (k + 1) + 1 = 16 - k by omega] at this)
      obtain ⟨a, ha⟩ : ∃ a, f * 10 / 65536 = a := ⟨_, rfl⟩
      obtain ⟨b, hb⟩ : ∃ b, f * 10 % 65536 = b := ⟨_, rfl⟩
      have e : f * 10 = 65536 * a + b := by rw [← ha, ← hb]; exact (Nat.div_add_mod _ _).symm
      rw [ha, hb]
      rw [hb] at ih
      show ((48 + a - 48) * 10 ^ (frac k b).length + vd (frac k b)) * 65536 = f * 10 ^ ((frac k b).length + 1)
      rw [Nat.add_sub_cancel_left, Nat.add_mul, ih, Nat.pow_succ]
      generalize 10 ^ (frac k b).length = t
      have e2 : f * (t * 10) = (f * 10) * t := by rw [Nat.mul_comm t 10, Nat.mul_assoc]
      rw [e2, e, Nat.add_mul, Nat.mul_comm a t, Nat.mul_assoc, Nat.mul_comm (65536 * a) t, Nat.mul_comm 65536 a]

/-! Doubling of the digits 0 to 9 (no letters). -/
def Small (l : List Nat) : Prop := ∀ c ∈ l, c ≤ 9
def vs : List Nat → Nat
  | [] => 0
  | c :: l => c * 10 ^ l.length + vs l
def dbl : List Nat → List Nat × Nat
  | [] => ([], 0)
  | d :: l => ((2 * d + (dbl l).2) % 10 :: (dbl l).1, (2 * d + (dbl l).2) / 10)
theorem dbl_len : ∀ l, (dbl l).1.length = l.length
  | [] => rfl
  | d :: l => by simp [dbl, dbl_len l]
theorem dbl_carry : ∀ {l : List Nat}, Small l → (dbl l).2 ≤ 1
  | [], _ => by simp [dbl]
  | d :: l, h => by
    have h1 := dbl_carry (l := l) fun c hc => h c (by simp [hc])
    have h2 := h d (by simp)
    simp only [dbl]
    omega
theorem dbl_small : ∀ l, Small (dbl l).1
  | [] => by intro c hc; simp [dbl] at hc
  | d :: l => by
    intro c hc
    simp only [dbl] at hc
    rcases List.mem_cons.1 hc with rfl | hc
    · omega
    · exact dbl_small l c hc
theorem dbl_vs : ∀ l, vs (dbl l).1 + (dbl l).2 * 10 ^ l.length = 2 * vs l
  | [] => rfl
  | d :: l => by
    have ih := dbl_vs l
    simp only [dbl, vs, dbl_len, List.length_cons, Nat.pow_succ]
    have e := Nat.div_add_mod (2 * d + (dbl l).2) 10
    generalize (2 * d + (dbl l).2) / 10 = a at e ⊢
    generalize (2 * d + (dbl l).2) % 10 = b at e ⊢
    generalize 10 ^ l.length = t at ih ⊢
    generalize vs (dbl l).1 = x at ih ⊢
    generalize (dbl l).2 = y at ih e ⊢
    generalize vs l = z at ih ⊢
    grind
theorem vs_lt : ∀ {l : List Nat}, Small l → vs l < 10 ^ l.length
  | [], _ => by simp [vs]
  | d :: l, h => by
    have h1 := vs_lt (l := l) fun c hc => h c (by simp [hc])
    have h2 := h d (by simp)
    simp only [vs, List.length_cons, Nat.pow_succ]
    have h3 : d * 10 ^ l.length ≤ 9 * 10 ^ l.length := Nat.mul_le_mul_right _ h2
    omega
theorem vs_zero : ∀ {l : List Nat}, vs l = 0 → ∀ c ∈ l, c = 0
  | [], _, c, hc => by simp at hc
  | d :: l, h, c, hc => by
    simp only [vs] at h
    have hp : 0 < 10 ^ l.length := Nat.pow_pos (by decide)
    have h1 : d * 10 ^ l.length = 0 := by omega
    have h2 : vs l = 0 := by omega
    have hd : d = 0 := by rcases Nat.mul_eq_zero.1 h1 with h | h <;> omega
    rcases List.mem_cons.1 hc with rfl | hc
    · exact hd
    · exact vs_zero h2 c hc
/-- The letters without their offset. -/
def off (l : List Nat) : List Nat := l.map (· - 48)
theorem off_len (l : List Nat) : (off l).length = l.length := by simp [off]
theorem off_vs : ∀ l, vs (off l) = vd l
  | [] => rfl
  | c :: l => by
    have := off_vs l
    simp only [off, List.map_cons, vs, vd, List.length_map] at this ⊢
    rw [this]
theorem off_small {l : List Nat} (h : Digs l) : Small (off l) := by
  intro c hc
  obtain ⟨x, hx, rfl⟩ := List.mem_map.1 hc
  have := h x hx
  omega
/-- So many doublings: what is carried out, and what is left. -/
def dbls : Nat → List Nat → Nat × List Nat
  | 0, l => (0, l)
  | t + 1, l => ((dbls t l).1 * 2 + (dbl (dbls t l).2).2, (dbl (dbls t l).2).1)
theorem dbls_spec {l : List Nat} (h : Small l) : ∀ t, Small (dbls t l).2 ∧ (dbls t l).2.length = l.length ∧ (dbls t l).1 * 10 ^ l.length + vs (dbls t l).2 = 2 ^ t * vs l ∧ (dbls t l).1 < 2 ^ t
  | 0 => ⟨h, rfl, by simp [dbls], by simp [dbls]⟩
  | t + 1 => by
    obtain ⟨h1, h2, h3, h4⟩ := dbls_spec h t
    have h5 := dbl_vs (dbls t l).2
    have h6 := dbl_carry h1
    refine ⟨dbl_small _, by simp only [dbls, dbl_len, h2], ?_, ?_⟩
    · simp only [dbls, Nat.pow_succ]
      rw [h2] at h5
      generalize (dbl (dbls t l).2).2 = c at h5 ⊢
      generalize vs (dbl (dbls t l).2).1 = x at h5 ⊢
      generalize (dbls t l).1 = n at h3 ⊢
      generalize vs (dbls t l).2 = y at h3 h5
      generalize 10 ^ l.length = z at h3 h5 ⊢
      generalize 2 ^ t = p at h3 ⊢
      generalize vs l = v at h3 ⊢
      grind
    · simp only [dbls, Nat.pow_succ]
      omega
/-- A binary fraction of 16 digits is read back from its decimal digits. -/
theorem frac_back {f : Nat} (h : f < 65536) : (dbls 16 (off (frac 16 f))).1 = f ∧ ∀ c ∈ (dbls 16 (off (frac 16 f))).2, c = 0 := by
  have h1 := frac_vd 16 f (Nat.le_refl _) h (by simp [Nat.mod_one])
  have h2 := dbls_spec (off_small (frac_digs 16 f h)) 16
  obtain ⟨a, b, c, _⟩ := h2
  have h3 := vs_lt a
  rw [b] at h3
  rw [off_vs, off_len] at c
  rw [off_len] at h3
  generalize (dbls 16 (off (frac 16 f))).1 = n at c ⊢
  have hv : vs (dbls 16 (off (frac 16 f))).2 = 0 ∧ n = f := by
    generalize vs (dbls 16 (off (frac 16 f))).2 = y at c h3 ⊢
    generalize 10 ^ (frac 16 f).length = t at c h3 h1
    have e : n * t + y = f * t := by rw [c, ← h1]; omega
    rcases Nat.lt_trichotomy n f with h | h | h
    · have : (n + 1) * t ≤ f * t := Nat.mul_le_mul_right _ h
      rw [Nat.add_mul] at this
      omega
    · subst h
      exact ⟨by omega, rfl⟩
    · have : (f + 1) * t ≤ n * t := Nat.mul_le_mul_right _ h
      rw [Nat.add_mul] at this
      omega
  exact ⟨hv.2, vs_zero hv.1⟩
end Go.Proofs.Ytdnepccjgclgiaa.D
