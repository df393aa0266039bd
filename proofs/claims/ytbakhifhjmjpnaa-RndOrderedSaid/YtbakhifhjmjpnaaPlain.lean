/- Plain mathematics of package rnd over 64-bit words: no program. -/
import Derived.Laws.Bits64
import Derived.Laws.Bits64b
import Derived.Laws.BitsAllLaws
import Derived.Laws.Shifts
namespace Go.Proofs.Ytbakhifhjmjpnaa
abbrev W64 := BitVec 64

/-- The value of a word. -/
def U (x : W64) : Int := (x.toNat : Int)

theorem U_lo (x : W64) : 0 ≤ U x := Int.natCast_nonneg _
theorem U_hi (x : W64) : U x < 18446744073709551616 := by unfold U; have := x.isLt; omega
theorem wrap_U (x : W64) : IntKind.u64.wrap (U x) = U x := by
  rw [IntKind.wrap_u64]; have := U_lo x; have := U_hi x; omega
theorem wrap_ofInt (n : Int) : IntKind.u64.wrap n = U (BitVec.ofInt 64 n) := by
  rw [IntKind.wrap_u64]; unfold U; rw [BitVec.toNat_ofInt]; simp; omega
theorem ofInt_U (x : W64) : BitVec.ofInt 64 (U x) = x := by
  unfold U; apply BitVec.eq_of_toNat_eq; rw [BitVec.toNat_ofInt]; have := x.isLt; simp; omega
theorem add_U (a b : W64) : IntKind.u64.wrap (U a + U b) = U (a + b) := by
  rw [wrap_ofInt, BitVec.ofInt_add, ofInt_U, ofInt_U]
theorem mul_U (a b : W64) : IntKind.u64.wrap (U a * U b) = U (a * b) := by
  rw [wrap_ofInt, BitVec.ofInt_mul, ofInt_U, ofInt_U]
theorem xor_U (a b : W64) : bits .xor .u64 (U a) (U b) = U (a ^^^ b) := by
  unfold U; rw [u64_xor_nat _ _ (by have := a.isLt; omega) (by have := b.isLt; omega)]; rfl
theorem or_U (a b : W64) : bits .or .u64 (U a) (U b) = U (a ||| b) := by
  unfold U; rw [u64_or_nat _ _ (by have := a.isLt; omega) (by have := b.isLt; omega)]; rfl
theorem and_U (a b : W64) : bits .and .u64 (U a) (U b) = U (a &&& b) := by
  unfold U; rw [u64_and_nat _ _ (by have := a.isLt; omega) (by have := b.isLt; omega)]; rfl
theorem shr_U (a : W64) (k : Nat) (d : Int) (h : d = ((2 ^ k : Nat) : Int)) : U a / d = U (a >>> k) := by
  subst h; unfold U; rw [BitVec.toNat_ushiftRight, Nat.shiftRight_eq_div_pow]; exact (Int.natCast_ediv _ _).symm

/-- A value that no evaluation opens (Lean's kernel would count large numerals up one by one). -/
noncomputable def lock {α : Type} (a : α) : α := (Classical.choice (⟨⟨a, rfl⟩⟩ : Nonempty {x : α // x = a})).1
theorem lock_eq {α : Type} (a : α) : lock a = a := (Classical.choice (⟨⟨a, rfl⟩⟩ : Nonempty {x : α // x = a})).2

/-- rnd.Mix. -/
def mixDef (x : W64) : W64 :=
  let x := (x ^^^ (x >>> 31)) * 7640891576956012809#64
  let x := (x ^^^ (x >>> 27)) * 13503953896175478587#64
  x ^^^ (x >>> 30)

noncomputable def mix : W64 → W64 := lock mixDef
theorem mix_eq (x : W64) : mix x = mixDef x := congrFun (lock_eq mixDef) x

theorem xs_inj (k : Nat) (hk : 0 < k) : ∀ (x y : W64), x ^^^ (x >>> k) = y ^^^ (y >>> k) → x = y := by
  intro x y h
  -- bits from the top down
  have key : ∀ n i, i < 64 → 64 - i ≤ n → x.getLsbD i = y.getLsbD i := by
    intro n
    induction n with
    | zero => intro i hi hn; omega
    | succ n ih =>
      intro i hi hn
      have hb := congrArg (fun z => BitVec.getLsbD z i) h
      simp only [BitVec.getLsbD_xor, BitVec.getLsbD_ushiftRight] at hb
      by_cases h2 : k + i < 64
      · have := ih (k + i) h2 (by omega)
        rw [this] at hb
        simpa using hb
      · rw [BitVec.getLsbD_of_ge x (k + i) (by omega), BitVec.getLsbD_of_ge y (k + i) (by omega)] at hb
        simpa using hb
  apply BitVec.eq_of_getLsbD_eq
  intro i hi
  exact key 64 i hi (by omega)

theorem mul_inj (c d : W64) (h : c * d = 1#64) (x y : W64) (e : x * c = y * c) : x = y := by
  have h2 : x * c * d = y * c * d := by rw [e]
  rw [BitVec.mul_assoc, BitVec.mul_assoc, h, BitVec.mul_one, BitVec.mul_one] at h2
  exact h2

theorem mix_inj (x y : W64) (h : mix x = mix y) : x = y := by
  rw [mix_eq, mix_eq] at h; unfold mixDef at h
  have h1 := xs_inj 30 (by omega) _ _ h
  have h2 := mul_inj 13503953896175478587#64 517726987020900851#64 (by decide) _ _ h1
  have h3 := xs_inj 27 (by omega) _ _ h2
  have h4 := mul_inj 7640891576956012809#64 17228112808425395513#64 (by decide) _ _ h3
  exact xs_inj 31 (by omega) _ _ h4

theorem U_lit (n : Nat) (h : n < 18446744073709551616) : U (BitVec.ofNat 64 n) = (n : Int) := by
  unfold U; rw [BitVec.toNat_ofNat]; omega
theorem U_inj {a b : W64} (h : U a = U b) : a = b := by
  unfold U at h; apply BitVec.eq_of_toNat_eq; omega
theorem mulC (a : W64) (n : Nat) (h : n < 18446744073709551616) : IntKind.u64.wrap (U a * (n : Int)) = U (a * BitVec.ofNat 64 n) := by
  rw [← U_lit n h, mul_U]
theorem addC (a : W64) (n : Nat) (h : n < 18446744073709551616) : IntKind.u64.wrap (U a + (n : Int)) = U (a + BitVec.ofNat 64 n) := by
  rw [← U_lit n h, add_U]
theorem mulL (a : W64) (n : Nat) (h : n < 18446744073709551616 := by decide) : IntKind.u64.wrap (U a * (OfNat.ofNat n : Int)) = U (a * BitVec.ofNat 64 n) := mulC a n h

/-! The walk's rules on words. -/
@[go_sem] theorem mul_m1 (a : W64) : IntKind.u64.wrap (U a * 7640891576956012809) = U (a * 7640891576956012809#64) := mulC a 7640891576956012809 (by decide)
@[go_sem] theorem mul_m2 (a : W64) : IntKind.u64.wrap (U a * 13503953896175478587) = U (a * 13503953896175478587#64) := mulC a 13503953896175478587 (by decide)
@[go_sem] theorem mul_f (a : W64) : IntKind.u64.wrap (U a * 11170449401992604703) = U (a * 11170449401992604703#64) := mulC a 11170449401992604703 (by decide)
noncomputable def golden : W64 := lock 11400714819323198485#64
theorem U_golden : U golden = 11400714819323198485 := by unfold golden U; rw [lock_eq]; decide
@[go_sem] theorem add_g (a : W64) : IntKind.u64.wrap (U a + 11400714819323198485) = U (a + golden) := by
  unfold golden; rw [lock_eq]; exact addC a 11400714819323198485 (by decide)
@[go_sem] theorem add_f (a : W64) : IntKind.u64.wrap (U a + 5841705087218225873) = U (a + 5841705087218225873#64) := addC a 5841705087218225873 (by decide)
@[go_sem] theorem or_1 (a : W64) : bits .or .u64 (U a) 1 = U (a ||| 1#64) := by rw [← or_U, U_lit 1 (by decide)]; rfl
@[go_sem ↓] theorem shr_rule (a : W64) (yk : IntKind) (y : Int) (h : 0 ≤ y) : Op.shift .shr .u64 (U a) yk y = pure (.int .u64 (U (a >>> y.toNat))) := by
  rw [shift_shr_any _ _ _ _ h]
  show (pure (.int .u64 (U a / 2 ^ min y.toNat 64)) : Sem Value) = _
  rw [shr_U a (min y.toNat 64) (2 ^ min y.toNat 64) (by simp)]
  congr 3
  by_cases hk : y.toNat ≤ 64
  · rw [Nat.min_eq_left hk]
  · rw [Nat.min_eq_right (by omega)]
    apply BitVec.eq_of_toNat_eq
    rw [BitVec.toNat_ushiftRight, BitVec.toNat_ushiftRight, Nat.shiftRight_eq_div_pow, Nat.shiftRight_eq_div_pow]
    have := a.isLt
    have h1 : a.toNat / 2 ^ 64 = 0 := Nat.div_eq_of_lt this
    have h2 : a.toNat / 2 ^ y.toNat = 0 := Nat.div_eq_of_lt (Nat.lt_of_lt_of_le this (Nat.pow_le_pow_right (by decide) (by omega)))
    rw [h1, h2]
attribute [go_sem] xor_U add_U and_U or_U mul_U

/-- A number as a word. -/
noncomputable def Wd : Int → W64 := lock fun n => BitVec.ofInt 64 n
theorem Wd_eq (n : Int) : Wd n = BitVec.ofInt 64 n := congrFun (lock_eq _) n
theorem U_Wd (n : Int) (h0 : 0 ≤ n) (h1 : n ≤ 9223372036854775807) : U (Wd n) = n := by
  have := wrap_ofInt n
  rw [← Wd_eq, IntKind.wrap_u64] at this
  omega
@[go_sem] theorem rem_U (a b : W64) : (U a).tmod (U b) = U (a % b) := by
  unfold U
  rw [BitVec.toNat_umod, Int.tmod_eq_emod_of_nonneg (Int.natCast_nonneg _)]
  exact (Int.natCast_emod _ _).symm
@[go_sem] theorem rem_2 (a : W64) : (U a).tmod 2 = U (a % 2#64) := by
  have := rem_U a 2#64
  rwa [U_lit 2 (by decide)] at this
theorem U_mod (a b : W64) : U (a % b) = U a % U b := by
  unfold U
  rw [BitVec.toNat_umod]; exact Int.natCast_emod _ _
theorem U_odd (a : W64) : U ((a ||| 1#64) % 2#64) = 1 := by
  unfold U
  rw [BitVec.toNat_umod, BitVec.toNat_or]
  show (((a.toNat ||| 1) % 2 : Nat) : Int) = 1
  have : (a.toNat ||| 1) % 2 = 1 := by
    have h := Nat.or_mod_two_pow (a := a.toNat) (b := 1) (n := 1)
    simp only [Nat.pow_one] at h
    rw [h]
    rcases Nat.mod_two_eq_zero_or_one a.toNat with e | e <;> rw [e] <;> decide
  rw [this]; rfl
attribute [go_sem] U_odd
theorem odd_nat (a : W64) (h : U (a % 2#64) = 1) : a.toNat % 2 = 1 := by
  unfold U at h
  rw [BitVec.toNat_umod] at h
  have : (2#64).toNat = 2 := rfl
  rw [this] at h
  omega

/-- 2^64 modulo n. -/
noncomputable def rest (n : Int) : W64 := Wd ((18446744073709551616 : Int) % n)
theorem rest_eq (n : Int) (h1 : 1 ≤ n) (h2 : n ≤ 9223372036854775807) : (IntKind.u64.wrap (18446744073709551615 % n + 1)).tmod n = U (rest n) := by
  unfold rest
  have a := Int.emod_nonneg 18446744073709551616 (show n ≠ 0 by omega)
  have b := Int.emod_lt_of_pos 18446744073709551616 (show 0 < n by omega)
  have c := Int.emod_nonneg 18446744073709551615 (show n ≠ 0 by omega)
  have d := Int.emod_lt_of_pos 18446744073709551615 (show 0 < n by omega)
  rw [U_Wd _ a (by omega), IntKind.wrap_u64, Int.emod_eq_of_lt (by omega) (by omega), Int.tmod_eq_emod_of_nonneg (by omega)]
  rw [Int.emod_add_emod]
  rfl
theorem rest_lt (n : Int) (h1 : 1 ≤ n) (h2 : n ≤ 9223372036854775807) : U (rest n) < n := by
  unfold rest
  have a := Int.emod_nonneg 18446744073709551616 (show n ≠ 0 by omega)
  have b := Int.emod_lt_of_pos 18446744073709551616 (show 0 < n by omega)
  rw [U_Wd _ a (by omega)]; exact b
theorem rest_1 : U (rest 1) = 0 := by
  unfold rest; rw [Int.emod_one, U_Wd _ (by omega) (by omega)]
theorem max_sub (a : W64) : IntKind.u64.wrap (18446744073709551615 - U a) = U (~~~a) := by
  rw [IntKind.wrap_u64]
  unfold U
  rw [BitVec.toNat_not]
  have := a.isLt
  omega
/-- The greatest number that is let in. -/
noncomputable def lim (n : Int) : W64 := lock (~~~(rest n))
theorem lim_eq (n : Int) : IntKind.u64.wrap (18446744073709551615 - U (rest n)) = U (lim n) := by
  unfold lim; rw [lock_eq]; exact max_sub _
theorem lim_ge (n : Int) (h1 : 1 ≤ n) (h2 : n ≤ 9223372036854775807) : 1 ≤ U (lim n) := by
  rw [← lim_eq, IntKind.wrap_u64]
  have := rest_lt n h1 h2
  have := U_lo (rest n)
  omega
theorem lim_1 (a : W64) : U a ≤ U (lim 1) := by
  rw [← lim_eq, IntKind.wrap_u64, rest_1]
  have := U_hi a
  omega
end Go.Proofs.Ytbakhifhjmjpnaa
