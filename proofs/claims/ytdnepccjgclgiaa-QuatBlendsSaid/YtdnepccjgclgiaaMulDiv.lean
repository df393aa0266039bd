/- Contracts of fix.MulDiv, fix.Mul and fix.Div. -/
import Derived.Test.YtdnepccjgclgiaaDiv64
namespace Go.Proofs.Ytdnepccjgclgiaa
open Go.RowKit

/-- The quotient and the remainder of a number of two words. -/
def dq (H Lo D : Nat) : Nat := join H Lo / D
def dr (H Lo D : Nat) : Nat := join H Lo % D
theorem div64_any (H Lo D : Nat) (w : World) (h1 : H < D) (h2 : D < 18446744073709551616) (h4 : Lo < 18446744073709551616) :
    Calls Try.prog 78 #[.int .u64 H, .int .u64 Lo, .int .u64 D] w fun e w' => e = .returned (.tuple #[.int .u64 (dq H Lo D), .int .u64 (dr H Lo D)]) ∧ Below w.heap.size w w' := by
  have j : joinI H Lo = ((join H Lo : Nat) : Int) := by unfold joinI join; omega
  have e1 : ((dq H Lo D : Nat) : Int) = joinI H Lo / D := by unfold dq; rw [j]; exact Int.natCast_ediv _ _
  have e2 : ((dr H Lo D : Nat) : Int) = joinI H Lo % D := by unfold dr; rw [j]; exact Int.natCast_emod _ _
  rw [e1, e2]
  by_cases h0 : H = 0
  · subst h0
    have e3 : joinI ((0 : Nat) : Int) Lo = Lo := by unfold joinI; omega
    rw [e3]
    exact div64_0 Lo D w (by omega) (by omega) (by omega) (by omega)
  · exact (div64_1 H Lo D w (by omega) h1 h2 h4).mono fun e w' ⟨he, hw⟩ => ⟨he, hw ▸ Below.refl _ _⟩

/-- The quotient, rounded: the nearest whole number, the greater one of two. -/
def rdiv (p d : Int) : Int := (2 * p + d) / (2 * d)
theorem rdiv_pos (P d : Nat) (hd : 0 < d) : rdiv P d = if d ≤ 2 * (P % d) then ((P / d : Nat) : Int) + 1 else ((P / d : Nat) : Int) := by
  have h1 := Nat.div_add_mod P d
  have h2 := Nat.mod_lt P hd
  unfold rdiv
  have e : ((P : Nat) : Int) = (d : Int) * ((P / d : Nat) : Int) + ((P % d : Nat) : Int) := by rw [← Int.natCast_mul]; omega
  generalize P / d = q at *
  generalize P % d = r at *
  have hm : (2 * (P : Int) + d) = (2 * d) * (q : Int) + (2 * r + d) := by rw [e]; grind
  rw [hm, Int.mul_add_ediv_left _ _ (by omega)]
  split
  · have : (2 * (r : Int) + d) / (2 * d) = 1 := by
      refine (Int.ediv_emod_unique (r := 2 * (r : Int) + d - 2 * d) (by omega)).2 ⟨by omega, by omega, by omega⟩ |>.1
    omega
  · have : (2 * (r : Int) + d) / (2 * d) = 0 := Int.ediv_eq_zero_of_lt (by omega) (by omega)
    omega
theorem rdiv_neg (P d : Nat) (hd : 0 < d) : rdiv (-(P : Int)) d = if d < 2 * (P % d) then -(((P / d : Nat) : Int) + 1) else -((P / d : Nat) : Int) := by
  have h1 := Nat.div_add_mod P d
  have h2 := Nat.mod_lt P hd
  unfold rdiv
  have e : ((P : Nat) : Int) = (d : Int) * ((P / d : Nat) : Int) + ((P % d : Nat) : Int) := by rw [← Int.natCast_mul]; omega
  generalize P / d = q at *
  generalize P % d = r at *
  have hm : (2 * (-(P : Int)) + d) = (2 * d) * (-(q : Int)) + (d - 2 * r) := by rw [e]; grind
  rw [hm, Int.mul_add_ediv_left _ _ (by omega)]
  split
  · have : ((d : Int) - 2 * r) / (2 * d) = -1 := by
      refine (Int.ediv_emod_unique (r := (d : Int) - 2 * r + 2 * d) (by omega)).2 ⟨by omega, by omega, by omega⟩ |>.1
    omega
  · have : ((d : Int) - 2 * r) / (2 * d) = 0 := Int.ediv_eq_zero_of_lt (by omega) (by omega)
    omega

/-- fix.MulDiv, of clamped numbers. -/
def mulDiv (a b c : Int) : Int := if c = 0 then 0 else if 0 < c then clamp (rdiv (a * b) c) else clamp (rdiv (-(a * b)) (-c))
theorem mulDiv_pos (a b c : Int) (P d : Nat) (hd : 0 < d) (h : (c = d ∧ a * b = P) ∨ (c = -(d : Int) ∧ a * b = -(P : Int))) : mulDiv a b c = clamp (rdiv P d) := by
  unfold mulDiv
  rcases h with ⟨h1, h2⟩ | ⟨h1, h2⟩
  · rw [if_neg (by omega), if_pos (by omega), h1, h2]
  · rw [if_neg (by omega), if_neg (by omega), h1, h2, Int.neg_neg, Int.neg_neg]
theorem mulDiv_neg (a b c : Int) (P d : Nat) (hd : 0 < d) (h : (c = d ∧ a * b = -(P : Int)) ∨ (c = -(d : Int) ∧ a * b = P)) : mulDiv a b c = clamp (rdiv (-(P : Int)) d) := by
  unfold mulDiv
  rcases h with ⟨h1, h2⟩ | ⟨h1, h2⟩
  · rw [if_neg (by omega), if_pos (by omega), h1, h2]
  · rw [if_neg (by omega), if_neg (by omega), h1, h2, Int.neg_neg]
theorem clamp_top (n : Int) (h : 1099511627776 ≤ n) : clamp n = 1099511627776 := by
  unfold clamp; rw [if_neg (by omega)]; split <;> omega
theorem clamp_bot (n : Int) (h : n ≤ -1099511627776) : clamp n = -1099511627776 := by
  unfold clamp; split <;> (try split) <;> omega

/-- What the walk needs of a product and a divisor. -/
theorem md_facts (P d : Nat) (hd : 0 < d) (hP : P ≤ 1208925819614629174706176) :
    (d ≤ hiW P → clamp (rdiv P d) = 1099511627776 ∧ clamp (rdiv (-(P : Int)) d) = -1099511627776) ∧
    (hiW P < d → dr (hiW P) (loW P) d < d ∧ dq (hiW P) (loW P) d < 18446744073709551616 ∧
      (1099511627776 < dq (hiW P) (loW P) d → clamp (rdiv P d) = 1099511627776 ∧ clamp (rdiv (-(P : Int)) d) = -1099511627776) ∧
      (d ≤ 2 * dr (hiW P) (loW P) d → clamp (rdiv P d) = clamp ((dq (hiW P) (loW P) d : Int) + 1)) ∧
      (2 * dr (hiW P) (loW P) d < d → clamp (rdiv P d) = clamp (dq (hiW P) (loW P) d : Int)) ∧
      (d < 2 * dr (hiW P) (loW P) d → clamp (rdiv (-(P : Int)) d) = clamp (-((dq (hiW P) (loW P) d : Int) + 1))) ∧
      (2 * dr (hiW P) (loW P) d ≤ d → clamp (rdiv (-(P : Int)) d) = clamp (-(dq (hiW P) (loW P) d : Int)))) := by
  have hj : join (hiW P) (loW P) = P := (hiW_loW P).symm
  unfold dq dr
  rw [hj]
  have rp := rdiv_pos P d hd
  have rn := rdiv_neg P d hd
  have hm := Nat.mod_lt P hd
  have hq := Nat.div_add_mod P d
  constructor
  · intro h
    have big : 1099511627777 ≤ P / d := by
      rw [Nat.le_div_iff_mul_le hd]
      have h1 : d * 18446744073709551616 ≤ P := by
        have := Nat.mul_le_mul_right 18446744073709551616 h
        have := hiW_loW P
        omega
      omega
    constructor
    · refine clamp_top _ ?_; rw [rp]; split <;> omega
    · refine clamp_bot _ ?_; rw [rn]; split <;> omega
  · intro h
    have small : P / d < 18446744073709551616 := by
      rw [Nat.div_lt_iff_lt_mul hd]
      have h1 : (hiW P + 1) * 18446744073709551616 ≤ d * 18446744073709551616 := Nat.mul_le_mul_right _ h
      have := hiW_loW P
      have := loW_lt P
      omega
    refine ⟨hm, small, fun hb => ⟨?_, ?_⟩, fun hb => ?_, fun hb => ?_, fun hb => ?_, fun hb => ?_⟩
    · refine clamp_top _ ?_; rw [rp]; split <;> omega
    · refine clamp_bot _ ?_; rw [rn]; split <;> omega
    · rw [rp, if_pos hb]
    · rw [rp, if_neg (by omega)]
    · rw [rn, if_pos hb]
    · rw [rn, if_neg (by omega)]

theorem muldiv_0 (a b c : Int) (w : World) (hc : clamp c = 0) :
    Calls Try.prog 48 #[.int .i64 a, .int .i64 b, .int .i64 c] w fun e w' => e = .returned (.int .i64 0) ∧ Below w.heap.size w w' := by
  go_enter Try.func48, Try.ntmps48
  go_wp2_with (go_at_call 35; (with_reducible refine (clamp_any _ _).mono ?_); rintro e w' ⟨rfl, rfl⟩)
  go_ret
  exact ⟨rfl, Below.refl _ _⟩

set_option maxHeartbeats 1000000 in
theorem muldiv_000 (a b c A B C : Int) (w : World) (ha : clamp a = A) (hb : clamp b = B) (hc : clamp c = C) (sa : 0 ≤ A) (sb : 0 ≤ B) (sc : 0 < C) :
    Calls Try.prog 48 #[.int .i64 a, .int .i64 b, .int .i64 c] w fun e w' => e = .returned (.int .i64 (clamp (rdiv ((A.natAbs * B.natAbs : Nat) : Int) C.natAbs))) ∧ Below w.heap.size w w' := by
  have a1 := clamp_lo a
  have a2 := clamp_hi a
  have b1 := clamp_lo b
  have b2 := clamp_hi b
  have c1 := clamp_lo c
  have c2 := clamp_hi c
  rw [ha] at a1 a2
  rw [hb] at b1 b2
  rw [hc] at c1 c2
  have hc0 : (C == 0) = false := by simp; omega
  have dA : decide (A < 0) = false := by simp; omega
  have dB : decide (B < 0) = false := by simp; omega
  have dC : decide (C < 0) = false := by simp; omega
  have hd : 0 < C.natAbs := by omega
  have hP : A.natAbs * B.natAbs ≤ 1208925819614629174706176 := Nat.mul_le_mul (show A.natAbs ≤ 1099511627776 by omega) (show B.natAbs ≤ 1099511627776 by omega)
  obtain ⟨f1, f2⟩ := md_facts (A.natAbs * B.natAbs) C.natAbs hd hP
  clear hP
  by_cases h1 : C.natAbs ≤ hiW (A.natAbs * B.natAbs)
  · have HF := Lib.hid (f1 h1).1
    clear f1 f2
    go_enter Try.func48, Try.ntmps48
    go_wp2_with (first
      | (go_at_call 35; (with_reducible refine (clamp_any _ _).mono ?_); rintro e w' ⟨rfl, rfl⟩)
      | (go_at_call 73; (with_reducible refine (fmag_any _ _ (by omega) (by omega)).mono ?_); rintro e w' ⟨rfl, rfl⟩)
      | (go_at_call 77; (with_reducible refine (mul64_any _ _ (by omega) (by omega) _).mono ?_); rintro e w' ⟨rfl, rfl⟩)
      | (go_at_call 78; (with_reducible refine (div64_any _ _ _ _ (by assumption) (by omega) (loW_lt _)).mono ?_); rintro e w1 ⟨rfl, hb⟩; obtain ⟨l, n, rfl⟩ := ext_of hb; clear hb))
    go_ret
    exact ⟨ret_int (by rw [HF.out]), by repeat (first | exact Below.refl _ _ | apply Below.drew | apply Below.al | apply Below.ex)⟩
  · have h1' : hiW (A.natAbs * B.natAbs) < C.natAbs := by omega
    obtain ⟨r1, q1, g1, g2, g3, g4, g5⟩ := f2 h1'
    clear f1 f2 h1
    by_cases h2 : 1099511627776 < dq (hiW (A.natAbs * B.natAbs)) (loW (A.natAbs * B.natAbs)) C.natAbs
    · have HF := Lib.hid (g1 h2).1
      clear g1 g2 g3 g4 g5
      go_enter Try.func48, Try.ntmps48
      go_wp2_with (first
        | (go_at_call 35; (with_reducible refine (clamp_any _ _).mono ?_); rintro e w' ⟨rfl, rfl⟩)
        | (go_at_call 73; (with_reducible refine (fmag_any _ _ (by omega) (by omega)).mono ?_); rintro e w' ⟨rfl, rfl⟩)
        | (go_at_call 77; (with_reducible refine (mul64_any _ _ (by omega) (by omega) _).mono ?_); rintro e w' ⟨rfl, rfl⟩)
        | (go_at_call 78; (with_reducible refine (div64_any _ _ _ _ (by assumption) (by omega) (loW_lt _)).mono ?_); rintro e w1 ⟨rfl, hb⟩; obtain ⟨l, n, rfl⟩ := ext_of hb; clear hb))
      go_ret
      exact ⟨ret_int (by rw [HF.out] <;> decide), by repeat (first | exact Below.refl _ _ | apply Below.drew | apply Below.al | apply Below.ex)⟩
    · by_cases h3 : C.natAbs ≤ 2 * dr (hiW (A.natAbs * B.natAbs)) (loW (A.natAbs * B.natAbs)) C.natAbs
      · have HF := Lib.hid (g2 h3)
        clear g1 g2 g3 g4 g5
        go_enter Try.func48, Try.ntmps48
        go_wp2_with (first
          | (go_at_call 35; (with_reducible refine (clamp_any _ _).mono ?_); rintro e w' ⟨rfl, rfl⟩)
          | (go_at_call 73; (with_reducible refine (fmag_any _ _ (by omega) (by omega)).mono ?_); rintro e w' ⟨rfl, rfl⟩)
          | (go_at_call 77; (with_reducible refine (mul64_any _ _ (by omega) (by omega) _).mono ?_); rintro e w' ⟨rfl, rfl⟩)
          | (go_at_call 78; (with_reducible refine (div64_any _ _ _ _ (by assumption) (by omega) (loW_lt _)).mono ?_); rintro e w1 ⟨rfl, hb⟩; obtain ⟨l, n, rfl⟩ := ext_of hb; clear hb))
        go_ret
        exact ⟨ret_int (by rw [HF.out] <;> (first | rfl | (congr 1; omega))), by repeat (first | exact Below.refl _ _ | apply Below.drew | apply Below.al | apply Below.ex)⟩
      · have HF := Lib.hid (g3 (by omega))
        clear g1 g2 g3 g4 g5
        go_enter Try.func48, Try.ntmps48
        go_wp2_with (first
          | (go_at_call 35; (with_reducible refine (clamp_any _ _).mono ?_); rintro e w' ⟨rfl, rfl⟩)
          | (go_at_call 73; (with_reducible refine (fmag_any _ _ (by omega) (by omega)).mono ?_); rintro e w' ⟨rfl, rfl⟩)
          | (go_at_call 77; (with_reducible refine (mul64_any _ _ (by omega) (by omega) _).mono ?_); rintro e w' ⟨rfl, rfl⟩)
          | (go_at_call 78; (with_reducible refine (div64_any _ _ _ _ (by assumption) (by omega) (loW_lt _)).mono ?_); rintro e w1 ⟨rfl, hb⟩; obtain ⟨l, n, rfl⟩ := ext_of hb; clear hb))
        go_ret
        exact ⟨ret_int (by rw [HF.out] <;> (first | rfl | (congr 1; omega))), by repeat (first | exact Below.refl _ _ | apply Below.drew | apply Below.al | apply Below.ex)⟩

set_option maxHeartbeats 1000000 in
theorem muldiv_001 (a b c A B C : Int) (w : World) (ha : clamp a = A) (hb : clamp b = B) (hc : clamp c = C) (sa : 0 ≤ A) (sb : 0 ≤ B) (sc : C < 0) :
    Calls Try.prog 48 #[.int .i64 a, .int .i64 b, .int .i64 c] w fun e w' => e = .returned (.int .i64 (clamp (rdiv (-((A.natAbs * B.natAbs : Nat) : Int)) C.natAbs))) ∧ Below w.heap.size w w' := by
  have a1 := clamp_lo a
  have a2 := clamp_hi a
  have b1 := clamp_lo b
  have b2 := clamp_hi b
  have c1 := clamp_lo c
  have c2 := clamp_hi c
  rw [ha] at a1 a2
  rw [hb] at b1 b2
  rw [hc] at c1 c2
  have hc0 : (C == 0) = false := by simp; omega
  have dA : decide (A < 0) = false := by simp; omega
  have dB : decide (B < 0) = false := by simp; omega
  have dC : decide (C < 0) = true := by simp; omega
  have hd : 0 < C.natAbs := by omega
  have hP : A.natAbs * B.natAbs ≤ 1208925819614629174706176 := Nat.mul_le_mul (show A.natAbs ≤ 1099511627776 by omega) (show B.natAbs ≤ 1099511627776 by omega)
  obtain ⟨f1, f2⟩ := md_facts (A.natAbs * B.natAbs) C.natAbs hd hP
  clear hP
  by_cases h1 : C.natAbs ≤ hiW (A.natAbs * B.natAbs)
  · have HF := Lib.hid (f1 h1).2
    clear f1 f2
    go_enter Try.func48, Try.ntmps48
    go_wp2_with (first
      | (go_at_call 35; (with_reducible refine (clamp_any _ _).mono ?_); rintro e w' ⟨rfl, rfl⟩)
      | (go_at_call 73; (with_reducible refine (fmag_any _ _ (by omega) (by omega)).mono ?_); rintro e w' ⟨rfl, rfl⟩)
      | (go_at_call 77; (with_reducible refine (mul64_any _ _ (by omega) (by omega) _).mono ?_); rintro e w' ⟨rfl, rfl⟩)
      | (go_at_call 78; (with_reducible refine (div64_any _ _ _ _ (by assumption) (by omega) (loW_lt _)).mono ?_); rintro e w1 ⟨rfl, hb⟩; obtain ⟨l, n, rfl⟩ := ext_of hb; clear hb))
    go_ret
    exact ⟨ret_int (by rw [HF.out]), by repeat (first | exact Below.refl _ _ | apply Below.drew | apply Below.al | apply Below.ex)⟩
  · have h1' : hiW (A.natAbs * B.natAbs) < C.natAbs := by omega
    obtain ⟨r1, q1, g1, g2, g3, g4, g5⟩ := f2 h1'
    clear f1 f2 h1
    by_cases h2 : 1099511627776 < dq (hiW (A.natAbs * B.natAbs)) (loW (A.natAbs * B.natAbs)) C.natAbs
    · have HF := Lib.hid (g1 h2).2
      clear g1 g2 g3 g4 g5
      go_enter Try.func48, Try.ntmps48
      go_wp2_with (first
        | (go_at_call 35; (with_reducible refine (clamp_any _ _).mono ?_); rintro e w' ⟨rfl, rfl⟩)
        | (go_at_call 73; (with_reducible refine (fmag_any _ _ (by omega) (by omega)).mono ?_); rintro e w' ⟨rfl, rfl⟩)
        | (go_at_call 77; (with_reducible refine (mul64_any _ _ (by omega) (by omega) _).mono ?_); rintro e w' ⟨rfl, rfl⟩)
        | (go_at_call 78; (with_reducible refine (div64_any _ _ _ _ (by assumption) (by omega) (loW_lt _)).mono ?_); rintro e w1 ⟨rfl, hb⟩; obtain ⟨l, n, rfl⟩ := ext_of hb; clear hb))
      go_ret
      exact ⟨ret_int (by rw [HF.out] <;> decide), by repeat (first | exact Below.refl _ _ | apply Below.drew | apply Below.al | apply Below.ex)⟩
    · by_cases h3 : C.natAbs < 2 * dr (hiW (A.natAbs * B.natAbs)) (loW (A.natAbs * B.natAbs)) C.natAbs
      · have HF := Lib.hid (g4 h3)
        clear g1 g2 g3 g4 g5
        go_enter Try.func48, Try.ntmps48
        go_wp2_with (first
          | (go_at_call 35; (with_reducible refine (clamp_any _ _).mono ?_); rintro e w' ⟨rfl, rfl⟩)
          | (go_at_call 73; (with_reducible refine (fmag_any _ _ (by omega) (by omega)).mono ?_); rintro e w' ⟨rfl, rfl⟩)
          | (go_at_call 77; (with_reducible refine (mul64_any _ _ (by omega) (by omega) _).mono ?_); rintro e w' ⟨rfl, rfl⟩)
          | (go_at_call 78; (with_reducible refine (div64_any _ _ _ _ (by assumption) (by omega) (loW_lt _)).mono ?_); rintro e w1 ⟨rfl, hb⟩; obtain ⟨l, n, rfl⟩ := ext_of hb; clear hb))
        go_ret
        exact ⟨ret_int (by rw [HF.out] <;> (first | rfl | (congr 1; omega))), by repeat (first | exact Below.refl _ _ | apply Below.drew | apply Below.al | apply Below.ex)⟩
      · have HF := Lib.hid (g5 (by omega))
        clear g1 g2 g3 g4 g5
        go_enter Try.func48, Try.ntmps48
        go_wp2_with (first
          | (go_at_call 35; (with_reducible refine (clamp_any _ _).mono ?_); rintro e w' ⟨rfl, rfl⟩)
          | (go_at_call 73; (with_reducible refine (fmag_any _ _ (by omega) (by omega)).mono ?_); rintro e w' ⟨rfl, rfl⟩)
          | (go_at_call 77; (with_reducible refine (mul64_any _ _ (by omega) (by omega) _).mono ?_); rintro e w' ⟨rfl, rfl⟩)
          | (go_at_call 78; (with_reducible refine (div64_any _ _ _ _ (by assumption) (by omega) (loW_lt _)).mono ?_); rintro e w1 ⟨rfl, hb⟩; obtain ⟨l, n, rfl⟩ := ext_of hb; clear hb))
        go_ret
        exact ⟨ret_int (by rw [HF.out] <;> (first | rfl | (congr 1; omega))), by repeat (first | exact Below.refl _ _ | apply Below.drew | apply Below.al | apply Below.ex)⟩

set_option maxHeartbeats 1000000 in
theorem muldiv_010 (a b c A B C : Int) (w : World) (ha : clamp a = A) (hb : clamp b = B) (hc : clamp c = C) (sa : 0 ≤ A) (sb : B < 0) (sc : 0 < C) :
    Calls Try.prog 48 #[.int .i64 a, .int .i64 b, .int .i64 c] w fun e w' => e = .returned (.int .i64 (clamp (rdiv (-((A.natAbs * B.natAbs : Nat) : Int)) C.natAbs))) ∧ Below w.heap.size w w' := by
  have a1 := clamp_lo a
  have a2 := clamp_hi a
  have b1 := clamp_lo b
  have b2 := clamp_hi b
  have c1 := clamp_lo c
  have c2 := clamp_hi c
  rw [ha] at a1 a2
  rw [hb] at b1 b2
  rw [hc] at c1 c2
  have hc0 : (C == 0) = false := by simp; omega
  have dA : decide (A < 0) = false := by simp; omega
  have dB : decide (B < 0) = true := by simp; omega
  have dC : decide (C < 0) = false := by simp; omega
  have hd : 0 < C.natAbs := by omega
  have hP : A.natAbs * B.natAbs ≤ 1208925819614629174706176 := Nat.mul_le_mul (show A.natAbs ≤ 1099511627776 by omega) (show B.natAbs ≤ 1099511627776 by omega)
  obtain ⟨f1, f2⟩ := md_facts (A.natAbs * B.natAbs) C.natAbs hd hP
  clear hP
  by_cases h1 : C.natAbs ≤ hiW (A.natAbs * B.natAbs)
  · have HF := Lib.hid (f1 h1).2
    clear f1 f2
    go_enter Try.func48, Try.ntmps48
    go_wp2_with (first
      | (go_at_call 35; (with_reducible refine (clamp_any _ _).mono ?_); rintro e w' ⟨rfl, rfl⟩)
      | (go_at_call 73; (with_reducible refine (fmag_any _ _ (by omega) (by omega)).mono ?_); rintro e w' ⟨rfl, rfl⟩)
      | (go_at_call 77; (with_reducible refine (mul64_any _ _ (by omega) (by omega) _).mono ?_); rintro e w' ⟨rfl, rfl⟩)
      | (go_at_call 78; (with_reducible refine (div64_any _ _ _ _ (by assumption) (by omega) (loW_lt _)).mono ?_); rintro e w1 ⟨rfl, hb⟩; obtain ⟨l, n, rfl⟩ := ext_of hb; clear hb))
    go_ret
    exact ⟨ret_int (by rw [HF.out]), by repeat (first | exact Below.refl _ _ | apply Below.drew | apply Below.al | apply Below.ex)⟩
  · have h1' : hiW (A.natAbs * B.natAbs) < C.natAbs := by omega
    obtain ⟨r1, q1, g1, g2, g3, g4, g5⟩ := f2 h1'
    clear f1 f2 h1
    by_cases h2 : 1099511627776 < dq (hiW (A.natAbs * B.natAbs)) (loW (A.natAbs * B.natAbs)) C.natAbs
    · have HF := Lib.hid (g1 h2).2
      clear g1 g2 g3 g4 g5
      go_enter Try.func48, Try.ntmps48
      go_wp2_with (first
        | (go_at_call 35; (with_reducible refine (clamp_any _ _).mono ?_); rintro e w' ⟨rfl, rfl⟩)
        | (go_at_call 73; (with_reducible refine (fmag_any _ _ (by omega) (by omega)).mono ?_); rintro e w' ⟨rfl, rfl⟩)
        | (go_at_call 77; (with_reducible refine (mul64_any _ _ (by omega) (by omega) _).mono ?_); rintro e w' ⟨rfl, rfl⟩)
        | (go_at_call 78; (with_reducible refine (div64_any _ _ _ _ (by assumption) (by omega) (loW_lt _)).mono ?_); rintro e w1 ⟨rfl, hb⟩; obtain ⟨l, n, rfl⟩ := ext_of hb; clear hb))
      go_ret
      exact ⟨ret_int (by rw [HF.out] <;> decide), by repeat (first | exact Below.refl _ _ | apply Below.drew | apply Below.al | apply Below.ex)⟩
    · by_cases h3 : C.natAbs < 2 * dr (hiW (A.natAbs * B.natAbs)) (loW (A.natAbs * B.natAbs)) C.natAbs
      · have HF := Lib.hid (g4 h3)
        clear g1 g2 g3 g4 g5
        go_enter Try.func48, Try.ntmps48
        go_wp2_with (first
          | (go_at_call 35; (with_reducible refine (clamp_any _ _).mono ?_); rintro e w' ⟨rfl, rfl⟩)
          | (go_at_call 73; (with_reducible refine (fmag_any _ _ (by omega) (by omega)).mono ?_); rintro e w' ⟨rfl, rfl⟩)
          | (go_at_call 77; (with_reducible refine (mul64_any _ _ (by omega) (by omega) _).mono ?_); rintro e w' ⟨rfl, rfl⟩)
          | (go_at_call 78; (with_reducible refine (div64_any _ _ _ _ (by assumption) (by omega) (loW_lt _)).mono ?_); rintro e w1 ⟨rfl, hb⟩; obtain ⟨l, n, rfl⟩ := ext_of hb; clear hb))
        go_ret
        exact ⟨ret_int (by rw [HF.out] <;> (first | rfl | (congr 1; omega))), by repeat (first | exact Below.refl _ _ | apply Below.drew | apply Below.al | apply Below.ex)⟩
      · have HF := Lib.hid (g5 (by omega))
        clear g1 g2 g3 g4 g5
        go_enter Try.func48, Try.ntmps48
        go_wp2_with (first
          | (go_at_call 35; (with_reducible refine (clamp_any _ _).mono ?_); rintro e w' ⟨rfl, rfl⟩)
          | (go_at_call 73; (with_reducible refine (fmag_any _ _ (by omega) (by omega)).mono ?_); rintro e w' ⟨rfl, rfl⟩)
          | (go_at_call 77; (with_reducible refine (mul64_any _ _ (by omega) (by omega) _).mono ?_); rintro e w' ⟨rfl, rfl⟩)
          | (go_at_call 78; (with_reducible refine (div64_any _ _ _ _ (by assumption) (by omega) (loW_lt _)).mono ?_); rintro e w1 ⟨rfl, hb⟩; obtain ⟨l, n, rfl⟩ := ext_of hb; clear hb))
        go_ret
        exact ⟨ret_int (by rw [HF.out] <;> (first | rfl | (congr 1; omega))), by repeat (first | exact Below.refl _ _ | apply Below.drew | apply Below.al | apply Below.ex)⟩

set_option maxHeartbeats 1000000 in
theorem muldiv_011 (a b c A B C : Int) (w : World) (ha : clamp a = A) (hb : clamp b = B) (hc : clamp c = C) (sa : 0 ≤ A) (sb : B < 0) (sc : C < 0) :
    Calls Try.prog 48 #[.int .i64 a, .int .i64 b, .int .i64 c] w fun e w' => e = .returned (.int .i64 (clamp (rdiv ((A.natAbs * B.natAbs : Nat) : Int) C.natAbs))) ∧ Below w.heap.size w w' := by
  have a1 := clamp_lo a
  have a2 := clamp_hi a
  have b1 := clamp_lo b
  have b2 := clamp_hi b
  have c1 := clamp_lo c
  have c2 := clamp_hi c
  rw [ha] at a1 a2
  rw [hb] at b1 b2
  rw [hc] at c1 c2
  have hc0 : (C == 0) = false := by simp; omega
  have dA : decide (A < 0) = false := by simp; omega
  have dB : decide (B < 0) = true := by simp; omega
  have dC : decide (C < 0) = true := by simp; omega
  have hd : 0 < C.natAbs := by omega
  have hP : A.natAbs * B.natAbs ≤ 1208925819614629174706176 := Nat.mul_le_mul (show A.natAbs ≤ 1099511627776 by omega) (show B.natAbs ≤ 1099511627776 by omega)
  obtain ⟨f1, f2⟩ := md_facts (A.natAbs * B.natAbs) C.natAbs hd hP
  clear hP
  by_cases h1 : C.natAbs ≤ hiW (A.natAbs * B.natAbs)
  · have HF := Lib.hid (f1 h1).1
    clear f1 f2
    go_enter Try.func48, Try.ntmps48
    go_wp2_with (first
      | (go_at_call 35; (with_reducible refine (clamp_any _ _).mono ?_); rintro e w' ⟨rfl, rfl⟩)
      | (go_at_call 73; (with_reducible refine (fmag_any _ _ (by omega) (by omega)).mono ?_); rintro e w' ⟨rfl, rfl⟩)
      | (go_at_call 77; (with_reducible refine (mul64_any _ _ (by omega) (by omega) _).mono ?_); rintro e w' ⟨rfl, rfl⟩)
      | (go_at_call 78; (with_reducible refine (div64_any _ _ _ _ (by assumption) (by omega) (loW_lt _)).mono ?_); rintro e w1 ⟨rfl, hb⟩; obtain ⟨l, n, rfl⟩ := ext_of hb; clear hb))
    go_ret
    exact ⟨ret_int (by rw [HF.out]), by repeat (first | exact Below.refl _ _ | apply Below.drew | apply Below.al | apply Below.ex)⟩
  · have h1' : hiW (A.natAbs * B.natAbs) < C.natAbs := by omega
    obtain ⟨r1, q1, g1, g2, g3, g4, g5⟩ := f2 h1'
    clear f1 f2 h1
    by_cases h2 : 1099511627776 < dq (hiW (A.natAbs * B.natAbs)) (loW (A.natAbs * B.natAbs)) C.natAbs
    · have HF := Lib.hid (g1 h2).1
      clear g1 g2 g3 g4 g5
      go_enter Try.func48, Try.ntmps48
      go_wp2_with (first
        | (go_at_call 35; (with_reducible refine (clamp_any _ _).mono ?_); rintro e w' ⟨rfl, rfl⟩)
        | (go_at_call 73; (with_reducible refine (fmag_any _ _ (by omega) (by omega)).mono ?_); rintro e w' ⟨rfl, rfl⟩)
        | (go_at_call 77; (with_reducible refine (mul64_any _ _ (by omega) (by omega) _).mono ?_); rintro e w' ⟨rfl, rfl⟩)
        | (go_at_call 78; (with_reducible refine (div64_any _ _ _ _ (by assumption) (by omega) (loW_lt _)).mono ?_); rintro e w1 ⟨rfl, hb⟩; obtain ⟨l, n, rfl⟩ := ext_of hb; clear hb))
      go_ret
      exact ⟨ret_int (by rw [HF.out] <;> decide), by repeat (first | exact Below.refl _ _ | apply Below.drew | apply Below.al | apply Below.ex)⟩
    · by_cases h3 : C.natAbs ≤ 2 * dr (hiW (A.natAbs * B.natAbs)) (loW (A.natAbs * B.natAbs)) C.natAbs
      · have HF := Lib.hid (g2 h3)
        clear g1 g2 g3 g4 g5
        go_enter Try.func48, Try.ntmps48
        go_wp2_with (first
          | (go_at_call 35; (with_reducible refine (clamp_any _ _).mono ?_); rintro e w' ⟨rfl, rfl⟩)
          | (go_at_call 73; (with_reducible refine (fmag_any _ _ (by omega) (by omega)).mono ?_); rintro e w' ⟨rfl, rfl⟩)
          | (go_at_call 77; (with_reducible refine (mul64_any _ _ (by omega) (by omega) _).mono ?_); rintro e w' ⟨rfl, rfl⟩)
          | (go_at_call 78; (with_reducible refine (div64_any _ _ _ _ (by assumption) (by omega) (loW_lt _)).mono ?_); rintro e w1 ⟨rfl, hb⟩; obtain ⟨l, n, rfl⟩ := ext_of hb; clear hb))
        go_ret
        exact ⟨ret_int (by rw [HF.out] <;> (first | rfl | (congr 1; omega))), by repeat (first | exact Below.refl _ _ | apply Below.drew | apply Below.al | apply Below.ex)⟩
      · have HF := Lib.hid (g3 (by omega))
        clear g1 g2 g3 g4 g5
        go_enter Try.func48, Try.ntmps48
        go_wp2_with (first
          | (go_at_call 35; (with_reducible refine (clamp_any _ _).mono ?_); rintro e w' ⟨rfl, rfl⟩)
          | (go_at_call 73; (with_reducible refine (fmag_any _ _ (by omega) (by omega)).mono ?_); rintro e w' ⟨rfl, rfl⟩)
          | (go_at_call 77; (with_reducible refine (mul64_any _ _ (by omega) (by omega) _).mono ?_); rintro e w' ⟨rfl, rfl⟩)
          | (go_at_call 78; (with_reducible refine (div64_any _ _ _ _ (by assumption) (by omega) (loW_lt _)).mono ?_); rintro e w1 ⟨rfl, hb⟩; obtain ⟨l, n, rfl⟩ := ext_of hb; clear hb))
        go_ret
        exact ⟨ret_int (by rw [HF.out] <;> (first | rfl | (congr 1; omega))), by repeat (first | exact Below.refl _ _ | apply Below.drew | apply Below.al | apply Below.ex)⟩

set_option maxHeartbeats 1000000 in
theorem muldiv_100 (a b c A B C : Int) (w : World) (ha : clamp a = A) (hb : clamp b = B) (hc : clamp c = C) (sa : A < 0) (sb : 0 ≤ B) (sc : 0 < C) :
    Calls Try.prog 48 #[.int .i64 a, .int .i64 b, .int .i64 c] w fun e w' => e = .returned (.int .i64 (clamp (rdiv (-((A.natAbs * B.natAbs : Nat) : Int)) C.natAbs))) ∧ Below w.heap.size w w' := by
  have a1 := clamp_lo a
  have a2 := clamp_hi a
  have b1 := clamp_lo b
  have b2 := clamp_hi b
  have c1 := clamp_lo c
  have c2 := clamp_hi c
  rw [ha] at a1 a2
  rw [hb] at b1 b2
  rw [hc] at c1 c2
  have hc0 : (C == 0) = false := by simp; omega
  have dA : decide (A < 0) = true := by simp; omega
  have dB : decide (B < 0) = false := by simp; omega
  have dC : decide (C < 0) = false := by simp; omega
  have hd : 0 < C.natAbs := by omega
  have hP : A.natAbs * B.natAbs ≤ 1208925819614629174706176 := Nat.mul_le_mul (show A.natAbs ≤ 1099511627776 by omega) (show B.natAbs ≤ 1099511627776 by omega)
  obtain ⟨f1, f2⟩ := md_facts (A.natAbs * B.natAbs) C.natAbs hd hP
  clear hP
  by_cases h1 : C.natAbs ≤ hiW (A.natAbs * B.natAbs)
  · have HF := Lib.hid (f1 h1).2
    clear f1 f2
    go_enter Try.func48, Try.ntmps48
    go_wp2_with (first
      | (go_at_call 35; (with_reducible refine (clamp_any _ _).mono ?_); rintro e w' ⟨rfl, rfl⟩)
      | (go_at_call 73; (with_reducible refine (fmag_any _ _ (by omega) (by omega)).mono ?_); rintro e w' ⟨rfl, rfl⟩)
      | (go_at_call 77; (with_reducible refine (mul64_any _ _ (by omega) (by omega) _).mono ?_); rintro e w' ⟨rfl, rfl⟩)
      | (go_at_call 78; (with_reducible refine (div64_any _ _ _ _ (by assumption) (by omega) (loW_lt _)).mono ?_); rintro e w1 ⟨rfl, hb⟩; obtain ⟨l, n, rfl⟩ := ext_of hb; clear hb))
    go_ret
    exact ⟨ret_int (by rw [HF.out]), by repeat (first | exact Below.refl _ _ | apply Below.drew | apply Below.al | apply Below.ex)⟩
  · have h1' : hiW (A.natAbs * B.natAbs) < C.natAbs := by omega
    obtain ⟨r1, q1, g1, g2, g3, g4, g5⟩ := f2 h1'
    clear f1 f2 h1
    by_cases h2 : 1099511627776 < dq (hiW (A.natAbs * B.natAbs)) (loW (A.natAbs * B.natAbs)) C.natAbs
    · have HF := Lib.hid (g1 h2).2
      clear g1 g2 g3 g4 g5
      go_enter Try.func48, Try.ntmps48
      go_wp2_with (first
        | (go_at_call 35; (with_reducible refine (clamp_any _ _).mono ?_); rintro e w' ⟨rfl, rfl⟩)
        | (go_at_call 73; (with_reducible refine (fmag_any _ _ (by omega) (by omega)).mono ?_); rintro e w' ⟨rfl, rfl⟩)
        | (go_at_call 77; (with_reducible refine (mul64_any _ _ (by omega) (by omega) _).mono ?_); rintro e w' ⟨rfl, rfl⟩)
        | (go_at_call 78; (with_reducible refine (div64_any _ _ _ _ (by assumption) (by omega) (loW_lt _)).mono ?_); rintro e w1 ⟨rfl, hb⟩; obtain ⟨l, n, rfl⟩ := ext_of hb; clear hb))
      go_ret
      exact ⟨ret_int (by rw [HF.out] <;> decide), by repeat (first | exact Below.refl _ _ | apply Below.drew | apply Below.al | apply Below.ex)⟩
    · by_cases h3 : C.natAbs < 2 * dr (hiW (A.natAbs * B.natAbs)) (loW (A.natAbs * B.natAbs)) C.natAbs
      · have HF := Lib.hid (g4 h3)
        clear g1 g2 g3 g4 g5
        go_enter Try.func48, Try.ntmps48
        go_wp2_with (first
          | (go_at_call 35; (with_reducible refine (clamp_any _ _).mono ?_); rintro e w' ⟨rfl, rfl⟩)
          | (go_at_call 73; (with_reducible refine (fmag_any _ _ (by omega) (by omega)).mono ?_); rintro e w' ⟨rfl, rfl⟩)
          | (go_at_call 77; (with_reducible refine (mul64_any _ _ (by omega) (by omega) _).mono ?_); rintro e w' ⟨rfl, rfl⟩)
          | (go_at_call 78; (with_reducible refine (div64_any _ _ _ _ (by assumption) (by omega) (loW_lt _)).mono ?_); rintro e w1 ⟨rfl, hb⟩; obtain ⟨l, n, rfl⟩ := ext_of hb; clear hb))
        go_ret
        exact ⟨ret_int (by rw [HF.out] <;> (first | rfl | (congr 1; omega))), by repeat (first | exact Below.refl _ _ | apply Below.drew | apply Below.al | apply Below.ex)⟩
      · have HF := Lib.hid (g5 (by omega))
        clear g1 g2 g3 g4 g5
        go_enter Try.func48, Try.ntmps48
        go_wp2_with (first
          | (go_at_call 35; (with_reducible refine (clamp_any _ _).mono ?_); rintro e w' ⟨rfl, rfl⟩)
          | (go_at_call 73; (with_reducible refine (fmag_any _ _ (by omega) (by omega)).mono ?_); rintro e w' ⟨rfl, rfl⟩)
          | (go_at_call 77; (with_reducible refine (mul64_any _ _ (by omega) (by omega) _).mono ?_); rintro e w' ⟨rfl, rfl⟩)
          | (go_at_call 78; (with_reducible refine (div64_any _ _ _ _ (by assumption) (by omega) (loW_lt _)).mono ?_); rintro e w1 ⟨rfl, hb⟩; obtain ⟨l, n, rfl⟩ := ext_of hb; clear hb))
        go_ret
        exact ⟨ret_int (by rw [HF.out] <;> (first | rfl | (congr 1; omega))), by repeat (first | exact Below.refl _ _ | apply Below.drew | apply Below.al | apply Below.ex)⟩

set_option maxHeartbeats 1000000 in
theorem muldiv_101 (a b c A B C : Int) (w : World) (ha : clamp a = A) (hb : clamp b = B) (hc : clamp c = C) (sa : A < 0) (sb : 0 ≤ B) (sc : C < 0) :
    Calls Try.prog 48 #[.int .i64 a, .int .i64 b, .int .i64 c] w fun e w' => e = .returned (.int .i64 (clamp (rdiv ((A.natAbs * B.natAbs : Nat) : Int) C.natAbs))) ∧ Below w.heap.size w w' := by
  have a1 := clamp_lo a
  have a2 := clamp_hi a
  have b1 := clamp_lo b
  have b2 := clamp_hi b
  have c1 := clamp_lo c
  have c2 := clamp_hi c
  rw [ha] at a1 a2
  rw [hb] at b1 b2
  rw [hc] at c1 c2
  have hc0 : (C == 0) = false := by simp; omega
  have dA : decide (A < 0) = true := by simp; omega
  have dB : decide (B < 0) = false := by simp; omega
  have dC : decide (C < 0) = true := by simp; omega
  have hd : 0 < C.natAbs := by omega
  have hP : A.natAbs * B.natAbs ≤ 1208925819614629174706176 := Nat.mul_le_mul (show A.natAbs ≤ 1099511627776 by omega) (show B.natAbs ≤ 1099511627776 by omega)
  obtain ⟨f1, f2⟩ := md_facts (A.natAbs * B.natAbs) C.natAbs hd hP
  clear hP
  by_cases h1 : C.natAbs ≤ hiW (A.natAbs * B.natAbs)
  · have HF := Lib.hid (f1 h1).1
    clear f1 f2
    go_enter Try.func48, Try.ntmps48
    go_wp2_with (first
      | (go_at_call 35; (with_reducible refine (clamp_any _ _).mono ?_); rintro e w' ⟨rfl, rfl⟩)
      | (go_at_call 73; (with_reducible refine (fmag_any _ _ (by omega) (by omega)).mono ?_); rintro e w' ⟨rfl, rfl⟩)
      | (go_at_call 77; (with_reducible refine (mul64_any _ _ (by omega) (by omega) _).mono ?_); rintro e w' ⟨rfl, rfl⟩)
      | (go_at_call 78; (with_reducible refine (div64_any _ _ _ _ (by assumption) (by omega) (loW_lt _)).mono ?_); rintro e w1 ⟨rfl, hb⟩; obtain ⟨l, n, rfl⟩ := ext_of hb; clear hb))
    go_ret
    exact ⟨ret_int (by rw [HF.out]), by repeat (first | exact Below.refl _ _ | apply Below.drew | apply Below.al | apply Below.ex)⟩
  · have h1' : hiW (A.natAbs * B.natAbs) < C.natAbs := by omega
    obtain ⟨r1, q1, g1, g2, g3, g4, g5⟩ := f2 h1'
    clear f1 f2 h1
    by_cases h2 : 1099511627776 < dq (hiW (A.natAbs * B.natAbs)) (loW (A.natAbs * B.natAbs)) C.natAbs
    · have HF := Lib.hid (g1 h2).1
      clear g1 g2 g3 g4 g5
      go_enter Try.func48, Try.ntmps48
      go_wp2_with (first
        | (go_at_call 35; (with_reducible refine (clamp_any _ _).mono ?_); rintro e w' ⟨rfl, rfl⟩)
        | (go_at_call 73; (with_reducible refine (fmag_any _ _ (by omega) (by omega)).mono ?_); rintro e w' ⟨rfl, rfl⟩)
        | (go_at_call 77; (with_reducible refine (mul64_any _ _ (by omega) (by omega) _).mono ?_); rintro e w' ⟨rfl, rfl⟩)
        | (go_at_call 78; (with_reducible refine (div64_any _ _ _ _ (by assumption) (by omega) (loW_lt _)).mono ?_); rintro e w1 ⟨rfl, hb⟩; obtain ⟨l, n, rfl⟩ := ext_of hb; clear hb))
      go_ret
      exact ⟨ret_int (by rw [HF.out] <;> decide), by repeat (first | exact Below.refl _ _ | apply Below.drew | apply Below.al | apply Below.ex)⟩
    · by_cases h3 : C.natAbs ≤ 2 * dr (hiW (A.natAbs * B.natAbs)) (loW (A.natAbs * B.natAbs)) C.natAbs
      · have HF := Lib.hid (g2 h3)
        clear g1 g2 g3 g4 g5
        go_enter Try.func48, Try.ntmps48
        go_wp2_with (first
          | (go_at_call 35; (with_reducible refine (clamp_any _ _).mono ?_); rintro e w' ⟨rfl, rfl⟩)
          | (go_at_call 73; (with_reducible refine (fmag_any _ _ (by omega) (by omega)).mono ?_); rintro e w' ⟨rfl, rfl⟩)
          | (go_at_call 77; (with_reducible refine (mul64_any _ _ (by omega) (by omega) _).mono ?_); rintro e w' ⟨rfl, rfl⟩)
          | (go_at_call 78; (with_reducible refine (div64_any _ _ _ _ (by assumption) (by omega) (loW_lt _)).mono ?_); rintro e w1 ⟨rfl, hb⟩; obtain ⟨l, n, rfl⟩ := ext_of hb; clear hb))
        go_ret
        exact ⟨ret_int (by rw [HF.out] <;> (first | rfl | (congr 1; omega))), by repeat (first | exact Below.refl _ _ | apply Below.drew | apply Below.al | apply Below.ex)⟩
      · have HF := Lib.hid (g3 (by omega))
        clear g1 g2 g3 g4 g5
        go_enter Try.func48, Try.ntmps48
        go_wp2_with (first
          | (go_at_call 35; (with_reducible refine (clamp_any _ _).mono ?_); rintro e w' ⟨rfl, rfl⟩)
          | (go_at_call 73; (with_reducible refine (fmag_any _ _ (by omega) (by omega)).mono ?_); rintro e w' ⟨rfl, rfl⟩)
          | (go_at_call 77; (with_reducible refine (mul64_any _ _ (by omega) (by omega) _).mono ?_); rintro e w' ⟨rfl, rfl⟩)
          | (go_at_call 78; (with_reducible refine (div64_any _ _ _ _ (by assumption) (by omega) (loW_lt _)).mono ?_); rintro e w1 ⟨rfl, hb⟩; obtain ⟨l, n, rfl⟩ := ext_of hb; clear hb))
        go_ret
        exact ⟨ret_int (by rw [HF.out] <;> (first | rfl | (congr 1; omega))), by repeat (first | exact Below.refl _ _ | apply Below.drew | apply Below.al | apply Below.ex)⟩

set_option maxHeartbeats 1000000 in
theorem muldiv_110 (a b c A B C : Int) (w : World) (ha : clamp a = A) (hb : clamp b = B) (hc : clamp c = C) (sa : A < 0) (sb : B < 0) (sc : 0 < C) :
    Calls Try.prog 48 #[.int .i64 a, .int .i64 b, .int .i64 c] w fun e w' => e = .returned (.int .i64 (clamp (rdiv ((A.natAbs * B.natAbs : Nat) : Int) C.natAbs))) ∧ Below w.heap.size w w' := by
  have a1 := clamp_lo a
  have a2 := clamp_hi a
  have b1 := clamp_lo b
  have b2 := clamp_hi b
  have c1 := clamp_lo c
  have c2 := clamp_hi c
  rw [ha] at a1 a2
  rw [hb] at b1 b2
  rw [hc] at c1 c2
  have hc0 : (C == 0) = false := by simp; omega
  have dA : decide (A < 0) = true := by simp; omega
  have dB : decide (B < 0) = true := by simp; omega
  have dC : decide (C < 0) = false := by simp; omega
  have hd : 0 < C.natAbs := by omega
  have hP : A.natAbs * B.natAbs ≤ 1208925819614629174706176 := Nat.mul_le_mul (show A.natAbs ≤ 1099511627776 by omega) (show B.natAbs ≤ 1099511627776 by omega)
  obtain ⟨f1, f2⟩ := md_facts (A.natAbs * B.natAbs) C.natAbs hd hP
  clear hP
  by_cases h1 : C.natAbs ≤ hiW (A.natAbs * B.natAbs)
  · have HF := Lib.hid (f1 h1).1
    clear f1 f2
    go_enter Try.func48, Try.ntmps48
    go_wp2_with (first
      | (go_at_call 35; (with_reducible refine (clamp_any _ _).mono ?_); rintro e w' ⟨rfl, rfl⟩)
      | (go_at_call 73; (with_reducible refine (fmag_any _ _ (by omega) (by omega)).mono ?_); rintro e w' ⟨rfl, rfl⟩)
      | (go_at_call 77; (with_reducible refine (mul64_any _ _ (by omega) (by omega) _).mono ?_); rintro e w' ⟨rfl, rfl⟩)
      | (go_at_call 78; (with_reducible refine (div64_any _ _ _ _ (by assumption) (by omega) (loW_lt _)).mono ?_); rintro e w1 ⟨rfl, hb⟩; obtain ⟨l, n, rfl⟩ := ext_of hb; clear hb))
    go_ret
    exact ⟨ret_int (by rw [HF.out]), by repeat (first | exact Below.refl _ _ | apply Below.drew | apply Below.al | apply Below.ex)⟩
  · have h1' : hiW (A.natAbs * B.natAbs) < C.natAbs := by omega
    obtain ⟨r1, q1, g1, g2, g3, g4, g5⟩ := f2 h1'
    clear f1 f2 h1
    by_cases h2 : 1099511627776 < dq (hiW (A.natAbs * B.natAbs)) (loW (A.natAbs * B.natAbs)) C.natAbs
    · have HF := Lib.hid (g1 h2).1
      clear g1 g2 g3 g4 g5
      go_enter Try.func48, Try.ntmps48
      go_wp2_with (first
        | (go_at_call 35; (with_reducible refine (clamp_any _ _).mono ?_); rintro e w' ⟨rfl, rfl⟩)
        | (go_at_call 73; (with_reducible refine (fmag_any _ _ (by omega) (by omega)).mono ?_); rintro e w' ⟨rfl, rfl⟩)
        | (go_at_call 77; (with_reducible refine (mul64_any _ _ (by omega) (by omega) _).mono ?_); rintro e w' ⟨rfl, rfl⟩)
        | (go_at_call 78; (with_reducible refine (div64_any _ _ _ _ (by assumption) (by omega) (loW_lt _)).mono ?_); rintro e w1 ⟨rfl, hb⟩; obtain ⟨l, n, rfl⟩ := ext_of hb; clear hb))
      go_ret
      exact ⟨ret_int (by rw [HF.out] <;> decide), by repeat (first | exact Below.refl _ _ | apply Below.drew | apply Below.al | apply Below.ex)⟩
    · by_cases h3 : C.natAbs ≤ 2 * dr (hiW (A.natAbs * B.natAbs)) (loW (A.natAbs * B.natAbs)) C.natAbs
      · have HF := Lib.hid (g2 h3)
        clear g1 g2 g3 g4 g5
        go_enter Try.func48, Try.ntmps48
        go_wp2_with (first
          | (go_at_call 35; (with_reducible refine (clamp_any _ _).mono ?_); rintro e w' ⟨rfl, rfl⟩)
          | (go_at_call 73; (with_reducible refine (fmag_any _ _ (by omega) (by omega)).mono ?_); rintro e w' ⟨rfl, rfl⟩)
          | (go_at_call 77; (with_reducible refine (mul64_any _ _ (by omega) (by omega) _).mono ?_); rintro e w' ⟨rfl, rfl⟩)
          | (go_at_call 78; (with_reducible refine (div64_any _ _ _ _ (by assumption) (by omega) (loW_lt _)).mono ?_); rintro e w1 ⟨rfl, hb⟩; obtain ⟨l, n, rfl⟩ := ext_of hb; clear hb))
        go_ret
        exact ⟨ret_int (by rw [HF.out] <;> (first | rfl | (congr 1; omega))), by repeat (first | exact Below.refl _ _ | apply Below.drew | apply Below.al | apply Below.ex)⟩
      · have HF := Lib.hid (g3 (by omega))
        clear g1 g2 g3 g4 g5
        go_enter Try.func48, Try.ntmps48
        go_wp2_with (first
          | (go_at_call 35; (with_reducible refine (clamp_any _ _).mono ?_); rintro e w' ⟨rfl, rfl⟩)
          | (go_at_call 73; (with_reducible refine (fmag_any _ _ (by omega) (by omega)).mono ?_); rintro e w' ⟨rfl, rfl⟩)
          | (go_at_call 77; (with_reducible refine (mul64_any _ _ (by omega) (by omega) _).mono ?_); rintro e w' ⟨rfl, rfl⟩)
          | (go_at_call 78; (with_reducible refine (div64_any _ _ _ _ (by assumption) (by omega) (loW_lt _)).mono ?_); rintro e w1 ⟨rfl, hb⟩; obtain ⟨l, n, rfl⟩ := ext_of hb; clear hb))
        go_ret
        exact ⟨ret_int (by rw [HF.out] <;> (first | rfl | (congr 1; omega))), by repeat (first | exact Below.refl _ _ | apply Below.drew | apply Below.al | apply Below.ex)⟩

set_option maxHeartbeats 1000000 in
theorem muldiv_111 (a b c A B C : Int) (w : World) (ha : clamp a = A) (hb : clamp b = B) (hc : clamp c = C) (sa : A < 0) (sb : B < 0) (sc : C < 0) :
    Calls Try.prog 48 #[.int .i64 a, .int .i64 b, .int .i64 c] w fun e w' => e = .returned (.int .i64 (clamp (rdiv (-((A.natAbs * B.natAbs : Nat) : Int)) C.natAbs))) ∧ Below w.heap.size w w' := by
  have a1 := clamp_lo a
  have a2 := clamp_hi a
  have b1 := clamp_lo b
  have b2 := clamp_hi b
  have c1 := clamp_lo c
  have c2 := clamp_hi c
  rw [ha] at a1 a2
  rw [hb] at b1 b2
  rw [hc] at c1 c2
  have hc0 : (C == 0) = false := by simp; omega
  have dA : decide (A < 0) = true := by simp; omega
  have dB : decide (B < 0) = true := by simp; omega
  have dC : decide (C < 0) = true := by simp; omega
  have hd : 0 < C.natAbs := by omega
  have hP : A.natAbs * B.natAbs ≤ 1208925819614629174706176 := Nat.mul_le_mul (show A.natAbs ≤ 1099511627776 by omega) (show B.natAbs ≤ 1099511627776 by omega)
  obtain ⟨f1, f2⟩ := md_facts (A.natAbs * B.natAbs) C.natAbs hd hP
  clear hP
  by_cases h1 : C.natAbs ≤ hiW (A.natAbs * B.natAbs)
  · have HF := Lib.hid (f1 h1).2
    clear f1 f2
    go_enter Try.func48, Try.ntmps48
    go_wp2_with (first
      | (go_at_call 35; (with_reducible refine (clamp_any _ _).mono ?_); rintro e w' ⟨rfl, rfl⟩)
      | (go_at_call 73; (with_reducible refine (fmag_any _ _ (by omega) (by omega)).mono ?_); rintro e w' ⟨rfl, rfl⟩)
      | (go_at_call 77; (with_reducible refine (mul64_any _ _ (by omega) (by omega) _).mono ?_); rintro e w' ⟨rfl, rfl⟩)
      | (go_at_call 78; (with_reducible refine (div64_any _ _ _ _ (by assumption) (by omega) (loW_lt _)).mono ?_); rintro e w1 ⟨rfl, hb⟩; obtain ⟨l, n, rfl⟩ := ext_of hb; clear hb))
    go_ret
    exact ⟨ret_int (by rw [HF.out]), by repeat (first | exact Below.refl _ _ | apply Below.drew | apply Below.al | apply Below.ex)⟩
  · have h1' : hiW (A.natAbs * B.natAbs) < C.natAbs := by omega
    obtain ⟨r1, q1, g1, g2, g3, g4, g5⟩ := f2 h1'
    clear f1 f2 h1
    by_cases h2 : 1099511627776 < dq (hiW (A.natAbs * B.natAbs)) (loW (A.natAbs * B.natAbs)) C.natAbs
    · have HF := Lib.hid (g1 h2).2
      clear g1 g2 g3 g4 g5
      go_enter Try.func48, Try.ntmps48
      go_wp2_with (first
        | (go_at_call 35; (with_reducible refine (clamp_any _ _).mono ?_); rintro e w' ⟨rfl, rfl⟩)
        | (go_at_call 73; (with_reducible refine (fmag_any _ _ (by omega) (by omega)).mono ?_); rintro e w' ⟨rfl, rfl⟩)
        | (go_at_call 77; (with_reducible refine (mul64_any _ _ (by omega) (by omega) _).mono ?_); rintro e w' ⟨rfl, rfl⟩)
        | (go_at_call 78; (with_reducible refine (div64_any _ _ _ _ (by assumption) (by omega) (loW_lt _)).mono ?_); rintro e w1 ⟨rfl, hb⟩; obtain ⟨l, n, rfl⟩ := ext_of hb; clear hb))
      go_ret
      exact ⟨ret_int (by rw [HF.out] <;> decide), by repeat (first | exact Below.refl _ _ | apply Below.drew | apply Below.al | apply Below.ex)⟩
    · by_cases h3 : C.natAbs < 2 * dr (hiW (A.natAbs * B.natAbs)) (loW (A.natAbs * B.natAbs)) C.natAbs
      · have HF := Lib.hid (g4 h3)
        clear g1 g2 g3 g4 g5
        go_enter Try.func48, Try.ntmps48
        go_wp2_with (first
          | (go_at_call 35; (with_reducible refine (clamp_any _ _).mono ?_); rintro e w' ⟨rfl, rfl⟩)
          | (go_at_call 73; (with_reducible refine (fmag_any _ _ (by omega) (by omega)).mono ?_); rintro e w' ⟨rfl, rfl⟩)
          | (go_at_call 77; (with_reducible refine (mul64_any _ _ (by omega) (by omega) _).mono ?_); rintro e w' ⟨rfl, rfl⟩)
          | (go_at_call 78; (with_reducible refine (div64_any _ _ _ _ (by assumption) (by omega) (loW_lt _)).mono ?_); rintro e w1 ⟨rfl, hb⟩; obtain ⟨l, n, rfl⟩ := ext_of hb; clear hb))
        go_ret
        exact ⟨ret_int (by rw [HF.out] <;> (first | rfl | (congr 1; omega))), by repeat (first | exact Below.refl _ _ | apply Below.drew | apply Below.al | apply Below.ex)⟩
      · have HF := Lib.hid (g5 (by omega))
        clear g1 g2 g3 g4 g5
        go_enter Try.func48, Try.ntmps48
        go_wp2_with (first
          | (go_at_call 35; (with_reducible refine (clamp_any _ _).mono ?_); rintro e w' ⟨rfl, rfl⟩)
          | (go_at_call 73; (with_reducible refine (fmag_any _ _ (by omega) (by omega)).mono ?_); rintro e w' ⟨rfl, rfl⟩)
          | (go_at_call 77; (with_reducible refine (mul64_any _ _ (by omega) (by omega) _).mono ?_); rintro e w' ⟨rfl, rfl⟩)
          | (go_at_call 78; (with_reducible refine (div64_any _ _ _ _ (by assumption) (by omega) (loW_lt _)).mono ?_); rintro e w1 ⟨rfl, hb⟩; obtain ⟨l, n, rfl⟩ := ext_of hb; clear hb))
        go_ret
        exact ⟨ret_int (by rw [HF.out] <;> (first | rfl | (congr 1; omega))), by repeat (first | exact Below.refl _ _ | apply Below.drew | apply Below.al | apply Below.ex)⟩
end Go.Proofs.Ytdnepccjgclgiaa
