/- border.From and border.To. -/
import Derived.Test.YtdnepccjgclgiaaBase
import Derived.Test.YtdnepccjgclgiaaFloat
import Derived.Laws.BitsAllLaws
namespace Go.Proofs.Ytdnepccjgclgiaa
open Go.RowKit Go.Proofs.Ytdnepccjgclgiaa.F

@[go_sem ↓] theorem run_fbits (b : Nat) (w : World) : (callFunc 72 #[.float .f64 b]).run Try.prog w = .ok (.value (.int .u64 (b : Nat))) w := by
  rw [run_callFunc_extern Try.func72 (by kernel_rfl) (by kernel_rfl) (by kernel_rfl) (e := Extern.MathFloatBits.float64bits) (by kernel_rfl)]
  rfl
@[go_sem ↓] theorem run_frombits (b : Nat) (w : World) : (callFunc 67 #[.int .u64 (b : Nat)]).run Try.prog w = .ok (.value (.float .f64 b)) w := by
  rw [run_callFunc_extern Try.func67 (by kernel_rfl) (by kernel_rfl) (by kernel_rfl) (e := Extern.MathFloatBits.float64frombits) (by kernel_rfl)]
  rfl
theorem run_trunc (s : Bool) {m j : Nat} (h : Norm m j) (w : World) : (callFunc 83 #[.float .f64 (wd s m j)]).run Try.prog w = .ok (.value (.float .f64 (Ieee.double.nearest s (m * 2 ^ j / unit) 0))) w := by
  rw [run_callFunc_extern Try.func83 (by kernel_rfl) (by kernel_rfl) (by kernel_rfl) (e := Extern.MathFloor.toIntegral "math.archTrunc" .zero) (by kernel_rfl)]
  have h1 : FloatKind.f64.decode (wd s m j) = .number s m ((j : Int) - 1074) := read_wd s h
  have h2 := integral_wd s h
  rw [read_wd s h] at h2
  have h3 : Extern.MathFloor.toIntegral "math.archTrunc" .zero #[.float .f64 (wd s m j)] = pure (.float .f64 (FloatKind.f64.encode ((Ieee.Datum.number s m ((j : Int) - 1074)).integral .zero))) := by
    rw [← h1]
    delta Extern.MathFloor.toIntegral
    show (match FloatKind.f64.decode (wd s m j) with
      | .nan s t => _
      | d => pure (Value.float .f64 (FloatKind.f64.encode (d.integral .zero)))) = _
    rw [h1]
  rw [h3, h2]
  rfl
theorem andNot_top (b : Nat) (hb : b < 2 ^ 64) : bits .andNot .u64 (b : Int) 9223372036854775808 = ((b % 2 ^ 63 : Nat) : Int) := by
  have := u64_andNot_nat b 9223372036854775808 hb (by decide)
  rw [show ((9223372036854775808 : Nat) : Int) = 9223372036854775808 from rfl] at this
  rw [this]
  congr 1
  exact Nat.and_two_pow_sub_one_eq_mod b 63

theorem abs_any (b : Nat) (hb : b < 2 ^ 64) (w : World) : Calls Try.prog 70 #[.float .f64 b] w fun e w' => e = .returned (.float .f64 (b % 2 ^ 63)) ∧ w = w' := by
  go_enter Try.func70, Try.ntmps70
  have h := andNot_top b hb
  obtain ⟨c, hc⟩ : ∃ c, b % 2 ^ 63 = c := ⟨_, rfl⟩
  rw [hc] at h ⊢
  clear hc
  go_wp2_with fail
  go_ret
  exact ⟨rfl, rfl⟩
theorem isNaN_any (b : Nat) (w : World) : Calls Try.prog 68 #[.float .f64 b] w fun e w' => e = .returned (.bool (FloatKind.f64.format.order b b != some .eq)) ∧ w = w' := by
  go_enter Try.func68, Try.ntmps68
  go_wp2_with fail
  go_ret
  exact ⟨rfl, rfl⟩
theorem isInf_any (b : Nat) (hb : b < 2 ^ 64) (w : World) : Calls Try.prog 69 #[.float .f64 b, .int .i64 0] w fun e w' => e = .returned (.bool (FloatKind.f64.format.order (b % 2 ^ 63) 9218868437227405311 == some .gt)) ∧ w = w' := by
  have h := fun w => abs_any b hb w
  obtain ⟨c, hc⟩ : ∃ c, b % 2 ^ 63 = c := ⟨_, rfl⟩
  rw [hc] at h ⊢
  clear hc
  have H := Lib.hid h
  clear h
  go_enter Try.func69, Try.ntmps69
  go_wp2_with fail
  with_reducible refine (H.out w).mono ?_
  rintro e _ ⟨rfl, rfl⟩
  go_wp2_with fail
  go_ret
  exact ⟨rfl, rfl⟩
theorem truncW (s : Bool) {m j : Nat} (h : Norm m j) (w : World) : Calls Try.prog 71 #[.float .f64 (wd s m j)] w fun e w' => e = .returned (.float .f64 (Ieee.double.nearest s (m * 2 ^ j / unit) 0)) ∧ w = w' := by
  have h1 := run_trunc s h
  obtain ⟨x, hx⟩ : ∃ x, wd s m j = x := ⟨_, rfl⟩
  obtain ⟨y, hy⟩ : ∃ y, Ieee.double.nearest s (m * 2 ^ j / unit) 0 = y := ⟨_, rfl⟩
  rw [hx, hy] at h1 ⊢
  clear hx hy h
  go_enter Try.func71, Try.ntmps71
  go_wp2_with fail
  go_ret
  exact ⟨rfl, rfl⟩

/-! ### What the words say -/
theorem order_self (s : Bool) {m j : Nat} (h : Norm m j) : FloatKind.f64.format.order (wd s m j) (wd s m j) = some .eq := by
  have h1 := order_wd s s h h
  have h2 := cmp_eq (sg s (m * 2 ^ j)) (sg s (m * 2 ^ j))
  rw [← h1, decide_eq_true rfl] at h2
  exact eq_of_beq h2
theorem wd_lt (s : Bool) {m j : Nat} (h : Norm m j) : wd s m j < 2 ^ 64 := by
  have := h.fin
  unfold wd Ieee.Format.word
  rw [signW]
  cases s <;> simp <;> omega
theorem wd_abs (s : Bool) {m j : Nat} (h : Norm m j) : wd s m j % 2 ^ 63 = wd false m j := by
  have := h.fin
  unfold wd Ieee.Format.word
  rw [signW]
  cases s <;> simp <;> omega
theorem order_most {m j : Nat} (h : Norm m j) : (FloatKind.f64.format.order (wd false m j) 9218868437227405311 == some .gt) = false := by
  obtain ⟨k, hk⟩ : ∃ k : Nat, k = 2045 := ⟨_, rfl⟩
  have hn : Norm (2 ^ 53 - 1) k := by rw [hk]; exact nMost
  have hc : 9218868437227405311 = wd false (2 ^ 53 - 1) k := by rw [hk]; exact cMost
  have h1 := order_wd false false h hn
  rw [hc]
  show (Ieee.double.order _ _ == _) = _
  rw [h1, cmp_gt, decide_eq_false_iff_not]
  show ¬ (((2 ^ 53 - 1) * 2 ^ k : Nat) : Int) < ((m * 2 ^ j : Nat) : Int)
  have hj : j ≤ k := by
    rcases h.full with h2 | h2
    · have := h.fin; omega
    · omega
  have : m * 2 ^ j ≤ (2 ^ 53 - 1) * 2 ^ k := Nat.mul_le_mul (by have := h.small; omega) (Nat.pow_le_pow_right (by decide) hj)
  omega
theorem order_large {m j : Nat} (h : Norm m j) : (FloatKind.f64.format.order (wd false m j) 4715268809856909312 == some .gt) = decide (2 ^ 24 * unit < m * 2 ^ j) := by
  obtain ⟨k, hk⟩ : ∃ k : Nat, k = 1046 := ⟨_, rfl⟩
  have hn : Norm (2 ^ 52) k := by rw [hk]; exact nLarge
  have hc : 4715268809856909312 = wd false (2 ^ 52) k := by rw [hk]; exact cLarge
  have h1 := order_wd false false h hn
  rw [hc]
  show (Ieee.double.order _ _ == _) = _
  rw [h1, cmp_gt]
  have e : 2 ^ 24 * unit = 2 ^ 52 * 2 ^ k := by rw [unit_pow (show 28 + k = 1074 by omega), Nat.pow_add, ← Nat.mul_assoc]
  rw [e]
  show decide (((2 ^ 52 * 2 ^ k : Nat) : Int) < ((m * 2 ^ j : Nat) : Int)) = _
  exact decide_eq_decide.2 Int.ofNat_lt
theorem order_inf (s : Bool) : FloatKind.f64.format.order (Ieee.double.word s (2047 * 2 ^ 52)) (Ieee.double.word s (2047 * 2 ^ 52)) = some .eq := by cases s <;> decide
theorem inf_abs (s : Bool) : Ieee.double.word s (2047 * 2 ^ 52) % 2 ^ 63 = 2047 * 2 ^ 52 ∧ Ieee.double.word s (2047 * 2 ^ 52) < 2 ^ 64 := by cases s <;> decide
theorem inf_most : (FloatKind.f64.format.order (2047 * 2 ^ 52) 9218868437227405311 == some .gt) = true := by decide
theorem order_nan (s : Bool) {r : Nat} (h1 : 2047 * 2 ^ 52 < r) (h2 : r < 2 ^ 63) : FloatKind.f64.format.order (Ieee.double.word s r) (Ieee.double.word s r) = none := by
  have hr : Ieee.double.word s r / 2 ^ 63 % 2 = (if s then 1 else 0) ∧ Ieee.double.word s r % 2 ^ 63 = r := by
    unfold Ieee.Format.word
    rw [signW]
    cases s <;> simp <;> omega
  have h3 : Ieee.double.read (Ieee.double.word s r) = .nan ((if s then 1 else 0 : Nat) == 1) (r - 2047 * 2 ^ 52) := by
    unfold Ieee.Format.read
    rw [signW, binade, infR, hr.1, hr.2]
    simp only
    rw [if_neg (by omega), if_neg (by omega), if_neg (by omega)]
  show Ieee.double.order _ _ = _
  unfold Ieee.Format.order
  rw [h3]
  rfl

/-! ### From -/
/-- What From says of a finite number. -/
def fromV (s : Bool) (m j b : Nat) : Int × Int :=
  if 2 ^ 24 * unit < m * 2 ^ j then (0, 2)
  else if b = 2 ^ 63 then (0, 3)
  else if m * 2 ^ (j + 16) / unit * unit = m * 2 ^ (j + 16) then (sg s (m * 2 ^ (j + 16) / unit), 0)
  else (0, 3)

theorem from_odd (b : Nat) (hb : b < 2 ^ 64) (w : World) (h : (FloatKind.f64.format.order b b != some .eq) = true ∨ ((FloatKind.f64.format.order b b != some .eq) = false ∧ (FloatKind.f64.format.order (b % 2 ^ 63) 9218868437227405311 == some .gt) = true)) :
    Calls Try.prog 37 #[.int .u64 (b : Nat)] w fun e w' => e = .returned (.tuple #[.int .i64 0, .int .i64 3]) ∧ w = w' := by
  have H1 := Lib.hid fun w => isNaN_any b w
  have H2 := Lib.hid fun w => isInf_any b hb w
  obtain ⟨x, hx⟩ : ∃ x, (FloatKind.f64.format.order b b != some .eq) = x := ⟨_, rfl⟩
  obtain ⟨y, hy⟩ : ∃ y, (FloatKind.f64.format.order (b % 2 ^ 63) 9218868437227405311 == some .gt) = y := ⟨_, rfl⟩
  rw [hx] at h H1
  rw [hy] at h H2
  clear hx hy
  rcases h with rfl | ⟨rfl, rfl⟩
  · go_enter Try.func37, Try.ntmps37
    go_wp2_with (first
      | (go_at_call 68; (with_reducible refine (H1.out _).mono ?_); rintro e _ ⟨rfl, rfl⟩)
      | (go_at_call 69; (with_reducible refine (H2.out _).mono ?_); rintro e _ ⟨rfl, rfl⟩))
    go_ret2
    exact ⟨rfl, rfl⟩
  · go_enter Try.func37, Try.ntmps37
    go_wp2_with (first
      | (go_at_call 68; (with_reducible refine (H1.out _).mono ?_); rintro e _ ⟨rfl, rfl⟩)
      | (go_at_call 69; (with_reducible refine (H2.out _).mono ?_); rintro e _ ⟨rfl, rfl⟩))
    go_ret2
    exact ⟨rfl, rfl⟩

theorem toInt_wd (s : Bool) {m j : Nat} (h : Norm m j) (ht : m * 2 ^ j / unit ≤ 2 ^ 40) : floatToIntVal .f64 (wd s m j) .i64 = some (sg s (m * 2 ^ j / unit)) := by
  have h1 : (FloatKind.f64.decode (wd s m j)).toInt .zero = some (sg s (m * 2 ^ j / unit)) := by
    unfold Ieee.Datum.toInt
    rw [show FloatKind.f64.decode (wd s m j) = Ieee.double.read (wd s m j) from rfl, integral_wd s h]
    simp only [signed_sg, Nat.pow_zero, Nat.mul_one]
  unfold floatToIntVal
  rw [h1]
  simp only
  rw [if_pos]
  generalize m * 2 ^ j / unit = T at ht
  have hmin : IntKind.i64.min = -9223372036854775808 := by decide
  have hmax : IntKind.i64.max = 9223372036854775807 := by decide
  rw [hmin, hmax]
  unfold sg
  cases s <;> simp <;> omega
theorem order_f (s t : Bool) {m j n k : Nat} (h1 : Norm m j) (h2 : Norm n k) : FloatKind.f64.format.order (wd s m j) (wd t n k) = some (compare (sg s (m * 2 ^ j)) (sg t (n * 2 ^ k))) := order_wd s t h1 h2
/-- Two numbers of one sign differ. -/
theorem order_ne (s : Bool) {m j n k A B : Nat} (h1 : Norm m j) (h2 : Norm n k) (hA : m * 2 ^ j = A) (hB : n * 2 ^ k = B) : (FloatKind.f64.format.order (wd s m j) (wd s n k) != some .eq) = !decide (B = A) := by
  have h := order_f s s h1 h2
  rw [hA, hB] at h
  have h4 : (FloatKind.f64.format.order (wd s m j) (wd s n k) == some .eq) = decide (sg s A = sg s B) := by rw [h]; exact cmp_eq _ _
  unfold bne
  rw [h4]
  congr 1
  refine decide_eq_decide.2 ⟨fun h => ?_, fun h => by rw [h]⟩
  unfold sg at h
  cases s <;> simp at h <;> omega
theorem unit_big : 2 ^ 40 * unit < 2 ^ 2000 := by
  obtain ⟨k, hk⟩ : ∃ k : Nat, k = 2000 := ⟨_, rfl⟩
  obtain ⟨e, he⟩ : ∃ e : Nat, e = 1074 := ⟨_, rfl⟩
  rw [← hk, unit_pow he, ← Nat.pow_add]
  exact Nat.pow_lt_pow_right (by decide) (by omega)

set_option maxRecDepth 8000 in
theorem from_fin (s : Bool) {m j : Nat} (h : Norm m j) (b : Nat) (hb : b = wd s m j) (w : World) :
    Calls Try.prog 37 #[.int .u64 (b : Nat)] w fun e w' => e = .returned (.tuple #[.int .i64 (fromV s m j b).1, .int .i64 (fromV s m j b).2]) ∧ w = w' := by
  have hlt : b < 2 ^ 64 := by rw [hb]; exact wd_lt s h
  have h1 := fun w => isNaN_any b w
  have h2 := fun w => isInf_any b hlt w
  have h3 := fun w => abs_any b hlt w
  have e1 : (FloatKind.f64.format.order b b != some .eq) = false := by rw [hb, order_self s h]; rfl
  have e2 : b % 2 ^ 63 = wd false m j := by rw [hb]; exact wd_abs s h
  have e3 := order_large h
  rw [e1] at h1
  rw [e2, order_most h] at h2
  rw [e2] at h3
  obtain ⟨c, hc⟩ : ∃ c, wd false m j = c := ⟨_, rfl⟩
  rw [hc] at h3 e3
  have H1 := Lib.hid h1
  have H2 := Lib.hid h2
  have H3 := Lib.hid h3
  clear h1 h2 h3 e1 e2 hc
  by_cases hbig : 2 ^ 24 * unit < m * 2 ^ j
  · have hv : fromV s m j b = (0, 2) := by unfold fromV; rw [if_pos hbig]
    rw [decide_eq_true hbig] at e3
    rw [hv]
    clear hv hbig hb h
    go_enter Try.func37, Try.ntmps37
    go_wp2_with (first
      | (go_at_call 68; (with_reducible refine (H1.out _).mono ?_); rintro e _ ⟨rfl, rfl⟩)
      | (go_at_call 69; (with_reducible refine (H2.out _).mono ?_); rintro e _ ⟨rfl, rfl⟩)
      | (go_at_call 70; (with_reducible refine (H3.out _).mono ?_); rintro e _ ⟨rfl, rfl⟩))
    go_ret2
    exact ⟨rfl, rfl⟩
  · rw [decide_eq_false hbig] at e3
    by_cases hz : b = 2 ^ 63
    · have hv : fromV s m j b = (0, 3) := by unfold fromV; rw [if_neg hbig, if_pos hz]
      have hz' : ((b : Int) == 9223372036854775808) = true := by rw [hz]; rfl
      rw [hv]
      clear hv hbig hb h hz
      go_enter Try.func37, Try.ntmps37
      go_wp2_with (first
        | (go_at_call 68; (with_reducible refine (H1.out _).mono ?_); rintro e _ ⟨rfl, rfl⟩)
        | (go_at_call 69; (with_reducible refine (H2.out _).mono ?_); rintro e _ ⟨rfl, rfl⟩)
        | (go_at_call 70; (with_reducible refine (H3.out _).mono ?_); rintro e _ ⟨rfl, rfl⟩))
      go_ret2
      exact ⟨rfl, rfl⟩
    · have hz' : ((b : Int) == 9223372036854775808) = false := by rw [beq_eq_false_iff_ne]; omega
      obtain ⟨m', j', n1, n2, n3⟩ := norm_of h.small (j + 16)
      have hbd : m * 2 ^ (j + 16) ≤ 2 ^ 40 * unit := by
        have : m * 2 ^ (j + 16) = m * 2 ^ j * 2 ^ 16 := by rw [Nat.pow_add, Nat.mul_assoc]
        rw [this, show 2 ^ 40 * unit = 2 ^ 24 * unit * 2 ^ 16 by generalize unit = u; omega]
        exact Nat.mul_le_mul_right _ (Nat.not_lt.1 hbig)
      have hN : Norm m' j' := norm_fin n1 n2 (by rw [n3]; exact Nat.lt_of_le_of_lt hbd unit_big)
      have hmul := mul_wd s h hN n3
      rw [← hb] at hmul
      have hT : m * 2 ^ (j + 16) / unit ≤ 2 ^ 40 := Nat.div_le_of_le_mul (by rw [Nat.mul_comm unit]; exact hbd)
      have hcv := toInt_wd s hN (by rw [n3]; exact hT)
      have htr := fun w => truncW s hN w
      rw [n3] at hcv htr
      have hv : fromV s m j b = if m * 2 ^ (j + 16) / unit * unit = m * 2 ^ (j + 16) then (sg s (m * 2 ^ (j + 16) / unit), 0) else (0, 3) := by
        unfold fromV; rw [if_neg hbig, if_neg hz]
      obtain ⟨T, hTT⟩ : ∃ T, m * 2 ^ (j + 16) / unit = T := ⟨_, rfl⟩
      rw [hTT] at hT hcv htr hv
      obtain ⟨mt, jt, t1, t2, t3, _⟩ := whole_wd s (show T < 2 ^ 53 by omega)
      rw [t3] at htr
      have hne : (FloatKind.f64.format.order (wd s m' j') (wd s mt jt) != some .eq) = !decide (T * unit = m * 2 ^ (j + 16)) := order_ne s hN t1 n3 t2
      obtain ⟨x, hx⟩ : ∃ x, wd s m' j' = x := ⟨_, rfl⟩
      obtain ⟨y, hy⟩ : ∃ y, wd s mt jt = y := ⟨_, rfl⟩
      rw [hx] at hmul hcv htr hne
      rw [hy] at htr hne
      have hm1 : ∀ w, (binOp .mul 66 (.float .f64 b) (.float .f64 4679240012837945344)).run Try.prog w = .ok (.float .f64 x) w := fun w => run_float_arith w .mul 66 .f64 b _ x hmul
      have hc1 : ∀ w, (convert 66 3 (.float .f64 x)).run Try.prog w = .ok (.int .i64 (sg s T)) w := fun w => run_convert_float_int w 66 3 .f64 .i64 x _ (by kernel_rfl) (by kernel_rfl) hcv
      have H4 := Lib.hid htr
      obtain ⟨n, hn⟩ : ∃ n, sg s T = n := ⟨_, rfl⟩
      rw [hv]
      rw [hn] at hc1 ⊢
      by_cases hd : T * unit = m * 2 ^ (j + 16)
      · rw [decide_eq_true hd] at hne
        rw [if_pos hd]
        clear hv hbig hb h hz hd hcv htr hmul hn hTT hT hbd n3 t2 t3 hN t1 hx hy n1 n2
        go_enter Try.func37, Try.ntmps37
        go_wp2_with (first
          | (go_at_call 68; (with_reducible refine (H1.out _).mono ?_); rintro e _ ⟨rfl, rfl⟩)
          | (go_at_call 69; (with_reducible refine (H2.out _).mono ?_); rintro e _ ⟨rfl, rfl⟩)
          | (go_at_call 70; (with_reducible refine (H3.out _).mono ?_); rintro e _ ⟨rfl, rfl⟩)
          | (go_at_call 71; (with_reducible refine (H4.out _).mono ?_); rintro e _ ⟨rfl, rfl⟩))
        go_ret2
        exact ⟨rfl, rfl⟩
      · rw [decide_eq_false hd] at hne
        rw [if_neg hd]
        clear hv hbig hb h hz hd hcv htr hmul hn hTT hT hbd n3 t2 t3 hN t1 hx hy n1 n2
        go_enter Try.func37, Try.ntmps37
        go_wp2_with (first
          | (go_at_call 68; (with_reducible refine (H1.out _).mono ?_); rintro e _ ⟨rfl, rfl⟩)
          | (go_at_call 69; (with_reducible refine (H2.out _).mono ?_); rintro e _ ⟨rfl, rfl⟩)
          | (go_at_call 70; (with_reducible refine (H3.out _).mono ?_); rintro e _ ⟨rfl, rfl⟩)
          | (go_at_call 71; (with_reducible refine (H4.out _).mono ?_); rintro e _ ⟨rfl, rfl⟩))
        go_ret2
        exact ⟨rfl, rfl⟩

/-! ### To -/
theorem to_out (a : Int) (w : World) (h : clamp a ≠ a) : Calls Try.prog 38 #[.int .i64 a] w fun e w' => e = .returned (.tuple #[.int .u64 0, .int .i64 2]) ∧ w = w' := by
  have H := Lib.hid fun w => clamp_any a w
  obtain ⟨c, hc⟩ : ∃ c, clamp a = c := ⟨_, rfl⟩
  rw [hc] at h H
  have hne : (c != a) = true := by rw [bne, beq_eq_false_iff_ne.2 h]; rfl
  clear hc h
  go_enter Try.func38, Try.ntmps38
  go_wp2_with (first
    | (go_at_call 35; (with_reducible refine (H.out _).mono ?_); rintro e _ ⟨rfl, rfl⟩))
  go_ret2
  exact ⟨rfl, rfl⟩
theorem norm_sub {m k : Nat} (h : Norm m (k + 16)) : Norm m k := by
  obtain ⟨h1, h2, h3⟩ := h
  refine ⟨h1, ?_, ?_⟩
  · rcases h2 with h2 | h2
    · exact .inl h2
    · omega
  · have : k * 2 ^ 52 ≤ (k + 16) * 2 ^ 52 := Nat.mul_le_mul_right _ (Nat.le_add_right _ _)
    exact Nat.lt_of_le_of_lt (Nat.add_le_add_right this m) h3
/-- The word of a whole number of units. -/
theorem word_of (a : Int) (h : clamp a = a) : ∃ m j x, Norm m j ∧ m * 2 ^ (j + 16) = a.natAbs * unit ∧ floatOfInt .f64 a = x ∧ floatBits .quo .f64 x 4679240012837945344 = some (wd (decide (a < 0)) m j) ∧ wd (decide (a < 0)) m j ≠ 2 ^ 63 := by
  have h1 := clamp_lo a
  have h2 := clamp_hi a
  rw [h] at h1 h2
  obtain ⟨m, j, hn, hv, hw, hj⟩ := whole_wd (decide (a < 0)) (a := a.natAbs) (by omega)
  have hx : floatOfInt .f64 a = wd (decide (a < 0)) m j := hw
  rcases hj with h0 | hj
  · have ha : a = 0 := by omega
    subst ha
    exact ⟨0, 0, 0, norm_zero, by simp, by decide, by decide, by decide⟩
  · obtain ⟨k, rfl⟩ : ∃ k, j = k + 16 := ⟨j - 16, by omega⟩
    have hn2 := norm_sub hn
    refine ⟨m, k, _, hn2, hv, hx, div_wd _ hn hn2, ?_⟩
    have := hn2.fin
    have := hn.full
    unfold wd Ieee.Format.word
    rw [signW]
    split <;> omega
theorem to_in (a : Int) (w : World) (h : clamp a = a) {m j x : Nat} (hx : floatOfInt .f64 a = x) (hd : floatBits .quo .f64 x 4679240012837945344 = some (wd (decide (a < 0)) m j)) : Calls Try.prog 38 #[.int .i64 a] w fun e w' => e = .returned (.tuple #[.int .u64 (wd (decide (a < 0)) m j : Nat), .int .i64 0]) ∧ w = w' := by
  have H := Lib.hid fun w => clamp_any a w
  rw [h] at H
  have hne : (a != a) = false := by simp
  obtain ⟨b, hb⟩ : ∃ b, wd (decide (a < 0)) m j = b := ⟨_, rfl⟩
  rw [hb] at hd ⊢
  have hq : ∀ w, (binOp .quo 66 (.float .f64 x) (.float .f64 4679240012837945344)).run Try.prog w = .ok (.float .f64 b) w := fun w => run_float_arith w .quo 66 .f64 x _ b hd
  have hc : ∀ w, (convert 3 66 (.int .i64 a)).run Try.prog w = .ok (.float .f64 x) w := fun w => by rw [run_convert_int_float w 3 66 .i64 .f64 a (by kernel_rfl) (by kernel_rfl), hx]
  clear hb hd hx h
  go_enter Try.func38, Try.ntmps38
  go_wp2_with (first
    | (go_at_call 35; (with_reducible refine (H.out _).mono ?_); rintro e _ ⟨rfl, rfl⟩))
  go_ret2
  exact ⟨rfl, rfl⟩

/-- A word that stands for a whole number of units comes back as that number. -/
theorem fromV_whole {s : Bool} {m j b A : Nat} (h : m * 2 ^ (j + 16) = A * unit) (hA : A ≤ 2 ^ 40) (hb : b ≠ 2 ^ 63) : fromV s m j b = (sg s A, 0) := by
  have h1 : ¬ 2 ^ 24 * unit < m * 2 ^ j := by
    have e : m * 2 ^ (j + 16) = m * 2 ^ j * 2 ^ 16 := by rw [Nat.pow_add, Nat.mul_assoc]
    rw [e] at h
    have := Nat.mul_le_mul_right unit hA
    generalize m * 2 ^ j = V at h
    generalize A * unit = X at h this
    generalize unit = u at this
    omega
  have h2 : m * 2 ^ (j + 16) / unit = A := by rw [h, Nat.mul_div_cancel _ unit_pos]
  unfold fromV
  rw [if_neg h1, if_neg hb, h2, if_pos h.symm]
theorem from_half (w : World) : Calls Try.prog 37 #[.int .u64 4609434218613702656] w fun e w' => e = .returned (.tuple #[.int .i64 98304, .int .i64 0]) ∧ w = w' := by
  have hn : Norm (3 * 2 ^ 51) 1022 := ⟨by decide, .inl (by decide), by decide⟩
  have hb : 4609434218613702656 = wd false (3 * 2 ^ 51) 1022 := by decide
  have hv : 3 * 2 ^ 51 * 2 ^ (1022 + 16) = 98304 * unit := by
    obtain ⟨k, hk⟩ : ∃ k : Nat, k = 1022 + 16 := ⟨_, rfl⟩
    have e : 36 + k = 1074 := by rw [hk]
    rw [← hk, unit_pow e, Nat.pow_add 2 36]
    generalize 2 ^ k = z
    omega
  have := from_fin false hn 4609434218613702656 hb w
  rw [fromV_whole hv (by decide) (by decide)] at this
  exact this
end Go.Proofs.Ytdnepccjgclgiaa
