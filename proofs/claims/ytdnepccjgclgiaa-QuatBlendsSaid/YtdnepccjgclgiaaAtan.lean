/- Contract of trig.Atan. -/
import Derived.Test.YtdnepccjgclgiaaQuarter
namespace Go.Proofs.Ytdnepccjgclgiaa
open Go.RowKit

theorem sin_quarter (m : Int) (h0 : 0 ≤ m) (h1 : m < 16384) : sin m = sinQ m := by
  unfold sin sinT
  rw [Int.emod_eq_of_lt h0 (by omega), if_pos (by omega), Int.emod_eq_of_lt h0 h1]
theorem cos_quarter (m : Int) (h0 : 0 ≤ m) (h1 : m < 16384) : cos m = sinQ (16384 - m) := by
  unfold cos sin sinT
  rw [Int.emod_eq_of_lt h0 (by omega), Int.emod_eq_of_lt (by omega) (by omega), if_neg (by omega), if_pos (by omega)]
  congr 1
  omega

/-- The angle m is not beyond the vector. -/
def NotBeyond (y x m : Int) : Prop := sin m * x ≤ cos m * y

/-- Between low and high the angle is looked for. -/
structure Between (y x low high : Int) : Prop where
  lo : 0 ≤ low
  lt : low < high
  hi : high ≤ 16384
  fits : low = 0 ∨ NotBeyond y x low
  far : high = 16384 ∨ ¬ NotBeyond y x high

theorem NotBeyond.down (y x m : Int) (hx : 0 < x) (h0 : 0 ≤ m) (h1 : m + 1 < 16384) (h : NotBeyond y x (m + 1)) : NotBeyond y x m := by
  unfold NotBeyond at *
  rw [sin_quarter _ (by omega) h1, cos_quarter _ (by omega) h1] at h
  rw [sin_quarter _ h0 (by omega), cos_quarter _ h0 (by omega)]
  have q := (quarter m h0 (by omega)).1
  have c1 := (quarter (m + 1) (by omega) h1).2.2.2.2
  have c0 := (quarter m h0 (by omega)).2.2.2.2
  generalize sinQ (16384 - (m + 1)) = C1 at *
  generalize sinQ (16384 - m) = C0 at *
  generalize sinQ (m + 1) = S1 at *
  generalize sinQ m = S0 at *
  -- C1 * (S0 * x) <= S1 * C0 * x <= C0 * C1 * y
  have a1 : C1 * S0 * x ≤ S1 * C0 * x := Int.mul_le_mul_of_nonneg_right (by omega) (by omega)
  have a2 : C0 * (S1 * x) ≤ C0 * (C1 * y) := Int.mul_le_mul_of_nonneg_left h (by omega)
  have a3 : C1 * (S0 * x) ≤ C1 * (C0 * y) := by
    rw [← Int.mul_assoc, ← Int.mul_assoc, Int.mul_comm C1 C0, Int.mul_assoc C0 C1 y]
    refine Int.le_trans a1 ?_
    rw [Int.mul_comm S1 C0, Int.mul_assoc]
    exact a2
  exact Int.le_of_mul_le_mul_left a3 c1

theorem NotBeyond.down' (y x : Int) (hx : 0 < x) (m k : Nat) (h : NotBeyond y x ((m + k : Nat) : Int)) (h1 : ((m + k : Nat) : Int) < 16384) : NotBeyond y x (m : Int) := by
  induction k with
  | zero => exact h
  | succ k ih => exact ih (NotBeyond.down y x _ hx (by omega) (by omega) h) (by omega)

/-- The greatest angle below a quarter turn that is not beyond the vector. -/
def IsAng (y x L : Int) : Prop := Between y x L (L + 1)
theorem IsAng.unique (y x L M : Int) (hx : 0 < x) (hl : IsAng y x L) (hm : IsAng y x M) : L = M := by
  have key : ∀ L M : Int, IsAng y x L → IsAng y x M → ¬ L < M := by
    intro L M hl hm hlt
    obtain ⟨l0, _, l1, _, lf⟩ := hl
    obtain ⟨m0, _, m1, mf, _⟩ := hm
    have hM : NotBeyond y x M := by
      rcases mf with e | e
      · omega
      · exact e
    rcases lf with e | e
    · omega
    · apply e
      obtain ⟨a, ha⟩ := Int.eq_ofNat_of_zero_le (show 0 ≤ L + 1 by omega)
      obtain ⟨b, hb⟩ := Int.eq_ofNat_of_zero_le (show 0 ≤ M - (L + 1) by omega)
      rw [ha]
      refine NotBeyond.down' y x hx a b ?_ (by omega)
      rw [show ((a + b : Nat) : Int) = M by omega]
      exact hM
  have h1 := key L M hl hm
  have h2 := key M L hm hl
  omega

/-- The angle of a vector in the first quarter. -/
noncomputable def ang (y x : Int) : Int := Classical.epsilon (IsAng y x)
theorem ang_eq (y x L : Int) (hx : 0 < x) (h : IsAng y x L) : ang y x = L :=
  IsAng.unique y x _ _ hx (Classical.epsilon_spec ⟨L, h⟩) h

/-- trig.Atan, of clamped numbers. -/
noncomputable def atanC (y x : Int) : Int :=
  if x = 0 ∧ y = 0 then 0 else if 0 < x ∧ 0 ≤ y then ang y x else if x ≤ 0 ∧ 0 < y then 16384 + ang (-x) y else if x < 0 then 32768 + ang (-y) (-x) else 49152 + ang x (-y)

theorem mid_step (y x L H : Int) (hb : Between y x L H) (hlt : L + 1 < H) (hp : NotBeyond y x ((L + H) / 2)) : Between y x ((L + H) / 2) H :=
  ⟨by have := hb.lo; omega, by omega, hb.hi, .inr hp, hb.far⟩
theorem mid_step' (y x L H : Int) (hb : Between y x L H) (hlt : L + 1 < H) (hp : ¬ NotBeyond y x ((L + H) / 2)) : Between y x L ((L + H) / 2) :=
  ⟨hb.lo, by omega, by have := hb.hi; omega, hb.fits, .inr hp⟩

theorem prod_bd (c y : Int) (h1 : -65536 ≤ c) (h2 : c ≤ 65536) (h3 : -1099511627776 ≤ y) (h4 : y ≤ 1099511627776) : -72057594037927936 ≤ c * y ∧ c * y ≤ 72057594037927936 := by
  have a : c.natAbs * y.natAbs ≤ 65536 * 1099511627776 := Nat.mul_le_mul (by omega) (by omega)
  have b : (c * y).natAbs = c.natAbs * y.natAbs := Int.natAbs_mul c y
  omega

theorem atan_zero (y0 x0 : Int) (w : World) (hx : clamp x0 = 0) (hy : clamp y0 = 0) :
    Calls Try.prog 34 #[.int .i64 y0, .int .i64 x0] w fun e w' => e = .returned (.int .i64 0) ∧ Below w.heap.size w w' := by
  go_enter Try.func34, Try.ntmps34
  go_wp2_with (go_at_call 35; (with_reducible refine (clamp_any _ _).mono ?_); rintro e w' ⟨rfl, rfl⟩)
  go_ret
  exact ⟨rfl, Below.refl _ _⟩

set_option maxHeartbeats 800000 in
theorem atan_q0 (y0 x0 x y : Int) (w : World) (hx : clamp x0 = x) (hy : clamp y0 = y) (hx0 : 0 < x) (hx1 : x ≤ 1099511627776) (hy0 : 0 ≤ y) (hy1 : y ≤ 1099511627776) :
    Calls Try.prog 34 #[.int .i64 y0, .int .i64 x0] w fun e w' => e = .returned (.int .i64 (0 + ang y x)) ∧ Below w.heap.size w w' := by
  have z1 : (x == 0) = false := by simp; omega
  go_enter Try.func34, Try.ntmps34
  go_wp2_with (go_at_call 35; (with_reducible refine (clamp_any _ _).mono ?_); rintro e w' ⟨rfl, rfl⟩)
  clear hx hy
  go_loopw [6, 7] (fun lo hi wr => ∃ (L H : Int) (l : List Obj) (n : Nat), lo = .int .i64 L ∧ hi = .int .i64 H ∧ Between y x L H ∧ wr = ext w l n) (fun lo hi _ => (intOf hi - intOf lo).toNat)
  case atStart => exact ⟨0, 16384, [], _, rfl, rfl, ⟨by omega, by omega, by omega, .inl rfl, .inl rfl⟩, (ext_nil _).symm⟩
  case round =>
    obtain ⟨L, H, l, n, rfl, rfl, hb, rfl⟩ := hrel
    have b0 := hb.lo
    have b1 := hb.lt
    have b2 := hb.hi
    have HB := Lib.hid hb
    clear hb
    by_cases hlt : L + 1 < H
    · have hm0 : 0 ≤ (L + H) / 2 := by omega
      have hm1 : (L + H) / 2 < 16384 := by omega
      obtain ⟨p1, p2⟩ := prod_bd (cos ((L + H) / 2)) y (cos_bd _).1 (cos_bd _).2 (by omega) (by omega)
      obtain ⟨p3, p4⟩ := prod_bd (sin ((L + H) / 2)) x (sin_bd _).1 (sin_bd _).2 (by omega) (by omega)
      by_cases hp : sin ((L + H) / 2) * x ≤ cos ((L + H) / 2) * y
      · go_wp2_with (first
          | (go_at_call 31; (with_reducible refine (sin_any _ _).mono ?_); rintro e w1 ⟨rfl, hb⟩; obtain ⟨l1, n1, rfl⟩ := ext_of hb; clear hb)
          | (go_at_call 32; (with_reducible refine (cos_any _ _).mono ?_); rintro e w1 ⟨rfl, hb⟩; obtain ⟨l2, n2, rfl⟩ := ext_of hb; clear hb))
        go_roundw
        case rel => exact ⟨_, _, _, _, rfl, rfl, mid_step y x L H HB.out hlt hp, rfl⟩
        case measure => simp [intOf]; omega
      · go_wp2_with (first
          | (go_at_call 31; (with_reducible refine (sin_any _ _).mono ?_); rintro e w1 ⟨rfl, hb⟩; obtain ⟨l1, n1, rfl⟩ := ext_of hb; clear hb)
          | (go_at_call 32; (with_reducible refine (cos_any _ _).mono ?_); rintro e w1 ⟨rfl, hb⟩; obtain ⟨l2, n2, rfl⟩ := ext_of hb; clear hb))
        go_roundw
        case rel => exact ⟨_, _, _, _, rfl, rfl, mid_step' y x L H HB.out hlt (Int.not_le.2 hp), rfl⟩
        case measure => simp [intOf]; omega
    · have hH : H = L + 1 := by omega
      have ha : ang y x = L := ang_eq y x L hx0 (by have h := HB.out; rw [hH] at h; exact h)
      have HA := Lib.hid ha
      clear ha hH
      go_wp2
      go_ret
      exact ⟨ret_int (by rw [HA.out]), by repeat (first | exact Below.refl _ _ | apply Below.drew | apply Below.al | apply Below.ex)⟩

set_option maxHeartbeats 800000 in
theorem atan_q1a (y0 x0 x y : Int) (w : World) (hx : clamp x0 = -y) (hy : clamp y0 = x) (hx0 : 0 < x) (hx1 : x ≤ 1099511627776) (hy0 : 0 < y) (hy1 : y ≤ 1099511627776) :
    Calls Try.prog 34 #[.int .i64 y0, .int .i64 x0] w fun e w' => e = .returned (.int .i64 (16384 + ang y x)) ∧ Below w.heap.size w w' := by
  have z1 : (-y == 0) = false := by simp; omega
  go_enter Try.func34, Try.ntmps34
  go_wp2_with (go_at_call 35; (with_reducible refine (clamp_any _ _).mono ?_); rintro e w' ⟨rfl, rfl⟩)
  clear hx hy
  go_loopw [6, 7] (fun lo hi wr => ∃ (L H : Int) (l : List Obj) (n : Nat), lo = .int .i64 L ∧ hi = .int .i64 H ∧ Between y x L H ∧ wr = ext w l n) (fun lo hi _ => (intOf hi - intOf lo).toNat)
  case atStart => exact ⟨0, 16384, [], _, rfl, rfl, ⟨by omega, by omega, by omega, .inl rfl, .inl rfl⟩, (ext_nil _).symm⟩
  case round =>
    obtain ⟨L, H, l, n, rfl, rfl, hb, rfl⟩ := hrel
    have b0 := hb.lo
    have b1 := hb.lt
    have b2 := hb.hi
    have HB := Lib.hid hb
    clear hb
    by_cases hlt : L + 1 < H
    · have hm0 : 0 ≤ (L + H) / 2 := by omega
      have hm1 : (L + H) / 2 < 16384 := by omega
      obtain ⟨p1, p2⟩ := prod_bd (cos ((L + H) / 2)) y (cos_bd _).1 (cos_bd _).2 (by omega) (by omega)
      obtain ⟨p3, p4⟩ := prod_bd (sin ((L + H) / 2)) x (sin_bd _).1 (sin_bd _).2 (by omega) (by omega)
      by_cases hp : sin ((L + H) / 2) * x ≤ cos ((L + H) / 2) * y
      · go_wp2_with (first
          | (go_at_call 31; (with_reducible refine (sin_any _ _).mono ?_); rintro e w1 ⟨rfl, hb⟩; obtain ⟨l1, n1, rfl⟩ := ext_of hb; clear hb)
          | (go_at_call 32; (with_reducible refine (cos_any _ _).mono ?_); rintro e w1 ⟨rfl, hb⟩; obtain ⟨l2, n2, rfl⟩ := ext_of hb; clear hb))
        go_roundw
        case rel => exact ⟨_, _, _, _, rfl, rfl, mid_step y x L H HB.out hlt hp, rfl⟩
        case measure => simp [intOf]; omega
      · go_wp2_with (first
          | (go_at_call 31; (with_reducible refine (sin_any _ _).mono ?_); rintro e w1 ⟨rfl, hb⟩; obtain ⟨l1, n1, rfl⟩ := ext_of hb; clear hb)
          | (go_at_call 32; (with_reducible refine (cos_any _ _).mono ?_); rintro e w1 ⟨rfl, hb⟩; obtain ⟨l2, n2, rfl⟩ := ext_of hb; clear hb))
        go_roundw
        case rel => exact ⟨_, _, _, _, rfl, rfl, mid_step' y x L H HB.out hlt (Int.not_le.2 hp), rfl⟩
        case measure => simp [intOf]; omega
    · have hH : H = L + 1 := by omega
      have ha : ang y x = L := ang_eq y x L hx0 (by have h := HB.out; rw [hH] at h; exact h)
      have HA := Lib.hid ha
      clear ha hH
      go_wp2
      go_ret
      exact ⟨ret_int (by rw [HA.out]), by repeat (first | exact Below.refl _ _ | apply Below.drew | apply Below.al | apply Below.ex)⟩

set_option maxHeartbeats 800000 in
theorem atan_q1b (y0 x0 x y : Int) (w : World) (hx : clamp x0 = -y) (hy : clamp y0 = x) (hx0 : 0 < x) (hx1 : x ≤ 1099511627776) (hy0 : 0 ≥ y) (hy1 : 0 ≤ y) :
    Calls Try.prog 34 #[.int .i64 y0, .int .i64 x0] w fun e w' => e = .returned (.int .i64 (16384 + ang y x)) ∧ Below w.heap.size w w' := by
  have z1 : (-y == 0) = true := by simp; omega
  have z2 : (x == 0) = false := by simp; omega
  go_enter Try.func34, Try.ntmps34
  go_wp2_with (go_at_call 35; (with_reducible refine (clamp_any _ _).mono ?_); rintro e w' ⟨rfl, rfl⟩)
  clear hx hy
  go_loopw [6, 7] (fun lo hi wr => ∃ (L H : Int) (l : List Obj) (n : Nat), lo = .int .i64 L ∧ hi = .int .i64 H ∧ Between y x L H ∧ wr = ext w l n) (fun lo hi _ => (intOf hi - intOf lo).toNat)
  case atStart => exact ⟨0, 16384, [], _, rfl, rfl, ⟨by omega, by omega, by omega, .inl rfl, .inl rfl⟩, (ext_nil _).symm⟩
  case round =>
    obtain ⟨L, H, l, n, rfl, rfl, hb, rfl⟩ := hrel
    have b0 := hb.lo
    have b1 := hb.lt
    have b2 := hb.hi
    have HB := Lib.hid hb
    clear hb
    by_cases hlt : L + 1 < H
    · have hm0 : 0 ≤ (L + H) / 2 := by omega
      have hm1 : (L + H) / 2 < 16384 := by omega
      obtain ⟨p1, p2⟩ := prod_bd (cos ((L + H) / 2)) y (cos_bd _).1 (cos_bd _).2 (by omega) (by omega)
      obtain ⟨p3, p4⟩ := prod_bd (sin ((L + H) / 2)) x (sin_bd _).1 (sin_bd _).2 (by omega) (by omega)
      by_cases hp : sin ((L + H) / 2) * x ≤ cos ((L + H) / 2) * y
      · go_wp2_with (first
          | (go_at_call 31; (with_reducible refine (sin_any _ _).mono ?_); rintro e w1 ⟨rfl, hb⟩; obtain ⟨l1, n1, rfl⟩ := ext_of hb; clear hb)
          | (go_at_call 32; (with_reducible refine (cos_any _ _).mono ?_); rintro e w1 ⟨rfl, hb⟩; obtain ⟨l2, n2, rfl⟩ := ext_of hb; clear hb))
        go_roundw
        case rel => exact ⟨_, _, _, _, rfl, rfl, mid_step y x L H HB.out hlt hp, rfl⟩
        case measure => simp [intOf]; omega
      · go_wp2_with (first
          | (go_at_call 31; (with_reducible refine (sin_any _ _).mono ?_); rintro e w1 ⟨rfl, hb⟩; obtain ⟨l1, n1, rfl⟩ := ext_of hb; clear hb)
          | (go_at_call 32; (with_reducible refine (cos_any _ _).mono ?_); rintro e w1 ⟨rfl, hb⟩; obtain ⟨l2, n2, rfl⟩ := ext_of hb; clear hb))
        go_roundw
        case rel => exact ⟨_, _, _, _, rfl, rfl, mid_step' y x L H HB.out hlt (Int.not_le.2 hp), rfl⟩
        case measure => simp [intOf]; omega
    · have hH : H = L + 1 := by omega
      have ha : ang y x = L := ang_eq y x L hx0 (by have h := HB.out; rw [hH] at h; exact h)
      have HA := Lib.hid ha
      clear ha hH
      go_wp2
      go_ret
      exact ⟨ret_int (by rw [HA.out]), by repeat (first | exact Below.refl _ _ | apply Below.drew | apply Below.al | apply Below.ex)⟩

set_option maxHeartbeats 800000 in
theorem atan_q2 (y0 x0 x y : Int) (w : World) (hx : clamp x0 = -x) (hy : clamp y0 = -y) (hx0 : 0 < x) (hx1 : x ≤ 1099511627776) (hy0 : 0 ≤ y) (hy1 : y ≤ 1099511627776) :
    Calls Try.prog 34 #[.int .i64 y0, .int .i64 x0] w fun e w' => e = .returned (.int .i64 (32768 + ang y x)) ∧ Below w.heap.size w w' := by
  have z1 : (-x == 0) = false := by simp; omega
  go_enter Try.func34, Try.ntmps34
  go_wp2_with (go_at_call 35; (with_reducible refine (clamp_any _ _).mono ?_); rintro e w' ⟨rfl, rfl⟩)
  clear hx hy
  go_loopw [6, 7] (fun lo hi wr => ∃ (L H : Int) (l : List Obj) (n : Nat), lo = .int .i64 L ∧ hi = .int .i64 H ∧ Between y x L H ∧ wr = ext w l n) (fun lo hi _ => (intOf hi - intOf lo).toNat)
  case atStart => exact ⟨0, 16384, [], _, rfl, rfl, ⟨by omega, by omega, by omega, .inl rfl, .inl rfl⟩, (ext_nil _).symm⟩
  case round =>
    obtain ⟨L, H, l, n, rfl, rfl, hb, rfl⟩ := hrel
    have b0 := hb.lo
    have b1 := hb.lt
    have b2 := hb.hi
    have HB := Lib.hid hb
    clear hb
    by_cases hlt : L + 1 < H
    · have hm0 : 0 ≤ (L + H) / 2 := by omega
      have hm1 : (L + H) / 2 < 16384 := by omega
      obtain ⟨p1, p2⟩ := prod_bd (cos ((L + H) / 2)) y (cos_bd _).1 (cos_bd _).2 (by omega) (by omega)
      obtain ⟨p3, p4⟩ := prod_bd (sin ((L + H) / 2)) x (sin_bd _).1 (sin_bd _).2 (by omega) (by omega)
      by_cases hp : sin ((L + H) / 2) * x ≤ cos ((L + H) / 2) * y
      · go_wp2_with (first
          | (go_at_call 31; (with_reducible refine (sin_any _ _).mono ?_); rintro e w1 ⟨rfl, hb⟩; obtain ⟨l1, n1, rfl⟩ := ext_of hb; clear hb)
          | (go_at_call 32; (with_reducible refine (cos_any _ _).mono ?_); rintro e w1 ⟨rfl, hb⟩; obtain ⟨l2, n2, rfl⟩ := ext_of hb; clear hb))
        go_roundw
        case rel => exact ⟨_, _, _, _, rfl, rfl, mid_step y x L H HB.out hlt hp, rfl⟩
        case measure => simp [intOf]; omega
      · go_wp2_with (first
          | (go_at_call 31; (with_reducible refine (sin_any _ _).mono ?_); rintro e w1 ⟨rfl, hb⟩; obtain ⟨l1, n1, rfl⟩ := ext_of hb; clear hb)
          | (go_at_call 32; (with_reducible refine (cos_any _ _).mono ?_); rintro e w1 ⟨rfl, hb⟩; obtain ⟨l2, n2, rfl⟩ := ext_of hb; clear hb))
        go_roundw
        case rel => exact ⟨_, _, _, _, rfl, rfl, mid_step' y x L H HB.out hlt (Int.not_le.2 hp), rfl⟩
        case measure => simp [intOf]; omega
    · have hH : H = L + 1 := by omega
      have ha : ang y x = L := ang_eq y x L hx0 (by have h := HB.out; rw [hH] at h; exact h)
      have HA := Lib.hid ha
      clear ha hH
      go_wp2
      go_ret
      exact ⟨ret_int (by rw [HA.out]), by repeat (first | exact Below.refl _ _ | apply Below.drew | apply Below.al | apply Below.ex)⟩

set_option maxHeartbeats 800000 in
theorem atan_q3a (y0 x0 x y : Int) (w : World) (hx : clamp x0 = y) (hy : clamp y0 = -x) (hx0 : 0 < x) (hx1 : x ≤ 1099511627776) (hy0 : 0 < y) (hy1 : y ≤ 1099511627776) :
    Calls Try.prog 34 #[.int .i64 y0, .int .i64 x0] w fun e w' => e = .returned (.int .i64 (49152 + ang y x)) ∧ Below w.heap.size w w' := by
  have z1 : (y == 0) = false := by simp; omega
  go_enter Try.func34, Try.ntmps34
  go_wp2_with (go_at_call 35; (with_reducible refine (clamp_any _ _).mono ?_); rintro e w' ⟨rfl, rfl⟩)
  clear hx hy
  go_loopw [6, 7] (fun lo hi wr => ∃ (L H : Int) (l : List Obj) (n : Nat), lo = .int .i64 L ∧ hi = .int .i64 H ∧ Between y x L H ∧ wr = ext w l n) (fun lo hi _ => (intOf hi - intOf lo).toNat)
  case atStart => exact ⟨0, 16384, [], _, rfl, rfl, ⟨by omega, by omega, by omega, .inl rfl, .inl rfl⟩, (ext_nil _).symm⟩
  case round =>
    obtain ⟨L, H, l, n, rfl, rfl, hb, rfl⟩ := hrel
    have b0 := hb.lo
    have b1 := hb.lt
    have b2 := hb.hi
    have HB := Lib.hid hb
    clear hb
    by_cases hlt : L + 1 < H
    · have hm0 : 0 ≤ (L + H) / 2 := by omega
      have hm1 : (L + H) / 2 < 16384 := by omega
      obtain ⟨p1, p2⟩ := prod_bd (cos ((L + H) / 2)) y (cos_bd _).1 (cos_bd _).2 (by omega) (by omega)
      obtain ⟨p3, p4⟩ := prod_bd (sin ((L + H) / 2)) x (sin_bd _).1 (sin_bd _).2 (by omega) (by omega)
      by_cases hp : sin ((L + H) / 2) * x ≤ cos ((L + H) / 2) * y
      · go_wp2_with (first
          | (go_at_call 31; (with_reducible refine (sin_any _ _).mono ?_); rintro e w1 ⟨rfl, hb⟩; obtain ⟨l1, n1, rfl⟩ := ext_of hb; clear hb)
          | (go_at_call 32; (with_reducible refine (cos_any _ _).mono ?_); rintro e w1 ⟨rfl, hb⟩; obtain ⟨l2, n2, rfl⟩ := ext_of hb; clear hb))
        go_roundw
        case rel => exact ⟨_, _, _, _, rfl, rfl, mid_step y x L H HB.out hlt hp, rfl⟩
        case measure => simp [intOf]; omega
      · go_wp2_with (first
          | (go_at_call 31; (with_reducible refine (sin_any _ _).mono ?_); rintro e w1 ⟨rfl, hb⟩; obtain ⟨l1, n1, rfl⟩ := ext_of hb; clear hb)
          | (go_at_call 32; (with_reducible refine (cos_any _ _).mono ?_); rintro e w1 ⟨rfl, hb⟩; obtain ⟨l2, n2, rfl⟩ := ext_of hb; clear hb))
        go_roundw
        case rel => exact ⟨_, _, _, _, rfl, rfl, mid_step' y x L H HB.out hlt (Int.not_le.2 hp), rfl⟩
        case measure => simp [intOf]; omega
    · have hH : H = L + 1 := by omega
      have ha : ang y x = L := ang_eq y x L hx0 (by have h := HB.out; rw [hH] at h; exact h)
      have HA := Lib.hid ha
      clear ha hH
      go_wp2
      go_ret
      exact ⟨ret_int (by rw [HA.out]), by repeat (first | exact Below.refl _ _ | apply Below.drew | apply Below.al | apply Below.ex)⟩

set_option maxHeartbeats 800000 in
theorem atan_q3b (y0 x0 x y : Int) (w : World) (hx : clamp x0 = y) (hy : clamp y0 = -x) (hx0 : 0 < x) (hx1 : x ≤ 1099511627776) (hy0 : 0 ≥ y) (hy1 : 0 ≤ y) :
    Calls Try.prog 34 #[.int .i64 y0, .int .i64 x0] w fun e w' => e = .returned (.int .i64 (49152 + ang y x)) ∧ Below w.heap.size w w' := by
  have z1 : (y == 0) = true := by simp; omega
  have z2 : (-x == 0) = false := by simp; omega
  go_enter Try.func34, Try.ntmps34
  go_wp2_with (go_at_call 35; (with_reducible refine (clamp_any _ _).mono ?_); rintro e w' ⟨rfl, rfl⟩)
  clear hx hy
  go_loopw [6, 7] (fun lo hi wr => ∃ (L H : Int) (l : List Obj) (n : Nat), lo = .int .i64 L ∧ hi = .int .i64 H ∧ Between y x L H ∧ wr = ext w l n) (fun lo hi _ => (intOf hi - intOf lo).toNat)
  case atStart => exact ⟨0, 16384, [], _, rfl, rfl, ⟨by omega, by omega, by omega, .inl rfl, .inl rfl⟩, (ext_nil _).symm⟩
  case round =>
    obtain ⟨L, H, l, n, rfl, rfl, hb, rfl⟩ := hrel
    have b0 := hb.lo
    have b1 := hb.lt
    have b2 := hb.hi
    have HB := Lib.hid hb
    clear hb
    by_cases hlt : L + 1 < H
    · have hm0 : 0 ≤ (L + H) / 2 := by omega
      have hm1 : (L + H) / 2 < 16384 := by omega
      obtain ⟨p1, p2⟩ := prod_bd (cos ((L + H) / 2)) y (cos_bd _).1 (cos_bd _).2 (by omega) (by omega)
      obtain ⟨p3, p4⟩ := prod_bd (sin ((L + H) / 2)) x (sin_bd _).1 (sin_bd _).2 (by omega) (by omega)
      by_cases hp : sin ((L + H) / 2) * x ≤ cos ((L + H) / 2) * y
      · go_wp2_with (first
          | (go_at_call 31; (with_reducible refine (sin_any _ _).mono ?_); rintro e w1 ⟨rfl, hb⟩; obtain ⟨l1, n1, rfl⟩ := ext_of hb; clear hb)
          | (go_at_call 32; (with_reducible refine (cos_any _ _).mono ?_); rintro e w1 ⟨rfl, hb⟩; obtain ⟨l2, n2, rfl⟩ := ext_of hb; clear hb))
        go_roundw
        case rel => exact ⟨_, _, _, _, rfl, rfl, mid_step y x L H HB.out hlt hp, rfl⟩
        case measure => simp [intOf]; omega
      · go_wp2_with (first
          | (go_at_call 31; (with_reducible refine (sin_any _ _).mono ?_); rintro e w1 ⟨rfl, hb⟩; obtain ⟨l1, n1, rfl⟩ := ext_of hb; clear hb)
          | (go_at_call 32; (with_reducible refine (cos_any _ _).mono ?_); rintro e w1 ⟨rfl, hb⟩; obtain ⟨l2, n2, rfl⟩ := ext_of hb; clear hb))
        go_roundw
        case rel => exact ⟨_, _, _, _, rfl, rfl, mid_step' y x L H HB.out hlt (Int.not_le.2 hp), rfl⟩
        case measure => simp [intOf]; omega
    · have hH : H = L + 1 := by omega
      have ha : ang y x = L := ang_eq y x L hx0 (by have h := HB.out; rw [hH] at h; exact h)
      have HA := Lib.hid ha
      clear ha hH
      go_wp2
      go_ret
      exact ⟨ret_int (by rw [HA.out]), by repeat (first | exact Below.refl _ _ | apply Below.drew | apply Below.al | apply Below.ex)⟩

theorem atan_any (y x : Int) (w : World) :
    Calls Try.prog 34 #[.int .i64 y, .int .i64 x] w fun e w' => e = .returned (.int .i64 (atanC (clamp y) (clamp x))) ∧ Below w.heap.size w w' := by
  have h1 := clamp_lo y
  have h2 := clamp_hi y
  have h3 := clamp_lo x
  have h4 := clamp_hi x
  by_cases c0 : clamp x = 0 ∧ clamp y = 0
  · rw [show atanC (clamp y) (clamp x) = 0 by unfold atanC; rw [if_pos c0]]
    exact atan_zero y x w c0.1 c0.2
  by_cases c1 : 0 < clamp x ∧ 0 ≤ clamp y
  · rw [show atanC (clamp y) (clamp x) = 0 + ang (clamp y) (clamp x) by unfold atanC; rw [if_neg c0, if_pos c1]; omega]
    exact atan_q0 y x (clamp x) (clamp y) w rfl rfl c1.1 h4 c1.2 h2
  by_cases c2 : clamp x ≤ 0 ∧ 0 < clamp y
  · rw [show atanC (clamp y) (clamp x) = 16384 + ang (-clamp x) (clamp y) by unfold atanC; rw [if_neg c0, if_neg c1, if_pos c2]]
    by_cases cz : clamp x = 0
    · exact atan_q1b y x (clamp y) (-clamp x) w (by omega) rfl c2.2 h2 (by omega) (by omega)
    · exact atan_q1a y x (clamp y) (-clamp x) w (by omega) rfl c2.2 h2 (by omega) (by omega)
  by_cases c3 : clamp x < 0
  · rw [show atanC (clamp y) (clamp x) = 32768 + ang (-clamp y) (-clamp x) by unfold atanC; rw [if_neg c0, if_neg c1, if_neg c2, if_pos c3]]
    exact atan_q2 y x (-clamp x) (-clamp y) w (by omega) (by omega) (by omega) (by omega) (by omega) (by omega)
  · rw [show atanC (clamp y) (clamp x) = 49152 + ang (clamp x) (-clamp y) by unfold atanC; rw [if_neg c0, if_neg c1, if_neg c2, if_neg c3]]
    by_cases cz : clamp x = 0
    · exact atan_q3b y x (-clamp y) (clamp x) w rfl (by omega) (by omega) (by omega) (by omega) (by omega)
    · exact atan_q3a y x (-clamp y) (clamp x) w rfl (by omega) (by omega) (by omega) (by omega) (by omega)
end Go.Proofs.Ytdnepccjgclgiaa
