/- For every input, TrigTurns, TrigCircle, TrigBack and TrigQuarters return true. No condition. -/
import Derived.Test.YtdnepccjgclgiaaAtan
namespace Go.Proofs.Ytdnepccjgclgiaa
open Go.RowKit

/-! ### Plain laws of sines and cosines -/
theorem sinT0 (m : Int) (h0 : 0 ≤ m) (h1 : m < 16384) : sinT m = sinQ m := by
  unfold sinT; rw [if_pos (by omega), Int.emod_eq_of_lt h0 h1]
theorem sinT1 (m : Int) (h0 : 16384 ≤ m) (h1 : m < 32768) : sinT m = sinQ (32768 - m) := by
  unfold sinT; rw [if_neg (by omega), if_pos (by omega)]; congr 1; omega
theorem sinT2 (m : Int) (h0 : 32768 ≤ m) (h1 : m < 49152) : sinT m = - sinQ (m - 32768) := by
  unfold sinT; rw [if_neg (by omega), if_neg (by omega), if_pos (by omega)]; congr 2; omega
theorem sinT3 (m : Int) (h0 : 49152 ≤ m) (h1 : m < 65536) : sinT m = - sinQ (65536 - m) := by
  unfold sinT; rw [if_neg (by omega), if_neg (by omega), if_neg (by omega)]; congr 2; omega

theorem sin_of (a m : Int) (h : a % 65536 = m) : sin a = sinT m := by unfold sin; rw [h]
theorem sin_turn (a : Int) : sin (a + 65536) = sin a := by
  unfold sin; congr 1; omega
theorem sin_half (a : Int) : sin (a + 32768) = - sin a := by
  obtain ⟨m, hm⟩ : ∃ m, m = a % 65536 := ⟨_, rfl⟩
  rw [sin_of a m hm.symm]
  by_cases h1 : m < 16384
  · rw [sin_of (a + 32768) (m + 32768) (by omega), sinT0 m (by omega) h1, sinT2 _ (by omega) (by omega)]; congr 2; omega
  by_cases h2 : m < 32768
  · rw [sin_of (a + 32768) (m + 32768) (by omega), sinT1 m (by omega) h2, sinT3 _ (by omega) (by omega)]; congr 2; omega
  by_cases h3 : m < 49152
  · rw [sin_of (a + 32768) (m - 32768) (by omega), sinT2 m (by omega) h3, sinT0 _ (by omega) (by omega)]; omega
  · rw [sin_of (a + 32768) (m - 32768) (by omega), sinT3 m (by omega) (by omega), sinT1 _ (by omega) (by omega), Int.neg_neg]; congr 1; omega
theorem sin_refl (a : Int) : sin (32768 - a) = sin a := by
  obtain ⟨m, hm⟩ : ∃ m, m = a % 65536 := ⟨_, rfl⟩
  rw [sin_of a m hm.symm]
  by_cases h0 : m = 0
  · subst h0; rw [sin_of (32768 - a) 32768 (by omega), sinT0 0 (by omega) (by omega), sinT2 _ (by omega) (by omega)]; show - sinQ 0 = sinQ 0; rw [sinQ_0]; rfl
  by_cases h1 : m < 16384
  · rw [sin_of (32768 - a) (32768 - m) (by omega), sinT0 m (by omega) h1, sinT1 _ (by omega) (by omega)]; congr 1; omega
  by_cases h2 : m = 16384
  · subst h2; rw [sin_of (32768 - a) 16384 (by omega)]
  by_cases h3 : m ≤ 32768
  · by_cases h4 : m = 32768
    · subst h4; rw [sin_of (32768 - a) 0 (by omega), sinT0 0 (by omega) (by omega), sinT2 _ (by omega) (by omega)]; show sinQ 0 = - sinQ 0; rw [sinQ_0]; rfl
    · rw [sin_of (32768 - a) (32768 - m) (by omega), sinT1 m (by omega) (by omega), sinT0 _ (by omega) (by omega)]
  by_cases h5 : m < 49152
  · rw [sin_of (32768 - a) (98304 - m) (by omega), sinT2 m (by omega) h5, sinT3 _ (by omega) (by omega)]; congr 2; omega
  by_cases h6 : m = 49152
  · subst h6; rw [sin_of (32768 - a) 49152 (by omega)]
  · rw [sin_of (32768 - a) (98304 - m) (by omega), sinT3 m (by omega) (by omega), sinT2 _ (by omega) (by omega)]; congr 2; omega
theorem sin_neg (a : Int) : sin (-a) = - sin a := by
  have h := sin_refl (-a)
  rw [← h, ← sin_half a]
  congr 1
  omega
theorem cos_eq (a : Int) : cos a = sin (a + 16384) := by
  unfold cos sin; congr 1; omega
theorem cos_neg (a : Int) : cos (-a) = cos a := by
  rw [cos_eq, cos_eq, ← sin_refl (a + 16384)]; congr 1; omega
theorem cos_half (a : Int) : cos (a + 32768) = - cos a := by
  rw [cos_eq, cos_eq, ← sin_half (a + 16384)]; congr 1; omega

/-! ### Facts with which the laws begin -/
theorem sin_quarterTurn : sin 16384 = 65536 := by decide
theorem atan_11 : atanC (clamp 1) (clamp 1) = 8192 := by
  have h : clamp 1 = 1 := by decide
  rw [h]
  unfold atanC
  rw [if_neg (by omega), if_pos (by omega)]
  refine ang_eq 1 1 8192 (by decide) ⟨by decide, by decide, by decide, .inr ?_, .inr ?_⟩
  · unfold NotBeyond; decide
  · unfold NotBeyond; decide

theorem trigBegun_any (w : World) :
    Calls Try.prog 29 #[] w fun e w' => e = .returned (.bool true) ∧ Below w.heap.size w w' := by
  have h1 := sin_quarterTurn
  have h2 := atan_11
  go_enter Try.func29, Try.ntmps29
  go_wp2_with (first
    | (go_at_call 31; (with_reducible refine (sin_any _ _).mono ?_); rintro e w1 ⟨rfl, hb⟩; obtain ⟨l1, n1, rfl⟩ := ext_of hb; clear hb)
    | (go_at_call 34; (with_reducible refine (atan_any _ _ _).mono ?_); rintro e w1 ⟨rfl, hb⟩; obtain ⟨l2, n2, rfl⟩ := ext_of hb; clear hb))
  go_ret
  exact ⟨rfl, by repeat (first | exact Below.refl _ _ | apply Below.drew | apply Below.al | apply Below.ex)⟩

set_option maxHeartbeats 400000 in
theorem TrigTurnsW (a0 : Int) (w0 : (Lit.int .i64 a0).wf = true) (w : World) :
    Calls Try.prog 4 #[.int .i64 a0] w fun e w' => e = .returned (.bool true) ∧ Below w.heap.size w w' := by
  have hb0 := bounds_i64 w0
  clear w0
  have m0 : 0 ≤ a0 % 1099511627776 := by omega
  have m1 : a0 % 1099511627776 < 1099511627776 := by omega
  have e1 := sin_turn (a0 % 1099511627776)
  have e2 := sin_neg (a0 % 1099511627776)
  have e3 := cos_neg (a0 % 1099511627776)
  have e4 := sin_half (a0 % 1099511627776)
  have e5 := cos_half (a0 % 1099511627776)
  have e6 := (cos_eq (a0 % 1099511627776)).symm
  have e7 := sin_refl (a0 % 1099511627776)
  obtain ⟨s1, s2⟩ := sin_bd (a0 % 1099511627776)
  obtain ⟨c1, c2⟩ := cos_bd (a0 % 1099511627776)
  go_enter Try.func4, Try.ntmps4
  go_wp2_with (first
    | (go_at_call 29; (with_reducible refine (trigBegun_any _).mono ?_); rintro e w1 ⟨rfl, hb⟩; obtain ⟨l0, n0, rfl⟩ := ext_of hb; clear hb)
    | (go_at_call 30; (with_reducible refine (below_any _ _ _ (by omega) (by omega) (by omega) (by omega)).mono ?_); rintro e w1 ⟨rfl, rfl⟩)
    | (go_at_call 31; (with_reducible refine (sin_any _ _).mono ?_); rintro e w1 ⟨rfl, hb⟩; obtain ⟨l1, n1, rfl⟩ := ext_of hb; clear hb)
    | (go_at_call 32; (with_reducible refine (cos_any _ _).mono ?_); rintro e w1 ⟨rfl, hb⟩; obtain ⟨l2, n2, rfl⟩ := ext_of hb; clear hb))
  go_ret
  exact ⟨rfl, by repeat (first | exact Below.refl _ _ | apply Below.drew | apply Below.al | apply Below.ex)⟩

theorem circle (a : Int) : sin a * sin a + cos a * cos a ≤ 4295753728 ∧ 4294180864 ≤ sin a * sin a + cos a * cos a := by
  obtain ⟨m, hm⟩ : ∃ m, m = a % 65536 := ⟨_, rfl⟩
  have hc : cos a = sin (m + 16384) := by unfold cos; rw [hm]
  rw [sin_of a m hm.symm, hc]
  by_cases h1 : m < 16384
  · have q := quarter m (by omega) h1
    rw [sinT0 m (by omega) h1, sin_of (m + 16384) (m + 16384) (by omega), sinT1 _ (by omega) (by omega), show 32768 - (m + 16384) = 16384 - m by omega]
    omega
  by_cases h2 : m < 32768
  · have q := quarter (m - 16384) (by omega) (by omega)
    rw [sinT1 m (by omega) h2, sin_of (m + 16384) (m + 16384) (by omega), sinT2 _ (by omega) (by omega), show m + 16384 - 32768 = m - 16384 by omega, Int.neg_mul_neg]
    rw [show 16384 - (m - 16384) = 32768 - m by omega] at q
    omega
  by_cases h3 : m < 49152
  · have q := quarter (m - 32768) (by omega) (by omega)
    rw [sinT2 m (by omega) h3, sin_of (m + 16384) (m + 16384) (by omega), sinT3 _ (by omega) (by omega), show 65536 - (m + 16384) = 49152 - m by omega, Int.neg_mul_neg, Int.neg_mul_neg]
    rw [show 16384 - (m - 32768) = 49152 - m by omega] at q
    omega
  · have q := quarter (m - 49152) (by omega) (by omega)
    rw [sinT3 m (by omega) (by omega), sin_of (m + 16384) (m - 49152) (by omega), sinT0 _ (by omega) (by omega), Int.neg_mul_neg]
    rw [show 16384 - (m - 49152) = 65536 - m by omega] at q
    omega

set_option maxHeartbeats 400000 in
theorem TrigCircleW (a0 : Int) (w0 : (Lit.int .i64 a0).wf = true) (w : World) :
    Calls Try.prog 5 #[.int .i64 a0] w fun e w' => e = .returned (.bool true) ∧ Below w.heap.size w w' := by
  have hb0 := bounds_i64 w0
  clear w0
  have m0 : 0 ≤ a0 % 16384 := by omega
  have m1 : a0 % 16384 < 16384 := by omega
  obtain ⟨c1, c2⟩ := circle a0
  obtain ⟨s1, s2⟩ := sin_bd a0
  obtain ⟨t1, t2⟩ := cos_bd a0
  have p1 : 0 ≤ sin a0 * sin a0 := by have := Int.natAbs_mul_self (a := sin a0); omega
  have p2 : 0 ≤ cos a0 * cos a0 := by have := Int.natAbs_mul_self (a := cos a0); omega
  have q := quarter (a0 % 16384) m0 m1
  have e1 : sin (a0 % 16384) = sinQ (a0 % 16384) := sin_quarter _ m0 m1
  have q1 : sin (a0 % 16384) ≤ sin (a0 % 16384 + 1) := by
    rw [e1]
    by_cases h : a0 % 16384 + 1 < 16384
    · rw [sin_quarter _ (by omega) h]; exact q.2.1
    · have h' : a0 % 16384 = 16383 := by omega
      rw [h', show (16383 : Int) + 1 = 16384 from rfl, sin_quarterTurn]; exact (sinQ_bd 16383 (by omega) (by omega)).2
  have q0 : 0 ≤ sin (a0 % 16384) := by rw [e1]; exact (sinQ_bd _ m0 (by omega)).1
  clear q e1
  go_enter Try.func5, Try.ntmps5
  go_wp2_with (first
    | (go_at_call 29; (with_reducible refine (trigBegun_any _).mono ?_); rintro e w1 ⟨rfl, hb⟩; obtain ⟨l0, n0, rfl⟩ := ext_of hb; clear hb)
    | (go_at_call 30; (with_reducible refine (below_any _ _ _ (by omega) (by omega) (by omega) (by omega)).mono ?_); rintro e w1 ⟨rfl, rfl⟩)
    | (go_at_call 33; (with_reducible refine (near_any _ _ _ _ (by omega) (by omega) (by omega) (by omega) (by omega) (by omega)).mono ?_); rintro e w1 ⟨rfl, rfl⟩)
    | (go_at_call 31; (with_reducible refine (sin_any _ _).mono ?_); rintro e w1 ⟨rfl, hb⟩; obtain ⟨l1, n1, rfl⟩ := ext_of hb; clear hb)
    | (go_at_call 32; (with_reducible refine (cos_any _ _).mono ?_); rintro e w1 ⟨rfl, hb⟩; obtain ⟨l2, n2, rfl⟩ := ext_of hb; clear hb))
  go_ret
  exact ⟨rfl, by repeat (first | exact Below.refl _ _ | apply Below.drew | apply Below.al | apply Below.ex)⟩

/-- The angle of the vector of an angle, in the first quarter, whatever its length. -/
theorem ang_back (r k : Int) (h0 : 0 ≤ r) (h1 : r < 16384) (hk : 0 < k) : ang (sinQ r * k) (sinQ (16384 - r) * k) = r := by
  have q := quarter r h0 h1
  refine ang_eq _ _ _ (Int.mul_pos q.2.2.2.2 hk) ⟨h0, by omega, by omega, .inr ?_, ?_⟩
  · unfold NotBeyond
    rw [sin_quarter r h0 h1, cos_quarter r h0 h1, ← Int.mul_assoc, ← Int.mul_assoc, Int.mul_comm (sinQ r)]
    exact Int.le_refl _
  · by_cases h : r + 1 = 16384
    · exact .inl h
    · refine .inr fun hn => ?_
      unfold NotBeyond at hn
      rw [sin_quarter _ (by omega) (by omega), cos_quarter _ (by omega) (by omega), ← Int.mul_assoc, ← Int.mul_assoc] at hn
      have := Int.le_of_mul_le_mul_right hn hk
      omega

theorem scaled (c k : Int) (h1 : -65536 ≤ c) (h2 : c ≤ 65536) (h3 : 0 < k) (h4 : k ≤ 1048576) : -68719476736 ≤ c * k ∧ c * k ≤ 68719476736 := by
  have a : c.natAbs * k.natAbs ≤ 65536 * 1048576 := Nat.mul_le_mul (by omega) (by omega)
  have b : (c * k).natAbs = c.natAbs * k.natAbs := Int.natAbs_mul c k
  omega

theorem atan_back (a k : Int) (h0 : 0 ≤ a) (h1 : a < 65536) (hk : 0 < k) (hk2 : k ≤ 1048576) : atanC (clamp (sin a * k)) (clamp (cos a * k)) = a := by
  have s := scaled (sin a) k (sin_bd a).1 (sin_bd a).2 hk hk2
  have c := scaled (cos a) k (cos_bd a).1 (cos_bd a).2 hk hk2
  rw [clamp_in _ (by omega) (by omega), clamp_in _ (by omega) (by omega)]
  have hm : a % 65536 = a := Int.emod_eq_of_lt h0 h1
  have hc : cos a = sin (a + 16384) := cos_eq a
  unfold atanC
  by_cases h2 : a < 16384
  · have q := quarter a h0 h2
    have e1 : sin a = sinQ a := by rw [sin_of a a hm, sinT0 a h0 h2]
    have e2 : cos a = sinQ (16384 - a) := by rw [hc, sin_of (a + 16384) (a + 16384) (by omega), sinT1 _ (by omega) (by omega)]; congr 1; omega
    rw [e1, e2]
    have px := Int.mul_pos q.2.2.2.2 hk
    have py : 0 ≤ sinQ a * k := Int.mul_nonneg (sinQ_bd a h0 (by omega)).1 (by omega)
    rw [if_neg (by omega), if_pos ⟨px, py⟩, ang_back a k h0 h2 hk]
  by_cases h3 : a < 32768
  · have q := quarter (a - 16384) (by omega) (by omega)
    have e1 : sin a = sinQ (16384 - (a - 16384)) := by rw [sin_of a a hm, sinT1 a (by omega) h3]; congr 1; omega
    have e2 : cos a = - sinQ (a - 16384) := by rw [hc, sin_of (a + 16384) (a + 16384) (by omega), sinT2 _ (by omega) (by omega)]; congr 2; omega
    rw [e1, e2, Int.neg_mul]
    have px := Int.mul_pos q.2.2.2.2 hk
    have py : 0 ≤ sinQ (a - 16384) * k := Int.mul_nonneg (sinQ_bd (a - 16384) (by omega) (by omega)).1 (by omega)
    rw [if_neg (by omega), if_neg (by omega), if_pos ⟨by omega, px⟩, Int.neg_neg, ang_back (a - 16384) k (by omega) (by omega) hk]
    omega
  by_cases h4 : a < 49152
  · have q := quarter (a - 32768) (by omega) (by omega)
    have e1 : sin a = - sinQ (a - 32768) := by rw [sin_of a a hm, sinT2 a (by omega) h4]
    have e2 : cos a = - sinQ (16384 - (a - 32768)) := by rw [hc, sin_of (a + 16384) (a + 16384) (by omega), sinT3 _ (by omega) (by omega)]; congr 2; omega
    rw [e1, e2, Int.neg_mul, Int.neg_mul]
    have px := Int.mul_pos q.2.2.2.2 hk
    have py : 0 ≤ sinQ (a - 32768) * k := Int.mul_nonneg (sinQ_bd (a - 32768) (by omega) (by omega)).1 (by omega)
    rw [if_neg (by omega), if_neg (by omega), if_neg (by omega), if_pos (by omega), Int.neg_neg, Int.neg_neg, ang_back (a - 32768) k (by omega) (by omega) hk]
    omega
  · have q := quarter (a - 49152) (by omega) (by omega)
    have e1 : sin a = - sinQ (16384 - (a - 49152)) := by rw [sin_of a a hm, sinT3 a (by omega) h1]; congr 2; omega
    have e2 : cos a = sinQ (a - 49152) := by rw [hc, sin_of (a + 16384) (a - 49152) (by omega), sinT0 _ (by omega) (by omega)]
    rw [e1, e2, Int.neg_mul]
    have px := Int.mul_pos q.2.2.2.2 hk
    have py : 0 ≤ sinQ (a - 49152) * k := Int.mul_nonneg (sinQ_bd (a - 49152) (by omega) (by omega)).1 (by omega)
    rw [if_neg (by omega), if_neg (by omega), if_neg (by omega), if_neg (by omega), Int.neg_neg, ang_back (a - 49152) k (by omega) (by omega) hk]
    omega

set_option maxHeartbeats 400000 in
theorem TrigBackW (a0 a1 : Int) (w0 : (Lit.int .i64 a0).wf = true) (w1 : (Lit.int .i64 a1).wf = true) (w : World) :
    Calls Try.prog 6 #[.int .i64 a0, .int .i64 a1] w fun e w' => e = .returned (.bool true) ∧ Below w.heap.size w w' := by
  have hb0 := bounds_i64 w0
  have hb1 := bounds_i64 w1
  clear w0 w1
  have m0 : 0 ≤ a0 % 65536 := by omega
  have m1 : a0 % 65536 < 65536 := by omega
  have k0 : 0 ≤ a1 % 1048576 := by omega
  have k1 : a1 % 1048576 < 1048576 := by omega
  have e := atan_back (a0 % 65536) (1 + a1 % 1048576) m0 m1 (by omega) (by omega)
  obtain ⟨p1, p2⟩ := scaled (sin (a0 % 65536)) (1 + a1 % 1048576) (sin_bd _).1 (sin_bd _).2 (by omega) (by omega)
  obtain ⟨p3, p4⟩ := scaled (cos (a0 % 65536)) (1 + a1 % 1048576) (cos_bd _).1 (cos_bd _).2 (by omega) (by omega)
  go_enter Try.func6, Try.ntmps6
  go_wp2_with (first
    | (go_at_call 29; (with_reducible refine (trigBegun_any _).mono ?_); rintro e w1 ⟨rfl, hb⟩; obtain ⟨l0, n0, rfl⟩ := ext_of hb; clear hb)
    | (go_at_call 30; (with_reducible refine (below_any _ _ _ (by omega) (by omega) (by omega) (by omega)).mono ?_); rintro e w1 ⟨rfl, rfl⟩)
    | (go_at_call 34; (with_reducible refine (atan_any _ _ _).mono ?_); rintro e w1 ⟨rfl, hb⟩; obtain ⟨l2, n2, rfl⟩ := ext_of hb; clear hb)
    | (go_at_call 31; (with_reducible refine (sin_any _ _).mono ?_); rintro e w1 ⟨rfl, hb⟩; obtain ⟨l1, n1, rfl⟩ := ext_of hb; clear hb)
    | (go_at_call 32; (with_reducible refine (cos_any _ _).mono ?_); rintro e w1 ⟨rfl, hb⟩; obtain ⟨l2, n2, rfl⟩ := ext_of hb; clear hb))
  go_ret
  exact ⟨rfl, by repeat (first | exact Below.refl _ _ | apply Below.drew | apply Below.al | apply Below.ex)⟩

theorem least {p : Nat → Prop} (h : ∃ n, p n) : ∃ n, p n ∧ ∀ m, m < n → ¬ p m := by
  obtain ⟨n, hn⟩ := h
  induction n using Nat.strongRecOn with
  | _ n ih =>
    by_cases hm : ∃ m, m < n ∧ p m
    · obtain ⟨m, hlt, hp⟩ := hm
      exact ih m hlt hp
    · exact ⟨n, hn, fun m hlt hp => hm ⟨m, hlt, hp⟩⟩

theorem ang_is (y x : Int) (hx : 0 < x) : IsAng y x (ang y x) := by
  obtain ⟨m, ⟨h1, h2⟩, hmin⟩ := least (p := fun m => 1 ≤ m ∧ (m = 16384 ∨ ¬ NotBeyond y x (m : Int))) ⟨16384, by omega, .inl rfl⟩
  have hm : m ≤ 16384 := by
    rcases Nat.lt_or_ge 16384 m with h | h
    · exact absurd ⟨by omega, .inl rfl⟩ (hmin 16384 h)
    · exact h
  have hi : IsAng y x ((m : Int) - 1) := by
    refine ⟨by omega, by omega, by omega, ?_, ?_⟩
    · by_cases e : m = 1
      · exact .inl (by omega)
      · refine .inr ?_
        have := hmin (m - 1) (by omega)
        have e2 : ((m - 1 : Nat) : Int) = (m : Int) - 1 := by omega
        rw [← e2]
        exact Classical.byContradiction fun hn => this ⟨by omega, .inr hn⟩
    · rcases h2 with e | e
      · exact .inl (by omega)
      · refine .inr ?_
        rw [show (m : Int) - 1 + 1 = m by omega]
        exact e
  rw [ang_eq y x _ hx hi]
  exact hi
theorem ang_bd (y x : Int) (hx : 0 < x) : 0 ≤ ang y x ∧ ang y x < 16384 := by
  obtain ⟨h1, _, h2, _, _⟩ := ang_is y x hx
  omega

theorem atan_quarter (y x : Int) (h : ¬ (x = 0 ∧ y = 0)) : 0 ≤ atanC y x ∧ atanC y x < 65536 ∧ atanC x (-y) = (atanC y x + 16384) % 65536 := by
  unfold atanC
  rw [if_neg h, if_neg (show ¬ (-y = 0 ∧ x = 0) by omega)]
  by_cases c1 : 0 < x ∧ 0 ≤ y
  · have b := ang_bd y x c1.1
    rw [if_pos c1, if_neg (by omega), if_pos (by omega), Int.neg_neg]
    omega
  by_cases c2 : x ≤ 0 ∧ 0 < y
  · have b := ang_bd (-x) y c2.2
    rw [if_neg c1, if_pos c2, if_neg (by omega), if_neg (by omega), if_pos (by omega), Int.neg_neg]
    omega
  by_cases c3 : x < 0
  · have b := ang_bd (-y) (-x) (by omega)
    rw [if_neg c1, if_neg c2, if_pos c3]
    by_cases d1 : y = 0
    · subst d1
      rw [if_neg (by omega), if_neg (by omega), if_neg (by omega)]
      simp only [Int.neg_zero] at *
      omega
    · rw [if_neg (by omega), if_neg (by omega), if_neg (by omega)]
      omega
  · have b := ang_bd x (-y) (by omega)
    rw [if_neg c1, if_neg c2, if_neg c3, if_pos (by omega)]
    omega

theorem atan_00 : atanC (clamp 0) (clamp 0) = 0 := by
  have h : clamp 0 = 0 := by decide
  rw [h]; unfold atanC; rw [if_pos (by omega)]

theorem TrigQuartersW (a0 a1 : Int) (_w0 : (Lit.int .i64 a0).wf = true) (_w1 : (Lit.int .i64 a1).wf = true) (w : World) :
    Calls Try.prog 7 #[.int .i64 a0, .int .i64 a1] w fun e w' => e = .returned (.bool true) ∧ Below w.heap.size w w' := by
  clear _w0 _w1
  have y1 := clamp_lo a0
  have y2 := clamp_hi a0
  have x1 := clamp_lo a1
  have x2 := clamp_hi a1
  have c1 := clamp_clamp a0
  have c2 := clamp_clamp a1
  have c3 : clamp (-clamp a0) = -clamp a0 := by rw [clamp_neg, clamp_clamp]
  by_cases h : clamp a1 = 0 ∧ clamp a0 = 0
  · obtain ⟨hx, hy⟩ := h
    have h00 := atan_00
    clear y1 y2 x1 x2 c1 c2 c3
    go_enter Try.func7, Try.ntmps7
    go_wp2_with (first
      | (go_at_call 29; (with_reducible refine (trigBegun_any _).mono ?_); rintro e w1 ⟨rfl, hb⟩; obtain ⟨l0, n0, rfl⟩ := ext_of hb; clear hb)
      | (go_at_call 35; (with_reducible refine (clamp_any _ _).mono ?_); rintro e w' ⟨rfl, rfl⟩)
      | (go_at_call 34; (with_reducible refine (atan_any _ _ _).mono ?_); rintro e w1 ⟨rfl, hb⟩; obtain ⟨l2, n2, rfl⟩ := ext_of hb; clear hb))
    go_ret
    exact ⟨rfl, by repeat (first | exact Below.refl _ _ | apply Below.drew | apply Below.al | apply Below.ex)⟩
  · obtain ⟨r0, r1, r2⟩ := atan_quarter (clamp a0) (clamp a1) h
    by_cases hx : clamp a1 = 0
    · have b0 : (clamp a0 == 0) = false := by simp; omega
      have b1 : (clamp a1 == 0) = true := by simp; omega
      clear h hx
      go_enter Try.func7, Try.ntmps7
      go_wp2_with (first
        | (go_at_call 29; (with_reducible refine (trigBegun_any _).mono ?_); rintro e w1 ⟨rfl, hb⟩; obtain ⟨l0, n0, rfl⟩ := ext_of hb; clear hb)
        | (go_at_call 35; (with_reducible refine (clamp_any _ _).mono ?_); rintro e w' ⟨rfl, rfl⟩)
        | (go_at_call 34; (with_reducible refine (atan_any _ _ _).mono ?_); rintro e w1 ⟨rfl, hb⟩; obtain ⟨l2, n2, rfl⟩ := ext_of hb; clear hb))
      go_ret
      exact ⟨rfl, by repeat (first | exact Below.refl _ _ | apply Below.drew | apply Below.al | apply Below.ex)⟩
    · have b1 : (clamp a1 == 0) = false := by simp; omega
      clear h hx
      go_enter Try.func7, Try.ntmps7
      go_wp2_with (first
        | (go_at_call 29; (with_reducible refine (trigBegun_any _).mono ?_); rintro e w1 ⟨rfl, hb⟩; obtain ⟨l0, n0, rfl⟩ := ext_of hb; clear hb)
        | (go_at_call 35; (with_reducible refine (clamp_any _ _).mono ?_); rintro e w' ⟨rfl, rfl⟩)
        | (go_at_call 34; (with_reducible refine (atan_any _ _ _).mono ?_); rintro e w1 ⟨rfl, hb⟩; obtain ⟨l2, n2, rfl⟩ := ext_of hb; clear hb))
      go_ret
      exact ⟨rfl, by repeat (first | exact Below.refl _ _ | apply Below.drew | apply Below.al | apply Below.ex)⟩
end Go.Proofs.Ytdnepccjgclgiaa
