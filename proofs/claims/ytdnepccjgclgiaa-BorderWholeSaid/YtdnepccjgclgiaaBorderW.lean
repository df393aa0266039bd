/- For every input, BorderBack and BorderWhole return true. No condition. -/
import Derived.Test.YtdnepccjgclgiaaBorder
namespace Go.Proofs.Ytdnepccjgclgiaa
open Go.RowKit Go.Proofs.Ytdnepccjgclgiaa.F

theorem BorderBackW (a0 : Int) (w0 : (Lit.int .i64 a0).wf = true) (w : World) :
    Calls Try.prog 9 #[.int .i64 a0] w fun e w' => e = .returned (.bool true) ∧ Below w.heap.size w w' := by
  clear w0
  have HH := Lib.hid from_half
  have HC := Lib.hid fun w => clamp_any a0 w
  by_cases h : clamp a0 = a0
  · obtain ⟨m, j, x, hn, hv, hx, hd, hz⟩ := word_of a0 h
    have ht := fun w => to_in a0 w h hx hd
    have hA : a0.natAbs ≤ 2 ^ 40 := by have := clamp_lo a0; have := clamp_hi a0; rw [h] at *; omega
    have hf := fun w => from_fin (decide (a0 < 0)) hn _ rfl w
    rw [fromV_whole hv hA hz] at hf
    have hs : sg (decide (a0 < 0)) a0.natAbs = a0 := by
      unfold sg
      by_cases h0 : a0 < 0 <;> simp [h0] <;> omega
    rw [hs] at hf
    obtain ⟨b, hb⟩ : ∃ b, wd (decide (a0 < 0)) m j = b := ⟨_, rfl⟩
    rw [hb] at ht hf
    rw [h] at HC
    have HT := Lib.hid ht
    have HF := Lib.hid hf
    have hne : (a0 != a0) = false := by simp
    have heq : (a0 == a0) = true := by simp
    clear ht hf hb hx hd hz hn hv hA hs h
    go_enter Try.func9, Try.ntmps9
    go_wp2_with (first
      | (go_at_call 37; (with_reducible refine (HH.out _).mono ?_); rintro e _ ⟨rfl, rfl⟩)
      | (go_at_call 37; (with_reducible refine (HF.out _).mono ?_); rintro e _ ⟨rfl, rfl⟩)
      | (go_at_call 38; (with_reducible refine (HT.out _).mono ?_); rintro e _ ⟨rfl, rfl⟩)
      | (go_at_call 35; (with_reducible refine (HC.out _).mono ?_); rintro e _ ⟨rfl, rfl⟩))
    go_ret
    exact ⟨rfl, Below.refl _ _⟩
  · have HT := Lib.hid fun w => to_out a0 w h
    obtain ⟨c, hc⟩ : ∃ c, clamp a0 = c := ⟨_, rfl⟩
    rw [hc] at h HC
    have hne : (c != a0) = true := by rw [bne, beq_eq_false_iff_ne.2 h]; rfl
    clear hc h
    go_enter Try.func9, Try.ntmps9
    go_wp2_with (first
      | (go_at_call 37; (with_reducible refine (HH.out _).mono ?_); rintro e _ ⟨rfl, rfl⟩)
      | (go_at_call 38; (with_reducible refine (HT.out _).mono ?_); rintro e _ ⟨rfl, rfl⟩)
      | (go_at_call 35; (with_reducible refine (HC.out _).mono ?_); rintro e _ ⟨rfl, rfl⟩))
    go_ret
    exact ⟨rfl, Below.refl _ _⟩

theorem whole_off (b c : Nat) (hc : c ≠ 0) (w : World) (h : ∀ w, Calls Try.prog 37 #[.int .u64 (b : Nat)] w fun e w' => e = .returned (.tuple #[.int .i64 0, .int .i64 (c : Nat)]) ∧ w = w') :
    Calls Try.prog 10 #[.int .u64 (b : Nat)] w fun e w' => e = .returned (.bool true) ∧ Below w.heap.size w w' := by
  have HH := Lib.hid from_half
  have HF := Lib.hid h
  have hne : ((c : Int) != 0) = true := by rw [bne, beq_eq_false_iff_ne.2 (by omega)]; rfl
  clear h hc
  go_enter Try.func10, Try.ntmps10
  go_wp2_with (first
    | (go_at_call 37; (with_reducible refine (HH.out _).mono ?_); rintro e _ ⟨rfl, rfl⟩)
    | (go_at_call 37; (with_reducible refine (HF.out _).mono ?_); rintro e _ ⟨rfl, rfl⟩))
  go_ret
  exact ⟨rfl, Below.refl _ _⟩
theorem BorderWholeW (a0 : Int) (w0 : (Lit.int .u64 a0).wf = true) (w : World) :
    Calls Try.prog 10 #[.int .u64 a0] w fun e w' => e = .returned (.bool true) ∧ Below w.heap.size w w' := by
  obtain ⟨b, rfl, hb⟩ : ∃ b : Nat, a0 = b ∧ b < 2 ^ 64 := by
    have h := bounds_u64 w0
    exact ⟨a0.toNat, by omega, by omega⟩
  clear w0
  rcases kinds hb with ⟨s, m, j, hn, hbw⟩ | ⟨s, hbw⟩ | ⟨s, r, h1, h2, hbw⟩
  · have hf := fun w => from_fin s hn b hbw w
    obtain ⟨v, hv⟩ : ∃ v, fromV s m j b = v := ⟨_, rfl⟩
    rw [hv] at hf
    unfold fromV at hv
    split at hv
    · subst hv; exact whole_off b 2 (by decide) w hf
    · split at hv
      · subst hv; exact whole_off b 3 (by decide) w hf
      · rename_i hbig hz
        split at hv
        · rename_i hT
          obtain ⟨T, hTT⟩ : ∃ T, m * 2 ^ (j + 16) / unit = T := ⟨_, rfl⟩
          rw [hTT] at hv hT
          have hT40 : T ≤ 2 ^ 40 := by
            have e : m * 2 ^ (j + 16) = m * 2 ^ j * 2 ^ 16 := by rw [Nat.pow_add, Nat.mul_assoc]
            rw [e] at hT
            have hp := unit_pos
            generalize m * 2 ^ j = V at hT hbig
            generalize unit = u at hT hbig hp
            rcases Nat.lt_or_ge (2 ^ 40) T with h | h
            · have : (2 ^ 40 + 1) * u ≤ T * u := Nat.mul_le_mul_right _ h
              omega
            · exact h
          subst hv
          obtain ⟨n, hnn⟩ : ∃ n, sg s T = n := ⟨_, rfl⟩
          simp only [hnn] at hf
          have hn40 : -1099511627776 ≤ n ∧ n ≤ 1099511627776 := by rw [← hnn]; unfold sg; cases s <;> simp <;> omega
          have hna : n.natAbs = T := by rw [← hnn]; unfold sg; cases s <;> simp
          have hcl := clamp_in n hn40.1 hn40.2
          obtain ⟨m1, j1, x1, hn1, hv1, hx1, hd1, hz1⟩ := word_of n hcl
          have ht := fun w => to_in n w hcl hx1 hd1
          rw [hna, hT] at hv1
          have hval : m1 * 2 ^ j1 = m * 2 ^ j := by
            rw [Nat.pow_add, Nat.pow_add, ← Nat.mul_assoc, ← Nat.mul_assoc] at hv1
            exact Nat.eq_of_mul_eq_mul_right (Nat.two_pow_pos 16) hv1
          have hword : wd (decide (n < 0)) m1 j1 = b := by
            rw [hbw]
            by_cases hs : decide (n < 0) = s
            · rw [hs]; exact wd_unique s hn1 hn hval
            · exfalso
              have hT0 : T = 0 := by
                rw [← hnn] at hs
                unfold sg at hs
                cases s <;> simp at hs <;> omega
              have hs1 : s = true := by
                cases s with
                | true => rfl
                | false => exfalso; apply hs; rw [← hnn]; unfold sg; simp
              rw [hT0, Nat.zero_mul] at hT
              have hm0 : m = 0 := by
                rcases Nat.mul_eq_zero.1 hT.symm with h | h
                · exact h
                · exact absurd h (Nat.ne_of_gt (Nat.two_pow_pos _))
              have hj0 : j = 0 := by rcases hn.full with h | h <;> omega
              apply hz
              rw [hbw, hs1, hm0, hj0]
              decide
          rw [hword] at ht
          have HH := Lib.hid from_half
          have HF := Lib.hid hf
          have HT := Lib.hid ht
          have hbe : ((b : Int) == (b : Int)) = true := by simp
          clear hf ht hword hval hv1 hx1 hd1 hz1 hn1 hcl hna hnn hT40 hT hTT hz hbig hbw hn hn40 hb
          go_enter Try.func10, Try.ntmps10
          go_wp2_with (first
            | (go_at_call 37; (with_reducible refine (HH.out _).mono ?_); rintro e _ ⟨rfl, rfl⟩)
            | (go_at_call 37; (with_reducible refine (HF.out _).mono ?_); rintro e _ ⟨rfl, rfl⟩)
            | (go_at_call 38; (with_reducible refine (HT.out _).mono ?_); rintro e _ ⟨rfl, rfl⟩))
          go_ret
          exact ⟨rfl, Below.refl _ _⟩
        · subst hv; exact whole_off b 3 (by decide) w hf
  · refine whole_off b 3 (by decide) w fun w => from_odd b hb w (.inr ⟨?_, ?_⟩)
    · rw [hbw, order_inf]; rfl
    · rw [hbw, (inf_abs s).1]; exact inf_most
  · refine whole_off b 3 (by decide) w fun w => from_odd b hb w (.inl ?_)
    rw [hbw, order_nan s h1 h2]; rfl
end Go.Proofs.Ytdnepccjgclgiaa
