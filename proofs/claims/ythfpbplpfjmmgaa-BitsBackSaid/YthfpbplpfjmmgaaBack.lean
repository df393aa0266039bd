/- For every input, QuantBack returns true. No condition. -/
import Derived.Test.YthfpbplpfjmmgaaReader
namespace Go.Proofs.Ythfpbplpfjmmgaa
open Go.RowKit

theorem check_any (nm : Value) (b low : Int) (w : World) (b0 : 0 ≤ b) (b1 : b ≤ 32) (l0 : -1099511627776 ≤ low) (l1 : low ≤ 1099511627776) :
    Calls Try.prog 52 #[.agg #[nm, .int .i64 b, .int .i64 low]] w fun e w' => e = .returned (.int .i64 0) ∧ Below w.heap.size w w' := by
  have c1 := clamp_in low (by omega) (by omega)
  have d1 : decide (b < 0) = false := by simp; omega
  have d2 : decide (32 < b) = false := by simp; omega
  go_enter Try.func52, Try.ntmps52
  go_wp2_with fail
  refine region_grow (by kernel_rfl) (by kernel_rfl) ?_
  repeat (go_big_quiet_step ((intro _; go_at_call 33; exact grow_same (clamp_any _ _))))
  refine wpQuiet_nil ?_
  intro _ hw'
  obtain ⟨k, m, rfl⟩ := hw'
  go_wp2
  go_ret
  exact ⟨rfl, by repeat (first | exact Below.refl _ _ | apply Below.drew | apply Below.al | apply Below.ex)⟩

theorem sub_word (v low : Int) (P : Nat) (h0 : 0 ≤ v - low) (h1 : v - low < (P : Int)) (hP : P ≤ 4294967296) : (Wd (v - low)).toNat = (v - low).toNat ∧ (Wd (v - low)).toNat < P := by
  have := U_Wd (v - low) h0 (by omega)
  unfold U at this
  omega

set_option maxRecDepth 4000 in
theorem qput_any (p N n b : Nat) (nm : Value) (low v : Int) (w : World) (h : Wtr p N n w) (b1 : b ≤ 32) (l0 : -1099511627776 ≤ low) (l1 : low ≤ 1099511627776)
    (h0 : low ≤ v) (h1 : v < low + 2 ^ b) (hn : n + b ≤ 524288) :
    Calls Try.prog 35 #[.pointer (some ⟨p, 0, none⟩), .agg #[nm, .int .i64 b, .int .i64 low], .int .i64 v] w fun e w' => e = .returned (.int .i64 0) ∧ Wtr p (N + (v - low).toNat * 2 ^ n) (n + b) w' ∧ Below p w w' := by
  obtain ⟨P, hP⟩ : ∃ P : Nat, (2 : Nat) ^ b = P := ⟨_, rfl⟩
  have hPI : (2 : Int) ^ b = (P : Int) := by rw [← hP]; simp
  have hP1 : 1 ≤ P := by rw [← hP]; exact Nat.pow_pos (by omega)
  have hP2 : P ≤ 4294967296 := by
    have : 2 ^ b ≤ 2 ^ 32 := Nat.pow_le_pow_right (by omega) b1
    omega
  rw [hPI] at h1
  have c1 := clamp_in low (by omega) (by omega)
  have hfit : fit low (P : Int) v = v := by
    unfold fit mx; rw [c1]
    rw [if_neg (by split <;> omega)]
    split <;> omega
  have hw := sub_word v low P (by omega) (by omega) hP2
  have HH := Lib.hid h
  have hsz := h.sz
  have HW := Lib.hid hw
  have HPP := Lib.hid hP
  clear h hw hP c1
  go_enter Try.func35, Try.ntmps35
  go_wp2_with (first
    | (go_at_call 52; (with_reducible refine (check_any _ _ _ _ (by omega) (by omega) l0 l1).mono ?_); rintro e w1 ⟨rfl, hb⟩; obtain ⟨l2, n2, rfl⟩ := ext_of hb; clear hb)
    | (go_at_call 34; (with_reducible refine (fit_any _ _ _ _ (P : Int) _ (by omega) (by omega) (by rw [Int.toNat_natCast]; exact hPI) (by omega) (by omega)).mono ?_); rintro e w1 ⟨rfl, hb⟩; obtain ⟨l3, n3, rfl⟩ := ext_of hb; clear hb))
  refine (put_any p N n b (Wd (v - low)) _ ((HH.out.alloc _).ext _ _) (by omega) (by rw [HPP.out]; exact HW.out.2) hn).mono ?_
  rintro e w1 ⟨rfl, hW, hB⟩
  go_wp2
  go_ret
  refine ⟨rfl, by rw [← HW.out.1]; exact hW, ?_⟩
  exact Below.trans (by repeat (first | exact Below.refl _ _ | exact (Below.alloc (Below.refl _ _) (by omega) _) | (refine Below.ext' ?_ (by simp; omega) _ _))) hB

set_option maxRecDepth 4000 in
theorem qget_any (B T q pos b : Nat) (nm : Value) (low : Int) (bs : List Int) (w : World) (h : Rdr B T q pos bs w) (b1 : b ≤ 32) (l0 : -1099511627776 ≤ low) (l1 : low ≤ 1099511627776) (hp : pos + b ≤ 8 * bs.length) :
    Calls Try.prog 39 #[.pointer (some ⟨q, 0, none⟩), .agg #[nm, .int .i64 b, .int .i64 low]] w fun e w' =>
      e = .returned (.tuple #[.int .i64 (low + ((numB bs / 2 ^ pos % 2 ^ b : Nat) : Int)), .int .i64 0]) ∧ Rdr B T q (pos + b) bs w' ∧ w.grownBy w' (some q) := by
  obtain ⟨X, hX⟩ : ∃ X, numB bs / 2 ^ pos % 2 ^ b = X := ⟨_, rfl⟩
  have hXl : X < 4294967296 := by
    rw [← hX]
    have h2 : numB bs / 2 ^ pos % 2 ^ b < 2 ^ b := Nat.mod_lt _ (Nat.pow_pos (by omega))
    have : 2 ^ b ≤ 2 ^ 32 := Nat.pow_le_pow_right (by omega) b1
    omega
  have HX := Lib.hid hX
  rw [hX]
  have HH := Lib.hid h
  have hTs := h.sz
  clear h hX
  have hconv : ∀ W : World, Sem.run Try.prog (Go.convert 23 3 (Value.int .u64 (U (wordOf X)))) W = Result.ok (Value.int .i64 (X : Int)) W := by
    intro W
    rw [run_convert_int W 23 3 .u64 _ (by kernel_rfl) (by kernel_rfl)]
    show Result.ok (Value.int .i64 (IntKind.i64.wrap (U (wordOf X)))) W = _
    have e : U (wordOf X) = (X : Int) := by unfold U; rw [wordOf_nat X (by omega)]
    rw [e, IntWalk.i64_in _ (by omega)]
  go_enter Try.func39, Try.ntmps39
  go_wp2_with (go_at_call 52; (with_reducible refine (check_any _ _ _ _ (by omega) (by omega) l0 l1).mono ?_); rintro e w1 ⟨rfl, hb⟩; obtain ⟨l2, n2, rfl⟩ := ext_of hb; clear hb)
  have hR : Rdr B T q pos bs (ext (w.alloc (Obj.cells #[nm, Value.int IntKind.i64 ↑b, Value.int IntKind.i64 low] 61)) l2 n2) :=
    HH.out.below (((Below.refl T w).alloc hTs _).trans ((below_ext _ l2 n2).mono (by simp; omega))) (Nat.le_refl _)
  refine (get_any B T q pos b bs _ hR (by omega) hp).mono ?_
  rintro e w1 ⟨rfl, hR1, hG1⟩
  rw [HX.out]
  have hbx : w1.cell? ⟨w.heap.size, 2, none⟩ = some (.int .i64 low) := hG1.cell (a := ⟨w.heap.size, 2, none⟩) (by simp [go_sem]) (by intro e; have := HH.out.qT; simp at e; omega)
  go_wp2
  go_ret2
  refine ⟨rfl, hR1, ?_⟩
  refine grown_trans (grown_ext ?_ l2 n2) hG1
  exact World.grownBy_alloc _ _ _

theorem fit_facts (low p a b : Int) (l0 : -1099511627776 ≤ low) (l1 : low ≤ 1099511627776) (p0 : 1 ≤ p) (h : a ≤ b) :
    low ≤ fit low p a ∧ fit low p a < low + p ∧ fit low p a ≤ fit low p b ∧ fit low p (fit low p a) = fit low p a := by
  have c := clamp_in low l0 l1
  unfold fit mx
  rw [c]
  refine ⟨?_, ?_, ?_, ?_⟩ <;> (repeat split) <;> omega
theorem two_fields (X Y b : Nat) (hX : X < 2 ^ b) (hY : Y < 2 ^ b) : (X + Y * 2 ^ b) / 2 ^ 0 % 2 ^ b = X ∧ (X + Y * 2 ^ b) / 2 ^ b % 2 ^ b = Y := by
  refine ⟨?_, ?_⟩
  · rw [Nat.pow_zero, Nat.div_one, Nat.add_mul_mod_self_right, Nat.mod_eq_of_lt hX]
  · rw [Nat.add_mul_div_right _ _ (Nat.pow_pos (by omega)), Nat.div_eq_of_lt hX, Nat.zero_add, Nat.mod_eq_of_lt hY]

theorem bytesN_bd (N c : Nat) : ∀ x ∈ bytesN N c, 0 ≤ x ∧ x < 256 := by
  intro x hx
  unfold bytesN at hx
  rw [List.mem_map] at hx
  obtain ⟨k, _, rfl⟩ := hx
  exact byteN_bd N k

attribute [local go_sem ↓] run_mx run_mn
set_option maxRecDepth 4000 in
set_option maxHeartbeats 1000000 in
theorem walk8 (a0 a1 v u : Int) (w : World) (h0 : -9223372036854775808 ≤ a0 ∧ a0 ≤ 9223372036854775807) (h1 : -9223372036854775808 ≤ a1 ∧ a1 ≤ 9223372036854775807) :
    Calls Try.prog 8 #[.int .i64 a0, .int .i64 a1, .int .i64 v, .int .i64 u] w fun e w' => e = .returned (.bool true) ∧ Below w.heap.size w w' := by
  have X1 := num_lo a1 1099511627776 (by omega)
  have X2 := num_hi a1 1099511627776 (by omega)
  obtain ⟨low, hlow⟩ : ∃ low, num a1 1099511627776 = low := ⟨_, rfl⟩
  rw [hlow] at X1 X2
  obtain ⟨b, hb, hb1⟩ : ∃ b : Nat, a0 % 33 = (b : Int) ∧ b ≤ 32 := by
    have := Int.emod_nonneg a0 (show (33 : Int) ≠ 0 by decide)
    have := Int.emod_lt_of_pos a0 (show (0 : Int) < 33 by decide)
    exact ⟨(a0 % 33).toNat, by omega, by omega⟩
  obtain ⟨P, hP⟩ : ∃ P : Nat, (2 : Nat) ^ b = P := ⟨_, rfl⟩
  have hPI : (2 : Int) ^ b = (P : Int) := by rw [← hP]; simp
  have hP1 : 1 ≤ P := by rw [← hP]; exact Nat.pow_pos (by omega)
  have hP2 : P ≤ 4294967296 := by
    have : 2 ^ b ≤ 2 ^ 32 := Nat.pow_le_pow_right (by omega) hb1
    omega
  have hmm : mn u v ≤ mx u v := by unfold mn mx; split <;> split <;> omega
  have F := fit_facts low P (mn u v) (mx u v) X1 X2 (by omega) hmm
  have F2 := fit_facts low P (mx u v) (mx u v) X1 X2 (by omega) (by omega)
  obtain ⟨x, hx⟩ : ∃ x, fit low P (mn u v) = x := ⟨_, rfl⟩
  obtain ⟨y, hy⟩ : ∃ y, fit low P (mx u v) = y := ⟨_, rfl⟩
  rw [hx, hy] at F
  rw [hy] at F2
  obtain ⟨f1, f2, f3, f4⟩ := F
  obtain ⟨f5, f6, _, _⟩ := F2
  have HPP := Lib.hid hP
  have HPI := Lib.hid hPI
  have HF4 := Lib.hid f4
  clear hP hPI hmm f4
  go_enter Try.func8, Try.ntmps8
  go_upto_region 4 with (first
    | (go_at_call 27; (with_reducible refine (quantBegun_any _).mono ?_); rintro e w1 ⟨rfl, hb⟩; obtain ⟨lb, nb, rfl⟩ := ext_of hb; clear hb)
    | (go_at_call 28; (with_reducible refine (num_any _ _ _ (by omega) (by omega) (by omega) (by omega)).mono ?_); rintro e w1 ⟨rfl, rfl⟩)
    | (go_at_call 15; (with_reducible refine (below_any _ _ _ (by omega) (by omega) (by omega) (by omega)).mono ?_); rintro e w1 ⟨rfl, rfl⟩))
  obtain ⟨W1, hW1⟩ : ∃ W1, (ext w lb nb).alloc (Obj.cells #[Value.string { data := #[] }, Value.int IntKind.i64 ↑b, Value.int IntKind.i64 low] 61) = W1 := ⟨_, rfl⟩
  obtain ⟨f0, hf0⟩ : ∃ f0, w.heap.size + lb.length = f0 := ⟨_, rfl⟩
  have c0 : W1.cell? ⟨f0, 0, none⟩ = some (Value.string { data := #[] }) := by rw [← hW1, ← hf0]; simp [go_sem]
  have c1 : W1.cell? ⟨f0, 1, none⟩ = some (Value.int IntKind.i64 ↑b) := by rw [← hW1, ← hf0]; simp [go_sem]
  have c2 : W1.cell? ⟨f0, 2, none⟩ = some (Value.int IntKind.i64 low) := by rw [← hW1, ← hf0]; simp [go_sem]
  have hfl : f0 < W1.heap.size := by rw [← hW1, ← hf0]; simp
  have hB1 : Hid (Below w.heap.size w W1) := by rw [← hW1]; repeat (first | exact Below.refl _ _ | apply Below.drew | apply Below.al | apply Below.ex)
  rw [hW1, hf0]
  clear hW1 hf0 hlow hb
  refine region_grow (by kernel_rfl) (by kernel_rfl) ?_
  repeat (go_big_quiet_step ((intro _; go_at_call 34; exact grow_of (fit_any _ _ _ _ (P : Int) _ (by omega) (by omega) (by rw [Int.toNat_natCast]; exact HPI.out) (by omega) (by omega)))))
  refine wpQuiet_nil ?_
  intro _ hw'
  obtain ⟨k, m, rfl⟩ := hw'
  rw [hx, hy]
  clear hx hy
  go_upto_region 6 with fail
  obtain ⟨W2, hW2⟩ : ∃ W2, (ext W1 k m).alloc (Obj.cells #[Value.slice none 0 0, Value.int IntKind.i64 0] 64) = W2 := ⟨_, rfl⟩
  have hWt := Wtr.made (ext W1 k m)
  rw [hW2, size_ext] at hWt
  have hB2 : Hid (Below w.heap.size w W2) := by
    rw [← hW2]
    exact (Below.ext' hB1.out hB1.out.size _ _).alloc (by have := hB1.out.size; simp; omega) _
  have c0' : W2.cell? ⟨f0, 0, none⟩ = some (Value.string { data := #[] }) := by rw [← hW2]; simp [go_sem, hfl, c0]
  have c1' : W2.cell? ⟨f0, 1, none⟩ = some (Value.int IntKind.i64 ↑b) := by rw [← hW2]; simp [go_sem, hfl, c1]
  have c2' : W2.cell? ⟨f0, 2, none⟩ = some (Value.int IntKind.i64 low) := by rw [← hW2]; simp [go_sem, hfl, c2]
  obtain ⟨p, hp⟩ : ∃ p, W1.heap.size + k.length = p := ⟨_, rfl⟩
  have hfp : f0 < p := by omega
  have hwp : Hid (w.heap.size ≤ p) := by have := hB1.out.size; unfold Hid; omega
  rw [hp] at hWt
  rw [hW2, hp]
  have hWt : Wtr p 0 0 W2.drew := ⟨hWt.ex, hWt.c1, hWt.f, hWt.lt, hWt.le, hWt.sz⟩
  have C : ∀ o v, W2.cell? ⟨f0, o, none⟩ = some v → ∀ W, Below p W2.drew W → W.cell? ⟨f0, o, none⟩ = some v := fun o v h W hb => (hb.cell (p := ⟨f0, o, none⟩) hfp).trans h
  have HC := Lib.hid C
  clear hW2 hp c0 c1 c2 C hfl hB1
  have hww : IntKind.i64.wrap (2 * (b : Int)) = ↑b + ↑b := by rw [IntWalk.i64_in _ (by omega)]; omega
  go_cut [51] (fun c wx => c = .bool false ∧ Wtr p (0 + (x - low).toNat * 2 ^ 0 + (y - low).toNat * 2 ^ (0 + b)) (0 + b + b) wx ∧ Below p W2.drew wx)
  case first =>
    go_region_with (first
      | (go_at_call 35; (first | (with_reducible refine (qput_any p 0 0 b _ low x _ hWt hb1 X1 X2 f1 (by rw [HPI.out]; exact f2) (by omega)).mono ?_) | (with_reducible refine (qput_any p _ _ b _ low y _ (by assumption) hb1 X1 X2 f5 (by rw [HPI.out]; exact f6) (by omega)).mono ?_)); rintro e w1 ⟨rfl, hWt1, hbq⟩; have d0 := HC.out _ _ c0' w1 (by first | exact hbq | exact Below.trans (by assumption) hbq); have d1 := HC.out _ _ c1' w1 (by first | exact hbq | exact Below.trans (by assumption) hbq); have d2 := HC.out _ _ c2' w1 (by first | exact hbq | exact Below.trans (by assumption) hbq))
      | (go_at_call 36; (with_reducible refine (wlen_any p _ _ _ (by assumption)).mono ?_); rintro e w1 ⟨rfl, rfl⟩))
    all_goals
      go_wp2
      go_meet
      refine ⟨rfl, by assumption, ?_⟩
      first | (apply Below.trans <;> assumption)
  case rest =>
    obtain ⟨rfl, hWt2, hB3⟩ := hcut
    clear hww
    obtain ⟨N, hN⟩ : ∃ N, 0 + (x - low).toNat * 2 ^ 0 + (y - low).toNat * 2 ^ (0 + b) = N := ⟨_, rfl⟩
    rw [hN, Nat.zero_add] at hWt2
    have HN := Lib.hid hN
    have HW := Lib.hid hWt2
    have HB3 := Lib.hid hB3
    obtain ⟨cnt, hcnt⟩ : ∃ cnt, (b + b + 7) / 8 = cnt := ⟨_, rfl⟩
    have hcb : b + b ≤ 8 * cnt ∧ cnt ≤ 9 := by omega
    have hz0 : wc.cell? ⟨f0, 0, none⟩ = some (Value.string { data := #[] }) := HC.out _ _ c0' wc hB3
    have hz1 : wc.cell? ⟨f0, 1, none⟩ = some (Value.int IntKind.i64 ↑b) := HC.out _ _ c1' wc hB3
    have hz2 : wc.cell? ⟨f0, 2, none⟩ = some (Value.int IntKind.i64 low) := HC.out _ _ c2' wc hB3
    have hpw : p < wc.heap.size := hWt2.sz
    have hwb := wbytes_any p N (b + b) wc hWt2
    rw [hcnt] at hwb
    clear hN hWt2 hB3 hcnt c0' c1' c2'
    go_wp2_with fail
    refine hwb.mono ?_
    rintro e W4 ⟨v4, rfl, own4, hb4⟩
    obtain ⟨ao, cap, rfl, hn4, hc4, hl4⟩ := owns_source own4
    have hs4 := hb4.size
    go_wp2_with fail
    refine (rnew_any ao cnt cap (bytesN N cnt) W4 (bytesN_length _ _) hn4 hc4 (by omega) (bytesN_bd _ _)).mono ?_
    rintro e W5 ⟨q, rfl, hq5, hR5, hb5⟩
    have hs5 := hb5.size
    have hNl : N < 2 ^ (8 * cnt) := Nat.lt_of_lt_of_le HW.out.lt (Nat.pow_le_pow_right (by omega) hcb.1)
    have hnum := numB_bytesN N cnt hNl
    have hP := HPP.out
    have hXl : (x - low).toNat < 2 ^ b := by rw [hP]; omega
    have hYl : (y - low).toNat < 2 ^ b := by rw [hP]; omega
    have htf := two_fields (x - low).toNat (y - low).toNat b hXl hYl
    have hN2 : (x - low).toNat + (y - low).toNat * 2 ^ b = N := by rw [← HN.out]; simp
    rw [hN2] at htf
    have Z : ∀ g o v, g < wc.heap.size → wc.cell? ⟨g, o, none⟩ = some v → W5.cell? ⟨g, o, none⟩ = some v := by
      intro g o v hg h
      rw [hb5.cell (p := ⟨g, o, none⟩) (by simp; omega), hb4.cell (p := ⟨g, o, none⟩) hg]; exact h
    have y0 := Z _ _ _ (by omega) hz0
    have y1 := Z _ _ _ (by omega) hz1
    have y2 := Z _ _ _ (by omega) hz2
    have hf5 : f0 < W5.heap.size := by omega
    have hfq : f0 ≠ q := by omega
    have hQ1 := qget_any W4.heap.size W5.heap.size q 0 b (Value.string { data := #[] }) low (bytesN N cnt) W5 hR5 hb1 X1 X2 (by rw [bytesN_length]; omega)
    rw [hnum, htf.1, show low + (((x - low).toNat : Nat) : Int) = x by omega] at hQ1
    have HQ1 := Lib.hid hQ1
    have HT := Lib.hid htf
    have HNUM := Lib.hid hnum
    have HB5 : Hid (Below w.heap.size w W5) := by
      have r1 := HB3.out.mono hwp.out
      have r2 : Below w.heap.size w wc := hB2.out.trans (((Below.refl _ _).drew).trans r1)
      have r3 := r2.trans (hb4.mono r2.size)
      exact r3.trans (hb5.mono r3.size)
    clear hQ1 htf hnum hN2 hNl hXl hYl hP Z hz0 hz1 hz2 hn4 hc4 hl4 own4 hb4 hb5
    go_wp2_with fail
    refine HQ1.out.mono ?_
    rintro e W6 ⟨rfl, hR6, hG6⟩
    have k0 : W6.cell? ⟨f0, 0, none⟩ = some (Value.string { data := #[] }) := hG6.cell (a := ⟨f0, 0, none⟩) y0 (fun e => hfq (by simpa using e))
    have k1 : W6.cell? ⟨f0, 1, none⟩ = some (Value.int IntKind.i64 ↑b) := hG6.cell (a := ⟨f0, 1, none⟩) y1 (fun e => hfq (by simpa using e))
    have k2 : W6.cell? ⟨f0, 2, none⟩ = some (Value.int IntKind.i64 low) := hG6.cell (a := ⟨f0, 2, none⟩) y2 (fun e => hfq (by simpa using e))
    have hQ2 := qget_any W4.heap.size W5.heap.size q (0 + b) b (Value.string { data := #[] }) low (bytesN N cnt) W6 hR6 hb1 X1 X2 (by rw [bytesN_length]; omega)
    rw [HNUM.out, Nat.zero_add, HT.out.2, show low + (((y - low).toNat : Nat) : Int) = y by omega] at hQ2
    have HQ2 := Lib.hid hQ2
    have HG6 := Lib.hid hG6
    clear hQ2 hR6 y0 y1 y2 hG6
    go_wp2_with fail
    refine HQ2.out.mono ?_
    rintro e W7 ⟨rfl, hR7, hG7⟩
    have n0 : W7.cell? ⟨f0, 0, none⟩ = some (Value.string { data := #[] }) := hG7.cell (a := ⟨f0, 0, none⟩) k0 (fun e => hfq (by simpa using e))
    have n1 : W7.cell? ⟨f0, 1, none⟩ = some (Value.int IntKind.i64 ↑b) := hG7.cell (a := ⟨f0, 1, none⟩) k1 (fun e => hfq (by simpa using e))
    have n2 : W7.cell? ⟨f0, 2, none⟩ = some (Value.int IntKind.i64 low) := hG7.cell (a := ⟨f0, 2, none⟩) k2 (fun e => hfq (by simpa using e))
    have hfs : f0 < W7.heap.size := by have := HG6.out.size; have := hG7.size; omega
    have HB7 : Hid (Below w.heap.size w W7) := by
      have g := grown_trans HG6.out hG7
      exact HB5.out.grown g HB5.out.size (fun k hk => by cases hk; have := hwp.out; omega)
    have hf4 := HF4.out
    clear hR7 hG7 k0 k1 k2
    go_wp2_with (go_at_call 34; (with_reducible refine (fit_any _ _ _ _ (P : Int) _ (by omega) (by omega) (by rw [Int.toNat_natCast]; exact HPI.out) (by omega) (by omega)).mono ?_); rintro e w1 ⟨rfl, hb⟩; obtain ⟨l3, n3, rfl⟩ := ext_of hb; clear hb)
    go_ret
    exact ⟨rfl, Below.ext' HB7.out HB7.out.size _ _⟩

theorem QuantBackW (a0 a1 a2 a3 : Int) (w0 : (Lit.int .i64 a0).wf = true) (w1 : (Lit.int .i64 a1).wf = true) (_w2 : (Lit.int .i64 a2).wf = true) (_w3 : (Lit.int .i64 a3).wf = true) (w : World) :
    Calls Try.prog 8 #[.int .i64 a0, .int .i64 a1, .int .i64 a2, .int .i64 a3] w fun e w' => e = .returned (.bool true) ∧ Below w.heap.size w w' :=
  walk8 a0 a1 a2 a3 w (bounds_i64 w0) (bounds_i64 w1)
end Go.Proofs.Ythfpbplpfjmmgaa
