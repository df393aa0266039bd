/- For every input, FixRounds, FixRoot, FixOrders, FixSigns and FixDivides return true. No condition. -/
import Derived.Test.YtdnepccjgclgiaaFix
import Derived.Test.YtdnepccjgclgiaaTriangle
namespace Go.Proofs.Ytdnepccjgclgiaa
open Go.RowKit
attribute [local go_sem ↓] run_mx run_mx4

/-! ### Plain laws -/
theorem fmul_eq (a b : Int) : fmul a b = clamp ((clamp a * clamp b + 32768) / 65536) := by
  unfold fmul fmd mulDiv
  have h : clamp 65536 = 65536 := by decide
  rw [h, if_neg (by decide), if_pos (by decide)]
  unfold rdiv
  congr 1
  omega
theorem fmul_in (a b : Int) (h1 : -1099511627776 ≤ a) (h2 : a ≤ 1099511627776) (h3 : -1099511627776 ≤ b) (h4 : b ≤ 1099511627776) (h5 : -72057594037927936 ≤ a * b) (h6 : a * b ≤ 72057594037927936 - 32768) :
    fmul a b = (a * b + 32768) / 65536 := by
  rw [fmul_eq, clamp_in a h1 h2, clamp_in b h3 h4, clamp_in _ (by omega) (by omega)]
theorem prod_in (a b n : Int) (h1 : -n ≤ a) (h2 : a ≤ n) (h3 : -n ≤ b) (h4 : b ≤ n) : -(n * n) ≤ a * b ∧ a * b ≤ n * n := by
  have e : a.natAbs * b.natAbs ≤ n.natAbs * n.natAbs := Nat.mul_le_mul (by omega) (by omega)
  have e2 := Int.natAbs_mul a b
  have e3 := natAbs_mul_self' n
  omega
theorem fmul_bd (a b : Int) : -1099511627776 ≤ fmul a b ∧ fmul a b ≤ 1099511627776 := by
  rw [fmul_eq]; exact ⟨clamp_lo _, clamp_hi _⟩
theorem fmd_bd (a b c : Int) : -1099511627776 ≤ fmd a b c ∧ fmd a b c ≤ 1099511627776 := by
  unfold fmd mulDiv
  split
  · omega
  · split <;> exact ⟨clamp_lo _, clamp_hi _⟩

set_option maxHeartbeats 400000 in
theorem FixRoundsW (a0 a1 : Int) (w0 : (Lit.int .i64 a0).wf = true) (w1 : (Lit.int .i64 a1).wf = true) (w : World) :
    Calls Try.prog 12 #[.int .i64 a0, .int .i64 a1] w fun e w' => e = .returned (.bool true) ∧ Below w.heap.size w w' := by
  have h0 := bounds_i64 w0
  have h1 := bounds_i64 w1
  clear w0 w1
  have x1 := num_lo a0 134217728 (by omega)
  have x2 := num_hi a0 134217728 (by omega)
  have y1 := num_lo a1 134217728 (by omega)
  have y2 := num_hi a1 134217728 (by omega)
  obtain ⟨p1, p2⟩ := prod_in (num a0 134217728) (num a1 134217728) 134217728 (by omega) (by omega) (by omega) (by omega)
  have e := fmul_in (num a0 134217728) (num a1 134217728) (by omega) (by omega) (by omega) (by omega) (by omega) (by omega)
  obtain ⟨m, hm⟩ : ∃ m, m = fmul (num a0 134217728) (num a1 134217728) := ⟨_, rfl⟩
  rw [← hm] at e
  have f1 : m * 65536 - num a0 134217728 * num a1 134217728 ≤ 32768 := by omega
  have f2 : -32768 < m * 65536 - num a0 134217728 * num a1 134217728 := by omega
  have f3 : -18014398509547520 ≤ m * 65536 := by omega
  have f4 : m * 65536 ≤ 18014398509547520 := by omega
  have em := hm.symm
  clear e hm
  go_enter Try.func12, Try.ntmps12
  go_wp2_with (first
    | (go_at_call 41; (with_reducible refine (fixBegun_any _).mono ?_); rintro e w1 ⟨rfl, hb⟩; obtain ⟨l, n, rfl⟩ := ext_of hb; clear hb)
    | (go_at_call 42; (with_reducible refine (num_any _ _ _ (by omega) (by omega) (by omega) (by omega)).mono ?_); rintro e w' ⟨rfl, rfl⟩)
    | (go_at_call 43; (with_reducible refine (fmul_any _ _ _).mono ?_); rintro e w1 ⟨rfl, hb⟩; obtain ⟨l, n, rfl⟩ := ext_of hb; clear hb))
  go_ret
  exact ⟨rfl, by repeat (first | exact Below.refl _ _ | apply Below.drew | apply Below.al | apply Below.ex)⟩

theorem root_facts (a : Int) : 0 ≤ fsqrt a ∧ fsqrt a ≤ 268435456 ∧ fsqrt a * fsqrt a ≤ mx (clamp a) 0 * 65536 ∧ mx (clamp a) 0 * 65536 < (fsqrt a + 1) * (fsqrt a + 1) := by
  have h1 := clamp_lo a
  have h2 := clamp_hi a
  unfold fsqrt
  have hx : (((clamp a * 65536).toNat : Nat) : Int) = mx (clamp a) 0 * 65536 := by unfold mx; split <;> omega
  obtain ⟨r1, r2⟩ := rt_is (clamp a * 65536).toNat
  have r3 : rt (clamp a * 65536).toNat < 268435457 := rt_lt _ _ (by omega)
  generalize rt (clamp a * 65536).toNat = r at *
  have r1' := Int.ofNat_le.2 r1
  have r2' := Int.ofNat_lt.2 r2
  rw [hx, Int.natCast_mul] at r1' r2'
  rw [Int.natCast_add] at r2'
  exact ⟨by omega, by omega, r1', r2'⟩

set_option maxHeartbeats 400000 in
theorem FixRootW (a0 : Int) (_w0 : (Lit.int .i64 a0).wf = true) (w : World) :
    Calls Try.prog 13 #[.int .i64 a0] w fun e w' => e = .returned (.bool true) ∧ Below w.heap.size w w' := by
  clear _w0
  obtain ⟨f1, f2, f3, f4⟩ := root_facts a0
  have c1 := clamp_lo a0
  have c2 := clamp_hi a0
  have g1 : 0 ≤ mx (clamp a0) 0 := by unfold mx; split <;> omega
  have g2 : mx (clamp a0) 0 ≤ 1099511627776 := by unfold mx; split <;> omega
  have p1 := sq_nonneg (fsqrt a0)
  have p2 := sq_nonneg (fsqrt a0 + 1)
  have p3 := (prod_in (fsqrt a0 + 1) (fsqrt a0 + 1) 268435457 (by omega) (by omega) (by omega) (by omega)).2
  go_enter Try.func13, Try.ntmps13
  go_wp2_with (first
    | (go_at_call 41; (with_reducible refine (fixBegun_any _).mono ?_); rintro e w1 ⟨rfl, hb⟩; obtain ⟨l, n, rfl⟩ := ext_of hb; clear hb)
    | (go_at_call 44; (with_reducible refine (fsqrt_any _ _).mono ?_); rintro e w' ⟨rfl, rfl⟩)
    | (go_at_call 35; (with_reducible refine (clamp_any _ _).mono ?_); rintro e w' ⟨rfl, rfl⟩))
  go_ret
  exact ⟨rfl, by repeat (first | exact Below.refl _ _ | apply Below.drew | apply Below.al | apply Below.ex)⟩

theorem fmul_mono (a b c : Int) (h : a ≤ b) (hc : 0 ≤ clamp c) : fmul a c ≤ fmul b c := by
  rw [fmul_eq, fmul_eq]
  refine clamp_mono _ _ (Int.ediv_le_ediv (by omega) ?_)
  have := Int.mul_le_mul_of_nonneg_right (clamp_mono a b h) hc
  omega
theorem fadd_mono (a b c : Int) (h : a ≤ b) : fadd a c ≤ fadd b c := by
  unfold fadd; have := clamp_mono a b h; exact clamp_mono _ _ (by omega)
theorem fsub_mono (a b c : Int) (h : a ≤ b) : fsub a c ≤ fsub b c := by
  unfold fsub; have := clamp_mono a b h; exact clamp_mono _ _ (by omega)
theorem fadd_bd (a b : Int) : -1099511627776 ≤ fadd a b ∧ fadd a b ≤ 1099511627776 := ⟨clamp_lo _, clamp_hi _⟩
theorem fsub_bd (a b : Int) : -1099511627776 ≤ fsub a b ∧ fsub a b ≤ 1099511627776 := ⟨clamp_lo _, clamp_hi _⟩

theorem in_any (a : Int) (w : World) (h : -1099511627776 ≤ a ∧ a ≤ 1099511627776) :
    Calls Try.prog 45 #[.int .i64 a] w fun e w' => e = .returned (.bool true) ∧ w = w' := by
  obtain ⟨h1, h2⟩ := h
  go_enter Try.func45, Try.ntmps45
  go_wp2
  go_ret
  exact ⟨rfl, rfl⟩

set_option maxHeartbeats 1000000 in
theorem orders (a b c x y : Int) (w : World) (hx : x = (if b < a then b else a)) (hy : y = (if b < a then a else b)) :
    Calls Try.prog 14 #[.int .i64 a, .int .i64 b, .int .i64 c] w fun e w' => e = .returned (.bool true) ∧ Below w.heap.size w w' := by
  have hxy : x ≤ y := by rw [hx, hy]; split <;> omega
  have c1 := clamp_lo c
  have c2 := clamp_hi c
  have hp : 0 ≤ clamp (mx (clamp c) (-clamp c)) := by
    rw [mx_abs, clamp_in _ (by omega) (by omega)]; omega
  have m1 := clamp_mono x y hxy
  have m2 := fadd_mono x y c hxy
  have m3 := fsub_mono x y c hxy
  have m4 := fmul_mono x y (mx (clamp c) (-clamp c)) hxy hp
  by_cases h : b < a
  · rw [if_pos h] at hx hy
    subst hx hy
    clear hp hxy
    go_enter Try.func14, Try.ntmps14
    go_wp2_with (first
      | (go_at_call 41; (with_reducible refine (fixBegun_any _).mono ?_); rintro e w1 ⟨rfl, hb⟩; obtain ⟨l, n, rfl⟩ := ext_of hb; clear hb)
      | (go_at_call 43; (with_reducible refine (fmul_any _ _ _).mono ?_); rintro e w1 ⟨rfl, hb⟩; obtain ⟨l, n, rfl⟩ := ext_of hb; clear hb)
      | (go_at_call 48; (with_reducible refine (fmd_any _ _ _ _).mono ?_); rintro e w1 ⟨rfl, hb⟩; obtain ⟨l, n, rfl⟩ := ext_of hb; clear hb)
      | (go_at_call 46; (with_reducible refine (fadd_any _ _ _).mono ?_); rintro e w' ⟨rfl, rfl⟩)
      | (go_at_call 47; (with_reducible refine (fsub_any _ _ _).mono ?_); rintro e w' ⟨rfl, rfl⟩)
      | (go_at_call 45; (with_reducible refine (in_any _ _ (by first | exact fmul_bd _ _ | exact fadd_bd _ _ | exact fsub_bd _ _ | exact fmd_bd _ _ _)).mono ?_); rintro e w' ⟨rfl, rfl⟩)
      | (go_at_call 35; (with_reducible refine (clamp_any _ _).mono ?_); rintro e w' ⟨rfl, rfl⟩))
    go_ret
    exact ⟨rfl, by repeat (first | exact Below.refl _ _ | apply Below.drew | apply Below.al | apply Below.ex)⟩
  · rw [if_neg h] at hx hy
    subst hx hy
    clear hp hxy
    go_enter Try.func14, Try.ntmps14
    go_wp2_with (first
      | (go_at_call 41; (with_reducible refine (fixBegun_any _).mono ?_); rintro e w1 ⟨rfl, hb⟩; obtain ⟨l, n, rfl⟩ := ext_of hb; clear hb)
      | (go_at_call 43; (with_reducible refine (fmul_any _ _ _).mono ?_); rintro e w1 ⟨rfl, hb⟩; obtain ⟨l, n, rfl⟩ := ext_of hb; clear hb)
      | (go_at_call 48; (with_reducible refine (fmd_any _ _ _ _).mono ?_); rintro e w1 ⟨rfl, hb⟩; obtain ⟨l, n, rfl⟩ := ext_of hb; clear hb)
      | (go_at_call 46; (with_reducible refine (fadd_any _ _ _).mono ?_); rintro e w' ⟨rfl, rfl⟩)
      | (go_at_call 47; (with_reducible refine (fsub_any _ _ _).mono ?_); rintro e w' ⟨rfl, rfl⟩)
      | (go_at_call 45; (with_reducible refine (in_any _ _ (by first | exact fmul_bd _ _ | exact fadd_bd _ _ | exact fsub_bd _ _ | exact fmd_bd _ _ _)).mono ?_); rintro e w' ⟨rfl, rfl⟩)
      | (go_at_call 35; (with_reducible refine (clamp_any _ _).mono ?_); rintro e w' ⟨rfl, rfl⟩))
    go_ret
    exact ⟨rfl, by repeat (first | exact Below.refl _ _ | apply Below.drew | apply Below.al | apply Below.ex)⟩
theorem FixOrdersW (a0 a1 a2 : Int) (_w0 : (Lit.int .i64 a0).wf = true) (_w1 : (Lit.int .i64 a1).wf = true) (_w2 : (Lit.int .i64 a2).wf = true) (w : World) :
    Calls Try.prog 14 #[.int .i64 a0, .int .i64 a1, .int .i64 a2] w fun e w' => e = .returned (.bool true) ∧ Below w.heap.size w w' := orders a0 a1 a2 _ _ w rfl rfl

theorem fmul_comm (a b : Int) : fmul a b = fmul b a := by rw [fmul_eq, fmul_eq, Int.mul_comm]
theorem fadd_comm (a b : Int) : fadd a b = fadd b a := by unfold fadd; rw [Int.add_comm]
theorem fmul_one (a : Int) : fmul a 65536 = clamp a := by
  rw [fmul_eq, show clamp 65536 = 65536 by decide, show (clamp a * 65536 + 32768) / 65536 = clamp a by omega, clamp_clamp]
theorem fmul_none (a : Int) : fmul a (-65536) = -clamp a := by
  rw [fmul_eq, show clamp (-65536) = -65536 by decide, show (clamp a * -65536 + 32768) / 65536 = -clamp a by omega, clamp_neg, clamp_clamp]
theorem rdiv_exact (a d : Int) (hd : 0 < d) : rdiv (a * d) d = a := by
  unfold rdiv
  have e : 2 * (a * d) + d = 2 * d * a + d := by grind
  rw [e, Int.mul_add_ediv_left _ _ (by omega), Int.ediv_eq_zero_of_lt (by omega) (by omega)]
  omega
theorem fmd_same (a b : Int) : fmd a b b = clamp a * (if mx (clamp b) (-clamp b) < 1 then mx (clamp b) (-clamp b) else 1) := by
  rw [mx_abs]
  unfold fmd mulDiv
  by_cases h0 : clamp b = 0
  · rw [if_pos h0, if_pos (by omega), h0]; simp
  · have h2 : ¬ ((clamp b).natAbs : Int) < 1 := by omega
    rw [if_neg h0, if_neg h2, Int.mul_one]
    by_cases h1 : 0 < clamp b
    · rw [if_pos h1, rdiv_exact _ _ h1, clamp_clamp]
    · rw [if_neg h1, ← Int.mul_neg, rdiv_exact _ _ (by omega), clamp_clamp]

set_option maxHeartbeats 1000000 in
theorem FixSignsW (a b : Int) (_w0 : (Lit.int .i64 a).wf = true) (_w1 : (Lit.int .i64 b).wf = true) (w : World) :
    Calls Try.prog 15 #[.int .i64 a, .int .i64 b] w fun e w' => e = .returned (.bool true) ∧ Below w.heap.size w w' := by
  clear _w0 _w1
  have a1 := clamp_lo a
  have a2 := clamp_hi a
  have b1 := clamp_lo b
  have b2 := clamp_hi b
  have e1 : (fadd a b == fadd b a) = true := by rw [fadd_comm]; simp
  have e2 : (fmul a b == fmul b a) = true := by rw [fmul_comm]; simp
  have e3 := fmul_one a
  have e4 := fmul_none a
  have e5 : fadd (clamp a) (-clamp a) = 0 := by
    unfold fadd; rw [clamp_neg, clamp_clamp, show clamp a + -clamp a = 0 by omega]; decide
  have e6 : fsub a a = 0 := by unfold fsub; rw [Int.sub_self]; decide
  have e7 := fmd_same a b
  by_cases h : clamp b = 0
  · have hm : mx (clamp b) (-clamp b) = 0 := by rw [mx_abs, h]; rfl
    rw [hm, if_pos (by omega), Int.mul_zero] at e7
    have hmin : min 1 (0 : Int) = 0 := by decide
    clear h
    go_enter Try.func15, Try.ntmps15
    go_wp2_with (first
      | (go_at_call 41; (with_reducible refine (fixBegun_any _).mono ?_); rintro e w1 ⟨rfl, hb⟩; obtain ⟨l, n, rfl⟩ := ext_of hb; clear hb)
      | (go_at_call 43; (with_reducible refine (fmul_any _ _ _).mono ?_); rintro e w1 ⟨rfl, hb⟩; obtain ⟨l, n, rfl⟩ := ext_of hb; clear hb)
      | (go_at_call 48; (with_reducible refine (fmd_any _ _ _ _).mono ?_); rintro e w1 ⟨rfl, hb⟩; obtain ⟨l, n, rfl⟩ := ext_of hb; clear hb)
      | (go_at_call 46; (with_reducible refine (fadd_any _ _ _).mono ?_); rintro e w' ⟨rfl, rfl⟩)
      | (go_at_call 47; (with_reducible refine (fsub_any _ _ _).mono ?_); rintro e w' ⟨rfl, rfl⟩)
      | (go_at_call 35; (with_reducible refine (clamp_any _ _).mono ?_); rintro e w' ⟨rfl, rfl⟩))
    go_ret
    exact ⟨rfl, by repeat (first | exact Below.refl _ _ | apply Below.drew | apply Below.al | apply Below.ex)⟩
  · have hm : 1 ≤ mx (clamp b) (-clamp b) := by rw [mx_abs]; omega
    rw [if_neg (by omega), Int.mul_one] at e7
    have hmin : min 1 (mx (clamp b) (-clamp b)) = 1 := by omega
    clear h
    go_enter Try.func15, Try.ntmps15
    go_wp2_with (first
      | (go_at_call 41; (with_reducible refine (fixBegun_any _).mono ?_); rintro e w1 ⟨rfl, hb⟩; obtain ⟨l, n, rfl⟩ := ext_of hb; clear hb)
      | (go_at_call 43; (with_reducible refine (fmul_any _ _ _).mono ?_); rintro e w1 ⟨rfl, hb⟩; obtain ⟨l, n, rfl⟩ := ext_of hb; clear hb)
      | (go_at_call 48; (with_reducible refine (fmd_any _ _ _ _).mono ?_); rintro e w1 ⟨rfl, hb⟩; obtain ⟨l, n, rfl⟩ := ext_of hb; clear hb)
      | (go_at_call 46; (with_reducible refine (fadd_any _ _ _).mono ?_); rintro e w' ⟨rfl, rfl⟩)
      | (go_at_call 47; (with_reducible refine (fsub_any _ _ _).mono ?_); rintro e w' ⟨rfl, rfl⟩)
      | (go_at_call 35; (with_reducible refine (clamp_any _ _).mono ?_); rintro e w' ⟨rfl, rfl⟩))
    go_ret
    exact ⟨rfl, by repeat (first | exact Below.refl _ _ | apply Below.drew | apply Below.al | apply Below.ex)⟩

/-- A quotient, rounded, and multiplied again. -/
theorem rdiv_near (p d : Int) (hd : 0 < d) : 2 * (rdiv p d * d) ≤ 2 * p + d ∧ 2 * p - d < 2 * (rdiv p d * d) := by
  unfold rdiv
  have h1 := Int.mul_ediv_self_le (x := 2 * p + d) (k := 2 * d) (by omega)
  have h2 := Int.lt_mul_ediv_self_add (x := 2 * p + d) (k := 2 * d) (by omega)
  generalize (2 * p + d) / (2 * d) = q at *
  have e : 2 * d * q = 2 * (q * d) := by grind
  omega
theorem divides (a b : Int) (a1 : -1073741824 ≤ a) (a2 : a ≤ 1073741824) (b1 : -1073741824 ≤ b) (b2 : b ≤ 1073741824) (hb : ¬ b = 0) (h : ¬ mx (fmd a 65536 b) (-fmd a 65536 b) = 1099511627776) :
    fmul (fmd a 65536 b) b - a ≤ b.natAbs / 65536 / 2 + 2 ∧ a - fmul (fmd a 65536 b) b ≤ b.natAbs / 65536 / 2 + 2 := by
  obtain ⟨q, d, hd, hq, hqd, hn⟩ : ∃ q d : Int, 0 < d ∧ fmd a 65536 b = clamp q ∧ (d = b.natAbs) ∧ (2 * (q * b) ≤ 131072 * a + d ∧ 131072 * a - d ≤ 2 * (q * b)) := by
    unfold fmd mulDiv
    rw [clamp_in a (by omega) (by omega), clamp_in b (by omega) (by omega), show clamp 65536 = 65536 by decide, if_neg hb]
    by_cases hp : 0 < b
    · refine ⟨rdiv (a * 65536) b, b, hp, by rw [if_pos hp], by omega, ?_⟩
      have := rdiv_near (a * 65536) b hp
      omega
    · refine ⟨rdiv (-(a * 65536)) (-b), -b, by omega, by rw [if_neg hp], by omega, ?_⟩
      have := rdiv_near (-(a * 65536)) (-b) (by omega)
      rw [Int.mul_neg] at this
      omega
  rw [hq] at h ⊢
  rw [mx_abs] at h
  have hc : clamp q = q := by
    rcases Int.lt_or_le q (-1099511627776) with c | c
    · rw [clamp_bot q (by omega)] at h; exact absurd rfl h
    · rcases Int.lt_or_le 1099511627776 q with c' | c'
      · rw [clamp_top q (by omega)] at h; exact absurd rfl h
      · exact clamp_in q c c'
  rw [hc]
  have q1 := clamp_lo q
  have q2 := clamp_hi q
  rw [hc] at q1 q2
  rw [fmul_in q b q1 q2 (by omega) (by omega) (by omega) (by omega)]
  generalize q * b = m at *
  omega

set_option maxHeartbeats 1000000 in
theorem FixDividesW (a0 a1 : Int) (w0 : (Lit.int .i64 a0).wf = true) (w1 : (Lit.int .i64 a1).wf = true) (w : World) :
    Calls Try.prog 16 #[.int .i64 a0, .int .i64 a1] w fun e w' => e = .returned (.bool true) ∧ Below w.heap.size w w' := by
  have h0 := bounds_i64 w0
  have h1 := bounds_i64 w1
  clear w0 w1
  have x1 := num_lo a0 1073741824 (by omega)
  have x2 := num_hi a0 1073741824 (by omega)
  have y1 := num_lo a1 1073741824 (by omega)
  have y2 := num_hi a1 1073741824 (by omega)
  have q0 := fmd_bd (num a0 1073741824) 65536 (num a1 1073741824)
  have q1 := fmul_bd (fmd (num a0 1073741824) 65536 (num a1 1073741824)) (num a1 1073741824)
  have ab := mx_abs (num a1 1073741824)
  by_cases hb : num a1 1073741824 = 0
  · have hb' : (num a1 1073741824 == 0) = true := by simpa using hb
    clear ab q0 q1
    have HB := Lib.hid hb
    clear hb
    go_enter Try.func16, Try.ntmps16
    go_wp2_with (first
      | (go_at_call 41; (with_reducible refine (fixBegun_any _).mono ?_); rintro e w1 ⟨rfl, hb⟩; obtain ⟨l, n, rfl⟩ := ext_of hb; clear hb)
      | (go_at_call 42; (with_reducible refine (num_any _ _ _ (by omega) (by omega) (by omega) (by omega)).mono ?_); rintro e w' ⟨rfl, rfl⟩)
      | (go_at_call 49; (with_reducible refine (fdiv_0 _ _ _ HB.out).mono ?_); rintro e w' ⟨rfl, rfl⟩))
    go_ret
    exact ⟨rfl, by repeat (first | exact Below.refl _ _ | apply Below.drew | apply Below.al | apply Below.ex)⟩
  · have hb' : (num a1 1073741824 == 0) = false := by simpa using hb
    have HB := Lib.hid hb
    by_cases hm : mx (fmd (num a0 1073741824) 65536 (num a1 1073741824)) (-fmd (num a0 1073741824) 65536 (num a1 1073741824)) = 1099511627776
    · have hm' : (mx (fmd (num a0 1073741824) 65536 (num a1 1073741824)) (-fmd (num a0 1073741824) 65536 (num a1 1073741824)) == 1099511627776) = true := by simpa using hm
      clear hb hm ab
      go_enter Try.func16, Try.ntmps16
      go_wp2_with (first
        | (go_at_call 41; (with_reducible refine (fixBegun_any _).mono ?_); rintro e w1 ⟨rfl, hb⟩; obtain ⟨l, n, rfl⟩ := ext_of hb; clear hb)
        | (go_at_call 42; (with_reducible refine (num_any _ _ _ (by omega) (by omega) (by omega) (by omega)).mono ?_); rintro e w' ⟨rfl, rfl⟩)
        | (go_at_call 49; (with_reducible refine (fdiv_1 _ _ _ HB.out).mono ?_); rintro e w1 ⟨rfl, hb⟩; obtain ⟨l, n, rfl⟩ := ext_of hb; clear hb))
      go_ret
      exact ⟨rfl, by repeat (first | exact Below.refl _ _ | apply Below.drew | apply Below.al | apply Below.ex)⟩
    · have hm' : (mx (fmd (num a0 1073741824) 65536 (num a1 1073741824)) (-fmd (num a0 1073741824) 65536 (num a1 1073741824)) == 1099511627776) = false := by simpa using hm
      have hd := divides _ _ x1 x2 y1 y2 hb hm
      rw [← ab] at hd
      have g0 : 0 ≤ mx (num a1 1073741824) (-num a1 1073741824) := by rw [ab]; omega
      have g1 : mx (num a1 1073741824) (-num a1 1073741824) ≤ 1073741824 := by rw [ab]; omega
      obtain ⟨d1, d2⟩ := hd
      clear hb hm ab
      go_enter Try.func16, Try.ntmps16
      go_wp2_with (first
        | (go_at_call 41; (with_reducible refine (fixBegun_any _).mono ?_); rintro e w1 ⟨rfl, hb⟩; obtain ⟨l, n, rfl⟩ := ext_of hb; clear hb)
        | (go_at_call 42; (with_reducible refine (num_any _ _ _ (by omega) (by omega) (by omega) (by omega)).mono ?_); rintro e w' ⟨rfl, rfl⟩)
        | (go_at_call 43; (with_reducible refine (fmul_any _ _ _).mono ?_); rintro e w1 ⟨rfl, hb⟩; obtain ⟨l, n, rfl⟩ := ext_of hb; clear hb)
        | (go_at_call 33; (with_reducible refine (near_any _ _ _ _ (by omega) (by omega) (by omega) (by omega) (by omega) (by omega)).mono ?_); rintro e w' ⟨rfl, rfl⟩)
        | (go_at_call 49; (with_reducible refine (fdiv_1 _ _ _ HB.out).mono ?_); rintro e w1 ⟨rfl, hb⟩; obtain ⟨l, n, rfl⟩ := ext_of hb; clear hb))
      go_ret
      exact ⟨rfl, by repeat (first | exact Below.refl _ _ | apply Below.drew | apply Below.al | apply Below.ex)⟩
end Go.Proofs.Ytdnepccjgclgiaa
