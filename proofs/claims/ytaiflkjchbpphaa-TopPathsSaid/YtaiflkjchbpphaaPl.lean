/- vec.Len, vec.Sub (as over the numbers seat). -/
import Derived.Test.YtaiflkjchbpphaaPk
import Derived.Lib.Mul64
import Derived.Laws.Bits64b
import Derived.Laws.BitsAllLaws
import Derived.Lib.BitFns
import Derived.Lib.ItoaNum
namespace Go.Proofs.Ytaiflkjchbpphaa.Q
open Go.RowKit

theorem ret_int {k : IntKind} {a b : Int} (h : a = b) : Ending.returned (.int k a) = .returned (.int k b) := by rw [h]
/-- fix.Clamp. -/
def clamp (a : Int) : Int := if a < -1099511627776 then -1099511627776 else if 1099511627776 < a then 1099511627776 else a
theorem clamp_lo (a : Int) : -1099511627776 ≤ clamp a := by unfold clamp; split <;> (try split) <;> omega
theorem clamp_hi (a : Int) : clamp a ≤ 1099511627776 := by unfold clamp; split <;> (try split) <;> omega
theorem clamp_in (a : Int) (h : -1099511627776 ≤ a) (h' : a ≤ 1099511627776) : clamp a = a := by unfold clamp; rw [if_neg (by omega), if_neg (by omega)]
theorem clamp_clamp (a : Int) : clamp (clamp a) = clamp a := clamp_in _ (clamp_lo a) (clamp_hi a)
theorem clamp_neg (a : Int) : clamp (-a) = - clamp a := by unfold clamp; split <;> split <;> (try split) <;> (try split) <;> omega
theorem clamp_mono (a b : Int) (h : a ≤ b) : clamp a ≤ clamp b := by unfold clamp; split <;> split <;> (try split) <;> (try split) <;> omega

theorem clamp_any (a : Int) (w : World) :
    Calls Try.prog 44 #[.int .i64 a] w fun e w' => e = .returned (.int .i64 (clamp a)) ∧ w = w' := by
  by_cases h1 : a < -1099511627776
  · have h : clamp a = -1099511627776 := by unfold clamp; rw [if_pos h1]
    have H := Lib.hid h
    clear h
    go_enter Try.func44, Try.ntmps44
    go_wp2
    go_ret
    exact ⟨ret_int H.out.symm, rfl⟩
  · by_cases h2 : 1099511627776 < a
    · have h : clamp a = 1099511627776 := by unfold clamp; rw [if_neg h1, if_pos h2]
      have H := Lib.hid h
      clear h
      go_enter Try.func44, Try.ntmps44
      go_wp2
      go_ret
      exact ⟨ret_int H.out.symm, rfl⟩
    · have h : clamp a = a := by unfold clamp; rw [if_neg h1, if_neg h2]
      have H := Lib.hid h
      clear h
      go_enter Try.func44, Try.ntmps44
      go_wp2
      go_ret
      exact ⟨ret_int H.out.symm, rfl⟩

/-- fix.Sub. -/
def fsub (a b : Int) : Int := clamp (clamp a - clamp b)
theorem fsub_any (a b : Int) (w : World) :
    Calls Try.prog 46 #[.int .i64 a, .int .i64 b] w fun e w' => e = .returned (.int .i64 (fsub a b)) ∧ w = w' := by
  have h1 := clamp_lo a
  have h2 := clamp_hi a
  have h3 := clamp_lo b
  have h4 := clamp_hi b
  go_enter Try.func46, Try.ntmps46
  go_wp2_with (go_at_call 44; (with_reducible refine (clamp_any _ _).mono ?_); rintro e w' ⟨rfl, rfl⟩)
  go_ret
  exact ⟨rfl, rfl⟩

theorem vmag_any (a : Int) (w : World) (h1 : -9223372036854775807 ≤ a) (h2 : a ≤ 9223372036854775807) :
    Calls Try.prog 55 #[.int .i64 a] w fun e w' => e = .returned (.int .u64 a.natAbs) ∧ w = w' := by
  by_cases h : a < 0
  · have e : (a.natAbs : Int) = -a := by omega
    rw [e]
    clear e
    go_enter Try.func55, Try.ntmps55
    go_wp2
    all_goals (go_ret; exact ⟨ret_int (by first | rfl | omega), rfl⟩)
  · have e : (a.natAbs : Int) = a := by omega
    rw [e]
    clear e
    go_enter Try.func55, Try.ntmps55
    go_wp2
    all_goals (go_ret; exact ⟨ret_int (by first | rfl | omega), rfl⟩)


/-- The upper and the lower word of a number. -/
def hiW (n : Nat) : Nat := n / 18446744073709551616
def loW (n : Nat) : Nat := n % 18446744073709551616
theorem hiW_loW (n : Nat) : n = hiW n * 18446744073709551616 + loW n := by unfold hiW loW; omega
theorem loW_lt (n : Nat) : loW n < 18446744073709551616 := by unfold loW; omega

namespace M64
theorem maskN (a : Nat) (ha : a < 18446744073709551616) : bits .and .u64 (a : Int) 4294967295 = ((a % 4294967296 : Nat) : Int) := by
  have h := bits_and_u64_nat a 4294967295 ha (by omega)
  have e : a &&& 4294967295 = a % 4294967296 := Nat.and_two_pow_sub_one_eq_mod a 32
  rw [e] at h
  exact h
theorem divN (a : Nat) : (a : Int) / 4294967296 = ((a / 4294967296 : Nat) : Int) := by omega
theorem mulN (a b : Nat) : (a : Int) * (b : Int) = ((a * b : Nat) : Int) := (Int.natCast_mul a b).symm
theorem addN (a b : Nat) : (a : Int) + (b : Int) = ((a + b : Nat) : Int) := (Int.natCast_add a b).symm
theorem wrapN (a : Nat) (ha : a < 18446744073709551616) : IntKind.u64.wrap (a : Int) = (a : Int) := by rw [IntKind.wrap_u64]; omega
theorem wrapM (a : Nat) : IntKind.u64.wrap (a : Int) = ((a % 18446744073709551616 : Nat) : Int) := by rw [IntKind.wrap_u64]; omega
end M64

set_option maxHeartbeats 1000000 in
theorem mul64_any (x y : Nat) (hx : x < 18446744073709551616) (hy : y < 18446744073709551616) (w : World) :
    Calls Try.prog 54 #[.int .u64 x, .int .u64 y] w fun e w' => e = .returned (.tuple #[.int .u64 (hiW (x * y)), .int .u64 (loW (x * y))]) ∧ w = w' := by
  obtain ⟨bd, bt, bw, hhi⟩ := Lib.mul64_hi x y hx hy
  have ba := Lib.half_mul_le (a := x / 4294967296) (b := y / 4294967296) (by omega) (by omega)
  have bb := Lib.half_mul_le (a := x / 4294967296) (b := y % 4294967296) (by omega) (by omega)
  have bc := Lib.half_mul_le (a := x % 4294967296) (b := y / 4294967296) (by omega) (by omega)
  have ba' : x / 4294967296 * (y / 4294967296) < 18446744073709551616 := by omega
  have bb' : x / 4294967296 * (y % 4294967296) < 18446744073709551616 := by omega
  have bc' : x % 4294967296 * (y / 4294967296) < 18446744073709551616 := by omega
  have bh1 : x / 4294967296 * (y / 4294967296) + (x / 4294967296 * (y % 4294967296) + x % 4294967296 * (y % 4294967296) / 4294967296) / 4294967296 < 18446744073709551616 := by omega
  have bh : x / 4294967296 * (y / 4294967296) + (x / 4294967296 * (y % 4294967296) + x % 4294967296 * (y % 4294967296) / 4294967296) / 4294967296 + ((x / 4294967296 * (y % 4294967296) + x % 4294967296 * (y % 4294967296) / 4294967296) % 4294967296 + x % 4294967296 * (y / 4294967296)) / 4294967296 < 18446744073709551616 := by omega
  go_enter Try.func54, Try.ntmps54
  go_wp2
  simp only [M64.maskN x hx, M64.maskN y hy, M64.divN, M64.mulN, M64.addN, M64.wrapN _ bd, M64.wrapN _ bb', M64.wrapN _ bt, M64.maskN _ bt, M64.wrapN _ bc', M64.wrapN _ bw, M64.wrapN _ ba', M64.wrapN _ bh1, M64.wrapN _ bh, M64.wrapM (x * y)]
  rw [hhi]
  go_ret2
  exact ⟨rfl, rfl⟩


theorem run_add (x y c : Nat) (hc : c ≤ 1) (w : World) :
    (callFunc 56 #[.int .u64 x, .int .u64 y, .int .u64 c]).run Try.prog w =
      .ok (.value (.tuple #[.int .u64 (loW (x + y + c)), .int .u64 (hiW (x + y + c))])) w := by
  rw [run_callFunc_extern Try.func56 (by kernel_rfl) (by kernel_rfl) (by kernel_rfl) (e := add64Entry) (by kernel_rfl), run_add64 x y c (by omega) (by omega) (by omega) (by omega)]
  simp only [Result.andThen]
  unfold loW hiW
  congr 5 <;> omega
@[go_sem ↓] theorem run_add0 (x y : Nat) (w : World) :
    (callFunc 56 #[.int .u64 x, .int .u64 y, .int .u64 0]).run Try.prog w =
      .ok (.value (.tuple #[.int .u64 (loW (x + y)), .int .u64 (hiW (x + y))])) w := run_add x y 0 (by omega) w
/-- A sum with carry, the carry out of two words' sum. -/
@[go_sem ↓] theorem run_addc (x y p q : Nat) (w : World) :
    (callFunc 56 #[.int .u64 (hiW x), .int .u64 (hiW y), .int .u64 (hiW (loW p + loW q))]).run Try.prog w =
      .ok (.value (.tuple #[.int .u64 (loW (hiW x + hiW y + hiW (loW p + loW q))), .int .u64 (hiW (hiW x + hiW y + hiW (loW p + loW q)))])) w :=
  run_add _ _ _ (by have := loW_lt p; have := loW_lt q; unfold hiW; omega) w

/-! ### Square roots -/
/-- The words of the sum of two squares. -/
theorem sum_words (a b : Nat) (ha : a < 18446744073709551616 * 4294967296) (hb : b < 18446744073709551616 * 4294967296) :
    loW (hiW a + hiW b + hiW (loW a + loW b)) * 18446744073709551616 + loW (loW a + loW b) = a + b := by
  unfold hiW loW
  omega

theorem or_add (x y j : Nat) (hx : x % 2 ^ (j + 1) = 0) (hy : y = 2 ^ j) : x ||| y = x + y :=
  nat_join (j + 1) x y hx (by rw [hy]; exact Nat.pow_lt_pow_right (by decide) (by omega))

/-- Where the search for a root stands: 'out' is a multiple of twice the bit, and the root lies in between. -/
structure Rooting (X bit out : Nat) : Prop where
  at_ : bit = 0 ∨ ∃ j, j < 64 ∧ bit = 2 ^ j ∧ out % 2 ^ (j + 1) = 0 ∧ out + 2 ^ (j + 1) ≤ 18446744073709551616
  lo : out * out ≤ X
  hi : X < (out + (if bit = 0 then 1 else 2 * bit)) * (out + (if bit = 0 then 1 else 2 * bit))

theorem Rooting.start (X : Nat) (h : X < 18446744073709551616 * 18446744073709551616) : Rooting X 9223372036854775808 0 :=
  ⟨.inr ⟨63, by omega, rfl, rfl, by omega⟩, by omega, by rw [if_neg (by omega)]; omega⟩

theorem Rooting.or {X bit out : Nat} (h : Rooting X bit out) (hb : bit ≠ 0) : out ||| bit = out + bit ∧ out + bit < 18446744073709551616 := by
  rcases h.at_ with e | ⟨j, hj, hbj, hm, hle⟩
  · exact absurd e hb
  · refine ⟨or_add _ _ j hm hbj, ?_⟩
    have : 0 < 2 ^ j := Nat.two_pow_pos j
    rw [Nat.pow_succ] at hle
    omega

theorem Rooting.take {X bit out : Nat} (h : Rooting X bit out) (hb : bit ≠ 0) (hs : (out + bit) * (out + bit) ≤ X) : Rooting X (bit / 2) (out + bit) := by
  obtain ⟨hbit, hlo, hhi⟩ := h
  rw [if_neg hb] at hhi
  rcases hbit with e | ⟨j, hj, hbj, hm, hle⟩
  · exact absurd e hb
  · cases j with
    | zero =>
      have e1 : bit = 1 := by simpa using hbj
      subst e1
      exact ⟨.inl (by decide), hs, by rw [if_pos (by decide)]; exact hhi⟩
    | succ j =>
      have e2 : bit / 2 = 2 ^ j := by rw [hbj, Nat.pow_succ]; omega
      have pj : 0 < 2 ^ j := Nat.two_pow_pos j
      refine ⟨.inr ⟨j, by omega, e2, ?_, ?_⟩, hs, ?_⟩
      · rw [Nat.pow_succ] at hm
        have h1 : out % 2 ^ (j + 1) = 0 := by
          have : 2 ^ (j + 1) ∣ out := Nat.dvd_trans ⟨2, rfl⟩ (Nat.dvd_of_mod_eq_zero hm)
          exact Nat.mod_eq_zero_of_dvd this
        rw [hbj, Nat.add_mod_right]
        exact h1
      · rw [Nat.pow_succ] at hle hbj
        omega
      · rw [e2, if_neg (by omega)]
        have : out + bit + 2 * 2 ^ j = out + 2 * bit := by rw [hbj, Nat.pow_succ]; omega
        rw [this]; exact hhi

theorem Rooting.leave {X bit out : Nat} (h : Rooting X bit out) (hb : bit ≠ 0) (hs : X < (out + bit) * (out + bit)) : Rooting X (bit / 2) out := by
  obtain ⟨hbit, hlo, hhi⟩ := h
  rcases hbit with e | ⟨j, hj, hbj, hm, hle⟩
  · exact absurd e hb
  · cases j with
    | zero =>
      have e1 : bit = 1 := by simpa using hbj
      subst e1
      exact ⟨.inl (by decide), hlo, by rw [if_pos (by decide)]; exact hs⟩
    | succ j =>
      have e2 : bit / 2 = 2 ^ j := by rw [hbj, Nat.pow_succ]; omega
      have pj : 0 < 2 ^ j := Nat.two_pow_pos j
      refine ⟨.inr ⟨j, by omega, e2, ?_, ?_⟩, hlo, ?_⟩
      · rw [Nat.pow_succ] at hm
        have : 2 ^ (j + 1) ∣ out := Nat.dvd_trans ⟨2, rfl⟩ (Nat.dvd_of_mod_eq_zero hm)
        exact Nat.mod_eq_zero_of_dvd this
      · rw [Nat.pow_succ] at hle
        omega
      · rw [e2, if_neg (by omega)]
        have : out + 2 * 2 ^ j = out + bit := by rw [hbj, Nat.pow_succ]; omega
        rw [this]; exact hs

/-- The root of a number: the greatest one whose square is not greater. -/
def IsRoot (X r : Nat) : Prop := r * r ≤ X ∧ X < (r + 1) * (r + 1)
theorem Rooting.done {X out : Nat} (h : Rooting X 0 out) : IsRoot X out := by
  refine ⟨h.lo, ?_⟩
  have := h.hi
  rwa [if_pos rfl] at this
theorem IsRoot.unique {X r s : Nat} (h : IsRoot X r) (k : IsRoot X s) : r = s := by
  have key : ∀ r s : Nat, IsRoot X r → IsRoot X s → ¬ r < s := by
    intro r s h k hlt
    have h1 : (r + 1) * (r + 1) ≤ s * s := Nat.mul_le_mul hlt hlt
    have := h.2
    have := k.1
    omega
  have := key r s h k
  have := key s r k h
  omega

theorem least' {p : Nat → Prop} (h : ∃ n, p n) : ∃ n, p n ∧ ∀ m, m < n → ¬ p m := by
  obtain ⟨n, hn⟩ := h
  induction n using Nat.strongRecOn with
  | _ n ih =>
    by_cases hm : ∃ m, m < n ∧ p m
    · obtain ⟨m, hlt, hp⟩ := hm
      exact ih m hlt hp
    · exact ⟨n, hn, fun m hlt hp => hm ⟨m, hlt, hp⟩⟩
theorem IsRoot.ex (X : Nat) : ∃ r, IsRoot X r := by
  obtain ⟨n, hn, hmin⟩ := least' (p := fun n => X < n * n) ⟨X + 1, by have : (X + 1) * (X + 1) = X * (X + 1) + (X + 1) := Nat.succ_mul _ _; omega⟩
  cases n with
  | zero => simp at hn
  | succ n => exact ⟨n, Nat.le_of_not_lt (hmin n (by omega)), hn⟩
noncomputable def rt (X : Nat) : Nat := Classical.epsilon (IsRoot X)
theorem rt_is (X : Nat) : IsRoot X (rt X) := Classical.epsilon_spec (IsRoot.ex X)
theorem rt_eq {X r : Nat} (h : IsRoot X r) : rt X = r := IsRoot.unique (rt_is X) h
theorem rt_lt (X n : Nat) (h : X < n * n) : rt X < n := by
  have := (rt_is X).1
  rcases Nat.lt_or_ge (rt X) n with h' | h'
  · exact h'
  · have := Nat.mul_le_mul h' h'
    omega
/-- The number of two words. -/
def join (hi lo : Nat) : Nat := hi * 18446744073709551616 + lo

/-- fix.Root: of the number of two words. -/
theorem root_any (hi lo : Nat) (w : World) (h1 : hi < 18446744073709551616) (h2 : lo < 18446744073709551616) :
    Calls Try.prog 57 #[.int .u64 hi, .int .u64 lo] w fun e w' => e = .returned (.int .u64 (rt (join hi lo))) ∧ w = w' := by
  unfold join
  obtain ⟨X, hX⟩ : ∃ X, X = hi * 18446744073709551616 + lo := ⟨_, rfl⟩
  rw [← hX]
  have HX := Lib.hid hX
  have hXlt : X < 18446744073709551616 * 18446744073709551616 := by omega
  have H0 := Lib.hid (Rooting.start X hXlt)
  clear hX hXlt
  go_enter Try.func57, Try.ntmps57
  go_wp2_with fail
  go_loop [5, 6] (fun out bit => ∃ o b : Nat, out = .int .u64 o ∧ bit = .int .u64 b ∧ Rooting X b o) (fun _ bit => (intOf bit).toNat)
  case atStart => exact ⟨0, 9223372036854775808, rfl, rfl, H0.out⟩
  case round =>
    obtain ⟨o, b, rfl, rfl, hr⟩ := hrel
    have HR := Lib.hid hr
    by_cases hb : b = 0
    · subst hb
      have hd := hr.done
      have HD := Lib.hid hd
      clear hd hr HX H0 h1 h2
      go_wp2
      go_ret
      exact ⟨by rw [rt_eq HD.out]; rfl, rfl⟩
    · obtain ⟨ho, hlt⟩ := hr.or hb
      clear hr
      have hbl : b < 18446744073709551616 := by omega
      have hol : o < 18446744073709551616 := by omega
      have hor : bits .or .u64 (o : Int) (b : Int) = ((o + b : Nat) : Int) := by rw [u64_or_nat o b hol hbl, ho]
      have hb1 : 1 ≤ b := by omega
      have hhalf : ((b / 2 : Nat) : Int) = (b : Int) / 2 := by omega
      obtain ⟨h, hh⟩ : ∃ h, h = b / 2 := ⟨_, rfl⟩
      obtain ⟨x, hx⟩ : ∃ x, x = o + b := ⟨_, rfl⟩
      rw [← hx] at hor hlt
      have hxw := hiW_loW (x * x)
      have hxl := loW_lt (x * x)
      have hXX := HX.out
      clear HX
      have HX : Hid (X = hi * 18446744073709551616 + lo) := hXX
      clear hXX
      by_cases hs : x * x ≤ X
      · have ht := HR.out.take hb (by rw [← hx]; exact hs)
        rw [← hx, ← hh] at ht
        have HT := Lib.hid ht
        clear ht HR
        by_cases c1 : hiW (x * x) < hi
        · clear hs
          have HH := Lib.hid hh
          clear HX H0 hxw hxl h1 h2 hhalf hol hbl hx hh ho
          go_wp2_with (go_at_call 54; (with_reducible refine (mul64_any _ _ hlt hlt _).mono ?_); rintro e w' ⟨rfl, rfl⟩)
          go_round
          case rel => exact ⟨x, h, rfl, by rw [HH.out]; go_num, HT.out⟩
          case measure => simp [intOf]; omega
        · have c2 : ((hiW (x * x) : Int) == (hi : Int)) = true := by
            have := HX.out; simp; omega
          have c3 : loW (x * x) ≤ lo := by have := HX.out; have c2' : hiW (x * x) = hi := by have := HX.out; omega
                                           omega
          have c1' : hi ≤ hiW (x * x) := by omega
          clear hs c1
          have HH := Lib.hid hh
          clear HX H0 hxw hxl h1 h2 hhalf hol hbl hx hh ho
          go_wp2_with (go_at_call 54; (with_reducible refine (mul64_any _ _ hlt hlt _).mono ?_); rintro e w' ⟨rfl, rfl⟩)
          go_round
          case rel => exact ⟨x, h, rfl, by rw [HH.out]; go_num, HT.out⟩
          case measure => simp [intOf]; omega
      · have ht := HR.out.leave hb (by rw [← hx]; omega)
        rw [← hh] at ht
        have HT := Lib.hid ht
        clear ht HR
        by_cases c1 : hi < hiW (x * x)
        · have c2 : ((hiW (x * x) : Int) == (hi : Int)) = false := by simp; omega
          have c1' : hi ≤ hiW (x * x) := by omega
          clear hs c1
          have HH := Lib.hid hh
          clear HX H0 hxw hxl h1 h2 hhalf hol hbl hx hh ho
          go_wp2_with (go_at_call 54; (with_reducible refine (mul64_any _ _ hlt hlt _).mono ?_); rintro e w' ⟨rfl, rfl⟩)
          go_round
          case rel => exact ⟨o, h, rfl, by rw [HH.out]; go_num, HT.out⟩
          case measure => simp [intOf]; omega
        · have c2' : hiW (x * x) = hi := by have := HX.out; omega
          have c2 : ((hiW (x * x) : Int) == (hi : Int)) = true := by simp [c2']
          have c3 : lo < loW (x * x) := by have := HX.out; omega
          have c1' : hi ≤ hiW (x * x) := by omega
          clear hs c1 c2'
          have HH := Lib.hid hh
          clear HX H0 hxw hxl h1 h2 hhalf hol hbl hx hh ho
          go_wp2_with (go_at_call 54; (with_reducible refine (mul64_any _ _ hlt hlt _).mono ?_); rintro e w' ⟨rfl, rfl⟩)
          go_round
          case rel => exact ⟨o, h, rfl, by rw [HH.out]; go_num, HT.out⟩
          case measure => simp [intOf]; omega
theorem natAbs_sq_lt (x : Int) (h1 : -1099511627776 ≤ x) (h2 : x ≤ 1099511627776) : x.natAbs * x.natAbs ≤ 1099511627776 * 1099511627776 := Nat.mul_le_mul (by omega) (by omega)

/-- The length of a vector of bounded numbers. -/
noncomputable def len (x y : Int) : Nat := rt (x.natAbs * x.natAbs + y.natAbs * y.natAbs)

theorem len_lt (x y : Int) (h1 : -1099511627776 ≤ x) (h2 : x ≤ 1099511627776) (h3 : -1099511627776 ≤ y) (h4 : y ≤ 1099511627776) : len x y < 2199023255552 := by
  refine rt_lt _ _ ?_
  have := natAbs_sq_lt x h1 h2
  have := natAbs_sq_lt y h3 h4
  omega

theorem length_any (x y : Int) (w : World) (h1 : -1099511627776 ≤ x) (h2 : x ≤ 1099511627776) (h3 : -1099511627776 ≤ y) (h4 : y ≤ 1099511627776) :
    Calls Try.prog 45 #[.int .i64 x, .int .i64 y] w fun e w' => e = .returned (.int .i64 (len x y)) ∧ w = w' := by
  have bx := natAbs_sq_lt x h1 h2
  have by' := natAbs_sq_lt y h3 h4
  have hj : join (loW (hiW (x.natAbs * x.natAbs) + hiW (y.natAbs * y.natAbs) + hiW (loW (x.natAbs * x.natAbs) + loW (y.natAbs * y.natAbs)))) (loW (loW (x.natAbs * x.natAbs) + loW (y.natAbs * y.natAbs))) = x.natAbs * x.natAbs + y.natAbs * y.natAbs := by
    unfold join; exact sum_words _ _ (by omega) (by omega)
  have hr : rt (x.natAbs * x.natAbs + y.natAbs * y.natAbs) < 2199023255552 := len_lt x y h1 h2 h3 h4
  have a1 : x.natAbs < 18446744073709551616 := by omega
  have a2 : y.natAbs < 18446744073709551616 := by omega
  unfold len
  clear bx by'
  go_enter Try.func45, Try.ntmps45
  go_wp2_with (first
    | (go_at_call 55; (with_reducible refine (vmag_any _ _ (by omega) (by omega)).mono ?_); rintro e w' ⟨rfl, rfl⟩)
    | (go_at_call 54; (with_reducible refine (mul64_any _ _ (by assumption) (by assumption) _).mono ?_); rintro e w' ⟨rfl, rfl⟩)
    | (go_at_call 57; (with_reducible refine (root_any _ _ _ (loW_lt _) (loW_lt _)).mono ?_); rintro e w' ⟨rfl, rfl⟩))
  go_ret
  exact ⟨rfl, rfl⟩

/-- vec.Len. -/
noncomputable def vlen (x y : Int) : Int := clamp (len (clamp x) (clamp y) : Int)
theorem vlen_any (x y : Int) (w : World) :
    Calls Try.prog 28 #[.agg #[.int .i64 x, .int .i64 y]] w fun e w' => e = .returned (.int .i64 (vlen x y)) ∧ Below w.heap.size w w' := by
  have x1 := clamp_lo x
  have x2 := clamp_hi x
  have y1 := clamp_lo y
  have y2 := clamp_hi y
  go_enter Try.func28, Try.ntmps28
  go_wp2_with fail
  refine region_grow (by kernel_rfl) (by kernel_rfl) ?_
  repeat (go_big_quiet_step (first | (intro _; go_at_call 44; exact grow_same (clamp_any _ _)) | (intro _; go_at_call 45; exact grow_same (length_any _ _ _ x1 x2 y1 y2))))
  refine wpQuiet_nil ?_
  intro _ hw'
  obtain ⟨k, m, rfl⟩ := hw'
  go_wp2
  go_ret
  exact ⟨rfl, by repeat (first | exact Below.refl _ _ | apply Below.drew | apply Below.al | apply Below.ex)⟩

theorem vsub_any (x y z v : Int) (w : World) :
    Calls Try.prog 29 #[.agg #[.int .i64 x, .int .i64 y], .agg #[.int .i64 z, .int .i64 v]] w fun e w' => e = .returned (.agg #[.int .i64 (fsub x z), .int .i64 (fsub y v)]) ∧ Below w.heap.size w w' := by
  go_enter Try.func29, Try.ntmps29
  go_wp2_with fail
  refine region_tail 11 (by kernel_rfl) (by kernel_rfl) ?_
  simp only [List.take_succ_cons, List.take_zero, List.drop_succ_cons, List.drop_zero]
  repeat (go_big_quiet_step ((intro _; go_at_call 46; exact grow_same (fsub_any _ _ _))))
  refine wpQuiet_nil ?_
  intro _ hw'
  obtain ⟨k, m, rfl⟩ := hw'
  go_wp2
  exact bodyPost_ret (v := .agg #[.int .i64 (fsub x z), .int .i64 (fsub y v)]) (by simp [results, Try.results29, go_sem]) rfl ⟨rfl, by repeat (first | exact Below.refl _ _ | apply Below.drew | apply Below.al | apply Below.ex)⟩

end Go.Proofs.Ytaiflkjchbpphaa.Q
