/- Contracts of numbers of varying length: Writer.Nat, Writer.Int, Reader.Nat, Reader.Int. -/
import Derived.Test.YthfpbplpfjmmgaaBack
import Derived.Test.YthfpbplpfjmmgaaBitsN
namespace Go.Proofs.Ythfpbplpfjmmgaa
open Go.RowKit

theorem shr_nat (v : W64) (k : Nat) : (v >>> k).toNat = v.toNat / 2 ^ k := by rw [BitVec.toNat_ushiftRight, Nat.shiftRight_eq_div_pow]

theorem groups_any (v : W64) (w : World) :
    Calls Try.prog 54 #[.int .u64 (U v)] w fun e w' => e = .returned (.int .i64 (grps v.toNat)) ∧ w = w' := by
  go_enter Try.func54, Try.ntmps54
  go_wp2
  go_loopw [0, 3] (fun a n wr => ∃ (u : W64) (k : Nat), a = .int .u64 (U u) ∧ n = .int .i64 k ∧ k ≤ 16 ∧ u.toNat < 16 ^ (16 - k) ∧ grps v.toNat = k + (if u.toNat = 0 then 0 else grps u.toNat) ∧ wr = w) (fun _ n _ => 17 - (intOf n).toNat)
  case atStart =>
    refine ⟨v >>> 4, 1, rfl, rfl, by omega, ?_, ?_, rfl⟩
    · rw [shr_nat]; have := v.isLt; simp; omega
    · rw [shr_nat]
      by_cases h : v.toNat < 16
      · rw [grps_lo _ h, if_pos (by simp; omega)]
      · rw [grps_hi _ (by omega), if_neg (by simp; omega)]; simp; omega
  case round =>
    obtain ⟨u, k, rfl, rfl, hk, hu, hg, rfl⟩ := hrel
    by_cases h0 : u.toNat = 0
    · have hu0 : U u = 0 := by unfold U; omega
      have HG := Lib.hid hg
      have H0 := Lib.hid h0
      clear hg h0
      go_wp2
      go_ret
      exact ⟨ret_int (by have := HG.out; rw [if_pos H0.out] at this; omega), rfl⟩
    · have hu0 : 0 < U u := by unfold U; omega
      have HG := Lib.hid hg
      have H0 := Lib.hid h0
      clear hg h0
      have hk16 : k < 16 := by
        rcases Nat.lt_or_ge k 16 with h | h
        · exact h
        · obtain rfl : k = 16 := by omega
          simp at hu
          exact absurd hu H0.out
      go_wp2
      go_roundw
      case rel =>
        refine ⟨u >>> 4, k + 1, rfl, by go_num, by omega, ?_, ?_, by first | rfl | trivial⟩
        · rw [shr_nat]
          rw [show 16 - k = (16 - (k + 1)) + 1 by omega, Nat.pow_succ] at hu
          omega
        · rw [HG.out, if_neg H0.out, shr_nat]
          by_cases h : u.toNat < 16
          · rw [grps_lo _ h, if_pos (by simp; omega)]
          · rw [grps_hi _ (by omega), if_neg (by simp; omega)]; simp; omega
      case measure => simp [intOf]; omega

/-- A number with a sign, as a natural one. -/
noncomputable def zz (v : Int) : W64 := (Wd v <<< 1) ^^^ Wd (v / 9223372036854775808)
theorem Wd_nat (v : Int) : ((Wd v).toNat : Int) = v % 18446744073709551616 := by
  rw [Wd_eq, BitVec.toNat_ofInt]; simp; omega
theorem xor_ones (x : W64) : (x ^^^ BitVec.allOnes 64).toNat = 18446744073709551615 - x.toNat := by
  rw [BitVec.xor_allOnes, BitVec.toNat_not]
theorem zz_nat (v : Int) (hv : -9223372036854775808 ≤ v ∧ v ≤ 9223372036854775807) : ((zz v).toNat : Int) = if 0 ≤ v then 2 * v else -2 * v - 1 := by
  have hw := Wd_nat v
  have hs : ((Wd v <<< 1).toNat : Int) = (2 * v) % 18446744073709551616 := by
    rw [BitVec.toNat_shiftLeft, Nat.shiftLeft_eq]; omega
  unfold zz
  by_cases h : 0 ≤ v
  · have e : Wd (v / 9223372036854775808) = 0#64 := by
      rw [show v / 9223372036854775808 = 0 by omega, Wd_eq]; rfl
    rw [e, BitVec.xor_zero, if_pos h, hs]; omega
  · have e : Wd (v / 9223372036854775808) = BitVec.allOnes 64 := by
      rw [show v / 9223372036854775808 = -1 by omega, Wd_eq]; decide
    rw [e, xor_ones, if_neg h]; omega

/-- The word of group k. -/
theorem group_word (v : W64) (k : Nat) (more : W64) (hm : more = 0#64 ∨ more = 16#64) : (v >>> (4 * k) &&& 15#64 ||| more).toNat = v.toNat / 16 ^ k % 16 + more.toNat ∧ (v >>> (4 * k) &&& 15#64 ||| more).toNat < 32 := by
  have e : (v >>> (4 * k) &&& 15#64).toNat = v.toNat / 16 ^ k % 16 := by
    rw [BitVec.toNat_and, shr_nat]
    show v.toNat / 2 ^ (4 * k) &&& 15 = _
    rw [show (15 : Nat) = 2 ^ 4 - 1 by rfl, Nat.and_two_pow_sub_one_eq_mod, Nat.pow_mul]
  rw [BitVec.toNat_or, e]
  have hlt : v.toNat / 16 ^ k % 16 < 16 := Nat.mod_lt _ (by omega)
  generalize v.toNat / 16 ^ k % 16 = x at *
  rcases hm with rfl | rfl
  · show (x ||| 0) = x + 0 ∧ (x ||| 0) < 32
    rw [Nat.or_zero]; omega
  · have h : ∀ y : Fin 16, (y.val ||| 16) = y.val + 16 := by decide
    have := h ⟨x, hlt⟩
    show (x ||| 16) = x + 16 ∧ (x ||| 16) < 32
    simp only [] at this
    rw [this]; omega

theorem group_expr (v : W64) (k : Nat) (more : W64) : bits .or .u64 (bits .and .u64 (U v / 2 ^ (4 * k)) 15) (U more) = U (v >>> (4 * k) &&& 15#64 ||| more) := by
  rw [← or_U, ← and_U, U_lit 15 (by decide), ← shr_U v (4 * k) (2 ^ (4 * k)) (by simp)]
  rfl

theorem code_step (N n x k : Nat) (h : k < grps x) : N + codeN x % 32 ^ (k + 1) * 2 ^ n = N + codeN x % 32 ^ k * 2 ^ n + (x / 16 ^ k % 16 + if k + 1 < grps x then 16 else 0) * 2 ^ (n + 5 * k) := by
  rw [← codeN_digit k x h, Nat.pow_succ, Nat.mod_mul, Nat.pow_add, ← pow32]
  generalize codeN x / 32 ^ k % 32 = d
  generalize codeN x % 32 ^ k = c
  grind

theorem put5_any (p N n : Nat) (v : W64) (w : World) (h : Wtr p N n w) (hv : v.toNat < 32) (hn : n + 5 ≤ 524288) :
    Calls Try.prog 43 #[.pointer (some ⟨p, 0, none⟩), .int .u64 (U v), .int .i64 5] w fun e w' => e = .returned (.int .i64 0) ∧ Wtr p (N + v.toNat * 2 ^ n) (n + 5) w' ∧ Below p w w' :=
  put_any p N n 5 v w h (by omega) hv hn

set_option maxRecDepth 4000 in
set_option maxHeartbeats 1000000 in
theorem wnat_any (p N n : Nat) (v : W64) (w : World) (h : Wtr p N n w) (hn : n + 80 ≤ 524288) :
    Calls Try.prog 44 #[.pointer (some ⟨p, 0, none⟩), .int .u64 (U v)] w fun e w' => e = .returned (.int .i64 0) ∧ Wtr p (N + codeN v.toNat * 2 ^ n) (n + 5 * grps v.toNat) w' ∧ Below p w w' := by
  have hc1 := h.c1
  have hsz := h.sz
  have hg16 : grps v.toNat ≤ 16 := lt_grps 16 _ (by have := v.isLt; omega) (by omega)
  obtain ⟨G, hG⟩ : ∃ G, grps v.toNat = G := ⟨_, rfl⟩
  rw [hG] at hg16
  have HG := Lib.hid hG
  have HH := Lib.hid h
  clear h
  rw [hG]
  go_enter Try.func44, Try.ntmps44
  go_wp2_with (go_at_call 54; (with_reducible refine (groups_any _ _).mono ?_); rintro e w1 ⟨rfl, rfl⟩)
  clear hG hc1
  go_loopw [6, 7, 19] (fun _ _ i wr => ∃ k : Nat, k ≤ G ∧ i = .int .i64 k ∧ Wtr p (N + codeN v.toNat % 32 ^ k * 2 ^ n) (n + 5 * k) wr ∧ Below p w wr) (fun _ _ i _ => G - (intOf i).toNat)
  case atStart => exact ⟨0, by omega, rfl, by simpa [Nat.mod_one] using HH.out, Below.refl _ _⟩
  case round =>
    obtain ⟨k, hk, rfl, hW, hB⟩ := hrel
    by_cases hlt : k < G
    · have hcs := code_step N n v.toNat k (by rw [HG.out]; exact hlt)
      have HCS := Lib.hid hcs
      have HW := Lib.hid hW
      have HB := Lib.hid hB
      clear hcs hW hB
      by_cases hm : k + 1 < G
      · have gw := group_word v k 16#64 (.inr rfl)
        have ge := group_expr v k 16#64
        rw [show U 16#64 = 16 by decide] at ge
        have GW := Lib.hid gw
        have GE := Lib.hid ge
        clear gw ge
        go_wp2_with fail
        rw [GE.out]
        (with_reducible refine (put5_any p _ _ _ _ HW.out GW.out.2 (by omega)).mono ?_)
        rintro e w1 ⟨rfl, hW1, hB1⟩
        go_wp2
        go_roundw
        case rel =>
          refine ⟨k + 1, by omega, by go_num, ?_, HB.out.trans hB1⟩
          rw [HCS.out, HG.out, if_pos hm, show n + 5 * (k + 1) = n + 5 * k + 5 by omega]
          have := GW.out.1
          rw [show (16#64).toNat = 16 by decide] at this
          rw [← this]; exact hW1
        case measure => simp [intOf]; omega
      · have gw := group_word v k 0#64 (.inl rfl)
        have ge := group_expr v k 0#64
        rw [show U 0#64 = 0 by decide] at ge
        have GW := Lib.hid gw
        have GE := Lib.hid ge
        clear gw ge
        go_wp2_with fail
        rw [GE.out]
        (with_reducible refine (put5_any p _ _ _ _ HW.out GW.out.2 (by omega)).mono ?_)
        rintro e w1 ⟨rfl, hW1, hB1⟩
        go_wp2
        go_roundw
        case rel =>
          refine ⟨k + 1, by omega, by go_num, ?_, HB.out.trans hB1⟩
          rw [HCS.out, HG.out, if_neg hm, show n + 5 * (k + 1) = n + 5 * k + 5 by omega]
          have := GW.out.1
          rw [show (0#64).toNat = 0 by decide] at this
          rw [← this]; exact hW1
        case measure => simp [intOf]; omega
    · obtain rfl : k = G := by omega
      have hx : Hid (codeN v.toNat % 32 ^ k = codeN v.toNat) := Nat.mod_eq_of_lt (by rw [← HG.out]; exact codeN_lt _)
      go_wp2
      go_ret
      exact ⟨rfl, by rw [← hx.out]; exact hW, hB⟩

theorem wint_any (p N n : Nat) (v : Int) (w : World) (h : Wtr p N n w) (hn : n + 80 ≤ 524288) :
    Calls Try.prog 45 #[.pointer (some ⟨p, 0, none⟩), .int .i64 v] w fun e w' => e = .returned (.int .i64 0) ∧ Wtr p (N + codeN (zz v).toNat * 2 ^ n) (n + 5 * grps (zz v).toNat) w' ∧ Below p w w' := by
  have HH := Lib.hid h
  clear h
  go_enter Try.func45, Try.ntmps45
  go_wp2_with fail
  have hz : bits .xor .u64 (IntKind.u64.wrap (U (Wd v) * 2)) (U (Wd (v / 9223372036854775808))) = U (zz v) := by
    have := shl_U (Wd v) 1
    rw [Int.pow_one] at this
    rw [this, xor_U]; rfl
  rw [hz]
  clear hz
  refine (wnat_any p N n (zz v) w HH.out hn).mono ?_
  rintro e w1 ⟨rfl, hW, hB⟩
  go_wp2
  go_ret
  exact ⟨rfl, hW, hB⟩

theorem Rdr.step' {B T q pos pos' : Nat} {bs : List Int} {w : World} (h : Rdr B T q pos bs w) (hp : pos' ≤ 8 * bs.length) :
    Rdr B T q pos' bs (w.setCell ⟨q, 1, none⟩ (.int .i64 (pos' : Int))) := by
  have := h.step hp [] (w.setCell ⟨q, 1, none⟩ (.int .i64 (pos' : Int))).drawn
  rwa [ext_nil] at this

/-- What Reader.Nat says. -/
def RNat (B T q pos : Nat) (bs : List Int) (w : World) (e : Ending) (w' : World) : Prop :=
  (∃ x : Nat, x < 18446744073709551616 ∧ e = .returned (.tuple #[.int .u64 (x : Int), .int .i64 0]) ∧ At (numB bs / 2 ^ pos) x ∧ pos + 5 * grps x ≤ 8 * bs.length ∧ Rdr B T q (pos + 5 * grps x) bs w' ∧ w.grownBy w' (some q)) ∨
  (∃ er : Int, er ≠ 0 ∧ e = .returned (.tuple #[.int .u64 0, .int .i64 er]) ∧ (∀ x : Nat, x < 18446744073709551616 → pos + 5 * grps x ≤ 8 * bs.length → ¬ At (numB bs / 2 ^ pos) x) ∧ Rdr B T q pos bs w' ∧ w.grownBy w' (some q))

theorem get5_any (B T q pos g : Nat) (bs : List Int) (w : World) (h : Rdr B T q pos bs w) (hp : pos + 5 ≤ 8 * bs.length) (hg : numB bs / 2 ^ pos % 32 = g) :
    Calls Try.prog 46 #[.pointer (some ⟨q, 0, none⟩), .int .i64 5] w fun e w' => e = .returned (.tuple #[.int .u64 (g : Int), .int .i64 0]) ∧ Rdr B T q (pos + 5) bs w' ∧ w.grownBy w' (some q) := by
  have := get_any B T q pos 5 bs w h (by omega) hp
  rw [show (2 : Nat) ^ 5 = 32 by rfl, hg] at this
  have e : U (wordOf g) = (g : Int) := by unfold U; rw [wordOf_nat g (by omega)]
  rw [e] at this
  exact this
theorem get5_short (B T q pos : Nat) (bs : List Int) (w : World) (h : Rdr B T q pos bs w) (hp : 8 * bs.length < pos + 5) :
    Calls Try.prog 46 #[.pointer (some ⟨q, 0, none⟩), .int .i64 5] w fun e w' => e = .returned (.tuple #[.int .u64 0, .int .i64 14]) ∧ Below w.heap.size w w' :=
  get_short B T q pos 5 bs w h (by omega) hp

theorem vstep (v : W64) (g i : Nat) (hv : v.toNat < 16 ^ i) (hi : i < 16) : bits .or .u64 (U v) (IntKind.u64.wrap (bits .and .u64 (g : Int) 15 * 2 ^ (4 * i))) = U (BitVec.ofNat 64 (v.toNat + g % 16 * 16 ^ i)) ∧ v.toNat + g % 16 * 16 ^ i < 18446744073709551616 := by
  have e16 : (16 : Nat) ^ i = 2 ^ (4 * i) := by rw [Nat.pow_mul]
  have hle : 16 ^ (i + 1) ≤ 16 ^ 16 := Nat.pow_le_pow_right (by omega) (by omega)
  have h64 : (16 : Nat) ^ 16 = 18446744073709551616 := by decide
  have hd : g % 16 < 16 := Nat.mod_lt _ (by omega)
  have ha : bits .and .u64 (g : Int) 15 = ((g % 16 : Nat) : Int) := by
    show IntKind.u64.wrap ((BitVec.ofInt 64 (g : Int) &&& BitVec.ofInt 64 15).toNat : Int) = _
    rw [BitVec.toNat_and, BitVec.toNat_ofInt]
    have e : (BitVec.ofInt 64 15).toNat = 2 ^ 4 - 1 := by decide
    rw [e, Nat.and_two_pow_sub_one_eq_mod, IntKind.wrap_u64]
    omega
  rw [ha]
  generalize g % 16 = d at *
  have hb : v.toNat + d * 16 ^ i < 16 ^ (i + 1) := by
    have := Nat.mul_le_mul_right (16 ^ i) (show d + 1 ≤ 16 by omega)
    rw [Nat.pow_succ]
    rw [Nat.add_mul] at this
    omega
  have hb2 : v.toNat + d * 16 ^ i < 18446744073709551616 := by omega
  refine ⟨?_, hb2⟩
  have hm : (d : Int) * 2 ^ (4 * i) = ((d * 16 ^ i : Nat) : Int) := by rw [e16]; simp
  have hor : (d * 16 ^ i ||| v.toNat) = v.toNat + d * 16 ^ i := by
    rw [e16] at hv ⊢
    have := Nat.two_pow_add_eq_or_of_lt hv d
    rw [Nat.mul_comm d, ← this]; omega
  rw [hm]
  generalize d * 16 ^ i = z at *
  rw [IntKind.wrap_u64, Int.emod_eq_of_lt (by omega) (by omega), show (z : Int) = U (BitVec.ofNat 64 z) by rw [U_lit _ (by omega)], or_U]
  congr 1
  apply BitVec.eq_of_toNat_eq
  rw [BitVec.toNat_or, BitVec.toNat_ofNat, BitVec.toNat_ofNat, Nat.mod_eq_of_lt (by omega), Nat.mod_eq_of_lt (by omega), Nat.or_comm, hor]

set_option maxRecDepth 4000 in
set_option maxHeartbeats 1000000 in
theorem rnat_any (B T q pos : Nat) (bs : List Int) (w : World) (h : Rdr B T q pos bs w) :
    Calls Try.prog 47 #[.pointer (some ⟨q, 0, none⟩)] w (RNat B T q pos bs w) := by
  have hc1 := h.c1
  have hln := h.ln
  have hle := h.le
  have hqw : q < w.heap.size := by have := h.qT; have := h.sz; omega
  obtain ⟨D, hD⟩ : ∃ D, numB bs / 2 ^ pos = D := ⟨_, rfl⟩
  obtain ⟨n, hn⟩ : ∃ n, bs.length = n := ⟨_, rfl⟩
  have HN := Lib.hid hn
  have HD := Lib.hid hD
  have HH := Lib.hid h
  rw [hn] at hln hle
  clear hn hD h
  go_enter Try.func47, Try.ntmps47
  go_wp2_with fail
  clear hc1
  go_loopw [5, 6, 7, 8] (fun v i _ _ wr => ∃ (k : Nat) (x : W64), k ≤ 16 ∧ i = .int .i64 k ∧ v = .int .u64 (U x) ∧ Cont D k x.toNat ∧ Rdr B T q (pos + 5 * k) bs wr ∧ w.grownBy wr (some q)) (fun _ i _ _ _ => 17 - (intOf i).toNat)
  case atStart => exact ⟨0, 0#64, by omega, rfl, rfl, rfl, HH.out, World.grownBy.refl _ _⟩
  case round =>
    obtain ⟨k, x, hk, rfl, rfl, hC, hR, hG⟩ := hrel
    have hxl := Cont_lt k D x.toNat hC
    have HC := Lib.hid hC
    have HR := Lib.hid hR
    have HG := Lib.hid hG
    have HX := Lib.hid hxl
    clear hC hR hG hxl
    by_cases hs : pos + 5 * k + 5 ≤ 8 * n
    · obtain ⟨g, hg⟩ : ∃ g, D / 32 ^ k % 32 = g := ⟨_, rfl⟩
      have hg32 : g < 32 := by rw [← hg]; exact Nat.mod_lt _ (by omega)
      have hget := get5_any B T q (pos + 5 * k) g bs wr HR.out (by rw [HN.out]; exact hs) (by
        rw [← hg, ← HD.out, Nat.div_div_eq_div_mul, pow32, ← Nat.pow_add])
      have HGT := Lib.hid hget
      have HGG := Lib.hid hg
      clear hget hg
      go_wp2_with fail
      refine HGT.out.mono ?_
      rintro e w1 ⟨rfl, hR1, hG1⟩
      have HR1 := Lib.hid hR1
      have HG1 := Lib.hid (grown_trans HG.out hG1)
      have hqw1 : q < w1.heap.size := by have := hR1.qT; have := hR1.sz; omega
      have hf1 := hR1.f
      have hd1 := hR1.c1
      clear hR1 hG1
      by_cases h16 : k = 16
      · subst h16
        go_wp2_with fail
        go_ret2
        refine .inr ⟨3, by decide, rfl, ?_, HR1.out.step' (by have := HN.out; omega), grown_set HG1.out 1 _⟩
        intro y hy _ hat
        rw [HD.out] at hat
        have := (Cont_At 16 D x.toNat y HC.out hat).1
        have := lt_grps 16 y (by omega) (by omega)
        omega
      · have hk16 : k < 16 := by omega
        have HV := Lib.hid (vstep x g k HX.out hk16)
        have hb16 : ((k : Int) == 16) = false := by simp; omega
        by_cases hg0 : g = 0
        · subst hg0
          by_cases hk0 : k = 0
          · subst hk0
            go_wp2_with fail
            go_ret2
            refine .inl ⟨x.toNat + 0 % 16 * 16 ^ 0, HV.out.2, ?_, ?_, ?_, ?_, HG1.out⟩
            · have hval := HV.out.1.trans (U_lit _ HV.out.2)
              rw [← hval]; rfl
            · rw [HD.out]; exact (Cont_end 0 D x.toNat 0 HC.out HGG.out (by omega) (.inl rfl)).1
            · rw [show grps (x.toNat + 0 % 16 * 16 ^ 0) = 0 + 1 from (Cont_end 0 D x.toNat 0 HC.out HGG.out (by omega) (.inl rfl)).2, HN.out]; omega
            · rw [show grps (x.toNat + 0 % 16 * 16 ^ 0) = 0 + 1 from (Cont_end 0 D x.toNat 0 HC.out HGG.out (by omega) (.inl rfl)).2]; exact HR1.out
          · have hkp : decide (0 < k) = true := by simp; omega
            go_wp2_with fail
            go_ret2
            refine .inr ⟨3, by decide, rfl, ?_, HR1.out.step' (by have := HN.out; omega), grown_set HG1.out 1 _⟩
            intro y _ _ hat
            rw [HD.out] at hat
            exact no_At_zero k D x.toNat y HC.out (by omega) HGG.out hat
        · have hgb : ((g : Int) == 0) = false := by simp; omega
          by_cases hc : g < 16
          · have he := Cont_end k D x.toNat g HC.out HGG.out hc (.inr hg0)
            have hgm : g % 16 = g := Nat.mod_eq_of_lt hc
            have HE := Lib.hid he
            have HM := Lib.hid hgm
            clear he hgm
            go_wp2_with fail
            go_ret2
            refine .inl ⟨x.toNat + g % 16 * 16 ^ k, HV.out.2, ?_, ?_, ?_, ?_, HG1.out⟩
            · have hval := HV.out.1.trans (U_lit _ HV.out.2)
              rw [← hval]; rfl
            · rw [HD.out, HM.out]; exact HE.out.1
            · rw [HM.out, HE.out.2, HN.out]; omega
            · rw [HM.out, HE.out.2, show pos + 5 * (k + 1) = pos + 5 * k + 5 by omega]; exact HR1.out
          · have hsn := Cont_snoc k D x.toNat (g % 16) HC.out (by rw [HGG.out]; omega) (Nat.mod_lt _ (by omega))
            have HS := Lib.hid hsn
            clear hsn
            go_wp2_with fail
            go_roundw
            case rel =>
              refine ⟨k + 1, BitVec.ofNat 64 (x.toNat + g % 16 * 16 ^ k), by omega, by go_num, by rw [HV.out.1], ?_, ?_, HG1.out⟩
              · rw [BitVec.toNat_ofNat, Nat.mod_eq_of_lt (by have := HV.out.2; omega)]; exact HS.out
              · rw [show pos + 5 * (k + 1) = pos + 5 * k + 5 by omega]; exact HR1.out
            case measure => simp [intOf]; omega
    · have hget := get5_short B T q (pos + 5 * k) bs wr HR.out (by rw [HN.out]; omega)
      have HGT := Lib.hid hget
      clear hget
      go_wp2_with fail
      refine HGT.out.mono ?_
      rintro e w1 ⟨rfl, hb1⟩
      have hR1 := HR.out.below hb1 HR.out.sz
      have HR1 := Lib.hid hR1
      have HG1 : Hid (w.grownBy w1 (some q)) := grown_trans HG.out ⟨hb1.os, hb1.tape, hb1.output, hb1.size, fun j hj _ => hb1.block j hj⟩
      have hqw1 : q < w1.heap.size := by have := hR1.qT; have := hR1.sz; omega
      have hf1 := hR1.f
      have hd1 := hR1.c1
      clear hR1 hb1
      go_wp2_with fail
      go_ret2
      refine .inr ⟨14, by decide, rfl, ?_, HR1.out.step' (by have := HN.out; omega), grown_set HG1.out 1 _⟩
      intro y _ hle hat
      rw [HD.out] at hat
      have := (Cont_At k D x.toNat y HC.out hat).1
      rw [HN.out] at hle
      omega

/-- The number with a sign that a natural one stands for. -/
def uz (x : Nat) : Int := if x % 2 = 0 then ((x / 2 : Nat) : Int) else -((x / 2 : Nat) : Int) - 1
theorem uz_bd (x : Nat) (h : x < 18446744073709551616) : -9223372036854775808 ≤ uz x ∧ uz x ≤ 9223372036854775807 := by unfold uz; split <;> omega
theorem zz_uz (x : Nat) (h : x < 18446744073709551616) : (zz (uz x)).toNat = x := by
  have := zz_nat (uz x) (uz_bd x h)
  unfold uz at this ⊢
  by_cases e : x % 2 = 0
  · rw [if_pos e] at this ⊢; rw [if_pos (by omega)] at this; omega
  · rw [if_neg e] at this ⊢; rw [if_neg (by omega)] at this; omega
theorem uz_zz (v : Int) (hv : -9223372036854775808 ≤ v ∧ v ≤ 9223372036854775807) : uz (zz v).toNat = v := by
  have := zz_nat v hv
  unfold uz
  by_cases h : 0 ≤ v
  · rw [if_pos h] at this; rw [if_pos (by omega)]; omega
  · rw [if_neg h] at this; rw [if_neg (by omega)]; omega

theorem uz_expr (x : Nat) (h : x < 18446744073709551616) : wrap64 (bits .xor .u64 ((x : Int) / 2) (IntKind.u64.wrap (-bits .and .u64 (x : Int) 1))) = uz x := by
  have e1 : bits .and .u64 (x : Int) 1 = ((x % 2 : Nat) : Int) := by
    have hx : (x : Int) = U (wordOf x) := by unfold U; rw [wordOf_nat x h]
    rw [hx, and_1]
    unfold U
    rw [BitVec.toNat_and, wordOf_nat x h]
    show ((x &&& 1 : Nat) : Int) = _
    rw [Nat.and_one_is_mod]
  have e2 : (x : Int) / 2 = U (wordOf (x / 2)) := by unfold U; rw [wordOf_nat _ (by omega)]; omega
  rw [e1, e2]
  unfold uz
  by_cases e : x % 2 = 0
  · have e3 : IntKind.u64.wrap (-((x % 2 : Nat) : Int)) = U 0#64 := by rw [e]; decide
    rw [e3, xor_U, BitVec.xor_zero, if_pos e, ← e2]
    unfold wrap64; omega
  · have e3 : IntKind.u64.wrap (-((x % 2 : Nat) : Int)) = U (BitVec.allOnes 64) := by rw [show x % 2 = 1 by omega]; decide
    rw [e3, xor_U, if_neg e]
    unfold U
    rw [xor_ones, wordOf_nat _ (by omega)]
    unfold wrap64; omega

/-- What Reader.Int says. -/
def RInt (B T q pos : Nat) (bs : List Int) (w : World) (e : Ending) (w' : World) : Prop :=
  (∃ x : Nat, x < 18446744073709551616 ∧ e = .returned (.tuple #[.int .i64 (uz x), .int .i64 0]) ∧ At (numB bs / 2 ^ pos) x ∧ pos + 5 * grps x ≤ 8 * bs.length ∧ Rdr B T q (pos + 5 * grps x) bs w' ∧ w.grownBy w' (some q)) ∨
  (∃ er : Int, er ≠ 0 ∧ e = .returned (.tuple #[.int .i64 0, .int .i64 er]) ∧ (∀ x : Nat, x < 18446744073709551616 → pos + 5 * grps x ≤ 8 * bs.length → ¬ At (numB bs / 2 ^ pos) x) ∧ Rdr B T q pos bs w' ∧ w.grownBy w' (some q))

theorem rint_any (B T q pos : Nat) (bs : List Int) (w : World) (h : Rdr B T q pos bs w) :
    Calls Try.prog 48 #[.pointer (some ⟨q, 0, none⟩)] w (RInt B T q pos bs w) := by
  have HH := Lib.hid h
  clear h
  go_enter Try.func48, Try.ntmps48
  go_wp2_with fail
  refine (rnat_any B T q pos bs w HH.out).mono ?_
  rintro e w1 (⟨x, hx, rfl, hr⟩ | ⟨er, her, rfl, hr⟩)
  · have HR := Lib.hid hr
    clear hr
    go_wp2_with fail
    rw [uz_expr x hx]
    go_ret2
    exact .inl ⟨x, hx, rfl, HR.out⟩
  · have HR := Lib.hid hr
    clear hr
    have hb : (er == 0) = false := by simpa using her
    go_wp2_with fail
    go_ret2
    exact .inr ⟨er, her, rfl, HR.out⟩
end Go.Proofs.Ythfpbplpfjmmgaa
