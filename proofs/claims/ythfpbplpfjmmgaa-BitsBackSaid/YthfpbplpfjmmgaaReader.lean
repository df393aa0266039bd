/- Contracts of bits.Reader. -/
import Derived.Test.YthfpbplpfjmmgaaWriter
namespace Go.Proofs.Ythfpbplpfjmmgaa
open Go.RowKit

/-- Block q is a reader, pos bits into the bytes bs; all that it holds lies below block T. -/
structure Rdr (B T q pos : Nat) (bs : List Int) (w : World) : Prop where
  ex : ∃ v, w.cell? ⟨q, 0, none⟩ = some v ∧ w.ownsRow 0 5 1 v bs.length (u8s bs) ∧ ∀ k, v.ownBlock = some k → B ≤ k ∧ k < T ∧ k ≠ q
  c1 : w.cell? ⟨q, 1, none⟩ = some (.int .i64 pos)
  f : ∀ j, w.frozen? ⟨q, j, none⟩ = false
  qT : q < T
  sz : T ≤ w.heap.size
  le : pos ≤ 8 * bs.length
  ln : bs.length ≤ 140737488351232
  bd : ∀ c ∈ bs, 0 ≤ c ∧ c < 256

theorem Rdr.below {B T q pos C : Nat} {bs : List Int} {w w' : World} (h : Rdr B T q pos bs w) (hb : Below C w w') (hC : T ≤ C) : Rdr B T q pos bs w' := by
  obtain ⟨v, h0, ho, hk⟩ := h.ex
  have hqT := h.qT
  have hsz := h.sz
  refine ⟨⟨v, ?_, ?_, hk⟩, ?_, ?_, hqT, by have := hb.size; omega, h.le, h.ln, h.bd⟩
  · rw [hb.cell (p := ⟨q, 0, none⟩) (by simp; omega)]; exact h0
  · refine ⟨ho.1, ?_⟩
    rcases ho.2 with h2 | ⟨g, cap, cur, hv, hg, hh, r⟩
    · exact .inl h2
    · have := (hk g (by rw [hv]; rfl)).2.1
      exact .inr ⟨g, cap, cur, hv, hg, by rw [hb.block g (by omega)]; exact hh, r⟩
  · rw [hb.cell (p := ⟨q, 1, none⟩) (by simp; omega)]; exact h.c1
  · intro j; rw [hb.frozen (p := ⟨q, j, none⟩) (by simp; omega)]; exact h.f j

/-- A step of the reader. -/
theorem Rdr.step {B T q pos pos' : Nat} {bs : List Int} {w : World} (h : Rdr B T q pos bs w) (hp : pos' ≤ 8 * bs.length) (l : List Obj) (m : Nat) :
    Rdr B T q pos' bs (ext (w.setCell ⟨q, 1, none⟩ (.int .i64 (pos' : Int))) l m) := by
  obtain ⟨v, h0, ho, hk⟩ := h.ex
  have hqT := h.qT
  have hsz := h.sz
  have hs : q < (w.setCell ⟨q, 1, none⟩ (.int .i64 (pos' : Int))).heap.size := by simp [World.setCell]; omega
  have ho1 : (w.setCell ⟨q, 1, none⟩ (.int .i64 (pos' : Int))).ownsRow 0 5 1 v bs.length (u8s bs) := by
    refine ownsRow_setCell_other ho ?_ _
    intro e
    exact (hk q (by simpa using e)).2.2 rfl
  refine ⟨⟨v, ?_, owns_below ho1 (below_ext _ l m) (Nat.le_refl _), hk⟩, ?_, ?_, hqT, by simp [World.setCell]; omega, hp, h.ln, h.bd⟩
  · rw [cell_ext _ _ _ _ _ hs, World.cell?_setCell_other _ _ _ _ (by intro e; cases e)]; exact h0
  · rw [cell_ext _ _ _ _ _ hs, World.cell?_setCell_same _ _ _ h.c1]
  · intro j; rw [frozen_ext _ _ _ _ _ hs, World.frozen?_setCell]; exact h.f j

theorem grown_ext {w w' : World} {row : Option Nat} (h : w.grownBy w' row) (l : List Obj) (m : Nat) : w.grownBy (ext w' l m) row :=
  ⟨h.os, h.tape, h.output, by have := h.size; simp; omega, fun k hk hne => by
    rw [(below_ext w' l m).block k (by have := h.size; omega)]; exact h.block k hk hne⟩
theorem grown_set {w w' : World} {b : Nat} (h : w.grownBy w' (some b)) (o : Nat) (v : Value) : w.grownBy (w'.setCell ⟨b, o, none⟩ v) (some b) :=
  ⟨h.os, h.tape, h.output, by have := h.size; simp [World.setCell]; omega, fun k hk hne => by
    rw [Below.heap_setCell _ _ _ _ (by intro e; apply hne; rw [e])]; exact h.block k hk hne⟩
theorem grown_trans {a b c : World} {row : Option Nat} (h : a.grownBy b row) (k : b.grownBy c row) : a.grownBy c row :=
  ⟨k.os.trans h.os, k.tape.trans h.tape, k.output.trans h.output, Nat.le_trans h.size k.size, fun i hi hne => (k.block i (Nat.lt_of_lt_of_le hi h.size) hne).trans (h.block i hi hne)⟩

/-- What bits.New says. -/
def RNew (bs : List Int) (w : World) (e : Ending) (w' : World) : Prop :=
  ∃ q, e = .returned (.pointer (some ⟨q, 0, none⟩)) ∧ w.heap.size ≤ q ∧ Rdr w.heap.size w'.heap.size q 0 bs w' ∧ Below w.heap.size w w'

set_option maxRecDepth 4000 in
theorem rnew_any (ao : Option Addr) (n cap : Nat) (bs : List Int) (w : World) (hl : bs.length = n) (hn : ao = none → n = 0 ∧ cap = 0)
    (hc : ∀ y, ao = some y → ∀ j u, (u8s bs)[j]? = some u → w.cell? (y.add j) = some u) (hr : n ≤ 140737488351232) (hbd : ∀ c ∈ bs, 0 ≤ c ∧ c < 256) :
    Calls Try.prog 37 #[.slice ao n cap] w (RNew bs w) := by
  obtain ⟨i0, hi0, hz0, hz1, hz2⟩ := info_parts Try.info5
  have HC := Lib.hid hc
  have HN := Lib.hid hn
  have HL := Lib.hid hl
  have HB := Lib.hid hbd
  clear hc hn hl hbd
  go_enter Try.func37, Try.ntmps37
  go_wp2_with (at_builtin; refine wpList_append_copy _ rfl _ _ 44 rfl 5 i0 (.int .u8 0) 1 1 Try.underlying44 hi0 hz0 hz1 hz2 rfl (by decide) ao n cap (u8s bs) rfl rfl (by unfold u8s; rw [List.length_map, HL.out]; omega) HN.out HC.out (ints_oneCell _ _) (by unfold maxLen; omega) (by omega) ?_)
  intro v' w1 hown' hg
  obtain ⟨a1, cap1, rfl, _, _, _⟩ := owns_source hown'
  have HO := Lib.hid hown'
  have HG := Lib.hid hg
  clear hown' hg
  go_wp2
  go_ret
  have hs := HG.out.size
  have hl := HL.out
  refine ⟨w1.heap.size, rfl, hs, ⟨⟨.slice a1 n cap1, by simp [go_sem], ?_, ?_⟩, by simp [go_sem], by intro j; simp [go_sem], by simp, by simp, by omega, by omega, HB.out⟩, ?_⟩
  · rw [hl]; exact owns_mono (HO.out.alloc _) (by omega)
  · intro k hk
    have := HO.out.lt k hk
    simp; omega
  · exact ((Below.refl _ _).grown HG.out (Nat.le_refl _) (fun k hk => by cases hk)).alloc hs _

set_option maxRecDepth 4000 in
theorem left_any (B T q pos : Nat) (bs : List Int) (w : World) (h : Rdr B T q pos bs w) :
    Calls Try.prog 49 #[.pointer (some ⟨q, 0, none⟩)] w fun e w' => e = .returned (.int .i64 (8 * bs.length - pos)) ∧ Below w.heap.size w w' := by
  obtain ⟨v, h0, ho, _⟩ := h.ex
  obtain ⟨a1, cap1, rfl, _, _, _⟩ := owns_source ho
  have h1 := h.c1
  have hq : q < w.heap.size := by have := h.qT; have := h.sz; omega
  have hle := h.le
  have hln := h.ln
  clear h ho
  obtain ⟨n, hn⟩ : ∃ n, bs.length = n := ⟨_, rfl⟩
  rw [hn] at h0 hle hln ⊢
  clear hn
  go_enter Try.func49, Try.ntmps49
  go_wp2
  refine region_grow (by kernel_rfl) (by kernel_rfl) ?_
  repeat (go_big_quiet_step ((fail)))
  refine wpQuiet_nil ?_
  intro _ hw'
  obtain ⟨k, m, rfl⟩ := hw'
  go_wp2
  go_ret
  exact ⟨rfl, below_ext _ _ _⟩

theorem or_bitU (v : W64) (b i : Nat) (hv : v.toNat < 2 ^ i) (hi : i < 64) (hb : b ≤ 1) : bits .or .u64 (U v) (IntKind.u64.wrap ((b : Int) * 2 ^ i)) = U (BitVec.ofNat 64 (v.toNat + b * 2 ^ i)) ∧ v.toNat + b * 2 ^ i < 2 ^ (i + 1) := by
  have hlt := bit_lt v.toNat i b hv hb
  have h64 : 2 ^ (i + 1) ≤ 2 ^ 64 := Nat.pow_le_pow_right (by omega) (by omega)
  refine ⟨?_, hlt⟩
  have e : (b : Int) * 2 ^ i = ((b * 2 ^ i : Nat) : Int) := by simp
  rw [e, IntKind.wrap_u64, Int.emod_eq_of_lt (by omega) (by omega)]
  rw [show ((b * 2 ^ i : Nat) : Int) = U (BitVec.ofNat 64 (b * 2 ^ i)) by rw [U_lit _ (by omega)], or_U]
  congr 1
  apply BitVec.eq_of_toNat_eq
  rw [BitVec.toNat_or, BitVec.toNat_ofNat, BitVec.toNat_ofNat, Nat.mod_eq_of_lt (by omega), Nat.mod_eq_of_lt (by omega)]
  have := Nat.two_pow_add_eq_or_of_lt hv b
  rw [Nat.or_comm, Nat.mul_comm, ← this]
  omega

/-- What Reader.Get says of m bits that are there. -/
theorem get_step (D pos k : Nat) : D / 2 ^ pos % 2 ^ (k + 1) = D / 2 ^ pos % 2 ^ k + D / 2 ^ (pos + k) % 2 * 2 ^ k := by
  rw [mod_succ, Nat.div_div_eq_div_mul, ← Nat.pow_add, Nat.mul_comm (2 ^ k)]

/-- A word of some bits. -/
noncomputable def wordOf (x : Nat) : W64 := BitVec.ofNat 64 x
theorem wordOf_nat (x : Nat) (h : x < 18446744073709551616) : (wordOf x).toNat = x := by unfold wordOf; rw [BitVec.toNat_ofNat]; omega

@[go_sem] theorem and_1b (a : Int) (h : 0 ≤ a) (h2 : a < 256) : bits .and .u8 a 1 = a % 2 := by
  have h : ∀ n : Fin 256, bits .and .u8 ((n.val : Nat) : Int) 1 = ((n.val : Nat) : Int) % 2 := by decide +kernel
  have := h ⟨a.toNat, by omega⟩
  simp only [] at this
  rwa [show ((a.toNat : Nat) : Int) = a by omega] at this

set_option maxRecDepth 4000 in
set_option maxHeartbeats 1000000 in
theorem get_any (B T q pos m : Nat) (bs : List Int) (w : World) (h : Rdr B T q pos bs w) (hm : m ≤ 64) (hp : pos + m ≤ 8 * bs.length) :
    Calls Try.prog 46 #[.pointer (some ⟨q, 0, none⟩), .int .i64 m] w fun e w' => e = .returned (.tuple #[.int .u64 (U (wordOf (numB bs / 2 ^ pos % 2 ^ m))), .int .i64 0]) ∧ Rdr B T q (pos + m) bs w' ∧ w.grownBy w' (some q) := by
  have hleft := left_any B T q pos bs w h
  have hln := h.ln
  obtain ⟨n, hn⟩ : ∃ n, bs.length = n := ⟨_, rfl⟩
  have HN := Lib.hid hn
  rw [hn] at hleft hln hp
  obtain ⟨D, hD⟩ : ∃ D, numB bs = D := ⟨_, rfl⟩
  have HD := Lib.hid hD
  rw [hD]
  have HH := Lib.hid h
  have hd0 : decide ((m : Int) < 0) = false := by simp
  have hd1 : decide (64 < (m : Int)) = false := by simp; omega
  clear hn hD h
  go_enter Try.func46, Try.ntmps46
  go_wp2_with (go_at_call 49; (with_reducible refine hleft.mono ?_); rintro e w1 ⟨rfl, hb⟩; obtain ⟨l0, n0, rfl⟩ := ext_of hb; clear hb)
  obtain ⟨w1, hw1⟩ : ∃ w1, ext w l0 n0 = w1 := ⟨_, rfl⟩
  have hR1 : Hid (Rdr B T q pos bs w1 ∧ w.grownBy w1 (some q)) := by
    rw [← hw1]
    exact ⟨HH.out.below (below_ext w l0 n0) HH.out.sz, grown_ext (World.grownBy.refl _ _) _ _⟩
  rw [hw1]
  clear hw1
  go_loopw [6, 7, 19] (fun x _ i wr => ∃ (k : Nat) (v : W64), k ≤ m ∧ i = .int .i64 k ∧ x = .int .u64 (U v) ∧ v.toNat = D / 2 ^ pos % 2 ^ k ∧ Rdr B T q (pos + k) bs wr ∧ w.grownBy wr (some q)) (fun _ _ i _ => m - (intOf i).toNat)
  case atStart => exact ⟨0, 0#64, by omega, rfl, rfl, by simp [Nat.mod_one], hR1.out.1, hR1.out.2⟩
  case round =>
    obtain ⟨k, v, hk, rfl, rfl, hv, hR, hG⟩ := hrel
    by_cases hlt : k < m
    · have hob := or_bitU v (D / 2 ^ (pos + k) % 2) k (by rw [hv]; exact Nat.mod_lt _ (Nat.pow_pos (by omega))) (by omega) (by omega)
      have HV := Lib.hid hv
      have HR := Lib.hid hR
      have HG := Lib.hid hG
      obtain ⟨vs, hc0, hown, hvk⟩ := hR.ex
      have hc1 := hR.c1
      have hf := hR.f
      have hqw : q < wr.heap.size := by have := hR.qT; have := hR.sz; omega
      have hn := HN.out
      obtain ⟨g, cap, rfl, _, hgl, _, _, _, hgc, _⟩ := owns_open hown (by omega)
      obtain ⟨P, hP⟩ : ∃ P, pos + k = P := ⟨_, rfl⟩
      have hgk : wr.cell? ⟨g, P / 8, none⟩ = some (.int .u8 (byteN D (P / 8))) := by
        rw [hgc _ (by omega), ← HD.out, numB_byte bs hR.bd _ (by omega)]
        unfold u8s
        rw [List.getElem?_map, List.getElem?_eq_getElem (by omega)]
        rfl
      have hbd := byteN_bd D (P / 8)
      have hbb := byte_bit D P
      rw [hP] at hob hc1
      rw [hn] at hc0
      clear hv hR hG hown hvk hgc hn
      have HP := Lib.hid hP
      clear hP
      have HOB := Lib.hid hob.2
      have hob1 := hob.1
      clear hob
      have hPn : P < 8 * n := by have := HP.out; omega
      go_upto_region 9 with fail
      have hq8 : P / 8 < n := by omega
      refine region_grow (by kernel_rfl) (by kernel_rfl) ?_
      repeat (go_big_quiet_step ((fail)))
      refine wpQuiet_nil ?_
      intro _ hw'
      obtain ⟨kk, mm, rfl⟩ := hw'
      go_wp2
      go_roundw
      case rel =>
        refine ⟨k + 1, BitVec.ofNat 64 (v.toNat + D / 2 ^ P % 2 * 2 ^ k), by omega, by go_num, ?_, ?_, ?_, ?_⟩
        · have hbit : U (Wd (bits .and .u8 (byteN D (P / 8) / 2 ^ (P % 8)) 1)) = ((D / 2 ^ P % 2 : Nat) : Int) := by
            have h2 : 0 ≤ byteN D (P / 8) / 2 ^ (P % 8) := Int.ediv_nonneg hbd.1 (Int.le_of_lt (Int.pow_pos (by omega)))
            have h3 : byteN D (P / 8) / 2 ^ (P % 8) ≤ byteN D (P / 8) := Int.ediv_le_self _ hbd.1
            rw [and_1b _ h2 (by omega), hbb, U_Wd _ (by omega) (by omega)]
          rw [hbit, hob1]
        · rw [BitVec.toNat_ofNat, get_step, HV.out, HP.out]
          have h1 := HOB.out
          have h64 : 2 ^ (k + 1) ≤ 2 ^ 64 := Nat.pow_le_pow_right (by omega) (by omega)
          rw [HV.out] at h1
          exact Nat.mod_eq_of_lt (by omega)
        · have := HR.out.step (pos' := P + 1) (by have := HN.out; omega) kk mm
          rw [show pos + (k + 1) = P + 1 by have := HP.out; omega]
          exact this
        · exact grown_ext (grown_set HG.out 1 _) kk mm
      case measure => simp [intOf]; omega
    · obtain rfl : k = m := by omega
      go_wp2
      refine bodyPost_ret (v := .tuple #[.int .u64 (U v), .int .i64 0]) (by simp [results, Try.results46, go_sem]) rfl ⟨?_, hR, hG⟩
      rw [← hv]; unfold wordOf; rw [BitVec.ofNat_toNat, BitVec.setWidth_eq]

set_option maxRecDepth 4000 in
theorem get_short (B T q pos m : Nat) (bs : List Int) (w : World) (h : Rdr B T q pos bs w) (hm : m ≤ 64) (hp : 8 * bs.length < pos + m) :
    Calls Try.prog 46 #[.pointer (some ⟨q, 0, none⟩), .int .i64 m] w fun e w' => e = .returned (.tuple #[.int .u64 0, .int .i64 14]) ∧ Below w.heap.size w w' := by
  have hleft := left_any B T q pos bs w h
  have hln := h.ln
  have hle := h.le
  obtain ⟨n, hn⟩ : ∃ n, bs.length = n := ⟨_, rfl⟩
  rw [hn] at hleft hln hp hle
  have hd0 : decide ((m : Int) < 0) = false := by simp
  have hd1 : decide (64 < (m : Int)) = false := by simp; omega
  clear hn h
  go_enter Try.func46, Try.ntmps46
  go_wp2_with (go_at_call 49; (with_reducible refine hleft.mono ?_); rintro e w1 ⟨rfl, hb⟩; obtain ⟨l0, n0, rfl⟩ := ext_of hb; clear hb)
  go_ret2
  exact ⟨rfl, below_ext _ _ _⟩

/-- The bytes of a number, as a number. -/
theorem numB_bytesN (N c : Nat) (h : N < 2 ^ (8 * c)) : numB (bytesN N c) = N := by
  have hb : ∀ x ∈ bytesN N c, 0 ≤ x ∧ x < 256 := by
    intro x hx
    unfold bytesN at hx
    rw [List.mem_map] at hx
    obtain ⟨k, _, rfl⟩ := hx
    exact byteN_bd N k
  have h1 := numB_lt _ hb
  rw [bytesN_length] at h1
  apply Nat.eq_of_testBit_eq
  intro i
  by_cases hi : i < 8 * c
  · have e1 := numB_byte _ hb (i / 8) (by rw [bytesN_length]; omega)
    rw [bytesN_get N c _ (by omega)] at e1
    have a := byte_bit (numB (bytesN N c)) i
    have b := byte_bit N i
    rw [e1, b] at a
    simp only [Nat.testBit, Nat.shiftRight_eq_div_pow, Nat.one_and_eq_mod_two]
    have : N / 2 ^ i % 2 = numB (bytesN N c) / 2 ^ i % 2 := by omega
    rw [this]
  · rw [Nat.testBit_lt_two_pow (Nat.lt_of_lt_of_le h1 (Nat.pow_le_pow_right (by omega) (by omega))), Nat.testBit_lt_two_pow (Nat.lt_of_lt_of_le h (Nat.pow_le_pow_right (by omega) (by omega)))]

theorem Wtr.ext {p N n : Nat} {w : World} (h : Wtr p N n w) (l : List Obj) (m : Nat) : Wtr p N n (ext w l m) := by
  obtain ⟨v, h0, ho⟩ := h.ex
  refine ⟨⟨v, ?_, owns_below ho (below_ext w l m) (Nat.le_refl _)⟩, ?_, ?_, h.lt, h.le, by have := h.sz; simp; omega⟩
  · rw [cell_ext _ _ _ _ _ h.sz]; exact h0
  · rw [cell_ext _ _ _ _ _ h.sz]; exact h.c1
  · intro j; rw [frozen_ext _ _ _ _ _ h.sz]; exact h.f j
theorem Wtr.alloc {p N n : Nat} {w : World} (h : Wtr p N n w) (o : Obj) : Wtr p N n (w.alloc o) := by
  have e : w.alloc o = Ythfpbplpfjmmgaa.ext w [o] w.drawn := by
    cases w; simp [World.alloc, Ythfpbplpfjmmgaa.ext]
  rw [e]; exact h.ext _ _
/-- A writer that has just been made. -/
theorem Wtr.made (w : World) : Wtr w.heap.size 0 0 (w.alloc (Obj.cells #[.slice none 0 0, .int .i64 0] 64)) := by
  refine ⟨⟨.slice none 0 0, by simp [go_sem], World.ownsRow_nil _ _ _ _⟩, by simp [go_sem], by intro j; simp [go_sem], by omega, by omega, by simp⟩
end Go.Proofs.Ythfpbplpfjmmgaa
