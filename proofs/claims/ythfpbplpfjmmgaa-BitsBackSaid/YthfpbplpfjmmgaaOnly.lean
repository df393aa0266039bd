/- For every input, BitsOnly returns true. No condition. -/
import Derived.Test.YthfpbplpfjmmgaaNat
import Derived.Deep.CutBlock
namespace Go.Proofs.Ythfpbplpfjmmgaa
open Go.RowKit
attribute [local go_sem ↓] run_mn

theorem equal_bytes (a b n ca cb : Nat) (bs : List Int) (w : World) (hn : n ≤ 140737488351232) (hal : a < w.heap.size) (hbl : b < w.heap.size)
    (ha : ∀ k, k < n → w.cell? ⟨a, k, none⟩ = some (.int .u8 (bs[k]?.getD 0))) (hb : ∀ k, k < n → w.cell? ⟨b, k, none⟩ = some (.int .u8 (bs[k]?.getD 0))) :
    Calls Try.prog 53 #[.slice (some ⟨a, 0, none⟩) n ca, .slice (some ⟨b, 0, none⟩) n cb] w fun e w' => e = .returned (.bool true) ∧ Below w.heap.size w w' := by
  go_enter Try.func53, Try.ntmps53
  go_wp2
  go_loopw [5, 13] (fun _ i wr => ∃ (k : Nat) (l : List Obj) (m : Nat), k ≤ n ∧ i = .int .i64 k ∧ wr = Ythfpbplpfjmmgaa.ext w l m) (fun _ i _ => n - (intOf i).toNat)
  case atStart => exact ⟨0, [], _, by omega, rfl, (ext_nil _).symm⟩
  case round =>
    obtain ⟨k, l, m, hk, rfl, rfl⟩ := hrel
    by_cases hlt : k < n
    · have h1 := ha k hlt
      have h2 := hb k hlt
      clear ha hb
      go_wp2
      refine region_grow_ext (by kernel_rfl) (by kernel_rfl) ?_
      repeat (go_big_quiet_step ((fail)))
      refine wpQuiet_nil ?_
      intro _ hw'
      obtain ⟨kk, mm, rfl⟩ := hw'
      go_wp2
      go_roundw
      case rel => exact ⟨k + 1, _, _, by omega, by go_num, rfl⟩
      case measure => simp [intOf]; omega
    · obtain rfl : k = n := by omega
      clear ha hb
      go_wp2
      go_ret
      exact ⟨rfl, below_ext _ _ _⟩

theorem put_53 (p : Nat) (w : World) (h : Wtr p 0 0 w) :
    Calls Try.prog 43 #[.pointer (some ⟨p, 0, none⟩), .int .u64 5, .int .i64 3] w fun e w' => e = .returned (.int .i64 0) ∧ Wtr p 5 3 w' ∧ Below p w w' := by
  have := put_any p 0 0 3 5#64 w h (by omega) (by decide) (by omega)
  rw [show U 5#64 = 5 by decide] at this
  exact this

set_option maxRecDepth 4000 in
theorem bitsBegun_any (w : World) :
    Calls Try.prog 40 #[] w fun e w' => e = .returned (.bool true) ∧ Below w.heap.size w w' := by
  have hW := Lib.hid (Wtr.made w)
  go_enter Try.func40, Try.ntmps40
  go_wp2_with fail
  refine (put_53 w.heap.size _ hW.out).mono ?_
  rintro e w1 ⟨rfl, hW1, hB1⟩
  have HW1 := Lib.hid hW1
  have HB1 : Hid (Below w.heap.size w w1) := ((Below.refl _ _).alloc (Nat.le_refl _) _).trans hB1
  clear hW1 hB1
  go_wp2_with (go_at_call 36; (with_reducible refine (wlen_any _ _ _ _ HW1.out).mono ?_); rintro e w2 ⟨rfl, rfl⟩)
  refine (wbytes_any _ _ _ _ HW1.out).mono ?_
  rintro e w2 ⟨v, rfl, hown, hb2⟩
  rw [show (3 + 7) / 8 = 1 by rfl, show bytesN 5 1 = [5] by decide] at hown
  obtain ⟨g, cap, rfl, hg, hgl, _, _, _, hc, _⟩ := owns_open hown (by omega)
  have HC := Lib.hid hc
  clear hc hown
  go_wp2_with fail
  refine (equal_bytes g w2.heap.size 1 _ _ [5] _ (by omega) (by simp; omega) (by simp) ?_ ?_).mono ?_
  · intro k hk
    obtain rfl : k = 0 := by omega
    rw [World.cell?_alloc_lt _ _ _ hgl, HC.out 0 (by omega)]; rfl
  · intro k hk
    obtain rfl : k = 0 := by omega
    simp [go_sem]
  rintro e w3 ⟨rfl, hb3⟩
  have HB3 := Lib.hid hb3
  clear hb3
  go_wp2
  go_ret
  have r := HB1.out.trans (hb2.mono HB1.out.size)
  have r2 := r.alloc r.size (Obj.cells #[Value.int IntKind.u8 5] 5)
  exact ⟨rfl, r2.trans (HB3.out.mono r2.size)⟩

theorem Wtr.kept {p N n q : Nat} {w w' : World} (h : Wtr p N n w) (hg : w.grownBy w' (some q)) (hq : q < p) : Wtr p N n w' := by
  obtain ⟨v, h0, ho⟩ := h.ex
  refine ⟨⟨v, hg.cell (a := ⟨p, 0, none⟩) h0 (by intro e; simp at e; omega), ho.kept hg ?_⟩, hg.cell (a := ⟨p, 1, none⟩) h.c1 (by intro e; simp at e; omega), ?_, h.lt, h.le, by have := hg.size; have := h.sz; omega⟩
  · right
    intro e
    have := ho.lt q e
    omega
  · intro j
    rw [World.frozen?_of_block (w := w) (hg.block p h.sz (by intro e; simp at e; omega))]
    exact h.f j
theorem Rdr.kept {B T q pos r : Nat} {bs : List Int} {w w' : World} (h : Rdr B T q pos bs w) (hg : w.grownBy w' (some r)) (hr : r ≠ q) (hr2 : r < B ∨ T ≤ r) : Rdr B T q pos bs w' := by
  obtain ⟨v, h0, ho, hk⟩ := h.ex
  have hqs : q < w.heap.size := by have := h.qT; have := h.sz; omega
  refine ⟨⟨v, hg.cell (a := ⟨q, 0, none⟩) h0 (by intro e; simp at e; omega), ho.kept hg ?_, hk⟩, hg.cell (a := ⟨q, 1, none⟩) h.c1 (by intro e; simp at e; omega), ?_, h.qT, by have := hg.size; have := h.sz; omega, h.le, h.ln, h.bd⟩
  · right
    intro e
    have := hk r e
    omega
  · intro j
    rw [World.frozen?_of_block (w := w) (hg.block q hqs (by intro e; simp at e; omega))]
    exact h.f j
theorem code_next (D P x : Nat) (h : At (D / 2 ^ P) x) : D % 2 ^ P + codeN x * 2 ^ P = D % 2 ^ (P + 5 * grps x) := by
  rw [At_iff, pow32] at h
  rw [Nat.pow_add, Nat.mod_mul, h, Nat.mul_comm]

set_option maxRecDepth 4000 in
set_option maxHeartbeats 1000000 in
theorem walk10 (a : Option Addr) (bs : List Int) (n cap : Nat) (w : World) (hl : bs.length = n) (hn : a = none → n = 0 ∧ cap = 0)
    (hc : ∀ y, a = some y → ∀ j u, (u8s bs)[j]? = some u → w.cell? (y.add j) = some u) (hr : n ≤ 140737488351232) (hbd : ∀ c ∈ bs, 0 ≤ c ∧ c < 256) :
    Calls Try.prog 10 #[.slice a n cap] w fun e w' => e = .returned (.bool true) ∧ Below w.heap.size w w' := by
  have HN := Lib.hid hn
  have HL := Lib.hid hl
  have HBD := Lib.hid hbd
  have HC : Hid (∀ W, Below w.heap.size w W → ∀ y, a = some y → ∀ j u, (u8s bs)[j]? = some u → W.cell? (y.add j) = some u) := by
    intro W hW y hy j u hu
    have := hc y hy j u hu
    exact (hW.cell (World.block_lt_of_cell? w _ this)).trans this
  obtain ⟨c, hcm, hcn, hc2⟩ : ∃ c : Nat, mn (n : Int) 200 = (c : Int) ∧ c ≤ n ∧ c ≤ 200 := by
    unfold mn
    by_cases h : n ≤ 200
    · exact ⟨n, by rw [if_neg (by omega)], by omega, by omega⟩
    · exact ⟨200, by rw [if_pos (by omega)]; rfl, by omega, by omega⟩
  obtain ⟨D, hD⟩ : ∃ D, numB bs = D := ⟨_, rfl⟩
  have HD := Lib.hid hD
  clear hc hn hl hbd hD
  go_enter Try.func10, Try.ntmps10
  go_wp2_with (go_at_call 40; (with_reducible refine (bitsBegun_any _).mono ?_); rintro e w1 ⟨rfl, hb⟩; obtain ⟨lb, nb, rfl⟩ := ext_of hb; clear hb)
  refine (rnew_any a n cap bs _ HL.out HN.out (HC.out _ (below_ext _ _ _)) hr HBD.out).mono ?_
  rintro e W1 ⟨q, rfl, hq, hR, hB⟩
  have HB1 : Hid (Below w.heap.size w W1) := (below_ext w lb nb).trans (hB.mono (by simp))
  have HR := Lib.hid hR
  have HQ : Hid (w.heap.size ≤ q ∧ q < W1.heap.size) := ⟨by simp at hq; omega, hR.qT⟩
  obtain ⟨B, hBB⟩ : ∃ B, (ext w lb nb).heap.size = B := ⟨_, rfl⟩
  rw [hBB] at HR
  clear hR hB hq hBB
  have hW := Lib.hid (Wtr.made W1)
  have hB2 : Hid (Below W1.heap.size W1 (W1.alloc (Obj.cells #[.slice none 0 0, .int .i64 0] 64))) := (Below.refl _ _).alloc (Nat.le_refl _) _
  obtain ⟨p, hp⟩ : ∃ p, W1.heap.size = p := ⟨_, rfl⟩
  have HP := Lib.hid hp
  clear hp
  go_upto_block 0 with fail
  obtain ⟨W2, hW2⟩ : ∃ W2, W1.alloc (Obj.cells #[Value.slice none 0 0, Value.int IntKind.i64 0] 64) = W2 := ⟨_, rfl⟩
  rw [hW2, HP.out]
  rw [hW2, HP.out] at hW hB2
  rw [HP.out] at HQ
  have hR2 : Hid (Rdr B p q 0 bs W2) := by rw [← HP.out]; exact HR.out.below (by rw [← hW2]; exact (Below.refl _ _).alloc (Nat.le_refl _) _) (Nat.le_refl _)
  clear hW2 HR
  go_cut [] (fun wx => ∃ P : Nat, P ≤ 16000 ∧ Rdr B p q P bs wx ∧ Wtr p (D % 2 ^ P) P wx ∧ Below w.heap.size w wx ∧ p < wx.heap.size)
  case first =>
    have hB0 : Hid (Below w.heap.size w W2) := HB1.out.trans (hB2.out.mono (by have := HQ.out; omega))
    go_wp2_with fail
    go_loopw [5, 6, 20] (fun _ _ i wr => ∃ k P : Nat, k ≤ c ∧ i = .int .i64 k ∧ P ≤ 80 * k ∧ Rdr B p q P bs wr ∧ Wtr p (D % 2 ^ P) P wr ∧ Below w.heap.size w wr) (fun _ _ i _ => c - (intOf i).toNat)
    case atStart => exact ⟨0, 0, by omega, rfl, by omega, hR2.out, by rw [Nat.pow_zero, Nat.mod_one]; exact hW.out, hB0.out⟩
    case round =>
      obtain ⟨k, P, hk, rfl, hPk, hR, hWr, hBr⟩ := hrel
      have HR := Lib.hid hR
      have HW := Lib.hid hWr
      have HB := Lib.hid hBr
      clear hR hWr hBr
      by_cases hlt : k < c
      · go_wp2_with fail
        refine (rint_any B p q P bs wr HR.out).mono ?_
        rintro e w1 (⟨x, hx, rfl, hat, hle, hR1, hG1⟩ | ⟨er, her, rfl, _, hR1, hG1⟩)
        · have hg16 : grps x ≤ 16 := lt_grps 16 x (by omega) (by omega)
          have hW1 := HW.out.kept hG1 (by have := HR.out.qT; omega)
          have hB1 : Below w.heap.size w w1 := HB.out.grown hG1 HB.out.size (fun j hj => by cases hj; exact HQ.out.1)
          have hcn := code_next D P x (by rw [← HD.out]; exact hat)
          have HR1 := Lib.hid hR1
          have HW1 := Lib.hid hW1
          have HB1' := Lib.hid hB1
          have HCN := Lib.hid hcn
          clear hat hle hR1 hG1 hW1 hB1 hcn
          go_wp2_with fail
          refine (wint_any p _ _ (uz x) _ HW1.out (by omega)).mono ?_
          rintro e w2 ⟨rfl, hW2, hB2'⟩
          rw [zz_uz x hx, HCN.out] at hW2
          have HW2 := Lib.hid hW2
          have HR2 := Lib.hid (HR1.out.below hB2' (Nat.le_refl _))
          have HB2 := Lib.hid (HB1'.out.trans (hB2'.mono (by have := HQ.out; omega)))
          clear hW2 hB2'
          go_wp2_with fail
          go_roundw
          case rel => exact ⟨k + 1, P + 5 * grps x, by omega, by go_num, by omega, HR2.out, HW2.out, HB2.out⟩
          case measure => simp [intOf]; omega
        · have hb : (er == 0) = false := by simpa using her
          have hW1 := HW.out.kept hG1 (by have := HR.out.qT; omega)
          have hB1 : Below w.heap.size w w1 := HB.out.grown hG1 HB.out.size (fun j hj => by cases hj; exact HQ.out.1)
          have hs1 := hW1.sz
          have HR1 := Lib.hid hR1
          have HW1 := Lib.hid hW1
          have HB1' := Lib.hid hB1
          clear hR1 hG1 hW1 hB1
          go_wp2_with fail
          go_meet
          exact ⟨P, by omega, HR1.out, HW1.out, HB1'.out, hs1⟩
      · go_wp2_with fail
        go_meet
        exact ⟨P, by omega, HR.out, HW.out, HB.out, HW.out.sz⟩
  case rest =>
    obtain ⟨P, hP, hR, hWr, hBr, hps⟩ := hcut
    have HR := Lib.hid hR
    have HW := Lib.hid hWr
    have HB := Lib.hid hBr
    clear hR hWr hBr hR2 hW hB2
    go_wp2_with fail
    refine (rnew_any a n cap bs wc HL.out HN.out (HC.out _ HB.out) hr HBD.out).mono ?_
    rintro e W3 ⟨q2, rfl, hq2, hR2, hB2⟩
    have HR2 := Lib.hid hR2
    have HW3 := Lib.hid (show Wtr p (D % 2 ^ P) P W3 by obtain ⟨l, m, rfl⟩ := ext_of hB2; exact HW.out.ext l m)
    have HB3 := Lib.hid (HB.out.trans (hB2.mono HB.out.size))
    have HRa := Lib.hid (HR.out.below hB2 HR.out.sz)
    have hs2 := hB2.size
    have hql2 : q2 < W3.heap.size := hR2.qT
    clear hR2 hB2
    obtain ⟨cnt, hcnt⟩ : ∃ cnt, (P + 7) / 8 = cnt := ⟨_, rfl⟩
    obtain ⟨N, hN⟩ : ∃ N, D % 2 ^ P = N := ⟨_, rfl⟩
    have hNl : N < 2 ^ P := by rw [← hN]; exact Nat.mod_lt _ (Nat.pow_pos (by omega))
    have hPc : P ≤ 8 * cnt ∧ cnt ≤ 2001 := by omega
    have hwb := wbytes_any p _ P W3 HW3.out
    rw [hcnt, hN] at hwb
    have HN' := Lib.hid hN
    clear hcnt hN
    go_wp2_with fail
    refine hwb.mono ?_
    rintro e W4 ⟨v4, rfl, own4, hb4⟩
    obtain ⟨ao, cp, rfl, hn4, hc4, hl4⟩ := owns_source own4
    have hs4 := hb4.size
    have HR4 := Lib.hid (HR2.out.below hb4 (Nat.le_refl _))
    have HRb := Lib.hid (HRa.out.below (hb4.mono (by omega)) (Nat.le_refl p))
    have HW4 := Lib.hid (show Wtr p (D % 2 ^ P) P W4 by obtain ⟨l, m, rfl⟩ := ext_of hb4; exact HW3.out.ext l m)
    have HB4 := Lib.hid (HB3.out.trans (hb4.mono HB3.out.size))
    have HN4 := Lib.hid hn4
    have HC4 := Lib.hid hc4
    clear hn4 hc4 hl4 own4 hb4
    go_wp2_with fail
    refine (rnew_any ao cnt cp (bytesN N cnt) W4 (bytesN_length _ _) HN4.out HC4.out (by omega) (bytesN_bd _ _)).mono ?_
    rintro e W5 ⟨q3, rfl, hq3, hR3, hB3⟩
    have hs5 := hB3.size
    have HR5 := Lib.hid (HR4.out.below (hB3.mono (by omega)) (Nat.le_refl W3.heap.size))
    have HRc := Lib.hid (HRb.out.below (hB3.mono (by omega)) (Nat.le_refl p))
    have HW5 := Lib.hid (show Wtr p (D % 2 ^ P) P W5 by obtain ⟨l, m, rfl⟩ := ext_of hB3; exact HW4.out.ext l m)
    have HB5 := Lib.hid (HB4.out.trans (hB3.mono HB4.out.size))
    have HR3 := Lib.hid hR3
    have hql3 : q3 < W5.heap.size := hR3.qT
    clear hR3 hB3
    have hL := HL.out
    have hlf := left_any B p q P bs W5 HRc.out
    rw [hL] at hlf
    have hP8 : P ≤ 8 * n := by have := HRc.out.le; omega
    have HLF := Lib.hid hlf
    clear hlf hL
    go_wp2_with (go_at_call 36; (with_reducible refine (wlen_any p _ P _ HW5.out).mono ?_); rintro e w2 ⟨rfl, rfl⟩)
    refine HLF.out.mono ?_
    rintro e W6 ⟨rfl, hb6⟩
    have HW6 := Lib.hid (show Wtr p (D % 2 ^ P) P W6 by obtain ⟨l, m, rfl⟩ := ext_of hb6; exact HW5.out.ext l m)
    have HRx := Lib.hid (HR5.out.below hb6 (by omega))
    have HRy := Lib.hid (HR3.out.below hb6 (Nat.le_refl _))
    have HB6 := Lib.hid (HB5.out.trans (hb6.mono HB5.out.size))
    have hs6 := hb6.size
    clear hb6
    go_wp2_with (go_at_call 36; (with_reducible refine (wlen_any p _ P _ HW6.out).mono ?_); rintro e w2 ⟨rfl, rfl⟩)
    have hnum := numB_bytesN N cnt (Nat.lt_of_lt_of_le hNl (Nat.pow_le_pow_right (by omega) hPc.1))
    have HNUM := Lib.hid hnum
    have hqq : q2 ≠ q3 := by omega
    have hord : q2 < W4.heap.size ∧ W3.heap.size ≤ q3 := by omega
    have HQ2 : Hid (w.heap.size ≤ q2 ∧ w.heap.size ≤ q3) := by have := HB.out.size; have := HB3.out.size; unfold Hid; omega
    have hP8' : P ≤ 8 * n := hP8
    clear hnum
    go_loopw [9, 10, 11, 12, 48] (fun _ _ _ _ i wr => ∃ k : Nat, k ≤ P ∧ i = .int .i64 k ∧ Rdr wc.heap.size W3.heap.size q2 k bs wr ∧ Rdr W4.heap.size W5.heap.size q3 k (bytesN N cnt) wr ∧ Below w.heap.size w wr) (fun _ _ _ _ i _ => P - (intOf i).toNat)
    case atStart => exact ⟨0, by omega, rfl, HRx.out, HRy.out, HB6.out⟩
    case round =>
      obtain ⟨k, hk, rfl, hRa, hRb, hBr⟩ := hrel
      have HRa := Lib.hid hRa
      have HRb := Lib.hid hRb
      have HBr := Lib.hid hBr
      clear hRa hRb hBr
      by_cases hlt : k < P
      · have hbit : N / 2 ^ k % 2 ^ 1 = D / 2 ^ k % 2 ^ 1 := by
          have h := Nat.testBit_mod_two_pow D P k
          rw [HN'.out] at h
          simp only [hlt, decide_true, Bool.true_and] at h
          simp only [Nat.testBit, Nat.shiftRight_eq_div_pow, Nat.one_and_eq_mod_two] at h
          have h2 : (N / 2 ^ k % 2 != 0) = (D / 2 ^ k % 2 != 0) := h
          rw [Nat.pow_one]
          rcases Nat.mod_two_eq_zero_or_one (N / 2 ^ k) with a | a <;> rcases Nat.mod_two_eq_zero_or_one (D / 2 ^ k) with b | b <;> rw [a, b] at h2 <;> simp_all
        have hg1 := get_any wc.heap.size W3.heap.size q2 k 1 bs wr HRa.out (by omega) (by rw [HL.out]; omega)
        rw [HD.out] at hg1
        obtain ⟨b, hb⟩ : ∃ b, U (wordOf (D / 2 ^ k % 2 ^ 1)) = b := ⟨_, rfl⟩
        rw [hb] at hg1
        have HG1 := Lib.hid hg1
        have HBIT := Lib.hid hbit
        have HBB := Lib.hid hb
        clear hg1 hbit hb
        go_wp2_with fail
        refine HG1.out.mono ?_
        rintro e w1 ⟨rfl, hR1, hG1⟩
        have hRb1 := HRb.out.kept hG1 hqq (.inl hord.1)
        have hg2 := get_any W4.heap.size W5.heap.size q3 k 1 (bytesN N cnt) w1 hRb1 (by omega) (by rw [bytesN_length]; omega)
        rw [HNUM.out, HBIT.out, HBB.out] at hg2
        have HG2 := Lib.hid hg2
        have HR1 := Lib.hid hR1
        have HB1 := Lib.hid (HBr.out.grown hG1 HBr.out.size (fun j hj => by cases hj; exact HQ2.out.1))
        clear hg2 hR1 hG1 hRb1
        go_wp2_with fail
        refine HG2.out.mono ?_
        rintro e w2 ⟨rfl, hR2, hG2⟩
        have HR2 := Lib.hid hR2
        have HR1' := Lib.hid (HR1.out.kept hG2 (fun e => hqq e.symm) (.inr hord.2))
        have HB2 := Lib.hid (HB1.out.grown hG2 HB1.out.size (fun j hj => by cases hj; exact HQ2.out.2))
        clear hR2 hG2
        go_wp2_with fail
        go_roundw
        case rel => exact ⟨k + 1, by omega, by go_num, HR1'.out, HR2.out, HB2.out⟩
        case measure => simp [intOf]; omega
      · go_wp2_with fail
        go_ret
        exact ⟨rfl, HBr.out⟩

theorem BitsOnlyW (a0 : Option Addr) (len0 cap0 : Nat) (z0 : List Int) (w : World)
    (w0 : ((a0 = none ∧ len0 = 0 ∧ cap0 = 0 ∧ z0 = []) ∨ ∃ x, a0 = some x ∧ len0 ≤ cap0 ∧ cap0 ≤ maxLen ∧ z0.length = cap0 ∧ (∀ i, i < z0.length → w.cell? (x.add i) = some (.int .u8 (z0.getD i 0))) ∧ ∀ n ∈ z0, (Lit.int .u8 n).wf = true) ∧ cap0 * 1 ≤ 140737488351232) :
    Calls Try.prog 10 #[.slice a0 len0 cap0] w fun e w' => e = .returned (.bool true) ∧ Below w.heap.size w w' := by
  obtain ⟨ns, hl, hn, hc, hw, hlc⟩ := row_open w0.1
  exact walk10 a0 ns len0 cap0 w hl hn hc (by have := w0.2; omega) (fun c hc => by have := bounds_u8 (hw c hc); omega)
end Go.Proofs.Ythfpbplpfjmmgaa
