/- Contracts of bits.Writer. -/
import Derived.Test.YthfpbplpfjmmgaaDigest
import Derived.Test.YthfpbplpfjmmgaaBitsP
import Derived.Deep.DeepCutAuto
namespace Go.Proofs.Ythfpbplpfjmmgaa
open Go.RowKit

abbrev u8s (zs : List Int) : List Value := zs.map (Value.int .u8)

/-- Block p is a writer that holds the n bits of N. -/
structure Wtr (p N n : Nat) (w : World) : Prop where
  ex : ∃ v, w.cell? ⟨p, 0, none⟩ = some v ∧ w.ownsRow (p + 1) 5 1 v ((n + 7) / 8) (u8s (bytesN N ((n + 7) / 8)))
  c1 : w.cell? ⟨p, 1, none⟩ = some (.int .i64 n)
  f : ∀ j, w.frozen? ⟨p, j, none⟩ = false
  lt : N < 2 ^ n
  le : n ≤ 524288
  sz : p < w.heap.size

/-- Block p is such a writer, and there is room for the next bit. -/
structure Rdy (p N n g cap : Nat) (w : World) : Prop where
  c0 : w.cell? ⟨p, 0, none⟩ = some (.slice (some ⟨g, 0, none⟩) (n / 8 + 1) cap)
  own : w.ownsRow (p + 1) 5 1 (.slice (some ⟨g, 0, none⟩) (n / 8 + 1) cap) (n / 8 + 1) (u8s (bytesN N (n / 8 + 1)))
  c1 : w.cell? ⟨p, 1, none⟩ = some (.int .i64 n)
  f : ∀ j, w.frozen? ⟨p, j, none⟩ = false
  sz : p < w.heap.size

theorem Wtr.rdy {p N n : Nat} {w : World} (h : Wtr p N n w) (hn : ¬ n % 8 = 0) : ∃ g cap, Rdy p N n g cap w := by
  obtain ⟨v, h0, ho⟩ := h.ex
  rw [show (n + 7) / 8 = n / 8 + 1 by omega] at ho
  obtain ⟨g, cap, rfl, _⟩ := owns_open ho (by omega)
  exact ⟨g, cap, h0, ho, h.c1, h.f, h.sz⟩

/-- What a bit's stores leave. -/
theorem Rdy.step {p N n g cap : Nat} {w : World} (h : Rdy p N n g cap w) (b : Nat) (hb : b ≤ 1) (lt : N < 2 ^ n) (le : n + 1 ≤ 524288) (l : List Obj) (m : Nat) :
    Wtr p (N + b * 2 ^ n) (n + 1) (ext ((w.setCell ⟨g, n / 8, none⟩ (.int .u8 (byteN N (n / 8) + (b : Int) * 2 ^ (n % 8)))).setCell ⟨p, 1, none⟩ (.int .i64 ((n : Int) + 1))) l m) := by
  have h0 := h.c0
  have h1 := h.c1
  have hs := h.sz
  obtain ⟨hg, hgl, _, hl, _, _⟩ := owns_at h.own
  have hne : g ≠ p := by omega
  have own2 := (h.own.stored (n / 8) (.int .u8 (byteN N (n / 8) + (b : Int) * 2 ^ (n % 8)))).1
  have hset : (u8s (bytesN N (n / 8 + 1))).set (n / 8) (.int .u8 (byteN N (n / 8) + (b : Int) * 2 ^ (n % 8))) = u8s (bytesN (N + b * 2 ^ n) (n / 8 + 1)) := by
    unfold u8s
    rw [← bytesN_bit N n b lt hb, List.map_set]
  rw [hset] at own2
  have own3 := ownsRow_setCell_below own2 (a := ⟨p, 1, none⟩) (by simp) (.int .i64 ((n : Int) + 1))
  have hsz : p < ((w.setCell ⟨g, n / 8, none⟩ (.int .u8 (byteN N (n / 8) + (b : Int) * 2 ^ (n % 8)))).setCell ⟨p, 1, none⟩ (.int .i64 ((n : Int) + 1))).heap.size := by simpa [World.setCell] using hs
  refine ⟨⟨.slice (some ⟨g, 0, none⟩) (n / 8 + 1) cap, ?_, ?_⟩, ?_, ?_, bit_lt N n b lt hb, le, ?_⟩
  · rw [cell_ext _ _ _ _ _ hsz, World.cell?_setCell_other _ _ _ _ (by intro e; cases e), World.cell?_setCell_other _ _ _ _ (fun e => hne (congrArg Addr.block e))]
    exact h0
  · rw [show (n + 1 + 7) / 8 = n / 8 + 1 by omega]
    exact owns_below own3 (below_ext _ l m) (Nat.le_refl _)
  · rw [cell_ext _ _ _ _ _ hsz, World.cell?_setCell_same _ _ _ ((World.cell?_setCell_other _ _ _ _ (fun e => hne (congrArg Addr.block e))).trans h1)]
    simp
  · intro j
    rw [frozen_ext _ _ _ _ _ hsz, World.frozen?_setCell, World.frozen?_setCell]
    exact h.f j
  · simpa using Nat.lt_of_lt_of_le hsz (Nat.le_add_right _ _)

@[go_sem] theorem and_1 (a : W64) : bits .and .u64 (U a) 1 = U (a &&& 1#64) := by rw [← and_U, U_lit 1 (by decide)]; rfl
theorem U_bit (a : W64) (i : Nat) : U (a >>> i &&& 1#64) = ((a.toNat / 2 ^ i % 2 : Nat) : Int) := by
  unfold U
  rw [BitVec.toNat_and, BitVec.toNat_ushiftRight, Nat.shiftRight_eq_div_pow]
  show ((a.toNat / 2 ^ i &&& 1 : Nat) : Int) = _
  rw [Nat.and_one_is_mod]
theorem or_bit (x : Int) (r b : Nat) (hr : r < 8) (hb : b ≤ 1) (h0 : 0 ≤ x) (h1 : x < 2 ^ r) : bits .or .u8 x (IntKind.u8.wrap ((b : Int) * 2 ^ r)) = x + (b : Int) * 2 ^ r := by
  have h : ∀ r : Fin 8, ∀ b : Fin 2, ∀ x : Fin 128, ((x.val : Nat) : Int) < 2 ^ r.val → bits .or .u8 ((x.val : Nat) : Int) (IntKind.u8.wrap (((b.val : Nat) : Int) * 2 ^ r.val)) = ((x.val : Nat) : Int) + ((b.val : Nat) : Int) * 2 ^ r.val := by decide +kernel
  have hx : x.toNat < 128 := by
    have : (2 : Int) ^ r ≤ 2 ^ 7 := by
      have h := Nat.pow_le_pow_right (n := 2) (by omega) (show r ≤ 7 by omega)
      have e : (2 : Int) ^ r = ((2 ^ r : Nat) : Int) := by simp
      rw [e]; omega
    omega
  have := h ⟨r, hr⟩ ⟨b, by omega⟩ ⟨x.toNat, hx⟩
  simp only [] at this
  rw [show ((x.toNat : Nat) : Int) = x by omega] at this
  exact this h1

set_option maxRecDepth 4000 in
set_option maxHeartbeats 1000000 in
theorem put_any (p N n m : Nat) (v : W64) (w : World) (h : Wtr p N n w) (hm : m ≤ 64) (hv : v.toNat < 2 ^ m) (hn : n + m ≤ 524288) :
    Calls Try.prog 43 #[.pointer (some ⟨p, 0, none⟩), .int .u64 (U v), .int .i64 m] w fun e w' => e = .returned (.int .i64 0) ∧ Wtr p (N + v.toNat * 2 ^ n) (n + m) w' ∧ Below p w w' := by
  obtain ⟨i0, hi0, hz0, hz1, hz2⟩ := info_parts Try.info5
  have hc1 := h.c1
  have hsz := h.sz
  have HV : Hid (v.toNat % 2 ^ m = v.toNat) := Nat.mod_eq_of_lt hv
  have hsh : ¬ m = 64 → U (v >>> m) = 0 := by
    intro _
    unfold U
    rw [BitVec.toNat_ushiftRight, Nat.shiftRight_eq_div_pow, Nat.div_eq_of_lt hv]; rfl
  have HH := Lib.hid h
  clear h hv
  go_enter Try.func43, Try.ntmps43
  go_upto_region 1 with fail
  go_cut [23] (fun c wx => c = .bool false ∧ w = wx)
  case first =>
    have hd0 : decide ((m : Int) < 0) = false := by simp
    have hd1 : decide (64 < (m : Int)) = false := by simp; omega
    by_cases h64 : m < 64
    · have hd : decide ((m : Int) < 64) = true := by simp; omega
      have hs := hsh (by omega)
      clear hsh
      go_wp2_with fail
      go_meet
      exact ⟨rfl, rfl⟩
    · have hd : decide ((m : Int) < 64) = false := by simp; omega
      clear hsh
      go_wp2_with fail
      go_meet
      exact ⟨rfl, rfl⟩
  case rest =>
    obtain ⟨rfl, rfl⟩ := hcut
    clear hsh
    go_wp2_with fail
    go_loopw [7, 32] (fun _ i wr => ∃ k : Nat, k ≤ m ∧ i = .int .i64 k ∧ Wtr p (N + v.toNat % 2 ^ k * 2 ^ n) (n + k) wr ∧ Below p w wr) (fun _ i _ => m - (intOf i).toNat)
    case atStart => exact ⟨0, by omega, rfl, by simpa [Nat.mod_one] using HH.out, Below.refl _ _⟩
    case round =>
      obtain ⟨k, hk, rfl, hW, hB⟩ := hrel
      by_cases hlt : k < m
      · obtain ⟨n1, hn1⟩ : ∃ n1, n + k = n1 := ⟨_, rfl⟩
        obtain ⟨N1, hN1⟩ : ∃ N1, N + v.toNat % 2 ^ k * 2 ^ n = N1 := ⟨_, rfl⟩
        rw [hn1, hN1] at hW
        have hle : n1 + 1 ≤ 524288 := by omega
        have HW := Lib.hid hW
        have HN1 := Lib.hid hN1
        have HNK := Lib.hid hn1
        have HB := Lib.hid hB
        have hc1 := hW.c1
        have hsz := hW.sz
        have hfr := hW.f
        clear hW hN1 hn1 hB
        go_upto_if 40 with fail
        go_cut [] (fun wx => ∃ g cap : Nat, Rdy p N1 n1 g cap wx ∧ Below p w wx)
        case first =>
          by_cases h8 : n1 % 8 = 0
          · have hd : ((n1 : Int) % 8 == 0) = true := by simp; omega
            obtain ⟨v0, hc0, hown⟩ := HW.out.ex
            rw [show (n1 + 7) / 8 = n1 / 8 by omega] at hown
            have HOWN := Lib.hid hown
            clear hown
            go_wp2_with (at_builtin; refine wpList_append_own _ rfl _ _ 44 rfl (p + 1) 5 i0 (.int .u8 0) 1 1 Try.underlying44 hi0 hz0 hz1 hz2 rfl (by decide) _ (n1 / 8) _ rfl (HOWN.out.alloc _) ⟨wr.heap.size, 0, none⟩ 1 1 [.int .u8 0] rfl rfl (new_one _ _ _) (one_ok rfl) (by unfold maxLen; omega) (by omega) (by simp; omega) ?_)
            intro v' w1 hown' hg _
            rw [show u8s (bytesN N1 (n1 / 8)) ++ [Value.int .u8 0] = u8s (bytesN N1 (n1 / 8 + 1)) by unfold u8s; rw [bytesN_succ, List.map_append, byteN_zero N1 n1 _ HW.out.lt (by omega)]; rfl] at hown'
            obtain ⟨g, cap, rfl, hpg, hgl, _⟩ := owns_open hown' (by omega)
            have hrow : ∀ q, v0.ownBlock = some q → p + 1 ≤ q := fun q hq => (HOWN.out.lt q hq).1
            have hc0' : w1.cell? ⟨p, 0, none⟩ = some v0 := hg.cell (a := ⟨p, 0, none⟩) (by rw [World.cell?_alloc_lt _ _ _ hsz]; exact hc0) (fun e => by have := hrow _ e.symm; simp at this; omega)
            have hc1' : w1.cell? ⟨p, 1, none⟩ = some (.int .i64 n1) := hg.cell (a := ⟨p, 1, none⟩) (by rw [World.cell?_alloc_lt _ _ _ hsz]; exact hc1) (fun e => by have := hrow _ e.symm; simp at this; omega)
            have hb1 : Below (p + 1) wr w1 := ((Below.refl _ _).alloc (by omega) _).grown hg (by simp; omega) hrow
            have hf1 : ∀ j, w1.frozen? ⟨p, j, none⟩ = false := fun j => by rw [hb1.frozen (p := ⟨p, j, none⟩) (by simp)]; exact hfr j
            have HB1 := Lib.hid hb1
            clear hg hrow hb1
            go_wp2_with fail
            go_meet
            refine ⟨g, cap, ⟨?_, ownsRow_setCell_below hown' (by simp) _, ?_, ?_, ?_⟩, ?_⟩
            · rw [World.cell?_setCell_same _ _ _ hc0']
            · rw [World.cell?_setCell_other _ _ _ _ (by intro e; cases e)]; exact hc1'
            · intro j; rw [World.frozen?_setCell]; exact hf1 j
            · have := HB1.out.size; simp [World.setCell]; omega
            · exact (HB.out.trans (HB1.out.mono (by omega))).setCell (p := ⟨p, 0, none⟩) (Nat.le_refl _) _
          · have hd : ((n1 : Int) % 8 == 0) = false := by simp; omega
            go_wp2_with fail
            go_meet
            obtain ⟨g, cap, hr⟩ := HW.out.rdy h8
            exact ⟨g, cap, hr, HB.out⟩
        case rest =>
          obtain ⟨g, cap, hR, hB⟩ := hcut
          have hbd := byteN_bd N1 (n1 / 8)
          have hh := byteN_here N1 n1 (v.toNat / 2 ^ k % 2) HW.out.lt (by omega)
          have hob := or_bit (byteN N1 (n1 / 8)) (n1 % 8) (v.toNat / 2 ^ k % 2) (by omega) (by omega) hbd.1 hh.2
          have hub := U_bit v k
          have hrc0 := hR.c0
          have hrc1 := hR.c1
          have hrf := hR.f
          have hrs := hR.sz
          obtain ⟨hpg, hgl, _, _, hgc, hgf⟩ := owns_at hR.own
          have hgck : wc.cell? ⟨g, n1 / 8, none⟩ = some (.int .u8 (byteN N1 (n1 / 8))) := by
            rw [hgc _ (by omega)]
            unfold u8s
            rw [List.getElem?_map, bytesN_succ, List.getElem?_append_right (by rw [bytesN_length]; omega), bytesN_length, Nat.sub_self]
            rfl
          have HH1 := Lib.hid hh
          clear hh hgc
          go_upto_region 10 with fail
          refine region_tail 24 (by kernel_rfl) (by kernel_rfl) ?_
          simp only [List.take_succ_cons, List.take_zero, List.drop_succ_cons, List.drop_zero]
          repeat (go_big_quiet_step ((fail)))
          refine wpQuiet_nil ?_
          intro _ hw'
          obtain ⟨kk, mm, rfl⟩ := hw'
          go_wp2
          go_roundw
          case rel =>
            have hst := hR.step (v.toNat / 2 ^ k % 2) (by omega) HW.out.lt hle kk mm
            refine ⟨k + 1, by omega, by go_num, ?_, ?_⟩
            · rw [put_step, HN1.out, show n + (k + 1) = n1 + 1 by have := HNK.out; omega, HNK.out]
              have hq : bits .or .u8 (byteN N1 (n1 / 8)) ((v.toNat : Int) / 2 ^ k % 2 * 2 ^ (n1 % 8) % 256) = byteN N1 (n1 / 8) + ((v.toNat / 2 ^ k % 2 : Nat) : Int) * 2 ^ (n1 % 8) := by
                rw [← hob, IntKind.wrap_u8]; simp
              rw [hq]
              exact hst
            · exact Below.ext' ((hB.setCell (p := ⟨g, n1 / 8, none⟩) (by simp; omega) _).setCell (p := ⟨p, 1, none⟩) (Nat.le_refl _) _) (by simp [World.setCell]; omega) _ _
          case measure => simp [intOf]; omega
      · obtain rfl : k = m := by omega
        go_wp2_with fail
        go_ret
        exact ⟨rfl, by rw [← HV.out]; exact hW, hB⟩

theorem wlen_any (p N n : Nat) (w : World) (h : Wtr p N n w) :
    Calls Try.prog 36 #[.pointer (some ⟨p, 0, none⟩)] w fun e w' => e = .returned (.int .i64 n) ∧ w = w' := by
  have hc1 := h.c1
  clear h
  go_enter Try.func36, Try.ntmps36
  go_wp2
  go_ret
  exact ⟨rfl, rfl⟩

set_option maxRecDepth 4000 in
theorem wbytes_any (p N n : Nat) (w : World) (h : Wtr p N n w) :
    Calls Try.prog 38 #[.pointer (some ⟨p, 0, none⟩)] w (Fresh 5 ((n + 7) / 8) (u8s (bytesN N ((n + 7) / 8))) w) := by
  obtain ⟨i0, hi0, hz0, hz1, hz2⟩ := info_parts Try.info5
  obtain ⟨v, hc0, hown⟩ := h.ex
  have hle := h.le
  obtain ⟨c, hc⟩ : ∃ c, c = (n + 7) / 8 := ⟨_, rfl⟩
  have hcl : c ≤ 65536 := by omega
  rw [← hc] at hown ⊢
  clear hc h
  obtain ⟨xs, hxs⟩ : ∃ xs, u8s (bytesN N c) = xs := ⟨_, rfl⟩
  have hx1 : Hid (∀ u ∈ xs, u.oneCell' = true) := by rw [← hxs]; exact ints_oneCell _ _
  have hxl : Hid (xs.length = c) := by rw [← hxs]; unfold u8s Hid; rw [List.length_map, bytesN_length]
  rw [hxs] at hown ⊢
  clear hxs
  obtain ⟨ao, cap, rfl, hn0, hcc, hln⟩ := owns_source hown
  have HCC := Lib.hid hcc
  have HN0 := Lib.hid hn0
  clear hown hcc hn0
  go_enter Try.func38, Try.ntmps38
  go_wp2_with (at_builtin; refine wpList_append_copy _ rfl _ _ 44 rfl 5 i0 (.int .u8 0) 1 1 Try.underlying44 hi0 hz0 hz1 hz2 rfl (by decide) ao c cap xs rfl rfl (by rw [hxl.out]; omega) HN0.out HCC.out hx1.out (by unfold maxLen; omega) (by omega) ?_)
  intro v' w1 hown' hg
  go_wp2
  go_ret
  exact ⟨_, rfl, hown', (Below.refl _ _).grown hg (Nat.le_refl _) (fun k hk => by cases hk)⟩
end Go.Proofs.Ythfpbplpfjmmgaa
