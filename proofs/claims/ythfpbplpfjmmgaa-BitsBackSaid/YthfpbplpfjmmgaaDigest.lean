/- Contracts of package sum, and of tourmake.Bytes. -/
import Derived.Test.YthfpbplpfjmmgaaQuant
import Derived.Test.YthfpbplpfjmmgaaClone
import Derived.Test.YthfpbplpfjmmgaaSums
import Derived.Test.YthfpbplpfjmmgaaTail
import Derived.Test.YthfpbplpfjmmgaaApart
import Derived.Test.YthfpbplpfjmmgaaBounds
namespace Go.Proofs.Ythfpbplpfjmmgaa
open Go.RowKit

@[go_sem ↓] theorem conv_byte (n : Int) (w : World) : Sem.run Try.prog (Go.convert 5 23 (Value.int .u8 n)) w = Result.ok (Value.int .u64 (U (Wd n))) w := by
  rw [run_convert_int w 5 23 .u8 n (by kernel_rfl) (by kernel_rfl)]
  show Result.ok (Value.int .u64 (IntKind.u64.wrap n)) w = _
  rw [wrap_ofInt, Wd_eq]
theorem shl_U (a : W64) (m : Nat) : IntKind.u64.wrap (U a * 2 ^ m) = U (a <<< m) := by
  rw [IntKind.wrap_u64]
  unfold U
  rw [BitVec.toNat_shiftLeft, Nat.shiftLeft_eq]
  have e : ((a.toNat : Int) * 2 ^ m) = ((a.toNat * 2 ^ m : Nat) : Int) := by simp
  rw [e]
  omega
@[go_sem] theorem add_first (a : W64) : IntKind.u64.wrap (U a + 5840696475078001361) = U (a + 5840696475078001361#64) := addC a 5840696475078001361 (by decide)
theorem U_firstW : U firstW = 5840696475078001361 := by rw [firstW_eq]; exact U_lit 5840696475078001361 (by decide)
theorem U_factorW : U factorW = 11170449401992604703 := by rw [factorW_eq]; exact U_lit 11170449401992604703 (by decide)

theorem join_any (a b : W64) (w : World) :
    Calls Try.prog 25 #[.int .u64 (U a), .int .u64 (U b)] w fun e w' => e = .returned (.int .u64 (U (join a b))) ∧ w = w' := by
  go_enter Try.func25, Try.ntmps25
  go_wp2_with (go_at_call 19; (with_reducible refine (mix_any _ _).mono ?_); rintro e w' ⟨rfl, rfl⟩)
  go_ret
  rw [join_eq]
  exact ⟨rfl, rfl⟩
theorem join_first (b : W64) (w : World) :
    Calls Try.prog 25 #[.int .u64 5840696475078001361, .int .u64 (U b)] w fun e w' => e = .returned (.int .u64 (U (join firstW b))) ∧ w = w' := by
  have := join_any firstW b w
  rwa [U_firstW] at this
theorem join_factor (b : W64) (w : World) :
    Calls Try.prog 25 #[.int .u64 11170449401992604703, .int .u64 (U b)] w fun e w' => e = .returned (.int .u64 (U (join factorW b))) ∧ w = w' := by
  have := join_any factorW b w
  rwa [U_factorW] at this

theorem n64_any (n : Int) (w : World) : Calls Try.prog 26 #[.int .i64 n] w fun e w' => e = .returned (.int .u64 (U (Wd n))) ∧ w = w' := by
  go_enter Try.func26, Try.ntmps26
  go_wp2
  go_ret
  exact ⟨rfl, rfl⟩

theorem take_snoc_W (ws : List W64) (k : Nat) (h : k < ws.length) : ws.take (k + 1) = ws.take k ++ [ws[k]?.getD 0#64] := by
  rw [List.take_succ_eq_append_getElem h, List.getElem?_eq_getElem h]; rfl

theorem words_any (b cap : Nat) (ws : List W64) (n : Nat) (w : World) (hl : ws.length = n) (hmax : n ≤ 9223372036854775807)
    (hc : ∀ k, k < n → w.cell? ⟨b, k, none⟩ = some (.int .u64 (U (ws[k]?.getD 0#64)))) :
    Calls Try.prog 20 #[.slice (some ⟨b, 0, none⟩) n cap] w fun e w' => e = .returned (.int .u64 (U (wsum ws))) ∧ w = w' := by
  have HL := Lib.hid hl
  clear hl
  obtain ⟨d0, hd0⟩ : ∃ d0, d0 = join firstW (Wd n) := ⟨_, rfl⟩
  go_enter Try.func20, Try.ntmps20
  go_wp2_with (go_at_call 25; (with_reducible refine (join_first _ _).mono ?_); rintro e w' ⟨rfl, rfl⟩)
  rw [← hd0]
  have HD := Lib.hid hd0
  clear hd0
  go_loopw [3, 5, 12] (fun s _ i wr => ∃ k : Nat, k ≤ n ∧ i = .int .i64 k ∧ s = .int .u64 (U (wacc d0 (ws.take k))) ∧ wr = w) (fun _ _ i _ => n - (intOf i).toNat)
  case atStart => exact ⟨0, Nat.zero_le _, rfl, rfl, rfl⟩
  case round =>
    obtain ⟨k, hk, rfl, rfl, rfl⟩ := hrel
    by_cases hlt : k < n
    · have hck := hc k hlt
      have hsn : Hid (wacc d0 (ws.take (k + 1)) = join (wacc d0 (ws.take k)) (ws[k]?.getD 0#64)) := by
        rw [take_snoc_W ws k (by rw [HL.out]; exact hlt)]; exact wacc_snoc _ _ _
      clear hc
      go_wp2_with (go_at_call 25; (with_reducible refine (join_any _ _ _).mono ?_); rintro e w' ⟨rfl, rfl⟩)
      go_roundw
      case rel => exact ⟨k + 1, by omega, by go_num, by rw [hsn.out], by first | rfl | trivial⟩
      case measure => simp [intOf]; omega
    · have hke : k = n := by omega
      subst hke
      clear hc
      go_wp2
      go_ret
      have e1 : ws.take k = ws := List.take_of_length_le (by rw [HL.out]; exact Nat.le_refl _)
      exact ⟨by rw [e1]; unfold wsum; rw [HL.out, ← HD.out]; rfl, rfl⟩

theorem words_nil (w : World) :
    Calls Try.prog 20 #[.slice none 0 0] w fun e w' => e = .returned (.int .u64 (U (wsum []))) ∧ w = w' := by
  go_enter Try.func20, Try.ntmps20
  go_wp2_with (go_at_call 25; (with_reducible refine (join_first _ _).mono ?_); rintro e w' ⟨rfl, rfl⟩)
  refine wp_loop_rounds 1 ?_
  rw [rounds_succ]
  go_wp2
  go_ret
  exact ⟨rfl, rfl⟩

theorem part_succ (zs : List Int) (n k : Nat) (hz : zs.length = n) (hk : k < n) :
    ((zs.take k).map (fun z => U (Wd z)) ++ List.replicate (n - k) 0).set k (U (Wd (zs[k]?.getD 0))) = (zs.take (k + 1)).map (fun z => U (Wd z)) ++ List.replicate (n - (k + 1)) 0 := by
  rw [take_snoc' zs k (by omega), List.map_append, List.map_singleton]
  have hl : ((zs.take k).map (fun z => U (Wd z))).length = k := by simp; omega
  rw [List.set_append_right _ _ (by omega), hl, Nat.sub_self, show n - k = (n - (k + 1)) + 1 by omega, List.replicate_succ, List.set_cons_zero]
  simp

set_option maxRecDepth 4000 in
theorem ints_any (a : Option Addr) (zs : List Int) (n cap : Nat) (w : World) (hl : zs.length = n) (hr : n * 8 ≤ 140737488355328) (hlt0 : ∀ x, a = some x → x.block < w.heap.size) (hn0 : a = none → n = 0)
    (hc : ∀ x, a = some x → ∀ k, k < n → w.cell? (x.add k) = some (.int .i64 (zs[k]?.getD 0))) :
    Calls Try.prog 24 #[.slice a n cap] w fun e w' => e = .returned (.int .u64 (U (wsum (zs.map Wd)))) ∧ Below w.heap.size w w' := by
  obtain ⟨i0, hi0, hz0, hz1, hz2⟩ := info_parts Try.info23
  have HL := Lib.hid hl
  have HC := Lib.hid hc
  have HLT := Lib.hid hlt0
  have HN0 := Lib.hid hn0
  clear hl hc hlt0 hn0
  go_enter Try.func24, Try.ntmps24
  go_wp2_with (refine wpList_make_full _ rfl _ _ 84 rfl w.heap.size 23 i0 (.int .u64 0) 1 Try.underlying84 hi0 hz0 hz1 .i64 .i64 _ _ n rfl rfl rfl rfl (by rw [hz2]; omega) (by unfold maxLen; omega) (Nat.le_refl _) ?_)
  intro W1 own1 hg1
  have hb1 : Below w.heap.size w W1 := (Below.refl _ _).grown hg1 (Nat.le_refl _) (fun k hk => by cases hk)
  obtain ⟨hlt1, hc1, hf1⟩ := made_ints own1
  clear own1 hg1
  have HC1 := Lib.hid hc1
  have HB1 := Lib.hid hb1
  clear hc1 hb1
  go_wp2_with fail
  go_loopw [4, 5, 11] (fun _ _ i wr => ∃ k : Nat, k ≤ n ∧ i = .int .i64 k ∧ (∀ j, j < n → wr.cell? ⟨w.heap.size, j, none⟩ = some (.int .u64 (((zs.take k).map (fun z => U (Wd z)) ++ List.replicate (n - k) 0)[j]?.getD 0))) ∧ (∀ j, wr.frozen? ⟨w.heap.size, j, none⟩ = false) ∧ w.heap.size < wr.heap.size ∧ Below w.heap.size w wr) (fun _ _ i _ => n - (intOf i).toNat)
  case atStart => exact ⟨0, Nat.zero_le _, rfl, by simpa using HC1.out, hf1, hlt1, HB1.out⟩
  case round =>
    obtain ⟨k, hk, rfl, hcr, hfr, hltr, hbr⟩ := hrel
    by_cases hlt : k < n
    · obtain ⟨x, rfl⟩ : ∃ x, a = some x := by
        cases a with
        | none => have := HN0.out rfl; omega
        | some x => exact ⟨x, rfl⟩
      have hck : wr.cell? (x.add k) = some (.int .i64 (zs[k]?.getD 0)) := by
        rw [hbr.cell (p := x.add k) (by rw [show (x.add k).block = x.block by unfold Addr.add; split <;> rfl]; exact HLT.out x rfl)]
        exact HC.out x rfl k hlt
      have hdk := hcr k hlt
      have HCR := Lib.hid hcr
      clear hcr
      go_wp2
      go_roundw
      case rel =>
        refine ⟨k + 1, by omega, by go_num, ?_, (fun j => by rw [World.frozen?_setCell]; exact hfr j), by simpa [World.setCell] using hltr, hbr.setCell (p := ⟨w.heap.size, k, none⟩) (Nat.le_refl _) _⟩
        rw [← part_succ zs n k HL.out hlt]
        exact set_ints HCR.out (by simp; have := HL.out; omega) k _
      case measure => simp [intOf]; omega
    · obtain rfl : k = n := by omega
      have hcw : ∀ j, j < k → wr.cell? ⟨w.heap.size, j, none⟩ = some (.int .u64 (U ((zs.map Wd)[j]?.getD 0#64))) := by
        intro j hj
        rw [hcr j hj]
        have hl := HL.out
        rw [List.take_of_length_le (by omega), Nat.sub_self, List.replicate_zero, List.append_nil, List.getElem?_map, List.getElem?_map, List.getElem?_eq_getElem (by omega)]
        rfl
      clear hcr
      have HW := Lib.hid hcw
      clear hcw
      go_wp2_with (go_at_call 20; (with_reducible refine (words_any _ _ (zs.map Wd) _ _ (by rw [List.length_map]; exact HL.out) (by omega) HW.out).mono ?_); rintro e w' ⟨rfl, rfl⟩)
      go_ret
      exact ⟨rfl, hbr⟩

/-- tourmake.Bytes: the numbers' lowest bytes. -/
def low8 (z : Int) : Int := IntKind.u8.wrap z
theorem low8_bd (z : Int) : 0 ≤ low8 z ∧ low8 z < 256 := by
  unfold low8; rw [IntKind.wrap_u8]; omega
@[go_sem ↓] theorem conv_low8 (n : Int) (w : World) : Sem.run Try.prog (Go.convert 3 5 (Value.int .i64 n)) w = Result.ok (Value.int .u8 (low8 n)) w := by
  rw [run_convert_int w 3 5 .i64 n (by kernel_rfl) (by kernel_rfl)]
  rfl

theorem mbytes_any (b cap : Nat) (zs : List Int) (n : Nat) (w : World) (hl : zs.length = n) (hr : n ≤ 1000) (hltb : b < w.heap.size)
    (hc : ∀ k, k < n → w.cell? ⟨b, k, none⟩ = some (.int .i64 (zs[k]?.getD 0))) :
    Calls Try.prog 22 #[.slice (some ⟨b, 0, none⟩) n cap] w (Fresh 5 n ((zs.map low8).map (Value.int .u8)) w) := by
  obtain ⟨i0, hi0, hz0, hz1, hz2⟩ := info_parts Try.info5
  have HL := Lib.hid hl
  clear hl
  go_enter Try.func22, Try.ntmps22
  go_wp2
  go_loopw [3, 5, 8] (fun v _ i wr => ∃ k : Nat, k ≤ n ∧ i = .int .i64 k ∧ wr.ownsRow w.heap.size 5 1 v k (((zs.take k).map low8).map (Value.int .u8)) ∧ Below w.heap.size w wr) (fun _ _ i _ => n - (intOf i).toNat)
  case atStart => exact ⟨0, Nat.zero_le _, rfl, World.ownsRow_nil _ _ _ _, Below.refl _ _⟩
  case round =>
    obtain ⟨k, hk, rfl, hown, hbr⟩ := hrel
    by_cases hlt : k < n
    · have hck : wr.cell? ⟨b, k, none⟩ = some (.int .i64 (zs[k]?.getD 0)) := (hbr.cell (p := ⟨b, k, none⟩) hltb).trans (hc k hlt)
      obtain ⟨z, hz⟩ : ∃ z, zs[k]?.getD 0 = z := ⟨_, rfl⟩
      rw [hz] at hck
      have HZ := Lib.hid hz
      clear hc hz
      have hsz := hbr.size
      go_wp2_with (at_builtin; refine wpList_append_own _ rfl _ _ 44 rfl w.heap.size 5 i0 (.int .u8 0) 1 1 Try.underlying44 hi0 hz0 hz1 hz2 rfl (by decide) _ k _ rfl (hown.alloc _) ⟨wr.heap.size, 0, none⟩ 1 1 [.int .u8 (low8 z)] rfl rfl ?c1 ?c2 (by unfold maxLen; omega) (by omega) (by simp; omega) ?_)
      case c1 =>
        intro j u hj
        match j, hj with
        | 0, hj => simp at hj; subst hj; simp [Addr.add]
      case c2 => intro u hu; simp at hu; subst hu; rfl
      intro v' w1 hown' hg _
      have hb' : Below w.heap.size w w1 := (hbr.alloc hsz _).grown hg (by simp; omega) (fun q hq => (hown.lt q hq).1)
      have hown2 : w1.ownsRow w.heap.size 5 1 v' (k + 1) (((zs.take (k + 1)).map low8).map (Value.int .u8)) := by
        rw [take_snoc' zs k (by rw [HL.out]; exact hlt), HZ.out, List.map_append, List.map_append]; simpa using hown'
      clear hown' hown
      go_wp2
      go_roundw
      case rel => exact ⟨k + 1, by omega, by go_num, hown2, hb'⟩
      case measure => simp [intOf]; omega
    · obtain rfl : k = n := by omega
      go_wp2
      go_ret
      exact ⟨_, rfl, by rw [List.take_of_length_le (by rw [HL.out]; exact Nat.le_refl _)] at hown; exact hown, hbr⟩

/-! sum.Bytes. -/
theorem lead (r : Nat) : ∃ q : Nat, mn (r : Int) 8 = (q : Int) ∧ q ≤ r ∧ q ≤ 8 ∧ (1 ≤ r → 1 ≤ q) ∧ (q < 8 → q = r) := by
  unfold mn
  by_cases h : r ≤ 8
  · exact ⟨r, by rw [if_neg (by omega)], by omega, by omega, by omega, by omega⟩
  · exact ⟨8, by rw [if_pos (by omega)]; rfl, by omega, by omega, by omega, by omega⟩

/-- The length in a slot: for a loop's measure. -/
def lenOf : Value → Nat | .slice _ r _ => r | _ => 0
theorem pack_step (bs : List Int) (j k : Nat) (h : j + k < bs.length) : pack ((bs.drop j).take (k + 1)) = pack ((bs.drop j).take k) ||| (Wd (bs[j + k]?.getD 0) <<< (8 * k)) := by
  have hlen : k < (bs.drop j).length := by simp; omega
  rw [take_snoc' _ k hlen, pack_snoc, List.length_take, Nat.min_eq_left (Nat.le_of_lt hlen), List.getElem?_drop]
theorem bacc_next (bs : List Int) (j q r : Nat) (dd : W64) (hl : j + r = bs.length) (hr : 1 ≤ r) (hqr : q ≤ r) (hq8 : q ≤ 8) (h : q < 8 → q = r) :
    bacc dd (bs.drop j) = bacc (join dd (pack ((bs.drop j).take q))) (bs.drop (j + q)) := by
  have hne : bs.drop j ≠ [] := by intro e; have := congrArg List.length e; simp at this; omega
  rw [bacc_step _ _ hne]
  by_cases h8 : q = 8
  · subst h8; rw [List.drop_drop]
  · have hq := h (by omega)
    have e1 : (bs.drop j).take 8 = (bs.drop j).take q := by
      rw [List.take_of_length_le (by simp; omega), List.take_of_length_le (by simp; omega)]
    have e2 : (bs.drop j).drop 8 = bs.drop (j + q) := by
      rw [List.drop_drop, List.drop_eq_nil_of_le (by omega), List.drop_eq_nil_of_le (by omega)]
    rw [e1, e2]

attribute [local go_sem ↓] run_mn
set_option maxRecDepth 4000 in
theorem bytes_any (b cap : Nat) (bs : List Int) (n : Nat) (w : World) (hl : bs.length = n) (hcap : n ≤ cap) (_hr : n ≤ 1000) (hltb : b < w.heap.size)
    (hc : ∀ k, k < n → w.cell? ⟨b, k, none⟩ = some (.int .u8 (bs[k]?.getD 0))) :
    Calls Try.prog 21 #[.slice (some ⟨b, 0, none⟩) n cap] w fun e w' => e = .returned (.int .u64 (U (bsum bs))) ∧ Below w.heap.size w w' := by
  have HL := Lib.hid hl
  have HC := Lib.hid hc
  clear hl hc
  obtain ⟨d0, hd0⟩ : ∃ d0, d0 = join factorW (Wd n) := ⟨_, rfl⟩
  go_enter Try.func21, Try.ntmps21
  go_wp2_with (go_at_call 25; (with_reducible refine (join_factor _ _).mono ?_); rintro e w' ⟨rfl, rfl⟩)
  rw [← hd0]
  have HD := Lib.hid hd0
  clear hd0
  go_loopw [0, 3, 4, 5, 6, 20] (fun s d _ _ _ _ wr => ∃ (j r c : Nat) (ad : Option Addr) (dd : W64) (l : List Obj) (m : Nat), s = .slice ad r c ∧ r ≤ c ∧ Hid (j + r = n) ∧ (1 ≤ r → ad = some ⟨b, j, none⟩) ∧ d = .int .u64 (U dd) ∧ Hid (bacc dd (bs.drop j) = bacc d0 bs) ∧ wr = ext w l m) (fun s _ _ _ _ _ _ => lenOf s)
  case atStart => exact ⟨0, n, cap, _, d0, [], _, rfl, hcap, by unfold Hid; omega, fun _ => rfl, rfl, rfl, (ext_nil _).symm⟩
  case round =>
    obtain ⟨j, r, c, ad, dd, l, m, rfl, hrc, hjr, had, rfl, hacc, rfl⟩ := hrel
    by_cases hr0 : 1 ≤ r
    · obtain rfl := had hr0
      obtain ⟨q, hq, hqr, hq8, hq1, hq2⟩ := lead r
      have hq1 := hq1 hr0
      clear had
      have HQ2 := Lib.hid hq2
      clear hq2
      have hdec : decide (0 < r) = true := decide_eq_true hr0
      go_wp2
      obtain ⟨W, hW⟩ : ∃ W, ext w l m = W := ⟨_, rfl⟩
      rw [hW]
      have hcW : ∀ i, i < q → W.cell? ⟨b, j + i, none⟩ = some (.int .u8 (bs[j + i]?.getD 0)) := by
        intro i hi
        rw [← hW, cell_ext _ _ _ _ _ hltb]
        exact HC.out (j + i) (by have := hjr.out; omega)
      have HW := Lib.hid hW
      clear hW
      go_loopw [4, 5, 6, 20] (fun x _ _ i wr => ∃ k : Nat, k ≤ q ∧ i = .int .i64 k ∧ x = .int .u64 (U (pack ((bs.drop j).take k))) ∧ wr = W) (fun _ _ _ i _ => q - (intOf i).toNat)
      case atStart => exact ⟨0, by omega, rfl, rfl, rfl⟩
      case round =>
        obtain ⟨k, hk, rfl, rfl, rfl⟩ := hrel
        by_cases hlt : k < q
        · have hck := hcW k hlt
          have hps : Hid (pack ((bs.drop j).take (k + 1)) = pack ((bs.drop j).take k) ||| (Wd (bs[j + k]?.getD 0) <<< (8 * k))) := pack_step bs j k (by have := hjr.out; have := HL.out; omega)
          clear hcW
          go_wp2
          go_roundw
          case rel => exact ⟨k + 1, by omega, by go_num, by rw [hps.out, shl_U, or_U], by first | rfl | trivial⟩
          case measure => simp [intOf]; omega
        · obtain rfl : k = q := by omega
          have hnx : Hid (bacc (join dd (pack ((bs.drop j).take k))) (bs.drop (j + k)) = bacc d0 bs) := by
            rw [← bacc_next bs j k r dd (by have := hjr.out; have := HL.out; omega) hr0 hqr hq8 HQ2.out]; exact hacc.out
          clear hcW
          by_cases hck : c = k
          · subst hck
            obtain rfl : r = c := by omega
            go_wp2
            refine region_grow (by kernel_rfl) (by kernel_rfl) ?_
            repeat (go_big_quiet_step ((intro _; go_at_call 25; exact grow_same (join_any _ _ _))))
            refine wpQuiet_nil ?_
            intro _ hw'
            obtain ⟨l2, m2, rfl⟩ := hw'
            go_wp2
            go_roundw
            case rel => exact ⟨j + r, 0, 0, some ⟨b, j, none⟩, _, l ++ l2, m2, by simp, by omega, by have := hjr.out; unfold Hid; omega, fun h => by omega, rfl, hnx, by rw [← HW.out, ext_ext]⟩
            case measure => simp [lenOf]; omega
          · go_wp2
            refine region_grow (by kernel_rfl) (by kernel_rfl) ?_
            repeat (go_big_quiet_step ((intro _; go_at_call 25; exact grow_same (join_any _ _ _))))
            refine wpQuiet_nil ?_
            intro _ hw'
            obtain ⟨l2, m2, rfl⟩ := hw'
            go_wp2
            go_roundw
            case rel => exact ⟨j + k, r - k, c - k, some ⟨b, j + k, none⟩, _, l ++ l2, m2, by simp, by omega, by have := hjr.out; unfold Hid; omega, fun _ => rfl, rfl, hnx, by rw [← HW.out, ext_ext]⟩
            case measure => simp [lenOf]; omega
    · obtain rfl : r = 0 := by omega
      have hdd : Hid (dd = bacc d0 bs) := by
        have := hacc.out
        have hj := hjr.out
        have hL := HL.out
        rw [List.drop_eq_nil_of_le (by omega), bacc_nil] at this
        exact this
      go_wp2
      go_ret
      exact ⟨by rw [hdd.out]; unfold bsum; rw [HL.out, ← HD.out]; rfl, below_ext _ _ _⟩

theorem bytes_nil (w : World) :
    Calls Try.prog 21 #[.slice none 0 0] w fun e w' => e = .returned (.int .u64 (U (bsum []))) ∧ w = w' := by
  go_enter Try.func21, Try.ntmps21
  go_wp2_with (go_at_call 25; (with_reducible refine (join_factor _ _).mono ?_); rintro e w' ⟨rfl, rfl⟩)
  refine wp_loop_rounds 1 ?_
  rw [rounds_succ]
  go_wp2
  go_ret
  exact ⟨by unfold bsum; rw [bacc_nil]; rfl, rfl⟩
end Go.Proofs.Ythfpbplpfjmmgaa
