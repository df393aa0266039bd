/- sets.All and its closure: the elements of a set, in order. -/
import Derived.RangeFuncNested
import Derived.RangeFuncBound
import Derived.RangeFuncCalls
import Derived.RangeFuncLeaves
import Derived.Shelf.Abstract
import Derived.Shelf.RegionOpen
import Derived.OwnWalkIn
import Derived.TacticsInMore
import Derived.LoopNIn
import Derived.LoopIn
import Derived.Test.YtfeibjokifidmaaSetOf
namespace Go.Proofs.Ytfeibjokifidmaa.Z
open Go.RowKit Go.Shelf Go.Proofs.Ytfeibjokifidmaa.M

attribute [local go_sem] Oper.semAt_some

/-- The elements of a set. -/
abbrev El (s : Sets) := { x : Nat // x < 4096 ∧ has s x = true }
def vals {s : Sets} (l : List (El s)) : List Nat := l.map (·.1)
theorem vals_snoc {s : Sets} (l : List (El s)) (x : El s) : vals (l ++ [x]) = vals l ++ [x.1] := by simp [vals]
theorem vals_length {s : Sets} (l : List (El s)) : (vals l).length = l.length := by simp [vals]

/-- What the iterator has captured: a box that holds the set; block g has its words. -/
def AllAt (w : World) (B g : Nat) (s : Sets) : Prop :=
  ∃ (l : List W64) (ad : Option Addr) (c : Nat), w.cell? ⟨B, 0, none⟩ = some (.slice ad l.length c) ∧ Canon l ∧ Z.wd l = s ∧ ∀ j, j < l.length → ad = some ⟨g, 0, none⟩ ∧ w.cell? ⟨g, j, none⟩ = some (.int .u64 (U (s j)))
/-- What a round keeps. -/
def KeepG (g : Nat) (W W' : World) : Prop := ∀ j v, W.cell? ⟨g, j, none⟩ = some v → W'.cell? ⟨g, j, none⟩ = some v
theorem keepG_t {g : Nat} {A B C : World} (h : KeepG g A B) (k : KeepG g B C) : KeepG g A C := fun j v hv => k j v (h j v hv)
theorem keepG_refl (g : Nat) (W : World) : KeepG g W W := fun _ _ h => h
theorem keepG_b {g : Nat} {w : World} (hg : g < w.heap.size) (W : World) (l : Nat) (o o' : Obj) (hl : w.heap.size ≤ l) (_ : W.heap[l]? = some o) (_ : o.isCells = false) (_ : o.isWalk = false) : KeepG g W (W.putObj l o') := fun _ _ hv =>
  (World.cell?_of_block (World.putObj_heap_other (show g ≠ l by omega))).trans hv
theorem keepG_below {g C : Nat} {W W' : World} (h : Below C W W') (hg : g < C) : KeepG g W W' := fun _ _ hv => (h.cell hg).trans hv
theorem keepG_set {g b o : Nat} {W : World} {v : Value} (h : g ≠ b) : KeepG g W (W.setCell ⟨b, o, none⟩ v) := fun _ _ hv =>
  (World.cell?_setCell_other _ _ _ _ (fun e => h (congrArg Addr.block e).symm)).trans hv

theorem prefix_upto {s : Sets} (n : Nat) (hn : n ≤ 4096) : upto s n <+: elems s := by
  unfold elems
  obtain ⟨m, hm⟩ : ∃ m, 4096 = n + m := ⟨4096 - n, by omega⟩
  rw [hm]
  clear hm hn
  induction m with
  | zero => exact List.prefix_refl _
  | succ m ih => rw [show n + (m + 1) = (n + m) + 1 by omega, upto_succ]; exact ih.trans (List.prefix_append _ _)
theorem has_at (s : Sets) (k i : Nat) (hi : i < 64) : has s (64 * k + i) = (s k).getLsbD i := by
  unfold has
  rw [show (64 * k + i) / 64 = k by omega, show (64 * k + i) % 64 = i by omega]

set_option maxRecDepth 100000 in
set_option maxHeartbeats 4000000 in
theorem all_in (F : Fence) (n : Nat) (hF : F.fn 58) (hro : F.round = none) (hn : 1 ≤ n) (l B g0 : Nat) (s : Sets) (J Jx : List (El s) → World → Prop)
    (hY : ∀ pre x W, J pre W → pre.length < 4096 → YieldAt F (n - 1) Try.prog l #[.int .i64 ((x.1 : Nat) : Int)] W fun e W' =>
      (e = .returned (.bool true) ∧ J (pre ++ [x]) W' ∧ KeepG g0 W W') ∨ (e = .returned (.bool false) ∧ Jx (pre ++ [x]) W'))
    (W : World) (hA : AllAt W B g0 s) (h0 : J [] W) :
    CallsIn F n Try.prog 58 #[.func (.yield l) #[] #[], .pointer (some ⟨B, 0, none⟩)] W fun e W' => (∃ v, e = .returned v) ∧
      ((∃ xs, vals xs = elems s ∧ J xs W') ∨ (∃ pre, vals pre <+: elems s ∧ Jx pre W')) := by
  obtain ⟨ws, ad, c, hbox, hcan, hwd, hcell⟩ := hA
  have h64 := hcan.1
  have hout : ∀ k, ws.length ≤ k → s k = 0#64 := fun k hk => by rw [← hwd]; exact wd_out hk
  obtain ⟨m, hm⟩ : ∃ m, ws.length = m := ⟨_, rfl⟩
  rw [hm] at hbox hcell h64 hout
  have HC : Hid (∀ j W', j < m → KeepG g0 W W' → ad = some ⟨g0, 0, none⟩ ∧ W'.cell? ⟨g0, j, none⟩ = some (.int .u64 (U (s j)))) := by
    intro j W' hj hb
    obtain ⟨h1, h2⟩ := hcell j hj
    exact ⟨h1, hb j _ h2⟩
  have HO := Lib.hid hout
  have HY := Lib.hid hY
  clear hcan hwd hcell hout hm hY
  refine callsIn_of_wp Try.func58 rfl hF ?_ hro
  simp only [Try.ntmps58, List.size_toArray, List.length_cons, List.length_nil, Nat.reduceAdd, Nat.reduceSub, Array.replicate_succ, Array.replicate_zero, List.push_toArray, List.append_toArray, List.nil_append, List.cons_append]
  gi_wp2
  gi_loopw [3, 4, 5, 8] (fun _ _ _ v8 wr => ∃ (k : Nat) (pre : List (El s)), k ≤ m ∧ v8 = .int .i64 k ∧ vals pre = upto s (64 * k) ∧ J pre wr ∧ KeepG g0 W wr) (fun _ _ _ v8 _ => m - (intOf v8).toNat)
  case atStart => exact ⟨0, [], Nat.zero_le _, rfl, rfl, h0, keepG_refl _ _⟩
  case round =>
    obtain ⟨k, pre, hk, rfl, hpre, hJ, hB⟩ := hrel
    by_cases hlt : k < m
    · obtain ⟨rfl, hg⟩ := HC.out k wr hlt hB
      obtain ⟨x, hx⟩ : ∃ x, s k = x := ⟨_, rfl⟩
      rw [hx] at hg
      have HX := Lib.hid hx
      have HP := Lib.hid hpre
      have HB := Lib.hid hB
      have HJ := Lib.hid hJ
      clear hx hpre hJ hB
      gi_wp2
      gi_loopw [4, 5] (fun v4 v5 wx => ∃ (i : Nat) (pre : List (El s)), i ≤ 64 ∧ v4 = .int .u64 (U (x >>> i)) ∧ v5 = .int .i64 i ∧ vals pre = upto s (64 * k + i) ∧ J pre wx ∧ KeepG g0 W wx) (fun _ v5 _ => 64 - (intOf v5).toNat)
      case atStart => exact ⟨0, pre, Nat.zero_le _, by simp, rfl, HP.out, HJ.out, HB.out⟩
      case round =>
        obtain ⟨i, pre, hi, rfl, rfl, hpre, hJ, hB⟩ := hrel
        have HP := Lib.hid hpre
        have HB := Lib.hid hB
        have HJ := Lib.hid hJ
        have hsh1 := shr_one x i
        have hlb := low_bit x i
        have hzz : ∀ j, i ≤ j → x >>> i = 0#64 → x.getLsbD j = false := fun j hj h => shr_zero h j hj
        have h6 : i = 64 → x >>> i = 0#64 := fun h => by rw [h]; exact shr_64 x
        obtain ⟨z, hz⟩ : ∃ z, x >>> i = z := ⟨_, rfl⟩
        rw [hz] at hsh1 hlb hzz h6 ⊢
        have HSH := Lib.hid hsh1
        clear hpre hJ hB hz hsh1
        by_cases hz0 : z = 0#64
        · have hne : (U z != 0) = false := by rw [hz0]; rfl
          have HE : Hid (vals pre = upto s (64 * (k + 1))) := by
            show _ = _
            rw [HP.out, show 64 * (k + 1) = (64 * k + i) + (64 - i) by omega]
            refine (upto_skip s _ _ fun j h1 h2 => ?_).symm
            obtain ⟨q, rfl⟩ : ∃ q, j = 64 * k + q := ⟨j - 64 * k, by omega⟩
            rw [has_at s k q (by omega), HX.out]
            exact hzz q (by omega) hz0
          clear hlb hzz h6 hz0
          gi_wp2
          go_roundw
          case rel => exact ⟨k + 1, pre, by omega, by go_num, HE.out, HJ.out, HB.out⟩
          case measure => simp [intOf]; omega
        · have hne : (U z != 0) = true := by
            rw [bne, show (U z == 0) = false from by rw [beq_eq_false_iff_ne]; exact fun h => hz0 (U_inj h)]; rfl
          have hi64 : i < 64 := by
            rcases Nat.lt_or_ge i 64 with h | h
            · exact h
            · exact absurd (h6 (by omega)) hz0
          have hhas := has_at s k i hi64
          rw [HX.out] at hhas
          obtain ⟨b, hb⟩ : ∃ b, x.getLsbD i = b := ⟨_, rfl⟩
          rw [hb] at hlb hhas
          have hup := upto_succ s (64 * k + i)
          rw [hhas] at hup
          have hlen : pre.length < 4096 := by
            rw [← vals_length, HP.out]
            have := upto_len s (64 * k + i)
            omega
          have hk64 : k < 64 := by omega
          clear hzz h6 hb hz0
          cases b with
          | false =>
            have hbit : (U (z &&& 1#64) == 1) = false := by rw [hlb]; rfl
            simp only [Bool.false_eq_true, if_false, List.append_nil] at hup
            have HU := Lib.hid hup
            clear hlb hhas hup
            gi_wp2
            refine ⟨fun _ h => (by cases h), ?_⟩
            gi_wp2
            go_roundw
            case rel => exact ⟨i + 1, pre, by omega, by rw [← HSH.out], by go_num, by rw [HP.out, ← HU.out]; rfl, HJ.out, HB.out⟩
            case measure => simp [intOf]; omega
          | true =>
            have hbit : (U (z &&& 1#64) == 1) = true := by rw [hlb]; rfl
            simp only [if_true] at hup
            have HU := Lib.hid hup
            have hel : 64 * k + i < 4096 ∧ has s (64 * k + i) = true := ⟨by omega, hhas⟩
            obtain ⟨fn, tmps, assign, body, hy, hR⟩ := HY.out pre ⟨64 * k + i, hel⟩ wr HJ.out hlen
            have hcast : ((64 * k + i : Nat) : Int) = 64 * (k : Int) + (i : Int) := by omega
            dsimp only at hy
            rw [hcast] at hy
            have HR := Lib.hid hR
            clear hlb hhas hup hcast hR
            gi_wp2
            refine HR.out.mono ?_
            rintro e W3 (⟨rfl, hJ3, hb3⟩ | ⟨rfl, hJx3⟩)
            · have HJ3 := Lib.hid hJ3
              have HB3 := Lib.hid (keepG_t HB.out hb3)
              clear hJ3 hb3
              gi_wp2
              go_roundw
              case rel => exact ⟨i + 1, pre ++ [⟨64 * k + i, hel⟩], by omega, by rw [← HSH.out], by go_num, by rw [vals_snoc, HP.out]; exact HU.out.symm, HJ3.out, HB3.out⟩
              case measure => simp [intOf]; omega
            · have HJ3 := Lib.hid hJx3
              clear hJx3
              gi_wp2
              refine bodyPost_ret (results_none rfl _ _ _) rfl ?_
              refine ⟨⟨_, rfl⟩, .inr ⟨pre ++ [⟨64 * k + i, hel⟩], ?_, HJ3.out⟩⟩
              rw [vals_snoc, HP.out]
              exact HU.out ▸ prefix_upto (64 * k + i + 1) (by omega)
    · obtain rfl : k = m := by omega
      have HP := Lib.hid hpre
      clear hpre
      gi_wp2
      go_end0
      refine ⟨⟨_, rfl⟩, .inl ⟨pre, ?_, hJ⟩⟩
      rw [HP.out]
      refine upto_all (by omega) fun j hj => ?_
      unfold has
      rw [HO.out (j / 64) (by omega)]
      simp

/-- The closure's contract. -/
theorem all_stops (F : Fence) (n : Nat) (hF : F.fn 58) (hro : F.round = none) (hn : 1 ≤ n) (B g : Nat) (s : Sets) (w : World) (hA : AllAt w B g s) (hB : B < w.heap.size) (hg : g < w.heap.size) :
    SeqStopsK F n Try.prog 58 #[.pointer (some ⟨B, 0, none⟩)] (fun x : El s => #[Value.int .i64 ((x.1 : Nat) : Int)]) (KeepG g) (fun xs => vals xs = elems s) (fun pre => vals pre <+: elems s) 4096 w := fun l J Jx W hW _ _ hY h0 => by
  refine all_in F n hF hro hn l B g s J Jx hY W ?_ h0
  obtain ⟨ws, ad, c, h1, h2, h3, h4⟩ := hA
  exact ⟨ws, ad, c, (hW.cell (p := ⟨B, 0, none⟩) hB).trans h1, h2, h3, fun j hj => ⟨(h4 j hj).1, (hW.cell (p := ⟨g, j, none⟩) hg).trans (h4 j hj).2⟩⟩

/-- What All says. -/
def Iter (s : Sets) (w : World) (e : Ending) (w' : World) : Prop :=
  ∃ B g, e = .returned (.func (.func 58) #[] #[.pointer (some ⟨B, 0, none⟩)]) ∧ AllAt w' B g s ∧ w.heap.size ≤ B ∧ B < w'.heap.size ∧ w.heap.size ≤ g ∧ g < w'.heap.size ∧ Below w.heap.size w w'
theorem jn_fst (s : Sets) : jn fstW s none' = s := rfl
theorem all_any (v : Value) (s : Sets) (w : World) (hs : SetAt w v s) : Calls Try.prog 27 #[v] w (Iter s w) := by
  have HJ := Lib.hid (join_new 57 fstW live57 fst_any (by decide) v (.slice none 0 0) s none' (w.alloc (.cells #[v] 36)) (hs.keep ((Below.refl _ _).alloc (Nat.le_refl _) _)) (set_nil _))
  obtain ⟨l, ad, c, rfl, _, _, _, _, _, _⟩ := hs
  go_enter Try.func27, Try.ntmps27
  go_wp2_with fail
  with_reducible refine HJ.out.mono ?_
  rintro e w1 ⟨v1, rfl, hs1, hb1, hnew⟩
  rw [jn_fst] at hs1
  obtain ⟨l1, ad1, c1, rfl, hcan, hwd, _, _, _, hcell⟩ := hs1
  have hc1 := (hb1.cell (p := ⟨w.heap.size, 0, none⟩) (by simp)).trans (show (w.alloc (.cells #[.slice ad l.length c] 36)).cell? ⟨w.heap.size, 0, none⟩ = some (.slice ad l.length c) by simp)
  have hf1 : w1.frozen? ⟨w.heap.size, 0, none⟩ = false := (hb1.frozen (p := ⟨w.heap.size, 0, none⟩) (by simp)).trans (by simp)
  have HB1 := Lib.hid hb1
  have HNEW := Lib.hid hnew
  have HCELL := Lib.hid hcell
  have HCAN := Lib.hid hcan
  have HWD := Lib.hid hwd
  clear hb1 hnew hcell hcan hwd
  go_wp2_with fail
  go_ret
  have hsz := HB1.out.size
  simp at hsz
  have hbw : w.heap.size < w1.heap.size := by omega
  have hB2 : Below w.heap.size w (w1.setCell ⟨w.heap.size, 0, none⟩ (.slice ad1 l1.length c1)) := (((Below.refl _ _).alloc (Nat.le_refl _) _).trans (HB1.out.mono (by simp))).setCell (p := ⟨w.heap.size, 0, none⟩) (Nat.le_refl _) _
  have hbc : (w1.setCell ⟨w.heap.size, 0, none⟩ (.slice ad1 l1.length c1)).cell? ⟨w.heap.size, 0, none⟩ = some (.slice ad1 l1.length c1) := World.cell?_setCell_same _ _ _ hc1
  rcases Nat.lt_or_ge 0 l1.length with h | h
  · obtain ⟨g, rfl, hg0⟩ := HCELL.out 0 h
    have hgn : w.heap.size + 1 ≤ g := by have := HNEW.out g rfl; simpa using this
    have hgs := World.block_lt_of_cell? w1 _ hg0
    refine ⟨w.heap.size, g, rfl, ⟨l1, _, c1, hbc, HCAN.out, HWD.out, fun j hj => ?_⟩, Nat.le_refl _, by simpa using hbw, by omega, by simpa using hgs, hB2⟩
    obtain ⟨g', e, hg'⟩ := HCELL.out j hj
    injection e with e
    injection e with e
    subst e
    exact ⟨rfl, (World.cell?_setCell_other _ _ _ _ (fun e => by have := congrArg Addr.block e; simp at this; omega)).trans hg'⟩
  · exact ⟨w.heap.size, w.heap.size, rfl, ⟨l1, ad1, c1, hbc, HCAN.out, HWD.out, fun j hj => by omega⟩, Nat.le_refl _, by simpa using hbw, Nat.le_refl _, by simpa using hbw, hB2⟩
end Go.Proofs.Ytfeibjokifidmaa.Z
