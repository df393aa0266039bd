/- slices.Equal of sets; sets.Of; setOf; what each law asks at its beginning. -/
import Derived.Test.YtfeibjokifidmaaSetOps
import Derived.Test.YtfeibjokifidmaaSmall
namespace Go.Proofs.Ytfeibjokifidmaa.Z
open Go.RowKit Go.Proofs.Ytfeibjokifidmaa.M

set_option maxRecDepth 8000 in
theorem equal_same (va vb : Value) (s : Sets) (w : World) (ha : SetAt w va s) (hb : SetAt w vb s) :
    Calls Try.prog 17 #[va, vb] w fun e w' => e = .returned (.bool true) ∧ Below w.heap.size w w' := by
  obtain ⟨la, ada, ca, rfl, hca, hwa, _, _, _, hcella⟩ := ha
  obtain ⟨lb, adb, cb, rfl, hcb, hwb, _, _, _, hcellb⟩ := hb
  obtain rfl : la = lb := canon_eq hca hcb (hwa.trans hwb.symm)
  have h64 := hca.1
  obtain ⟨n, hn⟩ : ∃ n, la.length = n := ⟨_, rfl⟩
  rw [hn] at hcella hcellb h64 ⊢
  have HCA := Lib.hid hcella
  have HCB := Lib.hid hcellb
  clear hn hca hcb hwa hwb hcella hcellb
  go_enter Try.func17, Try.ntmps17
  go_wp2_with fail
  go_loopw [5, 13] (fun _ v13 wr => ∃ k : Nat, k ≤ n ∧ v13 = .int .i64 k ∧ Below w.heap.size w wr) (fun _ v _ => n - (intOf v).toNat)
  case atStart => exact ⟨0, Nat.zero_le _, rfl, Below.refl _ _⟩
  case round =>
    obtain ⟨k, hk, rfl, hB⟩ := hrel
    have HB := Lib.hid hB
    by_cases hlt : k < n
    · obtain ⟨g, rfl, hg⟩ := HCA.out k hlt
      obtain ⟨g', rfl, hg'⟩ := HCB.out k hlt
      have hgw := World.block_lt_of_cell? w _ hg
      have hgw' := World.block_lt_of_cell? w _ hg'
      have h1 := (hB.cell (p := ⟨g, k, none⟩) hgw).trans hg
      have h2 := (hB.cell (p := ⟨g', k, none⟩) hgw').trans hg'
      have hs1 := World.block_lt_of_cell? wr _ h1
      have hs2 := World.block_lt_of_cell? wr _ h2
      simp only at hs1 hs2
      obtain ⟨x, hx⟩ : ∃ x, s k = x := ⟨_, rfl⟩
      rw [hx] at h1 h2
      have ik0 : (0 : Int) ≤ (k : Int) := Int.natCast_nonneg _
      have ik1 : (k : Int) < (n : Int) := by omega
      clear hx hg hg' hgw hgw' hB
      go_wp2_with fail
      refine region_grow (by kernel_rfl) (by kernel_rfl) ?_
      repeat (go_big_quiet_step (fail))
      refine wpQuiet_nil ?_
      intro _ hw'
      obtain ⟨kk, mm, rfl⟩ := hw'
      go_wp2_with fail
      go_roundw
      case rel => exact ⟨k + 1, by omega, by go_num, HB.out.trans ((below_ext wr _ _).mono HB.out.size)⟩
      case measure => simp [intOf]; omega
    · obtain rfl : k = n := by omega
      clear hB
      go_wp2_with fail
      go_ret
      exact ⟨rfl, HB.out⟩

/-- The set of some numbers. -/
def ofList (l : List Nat) : Sets := l.foldl (fun s i => jn orW s (one i)) none'

set_option maxRecDepth 8000 in
theorem of_any (ao : Option Addr) (n cap : Nat) (l : List Nat) (w : World) (hl : l.length = n) (hn : n ≤ 9223372036854775807) (h4 : ∀ i ∈ l, i < 4096)
    (hc : ∀ j, j < n → ∃ x, ao = some x ∧ w.cell? (x.add j) = some (.int .i64 ((l[j]?.getD 0 : Nat) : Int))) :
    Calls Try.prog 18 #[.slice ao n cap] w (Gives (ofList l) w) := by
  have HC := Lib.hid hc
  have HL := Lib.hid hl
  have H4 := Lib.hid h4
  clear hc hl h4
  go_enter Try.func18, Try.ntmps18
  go_wp2_with fail
  go_loopw [3, 5, 8] (fun v3 _ v8 wr => ∃ k : Nat, k ≤ n ∧ v8 = .int .i64 k ∧ SetAt wr v3 (ofList (l.take k)) ∧ Below w.heap.size w wr) (fun _ _ v _ => n - (intOf v).toNat)
  case atStart => exact ⟨0, Nat.zero_le _, rfl, set_nil _, Below.refl _ _⟩
  case round =>
    obtain ⟨k, hk, rfl, hs, hB⟩ := hrel
    have HB := Lib.hid hB
    have HS := Lib.hid hs
    by_cases hlt : k < n
    · obtain ⟨x, rfl, hx⟩ := HC.out k hlt
      have h1 := (hB.cell (World.block_lt_of_cell? w _ hx)).trans hx
      have hkl : k < l.length := by rw [HL.out]; exact hlt
      obtain ⟨i, hi⟩ : ∃ i, l[k]?.getD 0 = i := ⟨_, rfl⟩
      have hi4 : i < 4096 := by rw [← hi, List.getElem?_eq_getElem hkl]; exact H4.out _ (List.getElem_mem _)
      have hof : ofList (l.take (k + 1)) = jn orW (ofList (l.take k)) (one i) := by
        unfold ofList
        rw [List.take_succ_eq_append_getElem hkl, List.foldl_append, ← hi, List.getElem?_eq_getElem hkl]
        rfl
      rw [hi] at h1
      have HW := Lib.hid (with_any _ _ i wr hs hi4)
      have HOF := Lib.hid hof
      clear hx hi hof hs hB
      go_wp2_with fail
      with_reducible refine HW.out.mono ?_
      rintro e w1 ⟨v, rfl, hs, hb⟩
      have HS1 := Lib.hid hs
      have HB1 := Lib.hid (HB.out.trans (hb.mono HB.out.size))
      clear hs hb
      go_wp2_with fail
      go_roundw
      case rel => exact ⟨k + 1, by omega, by go_num, by rw [HOF.out]; exact HS1.out, HB1.out⟩
      case measure => simp [intOf]; omega
    · obtain rfl : k = n := by omega
      clear hs hB
      go_wp2_with fail
      go_ret
      refine ⟨_, rfl, ?_, HB.out⟩
      have := HS.out
      rwa [List.take_of_length_le (by rw [HL.out]; exact Nat.le_refl _)] at this

/-- The set that each law makes at its beginning. -/
theorem begun_wd : Z.wd [2#64, 1#64] = ofList [64, 1] := by
  funext k
  show _ = (((0#64 : W64) ||| one 64 k) ||| one 1 k)
  unfold Z.wd one
  match k with
  | 0 => decide
  | 1 => decide
  | k + 2 => simp
theorem begun_of (w : World) (t : TypeId) : Calls Try.prog 18 #[.slice (some ⟨w.heap.size, 0, none⟩) 2 2] (w.alloc (.cells #[.int .i64 64, .int .i64 1] t)) (Gives (ofList [64, 1]) (w.alloc (.cells #[.int .i64 64, .int .i64 1] t))) :=
  of_any _ 2 2 [64, 1] _ rfl (by omega) (by intro i hi; simp at hi; omega) fun j hj => ⟨_, rfl, by
    match j, hj with
    | 0, _ => simp [Addr.add]
    | 1, _ => simp [Addr.add]⟩
theorem begun_lit (w : World) (t : TypeId) : SetAt (w.alloc (.cells #[.int .u64 2, .int .u64 1] t)) (.slice (some ⟨w.heap.size, 0, none⟩) 2 2) (ofList [64, 1]) := by
  refine ⟨[2#64, 1#64], _, 2, rfl, ⟨by decide, fun m hm => ?_⟩, begun_wd, Nat.le_refl _, by unfold maxLen; omega, (fun h => by cases h), fun j hj => ⟨_, rfl, ?_⟩⟩
  · obtain rfl : m = 1 := by simp at hm; omega
    decide
  · rw [← begun_wd]
    match j, hj with
    | 0, _ => simp [Z.wd]; rfl
    | 1, _ => simp [Z.wd]; rfl

/-- What setOf says. -/
def SomeSet (w : World) (e : Ending) (w' : World) : Prop := ∃ s, Gives s w e w'
set_option maxRecDepth 8000 in
theorem setOf_any (ao : Option Addr) (zs : List Int) (n cap : Nat) (w : World) (hl : zs.length = n) (hn : ao = none → n = 0 ∧ cap = 0)
    (hc : ∀ x, ao = some x → ∀ j u, (zs.map (Value.int .i64))[j]? = some u → w.cell? (x.add j) = some u) (hr : n * 8 ≤ 140737488351232)
    (hw : ∀ z ∈ zs, -9223372036854775808 ≤ z ∧ z ≤ 9223372036854775807) :
    Calls Try.prog 19 #[.slice ao n cap] w (SomeSet w) := by
  obtain ⟨i0, hi0, hz0, hz1, hz2⟩ := info_parts Try.info3
  have HC : Hid (∀ k, k < n → ∃ x, ao = some x ∧ ∀ W, Below w.heap.size w W → W.cell? (x.add k) = some (.int .i64 (zs[k]?.getD 0))) := by
    intro k hk
    cases ao with
    | none => have := (hn rfl).1; omega
    | some x =>
      have h := hc x rfl k (.int .i64 (zs[k]?.getD 0)) (by rw [List.getElem?_map, List.getElem?_eq_getElem (by omega)]; rfl)
      exact ⟨x, rfl, fun W hW => (hW.cell (World.block_lt_of_cell? w _ h)).trans h⟩
  have HW : Hid (∀ k, k < n → -9223372036854775808 ≤ zs[k]?.getD 0 ∧ zs[k]?.getD 0 ≤ 9223372036854775807) := by
    intro k hk
    rw [List.getElem?_eq_getElem (by omega)]
    exact hw _ (List.getElem_mem _)
  obtain ⟨C, hC⟩ : ∃ C, w.heap.size = C := ⟨_, rfl⟩
  have HCE := Lib.hid hC
  clear hn hc hl hw hC
  go_enter Try.func19, Try.ntmps19
  go_wp2_with fail
  go_loopw [3, 5, 8] (fun v3 _ v8 wr => ∃ (k : Nat) (l : List Nat), k ≤ n ∧ v8 = .int .i64 k ∧ Hid (l.length = k ∧ ∀ i ∈ l, i < 4096) ∧ wr.ownsRow C 3 1 v3 k (l.map fun i => .int .i64 ((i : Nat) : Int)) ∧ C ≤ wr.heap.size ∧ Below C w wr) (fun _ _ v _ => n - (intOf v).toNat)
  case atStart => exact ⟨0, [], Nat.zero_le _, rfl, ⟨rfl, by simp⟩, World.ownsRow_nil _ _ _ _, Nat.le_of_eq HCE.out.symm, Below.refl _ _⟩
  case round =>
    obtain ⟨k, l, hk, rfl, hl, hO, hCs, hB⟩ := hrel
    have HB := Lib.hid hB
    have HO := Lib.hid hO
    by_cases hlt : k < n
    · obtain ⟨x, rfl, hx⟩ := HC.out k hlt
      have hxk := hx wr (by rw [HCE.out]; exact hB)
      obtain ⟨z, hz⟩ : ∃ z, zs[k]?.getD 0 = z := ⟨_, rfl⟩
      have hwz := HW.out k hlt
      rw [hz] at hxk hwz
      obtain ⟨i, hi⟩ : ∃ i : Nat, z % 300 = (i : Int) := ⟨(z % 300).toNat, by have := Int.emod_nonneg z (show (300 : Int) ≠ 0 by omega); omega⟩
      have hi3 : i < 300 := by have := Int.emod_lt_of_pos z (show (0 : Int) < 300 by omega); omega
      have hbl := M.below_any z 300 wr (by omega) (by omega) hwz.1 hwz.2
      rw [hi] at hbl
      have HBL := Lib.hid hbl
      clear hx hz hi hbl hB hO
      go_wp2_with fail
      with_reducible refine HBL.out.mono ?_
      rintro e _ ⟨rfl, rfl⟩
      go_wp2_with (at_builtin; refine wpList_append_own _ rfl _ _ 22 rfl C 3 i0 (.int .i64 0) 1 8 Try.underlying22 hi0 hz0 hz1 hz2 rfl (by decide) _ k _ rfl (HO.out.alloc _) ⟨wr.heap.size, 0, none⟩ 1 1 [.int .i64 (i : Int)] rfl rfl (new_one _ _ _) (Ytfeibjokifidmaa.one_ok rfl) (by unfold maxLen; omega) (by omega) (by simp; omega) ?_)
      intro v' w6 hO6 hg6 _
      have hb6 := (HB.out.alloc hCs _).grown hg6 (by simp; omega) (fun q hq => (HO.out.lt q hq).1)
      have hsz : C ≤ w6.heap.size := by have := hg6.size; simp at this; omega
      have HO6 := Lib.hid hO6
      have HB6 := Lib.hid hb6
      clear hO6 hg6 hb6
      go_wp2_with fail
      go_roundw
      case rel =>
        refine ⟨k + 1, l ++ [i], by omega, by go_num, ⟨by rw [List.length_append, hl.out.1]; rfl, fun j hj => ?_⟩, ?_, hsz, HB6.out⟩
        · rcases List.mem_append.1 hj with h | h
          · exact hl.out.2 j h
          · rw [List.mem_singleton] at h; omega
        · rw [List.map_append]; exact HO6.out
      case measure => simp [intOf]; omega
    · obtain rfl : k = n := by omega
      obtain ⟨a2, c2, rfl, hn2, hc2, hl2⟩ := owns_source HO.out
      have HOF := Lib.hid (of_any a2 k c2 l wr hl.out.1 (by omega) hl.out.2 (fun j hj => by
        have hj' : j < l.length := by rw [hl.out.1]; exact hj
        cases a2 with
        | none => have := (hn2 rfl).1; omega
        | some x => exact ⟨x, rfl, hc2 x rfl j _ (by rw [List.getElem?_map, List.getElem?_eq_getElem hj']; rfl)⟩))
      clear hn2 hc2 hl2 hB hO
      go_wp2_with fail
      with_reducible refine HOF.out.mono ?_
      rintro e w6 ⟨v, rfl, hs, hb⟩
      have HS := Lib.hid hs
      clear hs
      go_wp2_with fail
      go_ret
      exact ⟨_, v, rfl, HS.out, (show Below w.heap.size w wr by rw [HCE.out]; exact HB.out).trans (hb.mono (by rw [HCE.out]; exact hCs))⟩
end Go.Proofs.Ytfeibjokifidmaa.Z
