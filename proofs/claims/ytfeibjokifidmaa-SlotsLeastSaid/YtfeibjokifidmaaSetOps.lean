/- The operations on sets: Either, Both, Minus, With, Without, Has, Equal, Of. -/
import Derived.Test.YtfeibjokifidmaaSetJoin
import Derived.Deep.QuietTactic
import Derived.BigQuiet
namespace Go.Proofs.Ytfeibjokifidmaa.Z
open Go.RowKit Go.Proofs.Ytfeibjokifidmaa.M

theorem either_any (va vb : Value) (a b : Sets) (w : World) (ha : SetAt w va a) (hb : SetAt w vb b) : Calls Try.prog 21 #[va, vb] w (Gives (jn orW a b) w) := by
  have HJ := Lib.hid (join_set 53 orW live53 or_any (by decide) va vb a b w ha hb)
  clear ha hb
  go_enter Try.func21, Try.ntmps21
  go_wp2_with fail
  with_reducible refine HJ.out.mono ?_
  rintro e w' ⟨v, rfl, hs, hb⟩
  have HS := Lib.hid hs
  clear hs
  go_wp2_with fail
  go_ret
  exact ⟨v, rfl, HS.out, hb⟩
theorem both_any (va vb : Value) (a b : Sets) (w : World) (ha : SetAt w va a) (hb : SetAt w vb b) : Calls Try.prog 22 #[va, vb] w (Gives (jn andW a b) w) := by
  have HJ := Lib.hid (join_set 54 andW live54 and_any (by decide) va vb a b w ha hb)
  clear ha hb
  go_enter Try.func22, Try.ntmps22
  go_wp2_with fail
  with_reducible refine HJ.out.mono ?_
  rintro e w' ⟨v, rfl, hs, hb⟩
  have HS := Lib.hid hs
  clear hs
  go_wp2_with fail
  go_ret
  exact ⟨v, rfl, HS.out, hb⟩
theorem minus_any (va vb : Value) (a b : Sets) (w : World) (ha : SetAt w va a) (hb : SetAt w vb b) : Calls Try.prog 23 #[va, vb] w (Gives (jn subW a b) w) := by
  have HJ := Lib.hid (join_set 55 subW live55 sub_any (by decide) va vb a b w ha hb)
  clear ha hb
  go_enter Try.func23, Try.ntmps23
  go_wp2_with fail
  with_reducible refine HJ.out.mono ?_
  rintro e w' ⟨v, rfl, hs, hb⟩
  have HS := Lib.hid hs
  clear hs
  go_wp2_with fail
  go_ret
  exact ⟨v, rfl, HS.out, hb⟩

theorem shl_U (a : W64) (m : Nat) : IntKind.u64.wrap (U a * 2 ^ m) = U (a <<< m) := by
  rw [IntKind.wrap_u64]
  unfold U
  rw [BitVec.toNat_shiftLeft, Nat.shiftLeft_eq]
  have h : ((a.toNat : Int) * 2 ^ m) = ((a.toNat * 2 ^ m : Nat) : Int) := by rw [Int.natCast_mul]; congr 1
  rw [h]
  omega
theorem shl_one (m : Nat) : IntKind.u64.wrap ((2 : Int) ^ m) = U (1#64 <<< m) := by
  rw [← shl_U, show U 1#64 = 1 from rfl, Int.one_mul]

/-- The words of a set of one number. -/
theorem one_wd (q r : Nat) (hq : q < 64) (hr : r < 64) : Z.wd ((List.replicate (q + 1) 0#64).set q (1#64 <<< r)) = one (64 * q + r) := by
  funext k
  unfold Z.wd one
  rw [show (64 * q + r) / 64 = q by omega, show (64 * q + r) % 64 = r by omega]
  by_cases hk : k = q
  · subst hk
    rw [if_pos hq, if_pos rfl, List.getElem?_set_self (by simp)]
    rfl
  · rw [if_neg hk, List.getElem?_set_ne (Ne.symm hk)]
    split
    · rw [List.getElem?_replicate]
      split <;> rfl
    · rfl
theorem shl_ne (r : Nat) (hr : r < 64) : 1#64 <<< r ≠ 0#64 := by
  intro h
  have := congrArg (fun z => BitVec.getLsbD z r) h
  simp at this
  omega

theorem one_out (i : Int) (w : World) (h : i < 0 ∨ 4096 ≤ i) : Calls Try.prog 56 #[.int .i64 i] w (Gives none' w) := by
  rcases h with h | h
  · go_enter Try.func56, Try.ntmps56
    go_wp2_with fail
    go_ret
    exact ⟨_, rfl, set_nil _, Below.refl _ _⟩
  · have h' : ¬ i < 0 := by omega
    go_enter Try.func56, Try.ntmps56
    go_wp2_with fail
    go_ret
    exact ⟨_, rfl, set_nil _, Below.refl _ _⟩
set_option maxRecDepth 8000 in
theorem one_in (i : Nat) (w : World) (h : i < 4096) : Calls Try.prog 56 #[.int .i64 i] w (Gives (one i) w) := by
  obtain ⟨i0, hi0, hz0, hz1, hz2⟩ := info_parts Try.info37
  obtain ⟨q, hq⟩ : ∃ q, i / 64 = q := ⟨_, rfl⟩
  obtain ⟨r, hr⟩ : ∃ r, i % 64 = r := ⟨_, rfl⟩
  have hq64 : q < 64 := by omega
  have hr64 : r < 64 := by omega
  have hi : i = 64 * q + r := by omega
  have hiq : (i : Int) / 64 = (q : Int) := by omega
  have hir : (i : Int) % 64 = (r : Int) := by omega
  have hsh := shl_one r
  have HI := Lib.hid hi
  have h0 : (0 : Int) ≤ (i : Int) := by omega
  have h1 : (i : Int) < 4096 := by omega
  obtain ⟨z, hz⟩ : ∃ z : Int, (i : Int) = z := ⟨_, rfl⟩
  rw [hz] at hiq hir h0 h1 ⊢
  clear hq hr hi hz h
  go_enter Try.func56, Try.ntmps56
  go_wp2_with (refine wpList_make_full _ rfl _ _ 36 rfl w.heap.size 37 i0 (.int .u64 0) 1 Try.underlying36 hi0 hz0 hz1 .i64 .i64 _ _ (q + 1) rfl rfl rfl rfl (by rw [hz2]; omega) (by unfold maxLen; omega) (Nat.le_refl _) ?_)
  intro w1 hown hg
  have hB : Below w.heap.size w w1 := (Below.refl _ _).grown hg (Nat.le_refl _) (fun k hk => by cases hk)
  obtain ⟨hg1, hcl, hfz⟩ := made_ints hown
  obtain ⟨g, hgg⟩ : ∃ g, w.heap.size = g := ⟨_, rfl⟩
  rw [hgg] at hg1 hcl hfz ⊢
  have HG := Lib.hid hgg
  have hfq := hfz q
  have hcq := hcl q (by omega)
  have HCL := Lib.hid hcl
  clear hown hg hgg hfz hcl
  go_wp2_with fail
  go_ret
  refine ⟨.slice (some ⟨g, 0, none⟩) (q + 1) (q + 1), rfl, ?_, ?_⟩
  · have hl : ((List.replicate (q + 1) 0#64).set q (1#64 <<< r)).length = q + 1 := by simp
    refine ⟨(List.replicate (q + 1) 0#64).set q (1#64 <<< r), some ⟨g, 0, none⟩, q + 1, by rw [hl], ⟨by rw [hl]; omega, fun m hm => ?_⟩, by rw [one_wd q r hq64 hr64, HI.out], by rw [hl]; exact Nat.le_refl _, by unfold maxLen; omega, (fun h => by cases h), fun j hj => ⟨g, rfl, ?_⟩⟩
    · rw [hl] at hm
      obtain rfl : m = q := by omega
      rw [List.getElem?_set_self (by simp)]
      exact shl_ne r hr64
    · rw [hl] at hj
      have ho : one i j = if j = q then 1#64 <<< r else 0#64 := by
        unfold one
        rw [HI.out, show (64 * q + r) / 64 = q by omega, show (64 * q + r) % 64 = r by omega]
      rw [ho]
      by_cases e : j = q
      · subst e
        rw [World.cell?_setCell_same _ _ _ hcq, if_pos rfl]
      · rw [World.cell?_setCell_other _ _ _ _ (fun h => e (congrArg Addr.off h).symm), HCL.out j hj, if_neg e, List.getElem?_replicate, if_pos hj]
        rfl
  · exact hB.setCell (p := ⟨g, q, none⟩) (by rw [HG.out]; exact Nat.le_refl _) _

theorem with_any (va : Value) (a : Sets) (i : Nat) (w : World) (ha : SetAt w va a) (h : i < 4096) : Calls Try.prog 25 #[va, .int .i64 i] w (Gives (jn orW a (one i)) w) := by
  have HA := Lib.hid ha
  have HO := Lib.hid (one_in i w h)
  clear ha
  go_enter Try.func25, Try.ntmps25
  go_wp2_with fail
  with_reducible refine HO.out.mono ?_
  rintro e w1 ⟨v, rfl, hs, hb⟩
  have HE := Lib.hid (either_any va v a (one i) w1 (HA.out.keep hb) hs)
  have HB := Lib.hid hb
  clear hs hb
  go_wp2_with fail
  with_reducible refine HE.out.mono ?_
  rintro e w2 ⟨v2, rfl, hs, hb⟩
  have HS := Lib.hid hs
  clear hs
  go_wp2_with fail
  go_ret
  exact ⟨v2, rfl, HS.out, HB.out.trans (hb.mono HB.out.size)⟩
theorem without_any (va : Value) (a : Sets) (i : Nat) (w : World) (ha : SetAt w va a) (h : i < 4096) : Calls Try.prog 26 #[va, .int .i64 i] w (Gives (jn subW a (one i)) w) := by
  have HA := Lib.hid ha
  have HO := Lib.hid (one_in i w h)
  clear ha
  go_enter Try.func26, Try.ntmps26
  go_wp2_with fail
  with_reducible refine HO.out.mono ?_
  rintro e w1 ⟨v, rfl, hs, hb⟩
  have HE := Lib.hid (minus_any va v a (one i) w1 (HA.out.keep hb) hs)
  have HB := Lib.hid hb
  clear hs hb
  go_wp2_with fail
  with_reducible refine HE.out.mono ?_
  rintro e w2 ⟨v2, rfl, hs, hb⟩
  have HS := Lib.hid hs
  clear hs
  go_wp2_with fail
  go_ret
  exact ⟨v2, rfl, HS.out, HB.out.trans (hb.mono HB.out.size)⟩

@[go_sem] theorem and_1 (a : W64) : bits .and .u64 (U a) 1 = U (a &&& 1#64) := by rw [← and_U, U_lit 1 (by decide)]; rfl
theorem has_any (va : Value) (a : Sets) (i : Nat) (w : World) (ha : SetAt w va a) (hi : i ≤ 9223372036854775807) : Calls Try.prog 28 #[va, .int .i64 i] w fun e w' => e = .returned (.bool (has a i)) ∧ w = w' := by
  obtain ⟨q, hq⟩ : ∃ q, i / 64 = q := ⟨_, rfl⟩
  obtain ⟨r, hr⟩ : ∃ r, i % 64 = r := ⟨_, rfl⟩
  have hr64 : r < 64 := by omega
  have HW := Lib.hid (word_any va a q w ha)
  obtain ⟨x, hx⟩ : ∃ x, a q = x := ⟨_, rfl⟩
  have hh : has a i = x.getLsbD r := by unfold has; rw [hq, hr, hx]
  rw [hx] at HW
  have hlb := low_bit x r
  rw [hh]
  have hiq : (i : Int) / 64 = (q : Int) := by omega
  have hir : (i : Int) % 64 = (r : Int) := by omega
  have h0 : (0 : Int) ≤ (i : Int) := by omega
  have h1 : (i : Int) ≤ 9223372036854775807 := by omega
  obtain ⟨z, hz⟩ : ∃ z : Int, (i : Int) = z := ⟨_, rfl⟩
  rw [hz] at hiq hir h0 h1 ⊢
  obtain ⟨b, hb⟩ : ∃ b, x.getLsbD r = b := ⟨_, rfl⟩
  rw [hb] at hlb ⊢
  have hbit : (U (x >>> r &&& 1#64) == 1) = b := by
    rw [hlb]
    cases b <;> rfl
  clear hlb hb hh hx hz hi ha hq hr
  go_enter Try.func28, Try.ntmps28
  go_wp2_with fail
  with_reducible refine HW.out.mono ?_
  rintro e _ ⟨rfl, rfl⟩
  go_wp2_with fail
  go_ret
  exact ⟨rfl, rfl⟩
end Go.Proofs.Ytfeibjokifidmaa.Z
