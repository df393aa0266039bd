/- slotsBegun says yes. -/
import Derived.Test.YtfeibjokifidmaaSlotsT
namespace Go.Proofs.Ytfeibjokifidmaa.Z
open Go.RowKit Go.Shelf Go.Proofs.Ytfeibjokifidmaa.M
variable {bz : Nat}

theorem next_none {F : Sets} {n : Nat} (h : ∀ i, has F i = false) : next F n = n := by
  refine next_nil ?_
  rcases hE : elems F with _ | ⟨x, l⟩
  · rfl
  · have : x ∈ elems F := by rw [hE]; simp
    have := (mem_elems.1 this).2
    rw [h x] at this
    cases this
theorem has_none (i : Nat) : has none' i = false := by simp [has, none']
/-- What a take leaves of a take from nothing. -/
theorem take_first {p : Nat} {w w' : World} {e : Ending} (h : Taken p bz [] none' none' w e w') :
    e = .returned (.tuple #[.agg #[.int .i64 0, .int .i64 0], .int .i64 0]) ∧ SlotsAt w' p bz [0] (jn orW none' (one 0)) (jn subW none' (one 0)) ∧ Turn p w w' := by
  unfold Taken at h
  rw [next_none has_none] at h
  rcases h with ⟨_, h1, h2, h3⟩ | ⟨h, _⟩
  · exact ⟨h1, h2, h3⟩
  · simp at h
theorem take_second {p : Nat} {w w' : World} {e : Ending} (h : Taken p bz [0] (jn orW none' (one 0)) (jn subW none' (one 0)) w e w') :
    e = .returned (.tuple #[.agg #[.int .i64 1, .int .i64 0], .int .i64 0]) ∧ Turn p w w' := by
  unfold Taken at h
  rw [next_none (fun i => by rw [has_sub, has_none]; rfl)] at h
  rcases h with ⟨_, h1, h2, h3⟩ | ⟨h, _⟩
  · exact ⟨h1, h3⟩
  · simp at h

set_option maxRecDepth 8000 in
theorem begun_any (w : World) : Calls Try.prog 37 #[] w fun e w' => e = .returned (.bool true) ∧ Below w.heap.size w w' := by
  have HN := Lib.hid (new_any w)
  go_enter Try.func37, Try.ntmps37
  go_wp2_with fail
  with_reducible refine HN.out.mono ?_
  rintro e w1 ⟨rfl, hs1, hb1⟩
  obtain ⟨p, hp⟩ : ∃ p, w.heap.size = p := ⟨_, rfl⟩
  rw [hp] at hs1 hb1 ⊢
  have HB1 := Lib.hid hb1
  have HS1 := Lib.hid hs1
  clear HN hs1 hb1
  go_wp2_with fail
  with_reducible refine (take_any p [] none' none' w1 HS1.out Inv.empty (by have := HS1.out.sz; omega)).mono ?_
  rintro e w2 ht
  obtain ⟨rfl, hs2, ht2⟩ := take_first ht
  have HB2 := Lib.hid (HB1.out.trans (ht2.below HS1.out (Nat.le_refl _) (Nat.le_succ _)))
  have HS2 := Lib.hid hs2
  clear hs2 ht2 ht HB1
  go_wp2_with fail
  have hb3 : Below w2.heap.size w2 (w2.alloc (.cells #[.int .i64 0, .int .i64 0] 64)) := (Below.refl _ _).alloc (Nat.le_refl _) _
  have hI2 : Inv [0] (jn orW none' (one 0)) (jn subW none' (one 0)) := by
    have := Inv.empty.take (by rw [next_none has_none]; decide)
    rwa [next_none has_none] at this
  have hs3 := HS2.out.keep hb3
  have c0 : (w2.alloc (.cells #[.int .i64 0, .int .i64 0] 64)).cell? ⟨w2.heap.size, 0, none⟩ = some (.int .i64 0) := by simp
  have c1 : (w2.alloc (.cells #[.int .i64 0, .int .i64 0] 64)).cell? ⟨w2.heap.size, 1, none⟩ = some (.int .i64 0) := by simp
  have hz : (w2.alloc (.cells #[.int .i64 0, .int .i64 0] 64)).heap.size = w2.heap.size + 1 := by simp
  have hg2 : ∀ k, gb w2 p = some k → k < w2.heap.size := fun k hk => (HS2.out.gb_gt hk).2.2
  have hgb : gb (w2.alloc (.cells #[.int .i64 0, .int .i64 0] 64)) p = gb w2 p := by unfold gb; rw [hb3.cell (p := ⟨p, 0, none⟩) HS2.out.sz]
  have hp2 := HS2.out.sz
  have HB3 := Lib.hid (HB2.out.trans (hb3.mono (by rw [← hp]; exact HB2.out.size)))
  generalize (w2.alloc (.cells #[.int .i64 0, .int .i64 0] 64)) = w3 at hb3 hs3 c0 c1 hz hgb HB3 ⊢
  have HS3 := Lib.hid hs3
  clear hs3
  with_reducible refine (take_any p [0] _ _ w3 HS3.out hI2 (by have := HS3.out.sz; omega)).mono ?_
  rintro e w4 ht
  obtain ⟨rfl, ht4⟩ := take_second ht
  have hne : w2.heap.size ≠ p := by omega
  have hne' : some w2.heap.size ≠ gb w3 p := fun e => by have := hg2 _ (by rw [← hgb]; exact e.symm); omega
  have d0 := ((World.cell?_of_block (a := ⟨w2.heap.size, 0, none⟩) (ht4.block _ (by rw [hz]; exact Nat.lt_succ_self _) hne hne'))).trans c0
  have d1 := ((World.cell?_of_block (a := ⟨w2.heap.size, 1, none⟩) (ht4.block _ (by rw [hz]; exact Nat.lt_succ_self _) hne hne'))).trans c1
  have HB4 := Lib.hid (HB3.out.trans (ht4.below HS3.out (Nat.le_refl _) (Nat.le_succ _)))
  have hz4 : w2.heap.size < w4.heap.size := by have := ht4.base.size; omega
  clear ht ht4 hne hne' hgb c0 c1 hb3
  go_wp2_with fail
  go_ret
  rw [hp]
  exact ⟨rfl, HB4.out.trans ((Below.refl _ _).alloc (by rw [← hp]; exact HB4.out.size) _)⟩
end Go.Proofs.Ytfeibjokifidmaa.Z
