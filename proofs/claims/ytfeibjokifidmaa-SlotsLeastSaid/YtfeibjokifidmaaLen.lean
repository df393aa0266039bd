/- sets.Len: the number of the elements. -/
import Derived.Test.YtfeibjokifidmaaAll
namespace Go.Proofs.Ytfeibjokifidmaa.Z
open Go.RowKit Go.Shelf Go.Proofs.Ytfeibjokifidmaa.M

attribute [local go_sem] Oper.semAt_some

set_option maxRecDepth 100000 in
set_option maxHeartbeats 2000000 in
theorem len_any (v : Value) (s : Sets) (w : World) (hs : SetAt w v s) : Calls Try.prog 24 #[v] w fun e w' => e = .returned (.int .i64 ((elems s).length : Nat)) ∧ Below w.heap.size w w' := by
  have hc0 : (w.alloc (.cells #[.int .i64 0] 3)).cell? ⟨w.heap.size, 0, none⟩ = some (.int .i64 0) := by simp
  have hf0 : (w.alloc (.cells #[.int .i64 0] 3)).frozen? ⟨w.heap.size, 0, none⟩ = false := by simp
  have HA := Lib.hid (all_any v s (w.alloc (.cells #[.int .i64 0] 3)) (hs.keep ((Below.refl _ _).alloc (Nat.le_refl _) _)))
  obtain ⟨l0, ad, c, rfl, _, _, _, _, _, _⟩ := hs
  refine (callsIn_wide (n := 6)).1 ?_
  have h1 : 1 ≤ 6 := by omega
  refine callsIn_of_wp_marks Try.func24 rfl trivial ?_ rfl
  simp only [Try.ntmps24, List.size_toArray, List.length_cons, List.length_nil, Nat.reduceAdd, Nat.reduceSub, Array.replicate_succ, Array.replicate_zero, List.push_toArray, List.append_toArray, List.nil_append, List.cons_append]
  gi_wp2_with fail
  refine ⟨trivial, (callsIn_wide.2 HA.out).mono ?_⟩
  rintro e w1 ⟨B, g, rfl, hall, hB1, hB2, hg1, hg2, hbel⟩
  rw [World.size_alloc] at hB1 hg1
  have hc1 := (hbel.cell (p := ⟨w.heap.size, 0, none⟩) (by simp)).trans hc0
  have hf1 := (hbel.frozen (p := ⟨w.heap.size, 0, none⟩) (by simp)).trans hf0
  have hb1 : Below w.heap.size w w1 := ((Below.refl _ _).alloc (Nat.le_refl _) _).trans (hbel.mono (by simp))
  obtain ⟨b, hb⟩ : ∃ b, w.heap.size = b := ⟨_, rfl⟩
  rw [hb] at hc1 hf1 hb1 hB1 hg1 ⊢
  have HALL := Lib.hid hall
  have HB := Lib.hid hb
  clear hbel hall hb hc0 hf0 HA
  gi_wp2_with fail
  refine wpIn_rangeFunc_ownF (F := Fence.wide) rfl h1 (gf := 58) (lb := #[.pointer (some ⟨B, 0, none⟩)]) rfl trivial (enters_of Try.func58 (by kernel_rfl) rfl)
    (all_stops Fence.wide 5 trivial rfl (by omega) B g s w1 HALL.out hB2 hg2) keepG_t (keepG_b hg2) (Below.refl _ _) (fun _ => rfl)
    (fun pre W => (W.cell? ⟨b, 0, none⟩ = some (.int .i64 ((pre.length : Nat) : Int)) ∧ W.frozen? ⟨b, 0, none⟩ = false) ∧ Below b w W)
    (fun _ _ _ => False)
    (OwnFrom.and (Own.from (fun s A B row hs hg hr => ⟨cell_kept hs.1 hg hr, (frozen_kept hs.1 hg hr).trans hs.2⟩) _) (ownFrom_below (by rw [HB.out]; exact Nat.le_refl _) (by omega)))
    (fun _ _ _ _ _ hs _ _ => hs)
    ⟨⟨hc1, hf1⟩, hb1⟩
    (fun x => { tmps := #[.slice ad l0.length c, undef, .int .i64 0, .pointer (some ⟨b, 0, none⟩), .slice ad l0.length c, .func (.func 58) #[] #[.pointer (some ⟨B, 0, none⟩)], .int .i64 ((x.1 : Nat) : Int), undef, undef, undef], defers := [] }) ?assign ?body ?done ?stop
  case assign =>
    intro l x W K hK
    gi_wp2
    rw [show (#[(6 : Tmp)].zip #[Value.int IntKind.i64 ((x.1 : Nat) : Int)]) = #[((6 : Tmp), Value.int IntKind.i64 ((x.1 : Nat) : Int))] from by rw [List.zip_toArray]; rfl]
    exact hK
  case body =>
    rintro l pre x W ⟨⟨hc, hf⟩, hB⟩ hlen
    gi_wp2
    refine ⟨KeepsOthers.setCell _ _ _, keepG_set (by omega), ⟨?_, by rw [World.frozen?_setCell]; exact hf⟩, hB.setCell (p := ⟨b, 0, none⟩) (Nat.le_refl _) _⟩
    rw [List.length_append]
    exact World.cell?_setCell_same' _ _ _ (by rw [hc]; rfl)
  case done =>
    rintro D ys W hD hys ⟨⟨hc, _⟩, hB⟩ hK
    gi_wp2
    refine ⟨by simp, .inl ⟨_, _, rfl, run_takeDeferred hK, ?_⟩⟩
    refine ⟨_, results_tmp rfl _ _ _, ?_, ?_⟩
    · show Ending.returned (.int .i64 ((ys.length : Nat) : Int)) = _
      rw [← hys, vals_length]
    · rw [HB.out]
      exact hB.trans (belowK_b (n₀ := b) (w := w1) (by omega) W D _ _ hD hK rfl rfl)
  case stop =>
    rintro D c pre W _ _ h _
    exact h.elim
end Go.Proofs.Ytfeibjokifidmaa.Z
