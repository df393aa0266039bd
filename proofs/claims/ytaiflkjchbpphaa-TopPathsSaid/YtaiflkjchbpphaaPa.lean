/- mesh.Corners of cells of any number of corners. -/
import Derived.Test.YtaiflkjchbpphaaSource
import Derived.Test.YtaiflkjchbpphaaGA
namespace Go.Proofs.Ytaiflkjchbpphaa.P
open Go.RowKit

/-- A floor in memory: np points in block pp, nc cells of three or four corners, their rows in block cc, row i in block q i. -/
structure Msh (pp np cc nc : Nat) (X Y : Nat → Int) (z qc q : Nat → Nat) (K : Nat → Nat → Nat) (w : World) : Prop where
  pts : Pts w pp np X Y
  row : ∀ i, i < nc → w.cell? ⟨cc, i, none⟩ = some (.slice (some ⟨q i, 0, none⟩) (z i) (qc i))
  kor : ∀ i j, i < nc → j < z i → w.cell? ⟨q i, j, none⟩ = some (.int .i64 (K i j))
  lt : ∀ i j, i < nc → j < z i → K i j < np
  z3 : ∀ i, i < nc → 3 ≤ z i ∧ z i ≤ 4
  pl : pp < w.heap.size
  cl : cc < w.heap.size
  ql : ∀ i, i < nc → q i < w.heap.size
theorem Msh.on {pp np cc nc : Nat} {X Y : Nat → Int} {z qc q : Nat → Nat} {K : Nat → Nat → Nat} {w w' : World} (h : Msh pp np cc nc X Y z qc q K w) (hb : Below w.heap.size w w') : Msh pp np cc nc X Y z qc q K w' :=
  ⟨h.pts.on hb h.pl, fun i hi => (hb.cell (p := ⟨cc, i, none⟩) h.cl).trans (h.row i hi), fun i j hi hj => (hb.cell (p := ⟨q i, j, none⟩) (h.ql i hi)).trans (h.kor i j hi hj), h.lt, h.z3, Nat.lt_of_lt_of_le h.pl hb.size, Nat.lt_of_lt_of_le h.cl hb.size, fun i hi => Nat.lt_of_lt_of_le (h.ql i hi) hb.size⟩

set_option maxRecDepth 8000 in
set_option maxHeartbeats 1000000 in
theorem corners_any (pp np pcap cc nc ccap i : Nat) (X Y : Nat → Int) (z qc q : Nat → Nat) (K : Nat → Nat → Nat) (w : World) (h : Msh pp np cc nc X Y z qc q K w) (hi : i < nc) :
    Calls Try.prog 24 #[.agg #[.slice (some ⟨pp, 0, none⟩) np pcap, .slice (some ⟨cc, 0, none⟩) nc ccap], .int .i64 i] w fun e w' => (∃ g cap, e = .returned (.slice (some ⟨g, 0, none⟩) (z i) cap) ∧ Pts w' g (z i) (fun j => X (K i j)) (fun j => Y (K i j)) ∧ w.heap.size ≤ g ∧ g < w'.heap.size) ∧ Below w.heap.size w w' := by
  obtain ⟨i0, hi0, hz0, hz1, hz2⟩ := info_parts Try.info24
  have HM := Lib.hid h
  have r0 := h.row i hi
  have cl := h.cl
  have hz3 := h.z3 i hi
  have i1 : ¬ (i : Int) < 0 := by omega
  have i2 : (i : Int) < nc := by omega
  obtain ⟨m, hm⟩ : ∃ m, z i = m := ⟨_, rfl⟩
  have HZ := Lib.hid hm
  rw [hm] at r0 hz3 ⊢
  obtain ⟨hm3, hm4⟩ := hz3
  clear h hm
  go_enter Try.func24, Try.ntmps24
  go_wp2_with fail
  obtain ⟨V, hV⟩ : ∃ V, w.alloc (Obj.cells #[.slice (some ⟨pp, 0, none⟩) np pcap, .slice (some ⟨cc, 0, none⟩) nc ccap] 28) = V := ⟨_, rfl⟩
  have hVb := Lib.hid (show Below w.heap.size w V from hV ▸ Below.al (Below.refl _ _) _)
  have v0 : V.cell? ⟨w.heap.size, 0, none⟩ = some (.slice (some ⟨pp, 0, none⟩) np pcap) := by rw [← hV]; simp [go_sem]
  have hVs : V.heap.size = w.heap.size + 1 := by rw [← hV]; simp
  try rw [hV]
  clear hV r0
  go_loopw [5, 23] (fun v5 v23 wr => ∃ j : Nat, v23 = .int .i64 j ∧ j ≤ m ∧ Hid (wr.ownsRow (w.heap.size + 1) 24 2 v5 j (flat (pl X Y (K i) j)) ∧ Below V.heap.size V wr)) (fun _ v23 _ => m - (intOf v23).toNat)
  case atStart => exact ⟨0, rfl, by omega, World.ownsRow_nil _ _ _ _, Below.refl _ _⟩
  case round =>
    obtain ⟨j, rfl, hj, hR⟩ := hrel
    by_cases h0 : j = m
    · subst h0
      go_wp2_with fail
      go_ret
      obtain ⟨g, cap, rfl, hg, hgl, hc, _, _, hcl, hf⟩ := owns_open hR.out.1 (by omega)
      refine ⟨⟨g, cap, rfl, fun k hk => ?_, by omega, hgl⟩, hVb.out.trans (hR.out.2.mono hVb.out.size)⟩
      obtain ⟨a, b⟩ := flat_get (pl X Y (K i) j) k (by rw [pl_length]; exact hk)
      rw [pl_at _ _ _ _ _ hk] at a b
      exact ⟨(hcl _ (by omega)).trans a, (hcl _ (by omega)).trans b⟩
    · have hj4 : j < m := by omega
      have j1 : (j : Int) < m := by omega
      have HV2 := hVb.out.trans (hR.out.2.mono hVb.out.size)
      have hk := (HV2.cell (p := ⟨q i, j, none⟩) (HM.out.ql i hi)).trans (HM.out.kor i j hi (by rw [HZ.out]; exact hj4))
      have hkl := HM.out.lt i j hi (by rw [HZ.out]; exact hj4)
      obtain ⟨x0, y0⟩ := HM.out.pts (K i j) hkl
      have x1 := (HV2.cell (p := ⟨pp, K i j * 2, none⟩) HM.out.pl).trans x0
      have y1 := (HV2.cell (p := ⟨pp, K i j * 2 + 1, none⟩) HM.out.pl).trans y0
      have p0 := (hR.out.2.cell (p := ⟨w.heap.size, 0, none⟩) (by simp only []; omega)).trans v0
      have hs2 := hR.out.2.size
      have hpl : pp < wr.heap.size := by have := HM.out.pl; omega
      have hwl : w.heap.size < wr.heap.size := by omega
      have hql : q i < wr.heap.size := by have := HM.out.ql i hi; omega
      obtain ⟨k, hkk⟩ : ∃ k, K i j = k := ⟨_, rfl⟩
      obtain ⟨x, hx⟩ : ∃ x, X (K i j) = x := ⟨_, rfl⟩
      obtain ⟨y, hy⟩ : ∃ y, Y (K i j) = y := ⟨_, rfl⟩
      rw [hx] at x1
      rw [hy] at y1
      rw [hkk] at hk hkl x1 y1
      have k1 : ¬ (k : Int) < 0 := by omega
      have k2 : (k : Int) < np := by omega
      have HXY := Lib.hid (And.intro hx hy)
      clear x0 y0 HV2 hx hy hkk
      go_wp2_with (at_builtin; refine wpList_append_own _ rfl _ _ 25 rfl (w.heap.size + 1) 24 i0 (.agg #[.int .i64 0, .int .i64 0]) 2 16 Try.underlying25 hi0 hz0 hz1 hz2 rfl (by decide) _ j _ rfl (hR.out.1.alloc _) ⟨wr.heap.size, 0, none⟩ 1 1 [.int .i64 x, .int .i64 y] rfl rfl (new_two _ _ _ _) (two_ok rfl rfl) (by unfold maxLen; omega) (by omega) (by simp; omega) ?_)
      intro v' w' own' hgr _
      have HN : Hid (w'.ownsRow (w.heap.size + 1) 24 2 v' (j + 1) (flat (pl X Y (K i) (j + 1))) ∧ Below V.heap.size V w') := by
        refine ⟨?_, ?_⟩
        · rw [pl_succ, flat_append, HXY.out.1, HXY.out.2]; exact own'
        · exact (hR.out.2.alloc (by omega) _).grown hgr (by simp; omega) (fun k hk => by have := (hR.out.1.lt k hk).1; omega)
      clear own' hgr
      go_wp2_with fail
      go_roundw
      case rel => exact ⟨j + 1, rfl, by omega, HN.out⟩
      case measure => simp [intOf] <;> omega
end Go.Proofs.Ytaiflkjchbpphaa.P
