/- mesh.Check of cells of three or four corners. -/
import Derived.Test.YtaiflkjchbpphaaPa
namespace Go.Proofs.Ytaiflkjchbpphaa.P
open Go.RowKit

/-- What a floor must be, to be valid. -/
structure Good (np nc : Nat) (X Y : Nat → Int) (z : Nat → Nat) (K : Nat → Nat → Nat) : Prop where
  hnp : np ≤ 200
  hnc : nc ≤ 100
  bd : ∀ k, k < np → (-65536000 ≤ X k ∧ X k ≤ 65536000) ∧ (-65536000 ≤ Y k ∧ Y k ≤ 65536000)
  cv : ∀ i a b, i < nc → a < z i → b < z i → b ≠ a → b ≠ (a + 1) % z i → 0 < ara (X (K i a)) (Y (K i a)) (X (K i ((a + 1) % z i))) (Y (K i ((a + 1) % z i))) (X (K i b)) (Y (K i b))
  ds : ∀ i j i' j', i < nc → i' < nc → j < z i → j' < z i' → K i j = K i' j' → K i ((j + 1) % z i) = K i' ((j' + 1) % z i') → i = i' ∧ j = j'

set_option maxRecDepth 8000 in
set_option maxHeartbeats 4000000 in
theorem mcheck_any (pp np pcap cc nc ccap : Nat) (X Y : Nat → Int) (z qc q : Nat → Nat) (K : Nat → Nat → Nat) (w : World) (h : Msh pp np cc nc X Y z qc q K w) (hgood : Good np nc X Y z K) :
    Calls Try.prog 22 #[.agg #[.slice (some ⟨pp, 0, none⟩) np pcap, .slice (some ⟨cc, 0, none⟩) nc ccap]] w fun e w' => e = .returned (.int .i64 0) ∧ Below w.heap.size w w' := by
  have HM := Lib.hid h
  have HG := Lib.hid hgood
  have n1 := hgood.hnp
  have n2 := hgood.hnc
  clear h hgood
  go_enter Try.func22, Try.ntmps22
  go_wp2_with fail
  obtain ⟨mb, hmb⟩ : ∃ m, w.heap.size + 1 = m := ⟨_, rfl⟩
  obtain ⟨V, hV⟩ : ∃ V, w.alloc (Obj.cells #[.slice (some ⟨pp, 0, none⟩) np pcap, .slice (some ⟨cc, 0, none⟩) nc ccap] 28) = V := ⟨_, rfl⟩
  have hVb := Lib.hid (show Below w.heap.size w V from hV ▸ Below.al (Below.refl _ _) _)
  have hVs : V.heap.size = mb := by rw [← hV, ← hmb]; simp
  have v0 : V.cell? ⟨w.heap.size, 0, none⟩ = some (.slice (some ⟨pp, 0, none⟩) np pcap) := by rw [← hV]; simp [go_sem]
  have v1 : V.cell? ⟨w.heap.size, 1, none⟩ = some (.slice (some ⟨cc, 0, none⟩) nc ccap) := by rw [← hV]; simp [go_sem]
  have hwm : w.heap.size < mb := by omega
  have hnew : M2 (V.alloc (.map #[] 0)) mb [] := by have := M2.new V; rw [hVs] at this; exact this
  simp only [hmb]
  rw [hV]
  clear hV
  go_loopw [26] (fun v26 wr => ∃ i : Nat, v26 = .int .i64 i ∧ i ≤ nc ∧ Hid (Below mb V wr ∧ mb < wr.heap.size ∧ ∃ L, M2 wr mb L ∧ ∀ x ∈ L, ∃ c j, c < i ∧ j < z c ∧ x.1 = (K c j : Int) ∧ x.2.1 = (K c ((j + 1) % z c) : Int))) (fun v26 _ => nc - (intOf v26).toNat)
  case atStart => exact ⟨0, rfl, Nat.zero_le _, (Below.refl _ _).alloc (by omega) _, by simp; omega, [], hnew, fun x hx => by simp at hx⟩
  case round =>
    obtain ⟨i, rfl, hi, hR⟩ := hrel
    have HVw : Hid (Below w.heap.size w wr) := hVb.out.trans (hR.out.1.mono (by omega))
    have c0 := (hR.out.1.cell (p := ⟨w.heap.size, 0, none⟩) hwm).trans v0
    have c1 := (hR.out.1.cell (p := ⟨w.heap.size, 1, none⟩) hwm).trans v1
    have hws : w.heap.size < wr.heap.size := by have := hR.out.2.1; omega
    by_cases h0 : i = nc
    · have i1 : ¬ (i : Int) < (nc : Int) := by omega
      clear h0
      go_wp2_with fail
      go_ret
      exact ⟨rfl, HVw.out⟩
    · have hil : i < nc := by omega
      have i1 : (i : Int) < (nc : Int) := by omega
      have r0 := (HVw.out.cell (p := ⟨cc, i, none⟩) HM.out.cl).trans (HM.out.row i hil)
      have hz3 := HM.out.z3 i hil
      obtain ⟨m, hm⟩ : ∃ m, z i = m := ⟨_, rfl⟩
      have HZ := Lib.hid hm
      rw [hm] at r0 hz3
      obtain ⟨hm3, hm4⟩ := hz3
      have hmp : (0 : Int) < m := by omega
      clear hm
      have hccs : cc < wr.heap.size := Nat.lt_of_lt_of_le HM.out.cl HVw.out.size
      clear h0
      go_wp2_with fail
      go_loopw [33] (fun v33 wx => ∃ j : Nat, v33 = .int .i64 j ∧ j ≤ m ∧ wx = wr) (fun v33 _ => m - (intOf v33).toNat)
      case atStart => exact ⟨0, rfl, by omega, rfl⟩
      case round =>
        obtain ⟨j, rfl, hj, rfl⟩ := hrel
        by_cases h0 : j = m
        · have j1 : ¬ (j : Int) < m := by omega
          clear h0
          have hMw := HM.out.on HVw.out
          have hcor := corners_any pp np pcap cc nc ccap i X Y z qc q K wr hMw hil
          rw [HZ.out] at hcor
          clear hMw
          go_wp2_with fail
          refine hcor.mono ?_
          rintro e w1 ⟨⟨g, cap, rfl, hpts, hg1, hg2⟩, hb1⟩
          have hpc := pcheck_any g m cap _ _ w1 hpts hg2 (by omega) (by omega) (fun k hk => HG.out.bd _ (HM.out.lt i k hil (by rw [HZ.out]; exact hk))) (fun a b ha hb h1 h2 => by
            have := HG.out.cv i a b hil (by rw [HZ.out]; exact ha) (by rw [HZ.out]; exact hb) h1 (by rw [HZ.out]; exact h2)
            rw [HZ.out] at this
            exact this)
          have HB1 := Lib.hid hb1
          clear hb1 hpts hcor
          go_wp2_with fail
          refine hpc.mono ?_
          rintro e w2 ⟨rfl, hb2⟩
          have HB2 : Hid (Below wr.heap.size wr w2) := HB1.out.trans (hb2.mono HB1.out.size)
          clear hb2 hpc
          go_wp2_with fail
          go_loopw [55] (fun v55 wx => ∃ j : Nat, v55 = .int .i64 j ∧ j ≤ m ∧ Hid (Below mb V wx ∧ mb < wx.heap.size ∧ ∃ L, M2 wx mb L ∧ ∀ x ∈ L, ∃ c d, (c < i ∨ (c = i ∧ d < j)) ∧ c ≤ i ∧ d < z c ∧ x.1 = (K c d : Int) ∧ x.2.1 = (K c ((d + 1) % z c) : Int))) (fun v55 _ => m - (intOf v55).toNat)
          case atStart =>
            obtain ⟨h1, h2, L, h3, h4⟩ := hR.out
            refine ⟨0, rfl, by omega, h1.trans (HB2.out.mono (by omega)), Nat.lt_of_lt_of_le h2 HB2.out.size, L, h3.kept (HB2.out.block mb h2), fun x hx => ?_⟩
            obtain ⟨c, d, h5, h6, h7, h8⟩ := h4 x hx
            exact ⟨c, d, .inl h5, by omega, h6, h7, h8⟩
          case round =>
            obtain ⟨j, rfl, hj, hS⟩ := hrel
            have HVx : Hid (Below w.heap.size w wr) := hVb.out.trans (hS.out.1.mono (by omega))
            by_cases h0 : j = m
            · have j1 : ¬ (j : Int) < m := by omega
              have hjm := Lib.hid h0
              clear h0
              go_wp2_with fail
              go_roundw
              case rel =>
                obtain ⟨h1, h2, L, h3, h4⟩ := hS.out
                refine ⟨i + 1, rfl, by omega, h1, h2, L, h3, fun x hx => ?_⟩
                obtain ⟨c, d, h5, h6, h7, h8, h9⟩ := h4 x hx
                exact ⟨c, d, by omega, h7, h8, h9⟩
              case measure => simp [intOf] <;> omega
            · have hj4 : j < m := by omega
              have j1 : (j : Int) < m := by omega
              obtain ⟨jn, hjn⟩ : ∃ jn, (j + 1) % m = jn := ⟨_, rfl⟩
              have hjn4 : jn < m := by rw [← hjn]; exact Nat.mod_lt _ (by omega)
              have e1 : ((j : Int) + 1) % (m : Int) = (jn : Int) := by rw [← hjn]; push_cast; rfl
              have e2 : ((j : Int) + 1).tmod (m : Int) = (jn : Int) := by rw [Int.tmod_eq_emod_of_nonneg (by omega)]; exact e1
              have ka := (HVx.out.cell (p := ⟨q i, j, none⟩) (HM.out.ql i hil)).trans (HM.out.kor i j hil (by rw [HZ.out]; exact hj4))
              have kb := (HVx.out.cell (p := ⟨q i, jn, none⟩) (HM.out.ql i hil)).trans (HM.out.kor i jn hil (by rw [HZ.out]; exact hjn4))
              have hqs : q i < wr.heap.size := Nat.lt_of_lt_of_le (HM.out.ql i hil) HVx.out.size
              obtain ⟨h1, h2, L, h3, h4⟩ := id hS.out
              have hno : find2 L (K i j) (K i jn) = none := find2_none (fun x hx h5 h6 => by
                obtain ⟨c, d, h7, h8, h9, h10, h11⟩ := h4 x hx
                rw [h5] at h10
                rw [h6, ← hjn] at h11
                obtain ⟨h12, h13⟩ := HG.out.ds i j c d hil (by omega) (by rw [HZ.out]; exact hj4) h9 (by omega) (by rw [HZ.out]; omega)
                omega)
              obtain ⟨a, ha⟩ : ∃ a, K i j = a := ⟨_, rfl⟩
              obtain ⟨b, hb⟩ : ∃ b, K i jn = b := ⟨_, rfl⟩
              rw [ha] at ka
              rw [hb] at kb
              rw [ha, hb] at hno
              have h3' : M2 (wr.alloc (Obj.cells #[Value.int IntKind.i64 a, Value.int IntKind.i64 b] 90)) mb L := h3.kept ((Below.al (Below.refl wr.heap.size wr) _).block mb h2)
              have hlook := look2 88 4 mb L (.bool false) _ Try.underlying88 (by kernel_rfl) h3' a b false
              rw [hno] at hlook
              obtain ⟨w5, hput, hM5, hg5⟩ := put2 88 4 mb L (.bool true) _ Try.underlying88 h3' a b hno
              have HN : Hid (Below mb V w5 ∧ mb < w5.heap.size ∧ ∃ L, M2 w5 mb L ∧ ∀ x ∈ L, ∃ c d, (c < i ∨ (c = i ∧ d < j + 1)) ∧ c ≤ i ∧ d < z c ∧ x.1 = (K c d : Int) ∧ x.2.1 = (K c ((d + 1) % z c) : Int)) := by
                refine ⟨(h1.alloc (by omega) _).grown hg5 (by simp; omega) (fun k hk => by cases hk; exact Nat.le_refl _), Nat.lt_of_lt_of_le h2 (by have := hg5.size; simp at this; omega), _, hM5, fun x hx => ?_⟩
                rcases List.mem_append.1 hx with hx | hx
                · obtain ⟨c, d, h7, h8⟩ := h4 x hx
                  exact ⟨c, d, by omega, h8⟩
                · simp only [List.mem_singleton] at hx
                  subst hx
                  exact ⟨i, j, .inr ⟨rfl, by omega⟩, Nat.le_refl _, by rw [HZ.out]; exact hj4, by rw [ha], by rw [HZ.out, hjn, hb]⟩
              simp only [Option.getD_none, Bool.false_eq_true, if_false] at hlook
              unfold key2 at hlook hput
              clear h1 h3 h4 h3' hno hM5 hg5 ha hb
              go_wp2_with fail
              go_roundw
              case rel => exact ⟨j + 1, rfl, by omega, HN.out⟩
              case measure => simp [intOf] <;> omega
        · have hj4 : j < m := by omega
          have j1 : (j : Int) < m := by omega
          have ka := (HVw.out.cell (p := ⟨q i, j, none⟩) (HM.out.ql i hil)).trans (HM.out.kor i j hil (by rw [HZ.out]; exact hj4))
          have hkl := HM.out.lt i j hil (by rw [HZ.out]; exact hj4)
          have hqs : q i < wr.heap.size := Nat.lt_of_lt_of_le (HM.out.ql i hil) HVw.out.size
          obtain ⟨a, ha⟩ : ∃ a, K i j = a := ⟨_, rfl⟩
          rw [ha] at ka hkl
          have k1 : ¬ (a : Int) < 0 := by omega
          have k2 : (a : Int) < np := by omega
          clear ha
          go_wp2_with fail
          go_roundw
          case rel => exact ⟨j + 1, rfl, by omega, by first | rfl | trivial⟩
          case measure => simp [intOf] <;> omega
end Go.Proofs.Ytaiflkjchbpphaa.P
