/- mesh.Next: the walk. -/
import Derived.Test.YtaiflkjchbpphaaNext
namespace Go.Proofs.Ytaiflkjchbpphaa
open Go.RowKit

/-- Rows of four numbers, and a row of them. -/
def rowsOf (r cp : Nat → Nat) (i : Nat) : List Value := (List.range i).map fun c => .slice (some ⟨r c, 0, none⟩) 4 (cp c)
theorem rowsOf_succ (r cp : Nat → Nat) (i : Nat) : rowsOf r cp (i + 1) = rowsOf r cp i ++ [.slice (some ⟨r i, 0, none⟩) 4 (cp i)] := by simp [rowsOf, List.range_succ]
theorem rowsOf_get (r cp : Nat → Nat) (i k : Nat) (h : k < i) : (rowsOf r cp i)[k]? = some (.slice (some ⟨r k, 0, none⟩) 4 (cp k)) := by simp [rowsOf, h]
theorem rowsOf_congr {r cp r' cp' : Nat → Nat} {i : Nat} (h : ∀ c, c < i → r c = r' c ∧ cp c = cp' c) : rowsOf r cp i = rowsOf r' cp' i := by
  unfold rowsOf
  apply List.map_congr_left
  intro c hc
  obtain ⟨h1, h2⟩ := h c (List.mem_range.1 hc)
  rw [h1, h2]
def nums4 (N : Nat → Nat → Int) (i j : Nat) : List Value := (List.range j).map fun k => Value.int .i64 (N i k)
theorem nums4_succ (N : Nat → Nat → Int) (i j : Nat) : nums4 N i (j + 1) = nums4 N i j ++ [.int .i64 (N i j)] := by simp [nums4, List.range_succ]
theorem nums4_get (N : Nat → Nat → Int) (i j k : Nat) (h : k < j) : (nums4 N i j)[k]? = some (.int .i64 (N i k)) := by simp [nums4, h]

theorem Try.info3' : (Try.prog.info? 3).map (fun i => (i.zero, i.size, i.bytes)) = some (some (.int .i64 0), 1, 8) := by kernel_rfl
theorem Try.info22 : (Try.prog.info? 22).map (fun i => (i.zero, i.size, i.bytes)) = some (some (.slice none 0 0), 1, 24) := by kernel_rfl

theorem owns_same {w w' : World} {B : Nat} {e : TypeId} {s g n cap : Nat} {xs : List Value} (h : w.ownsRow B e s (.slice (some ⟨g, 0, none⟩) n cap) n xs) (hk : w'.heap[g]? = w.heap[g]?) : w'.ownsRow B e s (.slice (some ⟨g, 0, none⟩) n cap) n xs := by
  obtain ⟨h1, h2⟩ := h
  rcases h2 with h2 | ⟨g', cap', cur, hv, hg, hh, h3⟩
  · exact ⟨h1, .inl h2⟩
  · injection hv with e1 e2 e3
    injection e1 with e1
    injection e1 with e1
    subst e1
    exact ⟨h1, .inr ⟨g, cap', cur, by rw [e3], hg, hk.trans hh, h3⟩⟩
theorem own_ne {w : World} {B B' : Nat} {e e' : TypeId} {s s' g n n' cap : Nat} {v : Value} {xs xs' : List Value} (h : w.ownsRow B e s v n' xs') (k : w.ownsRow B' e' s' (.slice (some ⟨g, 0, none⟩) n cap) n xs) (he : e ≠ e') : v.ownBlock ≠ some g := by
  rcases h.2 with ⟨rfl, _⟩ | ⟨g', cap', cur, rfl, h2⟩
  · simp [Value.ownBlock]
  · intro hg
    have e1 : g' = g := by simpa [Value.ownBlock] using hg
    subst e1
    exact owns_ne ⟨h.1, .inr ⟨g', cap', cur, rfl, h2⟩⟩ k he rfl

theorem rows_step {Wi wr w' : World} {Bi Vb k g cap : Nat} {r cp : Nat → Nat} {N : Nat → Nat → Int} {v10 v' : Value} {o : Obj} (hs : Wi.heap.size = Bi) (hb : Below Bi Wi wr)
    (h2 : Wi.ownsRow Vb 22 1 v10 k (rowsOf r cp k)) (h3 : ∀ c, c < k → Wi.ownsRow Vb 3 1 (.slice (some ⟨r c, 0, none⟩) 4 (cp c)) 4 (nums4 N c 4))
    (h4 : wr.ownsRow Vb 3 1 (.slice (some ⟨g, 0, none⟩) 4 cap) 4 (nums4 N k 4)) (hg : (wr.alloc o).grownBy w' v10.ownBlock) (ho : w'.ownsRow Vb 22 1 v' (k + 1) (rowsOf r cp k ++ [.slice (some ⟨g, 0, none⟩) 4 cap])) :
    ∃ r' cp', w'.ownsRow Vb 22 1 v' (k + 1) (rowsOf r' cp' (k + 1)) ∧ ∀ c, c < k + 1 → w'.ownsRow Vb 3 1 (.slice (some ⟨r' c, 0, none⟩) 4 (cp' c)) 4 (nums4 N c 4) := by
  have hw : ∀ c g' cap', wr.ownsRow Vb 3 1 (.slice (some ⟨g', 0, none⟩) 4 cap') 4 (nums4 N c 4) → w'.ownsRow Vb 3 1 (.slice (some ⟨g', 0, none⟩) 4 cap') 4 (nums4 N c 4) := by
    intro c g' cap' h5
    have h6 := h5.alloc o
    obtain ⟨_, _, _, _, hkk⟩ := hg
    exact (owns_same h6 (hkk g' (owns_at h6).2.1 (fun e => own_ne (owns_below h2 hb (by omega)) h5 (by decide) e.symm)))
  refine ⟨fun c => if c = k then g else r c, fun c => if c = k then cap else cp c, ?_, fun c hc => ?_⟩
  · rw [rowsOf_succ, rowsOf_congr (r' := r) (cp' := cp) (fun c hc => by simp only [if_neg (show ¬ c = k by omega), and_self])]
    simp only [if_true]
    exact ho
  · by_cases h : c = k
    · subst h
      simp only [if_true]
      exact hw _ _ _ h4
    · simp only [if_neg h]
      exact hw _ _ _ (owns_below (h3 c (by omega)) hb (by omega))

/-- What Next says. -/
def Nexted (nc : Nat) (K : Nat → Nat → Nat) (w : World) (e : Ending) (w' : World) : Prop :=
  ∃ (v : Value) (r cp : Nat → Nat) (N : Nat → Nat → Int), e = .returned (.tuple #[v, .int .i64 0]) ∧ Nbr nc K N ∧ w'.ownsRow w.heap.size 22 1 v nc (rowsOf r cp nc) ∧ (∀ c, c < nc → w'.ownsRow w.heap.size 3 1 (.slice (some ⟨r c, 0, none⟩) 4 (cp c)) 4 (nums4 N c 4)) ∧ Below w.heap.size w w'

set_option maxRecDepth 8000 in
set_option maxHeartbeats 8000000 in
theorem next_any (pp np pcap cc nc ccap : Nat) (X Y : Nat → Int) (q : Nat → Nat) (K : Nat → Nat → Nat) (w : World) (h : Msh pp np cc nc X Y q K w) (hgood : Good np nc X Y K) :
    Calls Try.prog 25 #[.agg #[.slice (some ⟨pp, 0, none⟩) np pcap, .slice (some ⟨cc, 0, none⟩) nc ccap]] w (Nexted nc K w) := by
  obtain ⟨i0, hi0, hz0, hz1, hz2⟩ := info_parts Try.info3'
  obtain ⟨i5, hi5, hy0, hy1, hy2⟩ := info_parts Try.info22
  have HM := Lib.hid h
  have HG := Lib.hid hgood
  have n1 := hgood.hnp
  have n2 := hgood.hnc
  have hchk := fun w' (hb : Below w.heap.size w w') => mcheck_any pp np pcap cc nc ccap X Y q K w' (h.on hb) hgood
  clear h hgood
  go_enter Try.func25, Try.ntmps25
  go_wp2_with (go_at_call 22; (with_reducible refine (hchk _ (Below.al (Below.refl _ _) _)).mono ?_); rintro e w1 ⟨rfl, hb⟩; obtain ⟨l0, m0, rfl⟩ := ext_of hb; clear hb)
  obtain ⟨V, hV⟩ : ∃ V, ext (w.alloc (Obj.cells #[.slice (some ⟨pp, 0, none⟩) np pcap, .slice (some ⟨cc, 0, none⟩) nc ccap] 28)) l0 m0 = V := ⟨_, rfl⟩
  have hVb := Lib.hid (show Below w.heap.size w V from hV ▸ Below.ex (Below.al (Below.refl _ _) _) _ _)
  obtain ⟨mb, hmb⟩ : ∃ m, V.heap.size = m := ⟨_, rfl⟩
  have hwm : w.heap.size < mb := by rw [← hmb, ← hV, size_ext]; simp; omega
  have v0 : V.cell? ⟨w.heap.size, 0, none⟩ = some (.slice (some ⟨pp, 0, none⟩) np pcap) := by rw [← hV]; simp [go_sem]
  have v1 : V.cell? ⟨w.heap.size, 1, none⟩ = some (.slice (some ⟨cc, 0, none⟩) nc ccap) := by rw [← hV]; simp [go_sem]
  have hnew : M2 (V.alloc (.map #[] 0)) mb [] := by have := M2.new V; rw [hmb] at this; exact this
  have hms : w.heap.size + 1 + l0.length = mb := by rw [← hmb, ← hV, size_ext]; simp
  simp only [hms]
  rw [hV]
  clear hV hms hchk
  go_loopw [27] (fun v27 wr => ∃ i : Nat, v27 = .int .i64 i ∧ i ≤ nc ∧ Hid (Below mb V wr ∧ mb < wr.heap.size ∧ ∃ L, M2 wr mb L ∧ AllSides K (fun c d => c < i ∧ d < 4) L)) (fun v27 _ => nc - (intOf v27).toNat)
  case atStart => exact ⟨0, rfl, Nat.zero_le _, (Below.refl _ _).alloc (by omega) _, by simp; omega, [], hnew, fun x hx => by simp at hx, fun c d hcd => by omega⟩
  case round =>
    obtain ⟨i, rfl, hi, hR⟩ := hrel
    have HVw : Hid (Below w.heap.size w wr) := hVb.out.trans (hR.out.1.mono (by omega))
    have c0 := (hR.out.1.cell (p := ⟨w.heap.size, 0, none⟩) hwm).trans v0
    have c1 := (hR.out.1.cell (p := ⟨w.heap.size, 1, none⟩) hwm).trans v1
    have hws : w.heap.size < wr.heap.size := by have := hR.out.2.1; omega
    by_cases h0 : i = nc
    · have i1 : ¬ (i : Int) < (nc : Int) := by omega
      subst h0
      obtain ⟨hr1, hr2, L, hr3, hr4⟩ := id hR.out
      have HN := Lib.hid (nbr_of hr4 HG.out.ds)
      have HL := Lib.hid (And.intro hr3 hr4)
      obtain ⟨W0, rfl⟩ : ∃ W, W = wr := ⟨wr, rfl⟩
      obtain ⟨Vb, hVb2⟩ : ∃ b, W0.heap.size = b := ⟨_, rfl⟩
      rw [hVb2] at hr2
      clear hr1 hr3 hr4 hR
      go_wp2_with fail
      go_loopw [10, 56] (fun v10 v56 wx => ∃ k : Nat, v56 = .int .i64 k ∧ k ≤ i ∧ Hid (Below Vb W0 wx ∧ ∃ r cp, wx.ownsRow Vb 22 1 v10 k (rowsOf r cp k) ∧ ∀ c, c < k → wx.ownsRow Vb 3 1 (.slice (some ⟨r c, 0, none⟩) 4 (cp c)) 4 (nums4 (nv L K) c 4))) (fun _ v56 _ => i - (intOf v56).toNat)
      case atStart => exact ⟨0, rfl, Nat.zero_le _, Below.refl _ _, fun _ => 0, fun _ => 0, World.ownsRow_nil _ _ _ _, fun c hc => by omega⟩
      case round =>
        obtain ⟨k, rfl, hk, hS⟩ := hrel
        have HW2 : Hid (Below w.heap.size w wr) := HVw.out.trans (hS.out.1.mono (by omega))
        have d0 := (hS.out.1.cell (p := ⟨w.heap.size, 0, none⟩) (by simp only []; omega)).trans c0
        have d1 := (hS.out.1.cell (p := ⟨w.heap.size, 1, none⟩) (by simp only []; omega)).trans c1
        by_cases h0 : k = i
        · have k1 : ¬ (k : Int) < (i : Int) := by omega
          subst h0
          go_wp2_with fail
          obtain ⟨r, cp, hr1, hr2⟩ := hS.out.2
          refine bodyPost_ret (v := .tuple #[u10, .int .i64 0]) (by simp [results, Try.results25, go_sem]) rfl ⟨_, r, cp, nv L K, rfl, HN, owns_mono hr1 (by omega), fun c hc => owns_mono (hr2 c hc) (by omega), HW2.out⟩
        · have hki : k < i := by omega
          have k1 : (k : Int) < (i : Int) := by omega
          have r0 := (HW2.out.cell (p := ⟨cc, k, none⟩) HM.out.cl).trans (HM.out.row k hki)
          have hccs : cc < wr.heap.size := Nat.lt_of_lt_of_le HM.out.cl HW2.out.size
          obtain ⟨Wi, rfl⟩ : ∃ W, W = wr := ⟨wr, rfl⟩
          obtain ⟨Bi, hBi⟩ : ∃ b, Wi.heap.size = b := ⟨_, rfl⟩
          have hVB : Vb ≤ Bi := by have := hS.out.1.size; omega
          clear h0
          go_wp2_with fail
          go_loopw [13, 62] (fun v13 v62 wx => ∃ j : Nat, v62 = .int .i64 j ∧ j ≤ 4 ∧ Hid (Below Bi Wi wx ∧ wx.ownsRow Bi 3 1 v13 j (nums4 (nv L K) k j))) (fun _ v62 _ => 4 - (intOf v62).toNat)
          case atStart => exact ⟨0, rfl, by omega, Below.refl _ _, World.ownsRow_nil _ _ _ _⟩
          case round =>
            obtain ⟨j, rfl, hj, hT⟩ := hrel
            have HW3 : Hid (Below w.heap.size w wr) := HW2.out.trans (hT.out.1.mono (by omega))
            by_cases h0 : j = 4
            · subst h0
              obtain ⟨g, cap, rfl, hgB, _⟩ := owns_open hT.out.2 (by omega)
              obtain ⟨r, cp, hr1, hr3⟩ := id hS.out.2
              have HR := Lib.hid (And.intro hr1 hr3)
              have hown := Lib.hid (owns_below hr1 hT.out.1 (Nat.le_of_eq hBi))
              have hsz := Lib.hid (hT.out.1.size)
              clear hr1 hr3
              go_wp2_with (at_builtin; refine wpList_append_own _ rfl _ _ 26 rfl Vb 22 i5 (.slice none 0 0) 1 24 Try.underlying26 hi5 hy0 hy1 hy2 rfl (by decide) _ k _ rfl (hown.out.alloc _) ⟨wr.heap.size, 0, none⟩ 1 1 [.slice (some ⟨g, 0, none⟩) 4 cap] rfl rfl (new_one _ _ _) (one_ok rfl) (by unfold maxLen; omega) (by omega) (by have := hsz.out; simp; omega) ?_)
              intro v' w' own' hgr _
              have HN2 : Hid (Below Vb W0 w' ∧ ∃ r cp, w'.ownsRow Vb 22 1 v' (k + 1) (rowsOf r cp (k + 1)) ∧ ∀ c, c < k + 1 → w'.ownsRow Vb 3 1 (.slice (some ⟨r c, 0, none⟩) 4 (cp c)) 4 (nums4 (nv L K) c 4)) :=
                ⟨((hS.out.1.trans (hT.out.1.mono (by omega))).alloc (by have := hsz.out; omega) _).grown hgr (by have := hsz.out; simp; omega) (fun g hg => (hown.out.lt g hg).1), rows_step hBi hT.out.1 HR.out.1 HR.out.2 (owns_mono hT.out.2 (by omega)) hgr own'⟩
              clear own' hgr
              go_wp2_with fail
              go_roundw
              case rel => exact ⟨k + 1, rfl, by omega, HN2.out⟩
              case measure => simp [intOf] <;> omega
            · have hj4 : j < 4 := by omega
              have j1 : (j : Int) < 4 := by omega
              obtain ⟨jn, hjn⟩ : ∃ jn, (j + 1) % 4 = jn := ⟨_, rfl⟩
              have hjn4 : jn < 4 := by omega
              have e1 : ((j : Int) + 1) % 4 = (jn : Int) := by omega
              have e2 : ((j : Int) + 1).tmod 4 = (jn : Int) := by rw [Int.tmod_eq_emod_of_nonneg (by omega)]; exact e1
              have ka := (HW3.out.cell (p := ⟨q k, j, none⟩) (HM.out.ql k hki)).trans (HM.out.kor k j hki hj4)
              have kb := (HW3.out.cell (p := ⟨q k, jn, none⟩) (HM.out.ql k hki)).trans (HM.out.kor k jn hki hjn4)
              have hqs : q k < wr.heap.size := Nat.lt_of_lt_of_le (HM.out.ql k hki) HW3.out.size
              have hM5 : M2 wr mb L := HL.out.1.kept ((hT.out.1.block mb (by omega)).trans (hS.out.1.block mb (by omega)))
              have hlook := look2 93 3 mb L (.int .i64 0) _ Try.underlying93 (by kernel_rfl) hM5 (K k jn) (K k j) true
              have hcase := look_nv HL.out.2 k j
              rw [hjn] at hcase
              obtain ⟨a, ha⟩ : ∃ a, K k j = a := ⟨_, rfl⟩
              obtain ⟨b, hb⟩ : ∃ b, K k jn = b := ⟨_, rfl⟩
              rw [ha] at ka hlook hcase
              rw [hb] at kb hlook hcase
              unfold key2 at hlook
              clear hM5 ha hb
              have hwsz : wr.heap.size ≥ Bi := by have := hT.out.1.size; omega
              rcases hcase with ⟨hf, hnv⟩ | ⟨c, hf, hnv⟩
              · rw [hf] at hlook
                simp only [if_true, Option.getD_none, Option.isSome_none] at hlook
                go_wp2_with (at_builtin; refine wpList_append_own _ rfl _ _ 22 rfl Bi 3 i0 (.int .i64 0) 1 8 Try.underlying22 hi0 hz0 hz1 hz2 rfl (by decide) _ j _ rfl (hT.out.2.alloc _) ⟨wr.heap.size, 0, none⟩ 1 1 [.int .i64 (-1)] rfl rfl (new_one _ _ _) (one_ok rfl) (by unfold maxLen; omega) (by omega) (by simp; omega) ?_)
                intro v' w' own' hgr _
                have HN2 : Hid (Below Bi Wi w' ∧ w'.ownsRow Bi 3 1 v' (j + 1) (nums4 (nv L K) k (j + 1))) :=
                  ⟨(hT.out.1.alloc (by omega) _).grown hgr (by simp; omega) (fun g hg => (hT.out.2.lt g hg).1), by rw [nums4_succ, hnv]; exact own'⟩
                clear own' hgr
                go_wp2_with fail
                go_roundw
                case rel => exact ⟨j + 1, rfl, by omega, HN2.out⟩
                case measure => simp [intOf] <;> omega
              · rw [hf] at hlook
                simp only [if_true, Option.getD_some, Option.isSome_some] at hlook
                go_wp2_with (at_builtin; refine wpList_append_own _ rfl _ _ 22 rfl Bi 3 i0 (.int .i64 0) 1 8 Try.underlying22 hi0 hz0 hz1 hz2 rfl (by decide) _ j _ rfl (hT.out.2.alloc _) ⟨wr.heap.size, 0, none⟩ 1 1 [.int .i64 c] rfl rfl (new_one _ _ _) (one_ok rfl) (by unfold maxLen; omega) (by omega) (by simp; omega) ?_)
                intro v' w' own' hgr _
                have HN2 : Hid (Below Bi Wi w' ∧ w'.ownsRow Bi 3 1 v' (j + 1) (nums4 (nv L K) k (j + 1))) :=
                  ⟨(hT.out.1.alloc (by omega) _).grown hgr (by simp; omega) (fun g hg => (hT.out.2.lt g hg).1), by rw [nums4_succ, hnv]; exact own'⟩
                clear own' hgr
                go_wp2_with fail
                go_roundw
                case rel => exact ⟨j + 1, rfl, by omega, HN2.out⟩
                case measure => simp [intOf] <;> omega
    · have hil : i < nc := by omega
      have i1 : (i : Int) < (nc : Int) := by omega
      have r0 := (HVw.out.cell (p := ⟨cc, i, none⟩) HM.out.cl).trans (HM.out.row i hil)
      have hccs : cc < wr.heap.size := Nat.lt_of_lt_of_le HM.out.cl HVw.out.size
      clear h0
      go_wp2_with fail
      go_loopw [34] (fun v34 wx => ∃ j : Nat, v34 = .int .i64 j ∧ j ≤ 4 ∧ Hid (Below mb V wx ∧ mb < wx.heap.size ∧ ∃ L, M2 wx mb L ∧ AllSides K (fun c d => (c < i ∨ (c = i ∧ d < j)) ∧ d < 4) L)) (fun v34 _ => 4 - (intOf v34).toNat)
      case atStart =>
        obtain ⟨h1, h2, L, h3, h4⟩ := hR.out
        exact ⟨0, rfl, by omega, h1, h2, L, h3, h4.iff (fun c d => by omega)⟩
      case round =>
        obtain ⟨j, rfl, hj, hS⟩ := hrel
        have HVx : Hid (Below w.heap.size w wr) := hVb.out.trans (hS.out.1.mono (by omega))
        by_cases h0 : j = 4
        · subst h0
          go_wp2_with fail
          go_roundw
          case rel =>
            obtain ⟨h1, h2, L, h3, h4⟩ := hS.out
            exact ⟨i + 1, rfl, by omega, h1, h2, L, h3, h4.iff (fun c d => by omega)⟩
          case measure => simp [intOf] <;> omega
        · have hj4 : j < 4 := by omega
          have j1 : (j : Int) < 4 := by omega
          obtain ⟨jn, hjn⟩ : ∃ jn, (j + 1) % 4 = jn := ⟨_, rfl⟩
          have hjn4 : jn < 4 := by omega
          have e1 : ((j : Int) + 1) % 4 = (jn : Int) := by omega
          have e2 : ((j : Int) + 1).tmod 4 = (jn : Int) := by rw [Int.tmod_eq_emod_of_nonneg (by omega)]; exact e1
          have ka := (HVx.out.cell (p := ⟨q i, j, none⟩) (HM.out.ql i hil)).trans (HM.out.kor i j hil hj4)
          have kb := (HVx.out.cell (p := ⟨q i, jn, none⟩) (HM.out.ql i hil)).trans (HM.out.kor i jn hil hjn4)
          have hqs : q i < wr.heap.size := Nat.lt_of_lt_of_le (HM.out.ql i hil) HVx.out.size
          obtain ⟨h1, h2, L, h3, h4⟩ := id hS.out
          have hno : find2 L (K i j) (K i jn) = none := find2_none (fun x hx h5 h6 => by
            obtain ⟨c, d, ⟨h7, h8⟩, rfl⟩ := h4.1 x hx
            simp only at h5 h6
            obtain ⟨h12, h13⟩ := HG.out.ds i j c d hil (by omega) hj4 h8 (by omega) (by rw [hjn]; omega)
            omega)
          have HA := Lib.hid (h4.add i j (E := fun c d => (c < i ∨ (c = i ∧ d < j + 1)) ∧ d < 4) (fun c d => by omega))
          rw [hjn] at HA
          obtain ⟨a, ha⟩ : ∃ a, K i j = a := ⟨_, rfl⟩
          obtain ⟨b, hb⟩ : ∃ b, K i jn = b := ⟨_, rfl⟩
          rw [ha] at ka
          rw [hb] at kb
          rw [ha, hb] at hno
          rw [ha, hb] at HA
          obtain ⟨w5, hput, hM5, hg5⟩ := put2 93 3 mb L (.int .i64 i) _ Try.underlying93 h3 a b hno
          have HN : Hid (Below mb V w5 ∧ mb < w5.heap.size ∧ ∃ L, M2 w5 mb L ∧ AllSides K (fun c d => (c < i ∨ (c = i ∧ d < j + 1)) ∧ d < 4) L) :=
            ⟨h1.grown hg5 (by omega) (fun k hk => by cases hk; exact Nat.le_refl _), Nat.lt_of_lt_of_le h2 hg5.size, _, hM5, HA.out⟩
          unfold key2 at hput
          clear h1 h3 h4 hno hM5 hg5 ha hb HA
          go_wp2_with fail
          go_roundw
          case rel => exact ⟨j + 1, rfl, by omega, HN.out⟩
          case measure => simp [intOf] <;> omega
end Go.Proofs.Ytaiflkjchbpphaa
