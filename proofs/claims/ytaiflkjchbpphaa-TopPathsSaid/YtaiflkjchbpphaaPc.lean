/- mesh.Next of cells of three or four corners. -/
import Derived.Test.YtaiflkjchbpphaaPb
namespace Go.Proofs.Ytaiflkjchbpphaa.P
open Go.RowKit

/-- The neighbours of the cells, side by side. -/
structure Nbr (nc : Nat) (z : Nat → Nat) (K : Nat → Nat → Nat) (N : Nat → Nat → Int) : Prop where
  yes : ∀ i j i' j', i < nc → j < z i → i' < nc → j' < z i' → K i' j' = K i ((j + 1) % z i) → K i' ((j' + 1) % z i') = K i j → N i j = (i' : Int)
  no : ∀ i j, i < nc → j < z i → N i j = -1 ∨ ∃ i' j', N i j = ((i' : Nat) : Int) ∧ i' < nc ∧ j' < z i' ∧ K i' j' = K i ((j + 1) % z i) ∧ K i' ((j' + 1) % z i') = K i j
  out : ∀ i j, z i ≤ j → N i j = -1
theorem Nbr.uniq {nc : Nat} {z : Nat → Nat} {K : Nat → Nat → Nat} {N N' : Nat → Nat → Int} (h : Nbr nc z K N) (h' : Nbr nc z K N') (i j : Nat) (hi : i < nc) : N i j = N' i j := by
  by_cases hj : j < z i
  · rcases h.no i j hi hj with h1 | ⟨c, d, h1, h2, h3, h4, h5⟩
    · rcases h'.no i j hi hj with k1 | ⟨c, d, k1, k2, k3, k4, k5⟩
      · rw [h1, k1]
      · have := h.yes i j c d hi hj k2 k3 k4 k5
        rw [this, k1]
    · rw [h1, h'.yes i j c d hi hj h2 h3 h4 h5]
  · rw [h.out i j (by omega), h'.out i j (by omega)]

/-- All sides of the first cells, with their cells' numbers. -/
def AllSides (z : Nat → Nat) (K : Nat → Nat → Nat) (D : Nat → Nat → Prop) (L : List (Int × Int × Value)) : Prop :=
  (∀ x ∈ L, ∃ c d, D c d ∧ x = ((K c d : Int), (K c ((d + 1) % z c) : Int), Value.int .i64 (c : Int))) ∧ ∀ c d, D c d → ((K c d : Int), (K c ((d + 1) % z c) : Int), Value.int .i64 (c : Int)) ∈ L
/-- What is looked up. -/
def nv (L : List (Int × Int × Value)) (z : Nat → Nat) (K : Nat → Nat → Nat) (i j : Nat) : Int := if j < z i then (match find2 L (K i ((j + 1) % z i)) (K i j) with
  | some (.int _ n) => n
  | _ => -1) else -1
theorem nbr_of {nc : Nat} {z : Nat → Nat} {K : Nat → Nat → Nat} {L : List (Int × Int × Value)} (h : AllSides z K (fun c d => c < nc ∧ d < z c) L)
    (hd : ∀ i j i' j', i < nc → i' < nc → j < z i → j' < z i' → K i j = K i' j' → K i ((j + 1) % z i) = K i' ((j' + 1) % z i') → i = i' ∧ j = j') : Nbr nc z K (nv L z K) := by
  refine ⟨fun i j i' j' hi hj hi' hj' h1 h2 => ?_, fun i j hi hj => ?_, fun i j hj => by unfold nv; rw [if_neg (by omega)]⟩
  · have hm := h.2 i' j' ⟨hi', hj'⟩
    rw [h1, h2] at hm
    obtain ⟨v, hv⟩ := find2_mem hm
    obtain ⟨x, hx, h3, h4, h5⟩ := find2_some hv
    obtain ⟨c, d, ⟨hc, hd4⟩, rfl⟩ := h.1 x hx
    simp only at h3 h4 h5
    obtain ⟨rfl, rfl⟩ := hd c d i' j' hc hi' hd4 hj' (by omega) (by omega)
    unfold nv
    rw [if_pos hj, hv, ← h5]
  · unfold nv
    rw [if_pos hj]
    cases hv : find2 L (K i ((j + 1) % z i)) (K i j) with
    | none => exact .inl rfl
    | some v =>
      obtain ⟨x, hx, h3, h4, h5⟩ := find2_some hv
      obtain ⟨c, d, ⟨hc, hd4⟩, rfl⟩ := h.1 x hx
      simp only at h3 h4 h5
      subst h5
      exact .inr ⟨c, d, rfl, hc, hd4, by omega, by omega⟩
theorem look_nv {z : Nat → Nat} {K : Nat → Nat → Nat} {L : List (Int × Int × Value)} {D : Nat → Nat → Prop} (h : AllSides z K D L) (i j : Nat) (hj : j < z i) :
    (find2 L (K i ((j + 1) % z i)) (K i j) = none ∧ nv L z K i j = -1) ∨ (∃ c : Nat, find2 L (K i ((j + 1) % z i)) (K i j) = some (.int .i64 (c : Int)) ∧ nv L z K i j = (c : Int)) := by
  cases hv : find2 L (K i ((j + 1) % z i)) (K i j) with
  | none => exact .inl ⟨rfl, by unfold nv; rw [if_pos hj, hv]⟩
  | some v =>
    obtain ⟨x, hx, h3, h4, h5⟩ := find2_some hv
    obtain ⟨c, d, _, rfl⟩ := h.1 x hx
    simp only at h5
    subst h5
    exact .inr ⟨c, rfl, by unfold nv; rw [if_pos hj, hv]⟩
theorem AllSides.add {z : Nat → Nat} {K : Nat → Nat → Nat} {L : List (Int × Int × Value)} {D E : Nat → Nat → Prop} (h : AllSides z K D L) (i j : Nat) (hE : ∀ c d, E c d ↔ D c d ∨ (c = i ∧ d = j)) : AllSides z K E (L ++ [((K i j : Int), (K i ((j + 1) % z i) : Int), Value.int .i64 (i : Int))]) := by
  refine ⟨fun x hx => ?_, fun c d hcd => ?_⟩
  · rcases List.mem_append.1 hx with hx | hx
    · obtain ⟨c, d, h1, h2⟩ := h.1 x hx
      exact ⟨c, d, (hE c d).2 (.inl h1), h2⟩
    · simp only [List.mem_singleton] at hx
      exact ⟨i, j, (hE i j).2 (.inr ⟨rfl, rfl⟩), hx⟩
  · rcases (hE c d).1 hcd with h1 | ⟨rfl, rfl⟩
    · exact List.mem_append_left _ (h.2 c d h1)
    · exact List.mem_append_right _ (List.mem_singleton.2 rfl)
theorem AllSides.iff {z : Nat → Nat} {K : Nat → Nat → Nat} {L : List (Int × Int × Value)} {D E : Nat → Nat → Prop} (h : AllSides z K D L) (hE : ∀ c d, E c d ↔ D c d) : AllSides z K E L :=
  ⟨fun x hx => by obtain ⟨c, d, h1, h2⟩ := h.1 x hx; exact ⟨c, d, (hE c d).2 h1, h2⟩, fun c d hcd => h.2 c d ((hE c d).1 hcd)⟩

/-- A row of rows of numbers. -/
def rowsOf (z r cp : Nat → Nat) (i : Nat) : List Value := (List.range i).map fun c => .slice (some ⟨r c, 0, none⟩) (z c) (cp c)
theorem rowsOf_succ (z r cp : Nat → Nat) (i : Nat) : rowsOf z r cp (i + 1) = rowsOf z r cp i ++ [.slice (some ⟨r i, 0, none⟩) (z i) (cp i)] := by simp [rowsOf, List.range_succ]
theorem rowsOf_get (z r cp : Nat → Nat) (i k : Nat) (h : k < i) : (rowsOf z r cp i)[k]? = some (.slice (some ⟨r k, 0, none⟩) (z k) (cp k)) := by simp [rowsOf, h]
theorem rowsOf_congr {z r cp r' cp' : Nat → Nat} {i : Nat} (h : ∀ c, c < i → r c = r' c ∧ cp c = cp' c) : rowsOf z r cp i = rowsOf z r' cp' i := by
  unfold rowsOf
  apply List.map_congr_left
  intro c hc
  obtain ⟨h1, h2⟩ := h c (List.mem_range.1 hc)
  rw [h1, h2]
theorem rows_step {Wi wr w' : World} {Bi Vb k g cap : Nat} {z r cp : Nat → Nat} {N : Nat → Nat → Int} {v10 v' : Value} {o : Obj} (hs : Wi.heap.size = Bi) (hb : Below Bi Wi wr)
    (h2 : Wi.ownsRow Vb 22 1 v10 k (rowsOf z r cp k)) (h3 : ∀ c, c < k → Wi.ownsRow Vb 3 1 (.slice (some ⟨r c, 0, none⟩) (z c) (cp c)) (z c) (nums4 N c (z c)))
    (h4 : wr.ownsRow Vb 3 1 (.slice (some ⟨g, 0, none⟩) (z k) cap) (z k) (nums4 N k (z k))) (hg : (wr.alloc o).grownBy w' v10.ownBlock) (ho : w'.ownsRow Vb 22 1 v' (k + 1) (rowsOf z r cp k ++ [.slice (some ⟨g, 0, none⟩) (z k) cap])) :
    ∃ r' cp', w'.ownsRow Vb 22 1 v' (k + 1) (rowsOf z r' cp' (k + 1)) ∧ ∀ c, c < k + 1 → w'.ownsRow Vb 3 1 (.slice (some ⟨r' c, 0, none⟩) (z c) (cp' c)) (z c) (nums4 N c (z c)) := by
  have hw : ∀ c g' cap', wr.ownsRow Vb 3 1 (.slice (some ⟨g', 0, none⟩) (z c) cap') (z c) (nums4 N c (z c)) → w'.ownsRow Vb 3 1 (.slice (some ⟨g', 0, none⟩) (z c) cap') (z c) (nums4 N c (z c)) := by
    intro c g' cap' h5
    have h6 := h5.alloc o
    obtain ⟨_, _, _, _, hkk⟩ := hg
    exact (owns_same h6 (hkk g' (owns_at h6).2.1 (fun e => own_ne (owns_below h2 hb (by omega)) h5 (by decide) e.symm)))
  refine ⟨fun c => if c = k then g else r c, fun c => if c = k then cap else cp c, ?_, fun c hc => ?_⟩
  · rw [rowsOf_succ, rowsOf_congr (r' := r) (cp' := cp) (fun c hc => by simp only [if_neg (show ¬ c = k by omega), and_self])]
    simp only [if_true]
    exact ho
  · by_cases h : c = k
    · subst h
      simp only [if_true]
      exact hw _ _ _ h4
    · simp only [if_neg h]
      exact hw _ _ _ (owns_below (h3 c (by omega)) hb (by omega))

/-- What Next says. -/
def Nexted (nc : Nat) (z : Nat → Nat) (K : Nat → Nat → Nat) (w : World) (e : Ending) (w' : World) : Prop :=
  ∃ (v : Value) (r cp : Nat → Nat) (N : Nat → Nat → Int), e = .returned (.tuple #[v, .int .i64 0]) ∧ Nbr nc z K N ∧ w'.ownsRow w.heap.size 22 1 v nc (rowsOf z r cp nc) ∧ (∀ c, c < nc → w'.ownsRow w.heap.size 3 1 (.slice (some ⟨r c, 0, none⟩) (z c) (cp c)) (z c) (nums4 N c (z c))) ∧ Below w.heap.size w w'

set_option maxRecDepth 8000 in
set_option maxHeartbeats 8000000 in
theorem next_any (pp np pcap cc nc ccap : Nat) (X Y : Nat → Int) (z qc q : Nat → Nat) (K : Nat → Nat → Nat) (w : World) (h : Msh pp np cc nc X Y z qc q K w) (hgood : Good np nc X Y z K) :
    Calls Try.prog 25 #[.agg #[.slice (some ⟨pp, 0, none⟩) np pcap, .slice (some ⟨cc, 0, none⟩) nc ccap]] w (Nexted nc z K w) := by
  obtain ⟨i0, hi0, hz0, hz1, hz2⟩ := info_parts Try.info3'
  obtain ⟨i5, hi5, hy0, hy1, hy2⟩ := info_parts Try.info22
  have HM := Lib.hid h
  have HG := Lib.hid hgood
  have n1 := hgood.hnp
  have n2 := hgood.hnc
  have hchk := fun w' (hb : Below w.heap.size w w') => mcheck_any pp np pcap cc nc ccap X Y z qc q K w' (h.on hb) hgood
  clear h hgood
  go_enter Try.func25, Try.ntmps25
  go_wp2_with (go_at_call 22; (with_reducible refine (hchk _ (Below.al (Below.refl _ _) _)).mono ?_); rintro e w1 ⟨rfl, hb⟩; obtain ⟨l0, m0, rfl⟩ := ext_of hb; clear hb)
  obtain ⟨V, hV⟩ : ∃ V, ext (w.alloc (Obj.cells #[.slice (some ⟨pp, 0, none⟩) np pcap, .slice (some ⟨cc, 0, none⟩) nc ccap] 28)) l0 m0 = V := ⟨_, rfl⟩
  have hVb := Lib.hid (show Below w.heap.size w V from hV ▸ Below.ex (Below.al (Below.refl _ _) _) _ _)
  obtain ⟨mb, hmb⟩ : ∃ m, V.heap.size = m := ⟨_, rfl⟩
  have hwm : w.heap.size < mb := by rw [← hmb, ← hV, size_ext]; simp; omega
  have v0 : V.cell? ⟨w.heap.size, 0, none⟩ = some (.slice (some ⟨pp, 0, none⟩) np pcap) := by rw [← hV]; simp [go_sem]
  have v1 : V.cell? ⟨w.heap.size, 1, none⟩ = some (.slice (some ⟨cc, 0, none⟩) nc ccap) := by rw [← hV]; simp [go_sem]
  have hnew : M2 (V.alloc (.map #[] 0)) mb [] := by have := M2.new V; rw [hmb] at this; exact this
  have hms : w.heap.size + 1 + l0.length = mb := by rw [← hmb, ← hV, size_ext]; simp
  simp only [hms]
  rw [hV]
  clear hV hms hchk
  go_loopw [27] (fun v27 wr => ∃ i : Nat, v27 = .int .i64 i ∧ i ≤ nc ∧ Hid (Below mb V wr ∧ mb < wr.heap.size ∧ ∃ L, M2 wr mb L ∧ AllSides z K (fun c d => c < i ∧ d < z c) L)) (fun v27 _ => nc - (intOf v27).toNat)
  case atStart => exact ⟨0, rfl, Nat.zero_le _, (Below.refl _ _).alloc (by omega) _, by simp; omega, [], hnew, fun x hx => by simp at hx, fun c d hcd => by omega⟩
  case round =>
    obtain ⟨i, rfl, hi, hR⟩ := hrel
    have HVw : Hid (Below w.heap.size w wr) := hVb.out.trans (hR.out.1.mono (by omega))
    have c0 := (hR.out.1.cell (p := ⟨w.heap.size, 0, none⟩) hwm).trans v0
    have c1 := (hR.out.1.cell (p := ⟨w.heap.size, 1, none⟩) hwm).trans v1
    have hws : w.heap.size < wr.heap.size := by have := hR.out.2.1; omega
    by_cases h0 : i = nc
    · have i1 : ¬ (i : Int) < (nc : Int) := by omega
      subst h0
      obtain ⟨hr1, hr2, L, hr3, hr4⟩ := id hR.out
      have HN := Lib.hid (nbr_of hr4 HG.out.ds)
      have HL := Lib.hid (And.intro hr3 hr4)
      obtain ⟨W0, rfl⟩ : ∃ W, W = wr := ⟨wr, rfl⟩
      obtain ⟨Vb, hVb2⟩ : ∃ b, W0.heap.size = b := ⟨_, rfl⟩
      rw [hVb2] at hr2
      clear hr1 hr3 hr4 hR
      go_wp2_with fail
      go_loopw [10, 56] (fun v10 v56 wx => ∃ k : Nat, v56 = .int .i64 k ∧ k ≤ i ∧ Hid (Below Vb W0 wx ∧ ∃ r cp, wx.ownsRow Vb 22 1 v10 k (rowsOf z r cp k) ∧ ∀ c, c < k → wx.ownsRow Vb 3 1 (.slice (some ⟨r c, 0, none⟩) (z c) (cp c)) (z c) (nums4 (nv L z K) c (z c)))) (fun _ v56 _ => i - (intOf v56).toNat)
      case atStart => exact ⟨0, rfl, Nat.zero_le _, Below.refl _ _, fun _ => 0, fun _ => 0, World.ownsRow_nil _ _ _ _, fun c hc => by omega⟩
      case round =>
        obtain ⟨k, rfl, hk, hS⟩ := hrel
        have HW2 : Hid (Below w.heap.size w wr) := HVw.out.trans (hS.out.1.mono (by omega))
        have d0 := (hS.out.1.cell (p := ⟨w.heap.size, 0, none⟩) (by simp only []; omega)).trans c0
        have d1 := (hS.out.1.cell (p := ⟨w.heap.size, 1, none⟩) (by simp only []; omega)).trans c1
        by_cases h0 : k = i
        · have k1 : ¬ (k : Int) < (i : Int) := by omega
          subst h0
          go_wp2_with fail
          obtain ⟨r, cp, hr1, hr2⟩ := hS.out.2
          refine bodyPost_ret (v := .tuple #[u10, .int .i64 0]) (by simp [results, Try.results25, go_sem]) rfl ⟨_, r, cp, nv L z K, rfl, HN, owns_mono hr1 (by omega), fun c hc => owns_mono (hr2 c hc) (by omega), HW2.out⟩
        · have hki : k < i := by omega
          have k1 : (k : Int) < (i : Int) := by omega
          have r0 := (HW2.out.cell (p := ⟨cc, k, none⟩) HM.out.cl).trans (HM.out.row k hki)
          have hz3 := HM.out.z3 k hki
          obtain ⟨m, hm⟩ : ∃ m, z k = m := ⟨_, rfl⟩
          have HZ := Lib.hid hm
          rw [hm] at r0 hz3
          obtain ⟨hm3, hm4⟩ := hz3
          have hmp : (0 : Int) < m := by omega
          clear hm
          have hccs : cc < wr.heap.size := Nat.lt_of_lt_of_le HM.out.cl HW2.out.size
          obtain ⟨Wi, rfl⟩ : ∃ W, W = wr := ⟨wr, rfl⟩
          obtain ⟨Bi, hBi⟩ : ∃ b, Wi.heap.size = b := ⟨_, rfl⟩
          have hVB : Vb ≤ Bi := by have := hS.out.1.size; omega
          clear h0
          go_wp2_with fail
          go_loopw [13, 62] (fun v13 v62 wx => ∃ j : Nat, v62 = .int .i64 j ∧ j ≤ m ∧ Hid (Below Bi Wi wx ∧ wx.ownsRow Bi 3 1 v13 j (nums4 (nv L z K) k j))) (fun _ v62 _ => m - (intOf v62).toNat)
          case atStart => exact ⟨0, rfl, by omega, Below.refl _ _, World.ownsRow_nil _ _ _ _⟩
          case round =>
            obtain ⟨j, rfl, hj, hT⟩ := hrel
            have HW3 : Hid (Below w.heap.size w wr) := HW2.out.trans (hT.out.1.mono (by omega))
            by_cases h0 : j = m
            · have j1 : ¬ (j : Int) < m := by omega
              have hT2 : Hid (wr.ownsRow Bi 3 1 u13 m (nums4 (nv L z K) k m)) := by have := hT.out.2; rw [h0] at this; exact this
              clear h0
              obtain ⟨g, cap, rfl, hgB, _⟩ := owns_open hT2.out (by omega)
              obtain ⟨r, cp, hr1, hr3⟩ := id hS.out.2
              have HR := Lib.hid (And.intro hr1 hr3)
              have hown := Lib.hid (owns_below hr1 hT.out.1 (Nat.le_of_eq hBi))
              have hsz := Lib.hid (hT.out.1.size)
              clear hr1 hr3
              go_wp2_with (at_builtin; refine wpList_append_own _ rfl _ _ 26 rfl Vb 22 i5 (.slice none 0 0) 1 24 Try.underlying26 hi5 hy0 hy1 hy2 rfl (by decide) _ k _ rfl (hown.out.alloc _) ⟨wr.heap.size, 0, none⟩ 1 1 [.slice (some ⟨g, 0, none⟩) m cap] rfl rfl (new_one _ _ _) (one_ok rfl) (by unfold maxLen; omega) (by omega) (by have := hsz.out; simp; omega) ?_)
              intro v' w' own' hgr _
              have HN2 : Hid (Below Vb W0 w' ∧ ∃ r cp, w'.ownsRow Vb 22 1 v' (k + 1) (rowsOf z r cp (k + 1)) ∧ ∀ c, c < k + 1 → w'.ownsRow Vb 3 1 (.slice (some ⟨r c, 0, none⟩) (z c) (cp c)) (z c) (nums4 (nv L z K) c (z c))) :=
                ⟨((hS.out.1.trans (hT.out.1.mono (by omega))).alloc (by have := hsz.out; omega) _).grown hgr (by have := hsz.out; simp; omega) (fun g hg => (hown.out.lt g hg).1), rows_step hBi hT.out.1 HR.out.1 HR.out.2 (by rw [HZ.out]; exact owns_mono hT2.out (by omega)) hgr (by rw [HZ.out]; exact own')⟩
              clear own' hgr
              go_wp2_with fail
              go_roundw
              case rel => exact ⟨k + 1, rfl, by omega, HN2.out⟩
              case measure => simp [intOf] <;> omega
            · have hj4 : j < m := by omega
              have j1 : (j : Int) < m := by omega
              obtain ⟨jn, hjn⟩ : ∃ jn, (j + 1) % m = jn := ⟨_, rfl⟩
              have hjn4 : jn < m := by rw [← hjn]; exact Nat.mod_lt _ (by omega)
              have e1 : ((j : Int) + 1) % (m : Int) = (jn : Int) := by rw [← hjn]; push_cast; rfl
              have e2 : ((j : Int) + 1).tmod (m : Int) = (jn : Int) := by rw [Int.tmod_eq_emod_of_nonneg (by omega)]; exact e1
              have ka := (HW3.out.cell (p := ⟨q k, j, none⟩) (HM.out.ql k hki)).trans (HM.out.kor k j hki (by rw [HZ.out]; exact hj4))
              have kb := (HW3.out.cell (p := ⟨q k, jn, none⟩) (HM.out.ql k hki)).trans (HM.out.kor k jn hki (by rw [HZ.out]; exact hjn4))
              have hqs : q k < wr.heap.size := Nat.lt_of_lt_of_le (HM.out.ql k hki) HW3.out.size
              have hM5 : M2 wr mb L := HL.out.1.kept ((hT.out.1.block mb (by omega)).trans (hS.out.1.block mb (by omega)))
              have hlook := look2 93 3 mb L (.int .i64 0) _ Try.underlying93 (by kernel_rfl) hM5 (K k jn) (K k j) true
              have hcase := look_nv HL.out.2 k j (by rw [HZ.out]; exact hj4)
              rw [HZ.out, hjn] at hcase
              obtain ⟨a, ha⟩ : ∃ a, K k j = a := ⟨_, rfl⟩
              obtain ⟨b, hb⟩ : ∃ b, K k jn = b := ⟨_, rfl⟩
              rw [ha] at ka hlook hcase
              rw [hb] at kb hlook hcase
              unfold key2 at hlook
              clear hM5 ha hb
              have hwsz : wr.heap.size ≥ Bi := by have := hT.out.1.size; omega
              rcases hcase with ⟨hf, hnv⟩ | ⟨c, hf, hnv⟩
              · rw [hf] at hlook
                simp only [if_true, Option.getD_none, Option.isSome_none] at hlook
                go_wp2_with (at_builtin; refine wpList_append_own _ rfl _ _ 22 rfl Bi 3 i0 (.int .i64 0) 1 8 Try.underlying22 hi0 hz0 hz1 hz2 rfl (by decide) _ j _ rfl (hT.out.2.alloc _) ⟨wr.heap.size, 0, none⟩ 1 1 [.int .i64 (-1)] rfl rfl (new_one _ _ _) (one_ok rfl) (by unfold maxLen; omega) (by omega) (by simp; omega) ?_)
                intro v' w' own' hgr _
                have HN2 : Hid (Below Bi Wi w' ∧ w'.ownsRow Bi 3 1 v' (j + 1) (nums4 (nv L z K) k (j + 1))) :=
                  ⟨(hT.out.1.alloc (by omega) _).grown hgr (by simp; omega) (fun g hg => (hT.out.2.lt g hg).1), by rw [nums4_succ, hnv]; exact own'⟩
                clear own' hgr
                go_wp2_with fail
                go_roundw
                case rel => exact ⟨j + 1, rfl, by omega, HN2.out⟩
                case measure => simp [intOf] <;> omega
              · rw [hf] at hlook
                simp only [if_true, Option.getD_some, Option.isSome_some] at hlook
                go_wp2_with (at_builtin; refine wpList_append_own _ rfl _ _ 22 rfl Bi 3 i0 (.int .i64 0) 1 8 Try.underlying22 hi0 hz0 hz1 hz2 rfl (by decide) _ j _ rfl (hT.out.2.alloc _) ⟨wr.heap.size, 0, none⟩ 1 1 [.int .i64 c] rfl rfl (new_one _ _ _) (one_ok rfl) (by unfold maxLen; omega) (by omega) (by simp; omega) ?_)
                intro v' w' own' hgr _
                have HN2 : Hid (Below Bi Wi w' ∧ w'.ownsRow Bi 3 1 v' (j + 1) (nums4 (nv L z K) k (j + 1))) :=
                  ⟨(hT.out.1.alloc (by omega) _).grown hgr (by simp; omega) (fun g hg => (hT.out.2.lt g hg).1), by rw [nums4_succ, hnv]; exact own'⟩
                clear own' hgr
                go_wp2_with fail
                go_roundw
                case rel => exact ⟨j + 1, rfl, by omega, HN2.out⟩
                case measure => simp [intOf] <;> omega
    · have hil : i < nc := by omega
      have i1 : (i : Int) < (nc : Int) := by omega
      have r0 := (HVw.out.cell (p := ⟨cc, i, none⟩) HM.out.cl).trans (HM.out.row i hil)
      have hz3 := HM.out.z3 i hil
      obtain ⟨m, hm⟩ : ∃ m, z i = m := ⟨_, rfl⟩
      have HZ := Lib.hid hm
      rw [hm] at r0 hz3
      obtain ⟨hm3, hm4⟩ := hz3
      have hmp : (0 : Int) < m := by omega
      clear hm
      have hccs : cc < wr.heap.size := Nat.lt_of_lt_of_le HM.out.cl HVw.out.size
      clear h0
      go_wp2_with fail
      go_loopw [34] (fun v34 wx => ∃ j : Nat, v34 = .int .i64 j ∧ j ≤ m ∧ Hid (Below mb V wx ∧ mb < wx.heap.size ∧ ∃ L, M2 wx mb L ∧ AllSides z K (fun c d => (c < i ∨ (c = i ∧ d < j)) ∧ d < z c) L)) (fun v34 _ => m - (intOf v34).toNat)
      case atStart =>
        obtain ⟨h1, h2, L, h3, h4⟩ := hR.out
        exact ⟨0, rfl, by omega, h1, h2, L, h3, h4.iff (fun c d => by omega)⟩
      case round =>
        obtain ⟨j, rfl, hj, hS⟩ := hrel
        have HVx : Hid (Below w.heap.size w wr) := hVb.out.trans (hS.out.1.mono (by omega))
        by_cases h0 : j = m
        · have j1 : ¬ (j : Int) < m := by omega
          have hjm := Lib.hid h0
          clear h0
          go_wp2_with fail
          go_roundw
          case rel =>
            obtain ⟨h1, h2, L, h3, h4⟩ := hS.out
            refine ⟨i + 1, rfl, by omega, h1, h2, L, h3, h4.iff (fun c d => ?_)⟩
            have e1 := hjm.out
            have e2 := HZ.out
            constructor
            · rintro ⟨g1, g2⟩
              by_cases hc : c = i
              · subst hc; exact ⟨.inr ⟨rfl, by omega⟩, g2⟩
              · exact ⟨.inl (by omega), g2⟩
            · rintro ⟨g1, g2⟩
              exact ⟨by omega, g2⟩
          case measure => simp [intOf] <;> omega
        · have hj4 : j < m := by omega
          have j1 : (j : Int) < m := by omega
          obtain ⟨jn, hjn⟩ : ∃ jn, (j + 1) % m = jn := ⟨_, rfl⟩
          have hjn4 : jn < m := by rw [← hjn]; exact Nat.mod_lt _ (by omega)
          have e1 : ((j : Int) + 1) % (m : Int) = (jn : Int) := by rw [← hjn]; push_cast; rfl
          have e2 : ((j : Int) + 1).tmod (m : Int) = (jn : Int) := by rw [Int.tmod_eq_emod_of_nonneg (by omega)]; exact e1
          have ka := (HVx.out.cell (p := ⟨q i, j, none⟩) (HM.out.ql i hil)).trans (HM.out.kor i j hil (by rw [HZ.out]; exact hj4))
          have kb := (HVx.out.cell (p := ⟨q i, jn, none⟩) (HM.out.ql i hil)).trans (HM.out.kor i jn hil (by rw [HZ.out]; exact hjn4))
          have hqs : q i < wr.heap.size := Nat.lt_of_lt_of_le (HM.out.ql i hil) HVx.out.size
          obtain ⟨h1, h2, L, h3, h4⟩ := id hS.out
          have hno : find2 L (K i j) (K i jn) = none := find2_none (fun x hx h5 h6 => by
            obtain ⟨c, d, ⟨h7, h8⟩, rfl⟩ := h4.1 x hx
            simp only at h5 h6
            obtain ⟨h12, h13⟩ := HG.out.ds i j c d hil (by omega) (by rw [HZ.out]; exact hj4) h8 (by omega) (by rw [HZ.out, hjn]; omega)
            omega)
          have HA := Lib.hid (h4.add i j (E := fun c d => (c < i ∨ (c = i ∧ d < j + 1)) ∧ d < z c) (fun c d => by
            have e2 := HZ.out
            constructor
            · rintro ⟨g1, g2⟩
              by_cases hc : c = i ∧ d = j
              · exact .inr hc
              · exact .inl ⟨by omega, g2⟩
            · rintro (⟨g1, g2⟩ | ⟨rfl, rfl⟩)
              · exact ⟨by omega, g2⟩
              · exact ⟨.inr ⟨rfl, by omega⟩, by omega⟩))
          rw [HZ.out, hjn] at HA
          obtain ⟨a, ha⟩ : ∃ a, K i j = a := ⟨_, rfl⟩
          obtain ⟨b, hb⟩ : ∃ b, K i jn = b := ⟨_, rfl⟩
          rw [ha] at ka
          rw [hb] at kb
          rw [ha, hb] at hno
          rw [ha, hb] at HA
          obtain ⟨w5, hput, hM5, hg5⟩ := put2 93 3 mb L (.int .i64 i) _ Try.underlying93 h3 a b hno
          have HN : Hid (Below mb V w5 ∧ mb < w5.heap.size ∧ ∃ L, M2 w5 mb L ∧ AllSides z K (fun c d => (c < i ∨ (c = i ∧ d < j + 1)) ∧ d < z c) L) :=
            ⟨h1.grown hg5 (by omega) (fun k hk => by cases hk; exact Nat.le_refl _), Nat.lt_of_lt_of_le h2 hg5.size, _, hM5, HA.out⟩
          unfold key2 at hput
          clear h1 h3 h4 hno hM5 hg5 ha hb HA
          go_wp2_with fail
          go_roundw
          case rel => exact ⟨j + 1, rfl, by omega, HN.out⟩
          case measure => simp [intOf] <;> omega
end Go.Proofs.Ytaiflkjchbpphaa.P
