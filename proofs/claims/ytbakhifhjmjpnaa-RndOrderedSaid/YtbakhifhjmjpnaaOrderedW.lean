/- For every input, RndOrdered returns true. No condition. -/
import Derived.Test.YtbakhifhjmjpnaaOrder
import Derived.Test.YtbakhifhjmjpnaaShelf
import Derived.Sort.OwnSortedInts
import Derived.Sort.Grow
import Derived.OpenShut
namespace Go.Proofs.Ytbakhifhjmjpnaa
open Go.RowKit Go.Sort

/-- There is one sorted order alone. -/
theorem uniq : ∀ (A B : List Int), A.Pairwise (· ≤ ·) → B.Pairwise (· ≤ ·) → A.Perm B → A = B
  | [], B, _, _, h => (List.nil_perm.1 h).symm
  | a :: A, [], _, _, h => (List.perm_nil.1 h)
  | a :: A, b :: B, hA, hB, h => by
    have hA' := List.pairwise_cons.1 hA
    have hB' := List.pairwise_cons.1 hB
    have e : a = b := by
      have ha : a ∈ b :: B := h.subset (by simp)
      have hb : b ∈ a :: A := h.symm.subset (by simp)
      rcases List.mem_cons.1 ha with rfl | ha
      · rfl
      · rcases List.mem_cons.1 hb with rfl | hb
        · rfl
        · have := hA'.1 b hb
          have := hB'.1 a ha
          omega
    subst e
    rw [uniq A B hA'.2 hB'.2 (List.Perm.cons_inv h)]

def nums (n : Nat) : List Int := (List.range n).map fun (i : Nat) => (i : Int)
theorem nums_sorted (n : Nat) : (nums n).Pairwise (· ≤ ·) := by
  unfold nums
  rw [List.pairwise_map]
  exact List.pairwise_lt_range.imp fun h => by omega
theorem sort_nums {L : List Int} {n : Nat} (h : L.Perm (nums n)) : (L.mergeSort fun x y => decide (x ≤ y)) = nums n := by
  refine uniq _ _ ?_ (nums_sorted n) ((List.mergeSort_perm L _).trans h)
  have := List.pairwise_mergeSort (le := fun (x y : Int) => decide (x ≤ y)) (by simp; omega) (by simp; omega) L
  exact this.imp fun h => by simpa using h
theorem nums_at (n j : Nat) (h : j < n) : (nums n)[j]?.getD 0 = (j : Int) := by simp [nums, h]
theorem nums_length (n : Nat) : (nums n).length = n := by simp [nums]

/-- slices.Sort of a row of numbers. -/
theorem sort_any (g n cap : Nat) (L : List Int) (w : World) (hl : L.length = n) (hn : n ≤ 4611686018427387903) (hr : IRow w g L) (hlt : g < w.heap.size) (hp : L.Perm (nums n)) :
    Calls Try.prog 9 #[.slice (some ⟨g, 0, none⟩) n cap] w fun e w' => e = .returned (.tuple #[]) ∧ IRow w' g (nums n) ∧ w.grownBy w' (some g) := by
  have hH : Holds (Value.int .i64) w g 0 L.toArray := by
    intro j hj
    have hj' : j < L.length := by simpa using hj
    have h1 := hr.at j hj'
    have h2 := hr.2 j hj'
    simp only [Nat.zero_add]
    refine ⟨?_, h2⟩
    rw [h1]; simp [hj']
  subst hl
  refine (Try.slices_Sort_int g 0 cap L w hH hlt (by omega)).mono ?_
  rintro e w' ⟨rfl, q, os, rfl⟩
  rw [sort_nums hp]
  have hH2 : Holds (Value.int .i64) (grow (putRow (Value.int .i64) (Sort.ahead w q) g 0 (nums L.length).toArray) os) g 0 (nums L.length).toArray :=
    holds_grow _ _ os g 0 _ (by simpa [putRow, mapBlock, Sort.ahead] using hlt) (holds_putRow _ _ g 0 _ _ (holds_ahead _ w q g 0 _ hH) (by simp [nums_length]))
  refine ⟨rfl, ⟨fun k hk => ?_, fun k hk => ?_⟩, ?_⟩
  · have := (hH2 k (by simpa using hk)).1
    simp only [Nat.zero_add] at this
    rw [this]; simp [hk]
  · have := (hH2 k (by simpa using hk)).2
    simpa only [Nat.zero_add] using this
  · refine ⟨rfl, rfl, rfl, by simp, fun k hk hne => ?_⟩
    rw [heap_grow_old _ _ (by simpa using hk)]
    have : g ≠ k := fun e => hne (by rw [e])
    simp [putRow, mapBlock, Sort.ahead, Array.getElem?_modify, this]

set_option maxRecDepth 8000 in
theorem RndOrderedW (a0 a1 : Int) (_w0 : (Lit.int .i64 a0).wf = true) (w1 : (Lit.int .i64 a1).wf = true) (w : World) :
    Calls Try.prog 3 #[.int .i64 a0, .int .i64 a1] w fun e w' => e = .returned (.bool true) ∧ Below w.heap.size w w' := by
  have hb1 := bounds_i64 w1
  have hg := golden_odd
  obtain ⟨N, hN⟩ := Int.eq_ofNat_of_zero_le (show 0 ≤ a1 % 80 by omega)
  have hN80 : N < 80 := by omega
  go_enter Try.func3, Try.ntmps3
  go_wp2_with (first
    | (go_at_call 4; (with_reducible refine (begun_any _).mono ?_); rintro e w1 ⟨rfl, hb⟩; obtain ⟨k0, n0, rfl⟩ := ext_of hb; clear hb)
    | (go_at_call 5; (with_reducible refine (below_any _ _ _ (by omega) (by omega) (by omega) (by omega)).mono ?_); rintro e w1 ⟨rfl, rfl⟩; rw [hN])
    | (go_at_call 7; (with_reducible refine (new_any _ _).mono ?_); rintro e w1 ⟨rfl, hb⟩; obtain ⟨k1, n1, rfl⟩ := ext_of hb; clear hb))
  refine (order_any _ _ N _ (by omega) hg).mono ?_
  rintro e w1 ⟨G, L, t, rfl, hl, hp, hr, hG1, hG2, hb⟩
  have HB1 := Lib.hid ((Below.ex (Below.refl w.heap.size w) (k0 ++ k1) n1).trans (hb.mono (by simp [size_ext])))
  have HP : Hid (L.length = N ∧ L.Perm (nums N) ∧ IRow w1 G L ∧ w.heap.size ≤ G) := ⟨hl, hp, hr, by simp [size_ext] at hG1; omega⟩
  have hwl : w.heap.size ≤ w1.heap.size := HB1.out.size
  clear hl hp hr hb hG1
  go_wp2_with fail
  obtain ⟨V, hV⟩ : ∃ V, V = w1.alloc (Obj.cells #[Value.int IntKind.u64 (U t), Value.int IntKind.u64 (U golden)] 27) := ⟨_, rfl⟩
  have HVb := Lib.hid (show Below w.heap.size w V from hV ▸ Below.al HB1.out _)
  have HVr := Lib.hid (show IRow V G L from hV ▸ HP.out.2.2.1.below (Below.al (Below.refl _ _) _) hG2)
  have c1 : V.cell? ⟨w1.heap.size, 1, none⟩ = some (.int .u64 (U golden)) := by rw [hV]; simp [go_sem]
  have hVs : w1.heap.size < V.heap.size := by rw [hV]; simp [go_sem]
  rw [← hV]
  obtain ⟨R, hR⟩ : ∃ R, w1.heap.size = R := ⟨_, rfl⟩
  rw [hR] at c1 hVs
  simp only [hR]
  clear hV hR hwl HB1
  refine (clone_ints (some ⟨G, 0, none⟩) N (L.map (Value.int .i64)) N V (by rw [List.length_map]; exact HP.out.1) (by simp) ?_ ?_ (by omega)).mono ?_
  · rintro x ⟨rfl⟩
    exact cells_of HP.out.1 (fun i hi => HVr.out.1 i (by rw [HP.out.1]; exact hi))
  · intro u hu
    obtain ⟨x, _, rfl⟩ := List.mem_map.1 hu
    rfl
  rintro e w2 ⟨v, rfl, hown, hb⟩
  have HVw := Lib.hid hb
  have HO := Lib.hid hown
  have c2 : w2.cell? ⟨R, 1, none⟩ = some (.int .u64 (U golden)) := (hb.cell (p := ⟨R, 1, none⟩) hVs).trans c1
  have hRs : R < w2.heap.size := Nat.lt_of_lt_of_le hVs hb.size
  clear hb hown c1
  by_cases hN0 : N = 0
  · subst hN0
    obtain ⟨p, cap, rfl⟩ : ∃ p cap, v = .slice p 0 cap := by
      rcases HO.out.2 with ⟨rfl, _⟩ | ⟨g', cap', cur, rfl, _⟩
      · exact ⟨_, _, rfl⟩
      · exact ⟨_, _, rfl⟩
    go_wp2_with (go_at_call 9; (with_reducible refine (Try.slices_Sort_int_none _ _ _).mono ?_); rintro e w3 ⟨rfl, rfl⟩)
    go_loopw [28] (fun v28 wr => v28 = .int .i64 0 ∧ wr = w3) (fun _ _ => 0)
    case atStart => exact ⟨rfl, rfl⟩
    case round =>
      obtain ⟨rfl, rfl⟩ := hrel
      go_wp2_with fail
      refine region_grow (by kernel_rfl) (by kernel_rfl) ?_
      repeat (go_big_quiet_step ((intro _; go_at_call 7; exact grow_of (new_any _ _))))
      refine wpQuiet_nil ?_
      intro _ hw'
      obtain ⟨k, m, rfl⟩ := hw'
      go_wp2
      go_ret
      exact ⟨rfl, Below.ex (HVb.out.trans (HVw.out.mono HVb.out.size)) _ _⟩
  · obtain ⟨g, cap, rfl, hg1, hg2, hg3, -, hcell, hfroz⟩ := owns_ints HO.out (by omega)
    have HR2 := Lib.hid (show IRow w2 g L from ⟨fun k hk => hcell k (by rw [HP.out.1] at hk; exact hk), fun k _ => hfroz k⟩)
    clear hcell hfroz
    go_wp2_with fail
    refine (sort_any g N cap L w2 HP.out.1 (by omega) HR2.out hg2 HP.out.2.1).mono ?_
    rintro e w3 ⟨rfl, hr3, hgb⟩
    have HB3 := Lib.hid (HVb.out.trans ((HVw.out.grown hgb HVw.out.size (fun k hk => by cases hk; exact hg1)).mono HVb.out.size))
    have c3 : w3.cell? ⟨R, 1, none⟩ = some (.int .u64 (U golden)) := ((HVw.out.grown hgb HVw.out.size (fun k hk => by cases hk; exact hg1)).cell (p := ⟨R, 1, none⟩) hVs).trans ((HVw.out.cell (p := ⟨R, 1, none⟩) hVs).symm.trans c2)
    have hRs3 : R < w3.heap.size := Nat.lt_of_lt_of_le hRs hgb.size
    have HR3 := Lib.hid hr3
    clear hr3 hgb c2 hRs
    go_wp2_with fail
    go_loopw [28] (fun v28 wr => ∃ i : Nat, v28 = .int .i64 i ∧ i ≤ N ∧ wr = w3) (fun v28 _ => N - (intOf v28).toNat)
    case atStart => exact ⟨0, rfl, Nat.zero_le _, rfl⟩
    case round =>
      obtain ⟨i, rfl, hi, rfl⟩ := hrel
      by_cases h0 : i = N
      · have i1 : ¬ (i : Int) < (N : Int) := by omega
        clear h0
        go_wp2_with fail
        refine region_grow (by kernel_rfl) (by kernel_rfl) ?_
        repeat (go_big_quiet_step ((intro _; go_at_call 7; exact grow_of (new_any _ _))))
        refine wpQuiet_nil ?_
        intro _ hw'
        obtain ⟨k, m, rfl⟩ := hw'
        go_wp2
        go_ret
        exact ⟨rfl, Below.ex HB3.out _ _⟩
      · have hil : i < N := by omega
        have i1 : (i : Int) < (N : Int) := by omega
        have hc := HR3.out.1 i (by rw [nums_length]; exact hil)
        rw [nums_at N i hil] at hc
        go_wp2_with fail
        go_roundw
        case rel => exact ⟨i + 1, rfl, by omega, by first | rfl | trivial⟩
        case measure => simp [intOf] <;> omega
end Go.Proofs.Ytbakhifhjmjpnaa
