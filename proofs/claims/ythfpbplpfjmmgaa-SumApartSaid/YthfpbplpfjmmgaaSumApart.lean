/- For every input, SumApart returns true. No condition. -/
import Derived.Test.YthfpbplpfjmmgaaDigest
namespace Go.Proofs.Ythfpbplpfjmmgaa
open Go.RowKit

theorem xor_one (c : Int) (h0 : 0 ≤ c) (h1 : c < 256) : bits .xor .u8 c 1 = flip c := by
  have h : ∀ n : Fin 256, bits .xor .u8 ((n.val : Nat) : Int) 1 = flip ((n.val : Nat) : Int) := by decide +kernel
  have := h ⟨c.toNat, by omega⟩
  simp only [] at this
  rwa [show ((c.toNat : Nat) : Int) = c by omega] at this
theorem succ_ne (x : Int) : Wd (wrap64 (x + 1)) ≠ Wd x := by
  rw [show wrap64 (x + 1) = IntKind.i64.wrap (x + 1) by unfold wrap64; rw [IntKind.wrap_i64]]
  rw [Wd_eq, Wd_eq, ofInt_wrap, BitVec.ofInt_add]
  intro h
  have h2 : BitVec.ofInt 64 x + BitVec.ofInt 64 1 - BitVec.ofInt 64 x = BitVec.ofInt 64 x - BitVec.ofInt 64 x := by rw [h]
  have h3 : BitVec.ofInt 64 1 = 0#64 := by
    have : BitVec.ofInt 64 x + BitVec.ofInt 64 1 - BitVec.ofInt 64 x = BitVec.ofInt 64 1 := by grind
    rw [this, BitVec.sub_self] at h2
    exact h2
  exact absurd h3 (by decide)

attribute [local go_sem ↓] run_mn
set_option maxRecDepth 4000 in
set_option maxHeartbeats 1000000 in
theorem walk6 (a : Option Addr) (zs : List Int) (cap : Nat) (i n : Int) (A B : W64) (w : World) (hn : a = none → zs = [] ∧ cap = 0) (hc : ∀ x, a = some x → ∀ j u, (zs.map (Value.int .i64))[j]? = some u → w.cell? (x.add j) = some u)
    (hlc : zs.length ≤ cap) (hr : zs.length ≤ 9223372036854775807) (hi : -9223372036854775808 ≤ i ∧ i ≤ 9223372036854775807) :
    Calls Try.prog 6 #[.slice a zs.length cap, .int .i64 i, .int .i64 n, .int .u64 (U A), .int .u64 (U B)] w fun e w' => e = .returned (.bool true) ∧ Below w.heap.size w w' := by
  obtain ⟨i0, hi0, hz0, hz1, hz2⟩ := info_parts Try.info3
  obtain ⟨len, hlen⟩ : ∃ len, len = zs.length := ⟨_, rfl⟩
  obtain ⟨q, hq, hq1, hq2⟩ : ∃ q : Nat, mn (len : Int) 100 = (q : Int) ∧ q ≤ len ∧ q ≤ 100 := by
    unfold mn
    by_cases h : len ≤ 100
    · exact ⟨len, by rw [if_neg (by omega)], by omega, by omega⟩
    · exact ⟨100, by rw [if_pos (by omega)]; rfl, by omega, by omega⟩
  obtain ⟨ys, hys⟩ : ∃ ys, ys = zs.take q := ⟨_, rfl⟩
  have HYL : Hid (ys.length = q) := by rw [hys, List.length_take]; unfold Hid; omega
  have HC : Hid (∀ x, a = some x → ∀ j u, (ys.map (Value.int .i64))[j]? = some u → w.cell? (x.add j) = some u) := by
    intro x hx j u hu
    refine hc x hx j u ?_
    rw [hys, List.getElem?_map, List.getElem?_take] at hu
    rw [List.getElem?_map]
    split at hu
    · exact hu
    · simp at hu
  have HN : Hid (a = none → q = 0 ∧ cap = 0) := by
    intro h
    have := hn h
    rw [this.1] at hlen
    simp at hlen
    exact ⟨by omega, this.2⟩
  rw [← hlen] at hr hlc ⊢
  clear hc hn hlen hys
  have hne0 : ¬ U (wsum []) = U (bsum []) := fun h => sums_nil (U_inj h)
  have hcut : ∀ W : World, (Instr.slice 37 (.slice a len cap) none (some (.int .i64 (q : Int))) none).run Try.prog W = .ok (.slice a q cap) W := fun W => run_cut W 37 3 a len cap q i0 Try.underlying37 hi0 (by omega) (fun h => (HN.out h).2)
  go_enter Try.func6, Try.ntmps6
  go_wp2_with (first
    | (go_at_call 20; (with_reducible refine (words_nil _).mono ?_); rintro e w1 ⟨rfl, rfl⟩)
    | (go_at_call 21; (with_reducible refine (bytes_nil _).mono ?_); rintro e w1 ⟨rfl, rfl⟩))
  refine (clone_ints a q (ys.map (Value.int .i64)) cap w (by rw [List.length_map]; exact HYL.out) HN.out HC.out (ints_oneCell _ _) (by omega)).mono ?_
  rintro e W2 ⟨v2, rfl, own2, hb2⟩
  have hs2 := hb2.size
  go_wp2_with (at_builtin; refine wpList_append_row _ rfl _ _ 37 rfl w.heap.size 3 i0 (.int .i64 0) 1 8 Try.underlying37 hi0 hz0 hz1 hz2 rfl (by decide) _ q _ rfl (.inl (own2.alloc _)) ⟨W2.heap.size, 0, none⟩ 1 1 [.int .i64 n] rfl rfl ?c1 ?c2 (by omega) (by unfold maxLen; omega) (by omega) (by simp; omega) ?_)
  case c1 =>
    intro j u hj
    match j, hj with
    | 0, hj => simp at hj; subst hj; simp [Addr.add]
  case c2 => intro u hu; simp at hu; subst hu; rfl
  intro v3 W3 own3 hg3
  have hb3 := grown_below hg3 (by simp; omega)
  clear hg3
  obtain ⟨L, hL⟩ : ∃ L, L = ys ++ [n] := ⟨_, rfl⟩
  have own3' : W3.ownsRow w.heap.size 3 1 v3 (q + 1) (L.map (Value.int .i64)) := by rw [hL, List.map_append]; exact own3
  obtain ⟨g3, cap3, rfl, hg3, hlt3, hlc3, hl3, hc3, hf3⟩ := owns_ints own3' (by omega)
  clear own3 own3' hL
  go_wp2_with fail
  have hs3 := hb3.size
  simp at hs3
  have HL3 := Lib.hid hl3
  have HC3 := Lib.hid hc3
  clear hl3 hc3 hf3
  refine (clone_ints (some ⟨g3, 0, none⟩) (q + 1) (L.map (Value.int .i64)) cap3 W3 (by rw [List.length_map]; exact HL3.out) (by intro h; cases h) ?_ (ints_oneCell _ _) (by omega)).mono ?_
  · intro x hx; cases hx; exact cells_of HL3.out HC3.out
  rintro e W4 ⟨v4, rfl, own4, hb4⟩
  obtain ⟨g4, cap4, rfl, hg4, hlt4, hlc4, hl4, hc4, hf4⟩ := owns_ints own4 (by omega)
  clear own4 hl4
  obtain ⟨j, hj, hjl⟩ : ∃ j : Nat, i % (↑q + 1) = ↑j ∧ j < q + 1 := by
    have h1 := Int.emod_nonneg i (show (q : Int) + 1 ≠ 0 by omega)
    have h2 := Int.emod_lt_of_pos i (show (0 : Int) < q + 1 by omega)
    exact ⟨(i % (↑q + 1)).toNat, by omega, by omega⟩
  have hcj := hc4 j hjl
  have hfj := hf4 j
  have HC4 := Lib.hid hc4
  clear hc4 hf4
  obtain ⟨x, hx⟩ : ∃ x, L[j]?.getD 0 = x := ⟨_, rfl⟩
  rw [hx] at hcj
  have HX := Lib.hid hx
  clear hx
  obtain ⟨y, hy⟩ : ∃ y, wrap64 (x + 1) = y := ⟨_, rfl⟩
  go_wp2_with (go_at_call 15; (with_reducible refine (below_any _ _ _ (by omega) (by omega) (by omega) (by omega)).mono ?_); rintro e w1 ⟨rfl, rfl⟩)
  obtain ⟨W5, hW5⟩ : ∃ W5, W4.setCell ⟨g4, j, none⟩ (.int .i64 y) = W5 := ⟨_, rfl⟩
  obtain ⟨M, hM⟩ : ∃ M, L.set j y = M := ⟨_, rfl⟩
  have hML : M.length = q + 1 := by rw [← hM, List.length_set]; exact HL3.out
  have hs4 := hb4.size
  have hc35 : ∀ k, k < q + 1 → W5.cell? ⟨g3, k, none⟩ = some (.int .i64 (L[k]?.getD 0)) := by
    intro k hk
    rw [← hW5, World.cell?_setCell_other _ _ _ _ (by intro e; have := congrArg Addr.block e; simp at this; omega), hb4.cell (p := ⟨g3, k, none⟩) hlt3]
    exact HC3.out k hk
  have hc45 : ∀ k, k < q + 1 → W5.cell? ⟨g4, k, none⟩ = some (.int .i64 (M[k]?.getD 0)) := by
    intro k hk
    rw [← hW5, ← hM]
    exact set_ints HC4.out HL3.out j y k hk
  have hsz5 : W5.heap.size = W4.heap.size := by rw [← hW5]; simp [World.setCell]
  have hb5 : Below w.heap.size w W5 := by
    have q1 : Below w.heap.size w W3 := (hb2.alloc hb2.size _).trans hb3
    rw [← hW5]
    exact (q1.trans (hb4.mono q1.size)).setCell (p := ⟨g4, j, none⟩) (by have := q1.size; simp; omega) _
  rw [hW5]
  have hne1 : wsum (L.map Wd) ≠ wsum (M.map Wd) := by
    rw [← hM, List.map_set]
    have hjL : j < L.length := by rw [HL3.out]; exact hjl
    refine (wsum_set (L.map Wd) j (Wd y) (by simpa using hjL) ?_).symm
    rw [List.getElem_map, ← hy]
    have := HX.out
    rw [List.getElem?_eq_getElem hjL] at this
    simp only [Option.getD_some] at this
    rw [this]
    exact succ_ne x
  have HNE1 := Lib.hid hne1
  have HC35 := Lib.hid hc35
  have HC45 := Lib.hid hc45
  have HB5 := Lib.hid hb5
  clear hne1 hc35 hc45 hb5 hW5 hM hy hcj hfj hne0 hcut hb3 hb2
  refine (mbytes_any g3 cap3 L (q + 1) W5 HL3.out (by omega) (by omega) HC35.out).mono ?_
  rintro e W6 ⟨v6, rfl, own6, hb6⟩
  obtain ⟨bs, hbs⟩ : ∃ bs, bs = L.map low8 := ⟨_, rfl⟩
  rw [← hbs] at own6
  have HBB : Hid (∀ c ∈ bs, 0 ≤ c ∧ c < 256) := by
    intro c hc
    rw [hbs, List.mem_map] at hc
    obtain ⟨z, _, rfl⟩ := hc
    exact low8_bd z
  clear hbs
  obtain ⟨g6, cap6, rfl, hg6, hlt6, hlc6, hl6, hc6, hf6⟩ := owns_ints own6 (by omega)
  have HL6 := Lib.hid hl6
  have HC6 := Lib.hid hc6
  clear own6 hl6 hc6 hf6
  have hs6 := hb6.size
  go_wp2_with fail
  refine (clone_bytes (some ⟨g6, 0, none⟩) (q + 1) (bs.map (Value.int .u8)) cap6 W6 (by rw [List.length_map]; exact HL6.out) (by intro h; cases h) ?_ (ints_oneCell _ _) (by omega)).mono ?_
  · intro x hx; cases hx; exact cells_of HL6.out HC6.out
  rintro e W7 ⟨v7, rfl, own7, hb7⟩
  obtain ⟨g7, cap7, rfl, hg7, hlt7, hlc7, hl7, hc7, hf7⟩ := owns_ints own7 (by omega)
  have hs7 := hb7.size
  have hc7j := hc7 j hjl
  have hf7j := hf7 j
  have HC7 := Lib.hid hc7
  clear own7 hl7 hc7 hf7
  obtain ⟨c, hc⟩ : ∃ c, bs[j]?.getD 0 = c := ⟨_, rfl⟩
  rw [hc] at hc7j
  have hcb : bs[j]'(by rw [HL6.out]; exact hjl) = c := by
    rw [List.getElem?_eq_getElem (by rw [HL6.out]; exact hjl)] at hc
    exact hc
  have hcr : 0 ≤ c ∧ c < 256 := by rw [← hcb]; exact HBB.out _ (List.getElem_mem _)
  have hxor := xor_one c hcr.1 hcr.2
  have HCB := Lib.hid hcb
  clear hc hcb
  have hjj : (j : Int) % (↑q + 1) = ↑j := Int.emod_eq_of_lt (by omega) (by omega)
  go_wp2_with (go_at_call 15; (with_reducible refine (below_any _ _ _ (by omega) (by omega) (by omega) (by omega)).mono ?_); rintro e w1 ⟨rfl, rfl⟩)
  obtain ⟨W8, hW8⟩ : ∃ W8, W7.setCell ⟨g7, j, none⟩ (.int .u8 (flip c)) = W8 := ⟨_, rfl⟩
  obtain ⟨cs, hcs⟩ : ∃ cs, bs.set j (flip c) = cs := ⟨_, rfl⟩
  have hCL : cs.length = q + 1 := by rw [← hcs, List.length_set]; exact HL6.out
  have hsz8 : W8.heap.size = W7.heap.size := by rw [← hW8]; simp [World.setCell]
  have o8 : ∀ g o, g < W7.heap.size → g ≠ g7 → W8.cell? ⟨g, o, none⟩ = W7.cell? ⟨g, o, none⟩ := by
    intro g o _ hne
    rw [← hW8, World.cell?_setCell_other _ _ _ _ (fun e => hne (congrArg Addr.block e).symm)]
  have hc38 : ∀ k, k < q + 1 → W8.cell? ⟨g3, k, none⟩ = some (.int .i64 (L[k]?.getD 0)) := by
    intro k hk
    rw [o8 g3 k (by omega) (by omega), hb7.cell (p := ⟨g3, k, none⟩) (by simp; omega), hb6.cell (p := ⟨g3, k, none⟩) (by simp; omega)]
    exact HC35.out k hk
  have hc48 : ∀ k, k < q + 1 → W8.cell? ⟨g4, k, none⟩ = some (.int .i64 (M[k]?.getD 0)) := by
    intro k hk
    rw [o8 g4 k (by omega) (by omega), hb7.cell (p := ⟨g4, k, none⟩) (by simp; omega), hb6.cell (p := ⟨g4, k, none⟩) (by simp; omega)]
    exact HC45.out k hk
  have hc68 : ∀ k, k < q + 1 → W8.cell? ⟨g6, k, none⟩ = some (.int .u8 (bs[k]?.getD 0)) := by
    intro k hk
    rw [o8 g6 k (by omega) (by omega), hb7.cell (p := ⟨g6, k, none⟩) (by simp; omega)]
    exact HC6.out k hk
  have hc78 : ∀ k, k < q + 1 → W8.cell? ⟨g7, k, none⟩ = some (.int .u8 (cs[k]?.getD 0)) := by
    intro k hk
    rw [← hW8, ← hcs]
    exact set_ints HC7.out HL6.out j _ k hk
  have hb8 : Below w.heap.size w W8 := by
    have q1 := HB5.out
    have q2 := (q1.trans (hb6.mono q1.size))
    have q3 := q2.trans (hb7.mono q2.size)
    rw [← hW8]
    exact q3.setCell (p := ⟨g7, j, none⟩) (by have := q2.size; simp; omega) _
  have hne2 : bsum bs ≠ bsum cs := by
    rw [← hcs, ← HCB.out]
    exact (bsum_flip bs j (by rw [HL6.out]; exact hjl) HBB.out).symm
  have hI3 : ∀ l m, Calls Try.prog 24 #[.slice (some ⟨g3, 0, none⟩) (q + 1) cap3] (ext W8 l m) fun e w' => e = .returned (.int .u64 (U (wsum (L.map Wd)))) ∧ Below (ext W8 l m).heap.size (ext W8 l m) w' := fun l m =>
    ints_any _ L (q + 1) cap3 _ HL3.out (by omega) (by intro x hx; cases hx; simp; omega) (by intro h; cases h) (by intro x hx k hk; cases hx; rw [Addr.add_lit, Nat.zero_add, cell_ext _ _ _ _ _ (by omega)]; exact hc38 k hk)
  have hI4 : ∀ l m, Calls Try.prog 24 #[.slice (some ⟨g4, 0, none⟩) (q + 1) cap4] (ext W8 l m) fun e w' => e = .returned (.int .u64 (U (wsum (M.map Wd)))) ∧ Below (ext W8 l m).heap.size (ext W8 l m) w' := fun l m =>
    ints_any _ M (q + 1) cap4 _ hML (by omega) (by intro x hx; cases hx; simp; omega) (by intro h; cases h) (by intro x hx k hk; cases hx; rw [Addr.add_lit, Nat.zero_add, cell_ext _ _ _ _ _ (by omega)]; exact hc48 k hk)
  have hB6 : ∀ l m, Calls Try.prog 21 #[.slice (some ⟨g6, 0, none⟩) (q + 1) cap6] (ext W8 l m) fun e w' => e = .returned (.int .u64 (U (bsum bs))) ∧ Below (ext W8 l m).heap.size (ext W8 l m) w' := fun l m =>
    bytes_any g6 cap6 bs (q + 1) _ HL6.out (by omega) (by omega) (by simp; omega) (by intro k hk; rw [cell_ext _ _ _ _ _ (by omega)]; exact hc68 k hk)
  have hB7 : ∀ l m, Calls Try.prog 21 #[.slice (some ⟨g7, 0, none⟩) (q + 1) cap7] (ext W8 l m) fun e w' => e = .returned (.int .u64 (U (bsum cs))) ∧ Below (ext W8 l m).heap.size (ext W8 l m) w' := fun l m =>
    bytes_any g7 cap7 cs (q + 1) _ hCL (by omega) (by omega) (by simp; omega) (by intro k hk; rw [cell_ext _ _ _ _ _ (by omega)]; exact hc78 k hk)
  have z1 : (U (wsum (L.map Wd)) != U (wsum (M.map Wd))) = true := by simp; intro h; exact HNE1.out (U_inj h)
  have z2 : (U (bsum bs) != U (bsum cs)) = true := by simp; intro h; exact hne2 (U_inj h)
  have HB8 := Lib.hid hb8
  have I3 := Lib.hid hI3
  have I4 := Lib.hid hI4
  have B6 := Lib.hid hB6
  have B7 := Lib.hid hB7
  obtain ⟨n1, hn1⟩ : ∃ n1, wsum (L.map Wd) = n1 := ⟨_, rfl⟩
  rw [hW8]
  clear o8 hc38 hc48 hc68 hc78 hI3 hI4 hB6 hB7 hb8 hW8 hcs hne2 hb6 hb7 hb4 hxor hf7j hc7j hjj hn1 hj
  rw [← ext_nil W8]
  by_cases hAB : A = B
  · subst hAB
    refine (I3.out _ _).mono ?_
    rintro e w1 ⟨rfl, hb⟩
    obtain ⟨l1, m1, rfl⟩ := ext_of hb
    clear hb
    go_wp2_with (first
      | (go_at_call 24; (with_reducible refine (I4.out _ _).mono ?_); rintro e w1 ⟨rfl, hb⟩; obtain ⟨l2, m2, rfl⟩ := ext_of hb; clear hb)
      | (go_at_call 21; (first | (with_reducible refine (B6.out _ _).mono ?_) | (with_reducible refine (B7.out _ _).mono ?_)); rintro e w1 ⟨rfl, hb⟩; obtain ⟨l3, m3, rfl⟩ := ext_of hb; clear hb)
      | (go_at_call 25; (with_reducible refine (join_any _ _ _).mono ?_); rintro e w1 ⟨rfl, rfl⟩)
      | (go_at_call 26; (with_reducible refine (n64_any _ _).mono ?_); rintro e w1 ⟨rfl, rfl⟩))
    go_ret
    exact ⟨rfl, Below.ext' HB8.out HB8.out.size _ _⟩
  · have z0 : (U A == U B) = false := by simp; intro h; exact hAB (U_inj h)
    have z3 : (U (join A (Wd n)) != U (join B (Wd n))) = true := by simp; intro h; exact hAB (join_left _ _ _ (U_inj h))
    have z4 : (U (join (Wd n) A) != U (join (Wd n) B)) = true := by simp; intro h; exact hAB (join_right _ _ _ (U_inj h))
    have HAB := Lib.hid hAB
    clear hAB
    refine (I3.out _ _).mono ?_
    rintro e w1 ⟨rfl, hb⟩
    obtain ⟨l1, m1, rfl⟩ := ext_of hb
    clear hb
    go_wp2_with (first
      | (go_at_call 24; (with_reducible refine (I4.out _ _).mono ?_); rintro e w1 ⟨rfl, hb⟩; obtain ⟨l2, m2, rfl⟩ := ext_of hb; clear hb)
      | (go_at_call 21; (first | (with_reducible refine (B6.out _ _).mono ?_) | (with_reducible refine (B7.out _ _).mono ?_)); rintro e w1 ⟨rfl, hb⟩; obtain ⟨l3, m3, rfl⟩ := ext_of hb; clear hb)
      | (go_at_call 25; (with_reducible refine (join_any _ _ _).mono ?_); rintro e w1 ⟨rfl, rfl⟩)
      | (go_at_call 26; (with_reducible refine (n64_any _ _).mono ?_); rintro e w1 ⟨rfl, rfl⟩))
    go_ret
    exact ⟨rfl, Below.ext' HB8.out HB8.out.size _ _⟩

theorem of_u64 (a : Int) (h : (Lit.int .u64 a).wf = true) : ∃ A : W64, a = U A := by
  have hb := bounds_u64 h
  refine ⟨BitVec.ofInt 64 a, ?_⟩
  rw [← wrap_ofInt, IntKind.wrap_u64]
  omega
theorem SumApartW (a0 : Option Addr) (len0 cap0 : Nat) (z0 : List Int) (a1 a2 a3 a4 : Int) (w : World)
    (w0 : ((a0 = none ∧ len0 = 0 ∧ cap0 = 0 ∧ z0 = []) ∨ ∃ x, a0 = some x ∧ len0 ≤ cap0 ∧ cap0 ≤ maxLen ∧ z0.length = cap0 ∧ (∀ i, i < z0.length → w.cell? (x.add i) = some (.int .i64 (z0.getD i 0))) ∧ ∀ n ∈ z0, (Lit.int .i64 n).wf = true) ∧ cap0 * 8 ≤ 140737488351232)
    (w1 : (Lit.int .i64 a1).wf = true) (_w2 : (Lit.int .i64 a2).wf = true) (w3 : (Lit.int .u64 a3).wf = true) (w4 : (Lit.int .u64 a4).wf = true) :
    Calls Try.prog 6 #[.slice a0 len0 cap0, .int .i64 a1, .int .i64 a2, .int .u64 a3, .int .u64 a4] w fun e w' => e = .returned (.bool true) ∧ Below w.heap.size w w' := by
  obtain ⟨ns, rfl, hn, hc, _, hlc⟩ := row_open w0.1
  obtain ⟨A, rfl⟩ := of_u64 a3 w3
  obtain ⟨B, rfl⟩ := of_u64 a4 w4
  exact walk6 a0 ns cap0 a1 a2 A B w (fun h => ⟨List.eq_nil_of_length_eq_zero (hn h).1, (hn h).2⟩) hc hlc (by have := w0.2; omega) (bounds_i64 w1)
end Go.Proofs.Ythfpbplpfjmmgaa
