/- For every input, RndApart returns true. No condition. -/
import Derived.Test.YthfpbplpfjmmgaaSplits
import Derived.Test.YthfpbplpfjmmgaaClone
import Derived.Maps.OwnSet
import Derived.Test.YthfpbplpfjmmgaaTail
namespace Go.Proofs.Ythfpbplpfjmmgaa
open Go.RowKit Go.Maps

theorem ofInt_wrap (m : Int) : BitVec.ofInt 64 (IntKind.i64.wrap m) = BitVec.ofInt 64 m := by
  apply BitVec.eq_of_toNat_eq
  rw [BitVec.toNat_ofInt, BitVec.toNat_ofInt, IntKind.wrap_i64]
  simp only [Nat.reducePow]
  show (((m + 9223372036854775808) % 18446744073709551616 - 9223372036854775808) % 18446744073709551616).toNat = (m % 18446744073709551616).toNat
  omega
theorem xor_Wd (x k : Int) : Wd (bits .xor .i64 x k) = Wd x ^^^ Wd k := by
  rw [Wd_eq, Wd_eq, Wd_eq]
  show BitVec.ofInt 64 (IntKind.i64.wrap ((BitVec.ofInt 64 x ^^^ BitVec.ofInt 64 k).toNat : Int)) = _
  rw [ofInt_wrap]
  have := ofInt_U (BitVec.ofInt 64 x ^^^ BitVec.ofInt 64 k)
  exact this
theorem owm_ext {H : Type} {w : World} {P : Program} {k : TypeId} {R : Value → Option (DataW H × List MemPlace)} {b n : Nat} {D : DataW H} (h : w.ownsMap P k R b n D) (l : List Obj) (m : Nat) : (ext w l m).ownsMap P k R b n D :=
  h.kept (row := none) ⟨rfl, rfl, rfl, by simp, fun i hi _ => (below_ext w l m).block i hi⟩ (by simp)

/-- The numbers of a stream, as keys. -/
noncomputable def seenKeys (s g : W64) (k : Nat) : List Lit := (List.range k).map fun j => Lit.int .u64 (U (mix (st s g (j + 1))))
noncomputable def seenMap (s g : W64) (k : Nat) : DataW Unit := Maps.setOf (.lit (.bool true)) (seenKeys s g k)
theorem seenMap_succ (s g : W64) (k : Nat) : seenMap s g (k + 1) = (seenMap s g k).put (.int .u64 (U (mix (st s g (k + 1))))) (.lit (.bool true)) := by
  unfold seenMap seenKeys
  rw [List.range_succ, List.map_append, List.map_singleton, Maps.setOf_snoc]
theorem addKey_all : ∀ (xs L : List Lit), (L ++ xs).Pairwise (· ≠ ·) → xs.foldl Maps.addKey L = L ++ xs
  | [], L, _ => by simp
  | x :: r, L, h => by
    have hx : L.any (fun y => y.sameKey x) = false := by
      rw [List.any_eq_false]
      intro y hy
      have := (List.pairwise_append.1 h).2.2 y hy x (by simp)
      simp [Maps.sameKey_ne this]
    rw [List.foldl_cons, show Maps.addKey L x = L ++ [x] by unfold Maps.addKey; simp [hx], addKey_all r (L ++ [x]) (by simpa using h)]
    simp
theorem st_add (s g : W64) (a : Nat) : ∀ k, st (st s g a) g k = st s g (a + k)
  | 0 => rfl
  | k + 1 => by show st (st s g a) g k + g = st s g (a + k) + g; rw [st_add s g a k]
theorem seen_size (s g : W64) (hg : g.toNat % 2 = 1) : Maps.size (seenMap s g 50) = 50 := by
  unfold seenMap
  rw [Maps.size_setOf, addKey_all]
  · simp [seenKeys]
  · rw [List.nil_append]
    unfold seenKeys
    rw [List.pairwise_iff_getElem]
    intro i j hi hj hij he
    simp only [List.getElem_map, List.getElem_range] at he
    have he' : mix (st s g (i + 1)) = mix (st s g (j + 1)) := by
      injection he with _ h2
      exact U_inj h2
    have h3 := mix_inj _ _ he'
    have h4 : st s g (j + 1) = st (st s g (i + 1)) g (j - i) := by
      rw [st_add]; congr 1; omega
    rw [h4] at h3
    simp at hj
    exact st_ne _ g hg (j - i) (by omega) (by omega) h3.symm
  · intro x hx
    simp only [seenKeys, List.mem_map] at hx
    obtain ⟨j, _, rfl⟩ := hx
    trivial

theorem xor_ne (x k : Int) (h1 : 1 ≤ k) (h2 : k ≤ 1099511627776) : Wd (bits .xor .i64 x k) ≠ Wd x := by
  rw [xor_Wd]
  intro h
  have h0 : Wd x ^^^ (Wd x ^^^ Wd k) = Wd x ^^^ Wd x := by rw [h]
  rw [← BitVec.xor_assoc, BitVec.xor_self, BitVec.zero_xor] at h0
  have := U_Wd k (by omega) (by omega)
  rw [h0] at this
  have hz : U 0#64 = 0 := by decide
  omega

theorem U_wf (x : W64) : (Lit.int .u64 (U x)).wf = true := by
  have := U_lo x; have := U_hi x
  exact WalkArith.wf_u64 ⟨by omega, by omega⟩
theorem ofAcc_inj (zs : List Int) : ∀ s s' : W64, ofAcc s zs = ofAcc s' zs → s = s' := by
  induction zs with
  | nil => intro s s' h; exact h
  | cons z zs ih =>
    intro s s' h
    have h1 := ih _ _ h
    have h2 : mix (s + golden) = mix (s' + golden) := by
      have := congrArg (fun t => t ^^^ Wd z) h1
      simpa [BitVec.xor_assoc] using this
    have h3 := mix_inj _ _ h2
    have : s + golden - golden = s' + golden - golden := by rw [h3]
    simpa using this
theorem ofAcc_set (zs : List Int) : ∀ (i : Nat) (y : Int) (s : W64) (hi : i < zs.length), Wd y ≠ Wd zs[i] → ofAcc s (zs.set i y) ≠ ofAcc s zs := by
  induction zs with
  | nil => intro i y s hi; simp at hi
  | cons z zs ih =>
    intro i y s hi hy h
    cases i with
    | zero =>
      have h1 := ofAcc_inj zs _ _ h
      have := congrArg (fun t => mix (s + golden) ^^^ t) h1
      simp only [← BitVec.xor_assoc, BitVec.xor_self, BitVec.zero_xor] at this
      exact hy this
    | succ i => exact ih i y _ (by simpa using hi) (by simpa using hy) h
theorem ofState_set (zs : List Int) (i : Nat) (y : Int) (hi : i < zs.length) (hy : Wd y ≠ Wd zs[i]) : ofState (zs.set i y) ≠ ofState zs := by
  unfold ofState
  rw [List.length_set]
  intro h
  have h1 := mix_inj _ _ h
  refine ofAcc_set zs i y (Wd zs.length) hi hy ?_
  have : ofAcc (Wd zs.length) (zs.set i y) + golden - golden = ofAcc (Wd zs.length) zs + golden - golden := by rw [h1]
  simpa using this

theorem lawU64 : Maps.Keyed Try.prog 23 := Maps.int_keyed Try.underlying23

theorem cell_sets0 {w : World} {bx : Nat} {x y u v : Value} (h0 : w.cell? ⟨bx, 0, none⟩ = some x) (_h1 : w.cell? ⟨bx, 1, none⟩ = some y) (l : List Obj) (m : Nat) (hlt : bx < w.heap.size) :
    (ext ((w.setCell ⟨bx, 0, none⟩ u).setCell ⟨bx, 1, none⟩ v) l m).cell? ⟨bx, 0, none⟩ = some u := by
  rw [cell_ext _ _ _ _ _ (by simpa [World.setCell] using hlt), World.cell?_setCell_other _ _ _ _ (by intro e; cases e), World.cell?_setCell_same _ _ _ h0]
theorem cell_sets1 {w : World} {bx : Nat} {x y u v : Value} (_h0 : w.cell? ⟨bx, 0, none⟩ = some x) (h1 : w.cell? ⟨bx, 1, none⟩ = some y) (l : List Obj) (m : Nat) (hlt : bx < w.heap.size) :
    (ext ((w.setCell ⟨bx, 0, none⟩ u).setCell ⟨bx, 1, none⟩ v) l m).cell? ⟨bx, 1, none⟩ = some v := by
  rw [cell_ext _ _ _ _ _ (by simpa [World.setCell] using hlt), World.cell?_setCell_same _ _ _ ((World.cell?_setCell_other _ _ _ _ (by intro e; cases e)).trans h1)]

/-- What holds at a round's head of the loop over a stream's numbers: the map, the stream's box. -/
structure Seen (s g : W64) (B b k bx : Nat) (W0 wr : World) : Prop where
  own : wr.ownsMap Try.prog 23 (plainElem Try.prog 4) b k (seenMap s g k)
  c0 : wr.cell? ⟨bx, 0, none⟩ = some (.int .u64 (U (st s g k)))
  c1 : wr.cell? ⟨bx, 1, none⟩ = some (.int .u64 (U g))
  f0 : ∀ j, wr.frozen? ⟨bx, j, none⟩ = false
  lo : B ≤ bx
  lt : bx < wr.heap.size
  ne : bx ≠ b
  bel : Below B W0 wr

set_option maxRecDepth 4000 in
theorem walk5 (a : Option Addr) (zs : List Int) (cap : Nat) (i n : Int) (w : World) (hn : a = none → zs = [] ∧ cap = 0) (hc : ∀ x, a = some x → ∀ j u, (zs.map (Value.int .i64))[j]? = some u → w.cell? (x.add j) = some u)
    (hr : zs.length * 8 ≤ 140737488351232) (hi : -9223372036854775808 ≤ i ∧ i ≤ 9223372036854775807) (hn' : -9223372036854775808 ≤ n ∧ n ≤ 9223372036854775807) :
    Calls Try.prog 5 #[.slice a zs.length cap, .int .i64 i, .int .i64 n] w fun e w' => e = .returned (.bool true) ∧ Below w.heap.size w w' := by
  obtain ⟨i0, hi0, hz0, hz1, hz2⟩ := info_parts Try.info3
  have HC := Lib.hid hc
  have HN := Lib.hid hn
  clear hc hn
  obtain ⟨len, hlen⟩ : ∃ len, len = zs.length := ⟨_, rfl⟩
  have HL := Lib.hid hlen
  rw [← hlen] at hr ⊢
  clear hlen
  go_enter Try.func5, Try.ntmps5
  go_wp2_with (go_at_call 11; (with_reducible refine (begun_any _).mono ?_); rintro e W1 ⟨rfl, hb1⟩)
  refine (clone_ints a len (zs.map (Value.int .i64)) cap W1 (by simp [HL.out]) ?_ ?_ (ints_oneCell _ _) (by omega)).mono ?_
  · intro h; have := HN.out h; rw [HL.out, this.1]; exact ⟨rfl, this.2⟩
  · intro x hx j u hu
    have := HC.out x hx j u hu
    exact (hb1.cell (World.block_lt_of_cell? w _ this)).trans this
  rintro e W2 ⟨v2, rfl, own2, hb2⟩
  have hs2 := hb2.size
  go_wp2_with (at_builtin; refine wpList_append_row _ rfl _ _ 37 rfl W1.heap.size 3 i0 (.int .i64 0) 1 8 Try.underlying37 hi0 hz0 hz1 hz2 rfl (by decide) _ len _ rfl (.inl (own2.alloc _)) ⟨W2.heap.size, 0, none⟩ 1 1 [.int .i64 n] rfl rfl ?c1 ?c2 (by omega) (by unfold maxLen; omega) (by omega) (by simp; omega) ?_)
  case c1 =>
    intro j u hj
    match j, hj with
    | 0, hj => simp at hj; subst hj; simp [Addr.add]
  case c2 => intro u hu; simp at hu; subst hu; rfl
  intro v3 W3 own3 hg3
  have hb3 := grown_below hg3 (by simp; omega)
  clear hg3
  have own3' : W3.ownsRow W1.heap.size 3 1 v3 (len + 1) ((zs ++ [n]).map (Value.int .i64)) := by rw [List.map_append]; exact own3
  obtain ⟨g3, cap3, rfl, hg3, hlt3, hlc3, hl3, hc3, hf3⟩ := owns_ints own3' (by omega)
  clear own3 own3'
  go_wp2_with fail
  have hs3 := hb3.size
  simp at hs3
  have HL3 := Lib.hid hl3
  have HC3 := Lib.hid hc3
  clear hl3 hc3
  refine (clone_ints (some ⟨g3, 0, none⟩) (len + 1) ((zs ++ [n]).map (Value.int .i64)) cap3 W3 (by rw [List.length_map]; exact HL3.out) (by intro h; cases h) ?_ (ints_oneCell _ _) (by omega)).mono ?_
  · intro x hx j u hu
    cases hx
    rw [List.getElem?_map] at hu
    have hj : j < len + 1 := by
      rcases Nat.lt_or_ge j (zs ++ [n]).length with h | h
      · rw [← HL3.out]; exact h
      · rw [List.getElem?_eq_none h] at hu; cases hu
    have := HC3.out j hj
    rcases hz : (zs ++ [n])[j]? with _ | y
    · rw [hz] at hu; cases hu
    · rw [hz] at hu this
      simp at hu
      subst hu
      rw [Addr.add_lit]
      simpa using this
  rintro e W4 ⟨v4, rfl, own4, hb4⟩
  obtain ⟨g4, cap4, rfl, hg4, hlt4, hlc4, hl4, hc4, hf4⟩ := owns_ints own4 (by omega)
  clear own4 hl4
  obtain ⟨j, hj, hjl⟩ : ∃ j : Nat, i % (↑len + 1) = ↑j ∧ j < len + 1 := by
    have h1 := Int.emod_nonneg i (show (len : Int) + 1 ≠ 0 by omega)
    have h2 := Int.emod_lt_of_pos i (show (0 : Int) < len + 1 by omega)
    exact ⟨(i % (↑len + 1)).toNat, by omega, by omega⟩
  have hcj := hc4 j hjl
  have hfj := hf4 j
  have HC4 := Lib.hid hc4
  have HF4 := Lib.hid hf4
  clear hc4 hf4
  have k0 : 0 ≤ n % 1099511627776 := by omega
  have k1 : n % 1099511627776 < 1099511627776 := by omega
  go_wp2_with (go_at_call 15; (with_reducible refine (below_any _ _ _ (by omega) (by omega) (by omega) (by omega)).mono ?_); rintro e w1 ⟨rfl, rfl⟩)
  obtain ⟨x, hx⟩ : ∃ x, (zs ++ [n])[j]?.getD 0 = x := ⟨_, rfl⟩
  rw [hx] at hcj
  have hy := xor_ne x (1 + n % 1099511627776) (by omega) (by omega)
  obtain ⟨y, hxy⟩ : ∃ y, bits .xor .i64 x (1 + n % 1099511627776) = y := ⟨_, rfl⟩
  rw [hxy] at hy
  have HY := Lib.hid hy
  have HX := Lib.hid hx
  clear hy hx
  refine region_tail 9 (by kernel_rfl) (by kernel_rfl) ?_
  simp only [List.take_succ_cons, List.take_zero, List.drop_succ_cons, List.drop_zero]
  repeat (go_big_quiet_step ((intro _; go_at_call 15; exact grow_same (below_any _ _ _ (by omega) (by omega) (by omega) (by omega)))))
  refine wpQuiet_nil ?_
  intro _ hw'
  obtain ⟨kk, mm, rfl⟩ := hw'
  go_wp2_with fail
  obtain ⟨W5, hW5⟩ : ∃ W5, ext (W4.setCell ⟨g4, j, none⟩ (.int .i64 y)) kk mm = W5 := ⟨_, rfl⟩
  rw [hW5]
  have hb5 : Below W3.heap.size W3 W5 := by
    rw [← hW5]
    exact Below.ext' (hb4.setCell (p := ⟨g4, j, none⟩) hg4 _) (by simp [World.setCell]; omega) _ _
  have hs5 : W4.heap.size ≤ W5.heap.size := by rw [← hW5]; simp [World.setCell]
  have hc35 : ∀ k, k < (zs ++ [n]).length → W5.cell? ⟨g3, 0 + k, none⟩ = some (.int .i64 ((zs ++ [n])[k]?.getD 0)) := by
    intro k hk
    rw [Nat.zero_add, hb5.cell (p := ⟨g3, k, none⟩) hlt3]
    exact HC3.out k (by rw [← HL3.out]; exact hk)
  have hc45 : ∀ k, k < ((zs ++ [n]).set j y).length → W5.cell? ⟨g4, 0 + k, none⟩ = some (.int .i64 (((zs ++ [n]).set j y)[k]?.getD 0)) := by
    intro k hk
    rw [List.length_set] at hk
    rw [Nat.zero_add, ← hW5, cell_ext _ _ _ _ _ (by simpa [World.setCell] using hlt4)]
    exact set_ints HC4.out HL3.out j y k (by rw [← HL3.out]; exact hk)
  have hlt35 : g3 < W5.heap.size := by omega
  have hlt45 : g4 < W5.heap.size := by omega
  obtain ⟨L, hLL⟩ : ∃ L, zs ++ [n] = L := ⟨_, rfl⟩
  obtain ⟨M, hMM⟩ : ∃ M, L.set j y = M := ⟨_, rfl⟩
  rw [hLL] at hc35 hc45
  rw [hMM] at hc45
  have HLM : Hid (L.length = len + 1 ∧ M.length = len + 1 ∧ ofState M ≠ ofState L) := by
    have h1 : L.length = len + 1 := by rw [← hLL]; exact HL3.out
    refine ⟨h1, by rw [← hMM, List.length_set]; exact h1, ?_⟩
    rw [← hMM]
    refine ofState_set L j y (by omega) ?_
    have hx := HX.out
    rw [hLL, List.getElem?_eq_getElem (by omega)] at hx
    simp only [Option.getD_some] at hx
    rw [hx]; exact HY.out
  have hOL := of_any g3 0 cap3 L W5 (by have := HLM.out.1; omega) hc35 hlt35
  rw [HLM.out.1] at hOL
  refine hOL.mono ?_
  rintro e W6 ⟨rfl, hb6⟩
  have hOM := fun l m => of_any g4 0 cap4 M (ext W6 l m) (by have := HLM.out.2.1; omega) (by intro k hk; rw [cell_ext _ _ _ _ _ (by have := hb6.size; omega), hb6.cell (p := ⟨g4, 0 + k, none⟩) hlt45]; exact hc45 k hk) (by have := hb6.size; simp; omega)
  rw [HLM.out.2.1] at hOM
  have hs6 := hb6.size
  have hmm := @run_makeMap Try.prog
  go_wp2_with fail
  have HOM := Lib.hid hOM
  clear hOM
  obtain ⟨W0, hW0⟩ : ∃ W0, W6.alloc (Obj.cells #[Value.int IntKind.u64 (U (ofState L)), Value.int IntKind.u64 (U (ofGamma L))] 25) = W0 := ⟨_, rfl⟩
  have hz0 : W6.heap.size + 1 = W0.heap.size := by rw [← hW0]; simp
  obtain ⟨s0, hs0⟩ : ∃ s0, ofState L = s0 := ⟨_, rfl⟩
  obtain ⟨g0, hg0⟩ : ∃ g0, ofGamma L = g0 := ⟨_, rfl⟩
  rw [hs0, hg0] at hW0
  rw [hs0, hg0, hW0, hz0]
  have HS0 := Lib.hid hs0
  have HG0 := Lib.hid hg0
  have HW0 := Lib.hid hW0
  clear hs0 hg0 hW0 hmm
  go_loopw [10, 11, 12] (fun bp k _ wr => ∃ kn bx : Nat, k = .int .i64 kn ∧ kn ≤ 50 ∧ bp = .pointer (some ⟨bx, 0, none⟩) ∧ Seen s0 g0 W0.heap.size W0.heap.size kn bx W0 wr) (fun _ k _ _ => 50 - (intOf k).toNat)
  case atStart =>
    refine ⟨0, _, rfl, by omega, rfl, ?_⟩
    have hbx : (W0.alloc (Obj.map #[] 0)).heap.size = W0.heap.size + 1 := by simp
    refine ⟨(World.ownsMap_made W0 _ _ _).alloc _, by simp [go_sem, st], by simp [go_sem], by intro q; simp [go_sem], by omega, by simp, by omega, ?_⟩
    exact ((Below.refl _ _).alloc (Nat.le_refl _) _).alloc (by simp) _
  case round =>
    obtain ⟨kn, bx, rfl, hkn, rfl, hS⟩ := hrel
    by_cases hlt : kn < 50
    · have hc0 := hS.c0
      have hc1 := hS.c1
      have hf0 := hS.f0
      have hxlt := hS.lt
      go_wp2_with (first
        | (go_at_call 14; (with_reducible refine (next_any _ _ _).mono ?_); rintro e w1 ⟨rfl, hb⟩; obtain ⟨lx, nx, rfl⟩ := ext_of hb; clear hb)
        | (at_mapUpdate; refine wpList_mapUpdate_own _ rfl _ _ _ 39 rfl 23 4 lawU64 Try.underlying39 _ W0.heap.size kn _ rfl (owm_ext ((hS.own.setCell (by have := hS.ne; simp; omega) _).setCell (by have := hS.ne; simp; omega) _) _ _) (by unfold maxLen; omega) _ _ _ rfl rfl (Maps.keyOf_int_mk Try.underlying23 (U_wf _)) _ [] (plainElem_bool Try.underlying4 true) ?_; intro w1 hown1 hgrow1; have hd0 := hgrow1.cell (a := ⟨bx, 0, none⟩) (cell_sets0 hc0 hc1 _ _ hxlt) (fun h => hS.ne (by simpa using h)); have hd1 := hgrow1.cell (a := ⟨bx, 1, none⟩) (cell_sets1 hc0 hc1 _ _ hxlt) (fun h => hS.ne (by simpa using h))))
      go_roundw
      case rel =>
        refine ⟨kn + 1, w1.heap.size, by go_num, by omega, rfl, ?_⟩
        refine ⟨?_, by simp [go_sem, st], by simp [go_sem], by intro q; simp [go_sem], ?_, by simp, ?_, ?_⟩
        · rw [seenMap_succ]; exact hown1.alloc _
        · have h1 := hgrow1.size; have := hS.lo; simp [World.setCell] at h1; omega
        · have h1 := hgrow1.size; have := hS.lo; simp [World.setCell] at h1; omega
        · have hsz : W0.heap.size ≤ wr.heap.size := hS.bel.size
          have hw : Below W0.heap.size W0 (ext ((wr.setCell ⟨bx, 0, none⟩ (.int .u64 (U (st s0 g0 kn + g0)))).setCell ⟨bx, 1, none⟩ (.int .u64 (U g0))) lx nx) :=
            Below.ext' ((hS.bel.setCell (p := ⟨bx, 0, none⟩) hS.lo _).setCell (p := ⟨bx, 1, none⟩) hS.lo _) (by simpa [World.setCell] using hsz) _ _
          have h2 := hw.grown hgrow1 (by simp [World.setCell]; omega) (fun q hq => by cases hq; exact Nat.le_refl _)
          exact h2.alloc h2.size _
      case measure => simp [intOf]; omega
    · obtain rfl : kn = 50 := by omega
      have hlen : ∀ l m, (Builtin.len_ #[39] 3 #[.map (some W0.heap.size)]).run Try.prog (ext wr l m) = .ok (.int .i64 50) (ext wr l m) := by
        intro l m
        have := (owm_ext hS.own l m).len Try.underlying39 3
        rw [seen_size s0 g0 (by rw [← HG0.out]; unfold ofGamma; exact odd_nat _ (U_odd _))] at this
        exact this
      have hb56 : ∀ q, q < W5.heap.size → ∀ o, wr.cell? ⟨q, o, none⟩ = W5.cell? ⟨q, o, none⟩ := by
        intro q hq o
        rw [hS.bel.cell (p := ⟨q, o, none⟩) (by simp; omega), ← HW0.out]
        rw [World.cell?_alloc_lt _ _ _ (by simp; omega)]
        exact hb6.cell (p := ⟨q, o, none⟩) hq
      have hc3r : wr.cell? ⟨g3, j, none⟩ = some (.int .i64 x) := by
        rw [hb56 g3 hlt35]; have := hc35 j (by rw [HLM.out.1]; exact hjl)
        rw [Nat.zero_add, ← hLL, HX.out] at this; exact this
      have hc4r : wr.cell? ⟨g4, j, none⟩ = some (.int .i64 y) := by
        rw [hb56 g4 hlt45]; have := hc45 j (by rw [HLM.out.2.1]; exact hjl)
        rw [Nat.zero_add, ← hMM, ← hLL, List.getElem?_set_self (by rw [HL3.out]; exact hjl)] at this; exact this
      have hr0 : wr.cell? ⟨W6.heap.size, 0, none⟩ = some (.int .u64 (U s0)) := by
        rw [hS.bel.cell (p := ⟨W6.heap.size, 0, none⟩) (by simp; omega), ← HW0.out]; simp [go_sem]
      have hr1 : wr.cell? ⟨W6.heap.size, 1, none⟩ = some (.int .u64 (U g0)) := by
        rw [hS.bel.cell (p := ⟨W6.heap.size, 1, none⟩) (by simp; omega), ← HW0.out]; simp [go_sem]
      have hwr : W6.heap.size + 1 ≤ wr.heap.size := by have := hS.bel.size; omega
      have hOr : ∀ l m, Calls Try.prog 16 #[.slice (some ⟨g4, 0, none⟩) (len + 1) cap4] (ext wr l m) fun e w' => e = .returned (.agg #[.int .u64 (U (ofState M)), .int .u64 (U (ofGamma M))]) ∧ Below (ext wr l m).heap.size (ext wr l m) w' := by
        intro l m
        have := of_any g4 0 cap4 M (ext wr l m) (by have := HLM.out.2.1; omega) (by intro k hk; rw [cell_ext _ _ _ _ _ (by omega), hb56 g4 hlt45]; exact hc45 k hk) (by simp; omega)
        rw [HLM.out.2.1] at this
        exact this
      have hne1 : ¬ U (mix (Wd x)) = U (mix (Wd y)) := fun h => HY.out (mix_inj _ _ (U_inj h)).symm
      have hne2 : ¬ U (ofState M) = U s0 := fun h => HLM.out.2.2 ((U_inj h).trans HS0.out.symm)
      have hq1 : (U (mix (Wd x)) != U (mix (Wd y))) = true := by simpa using hne1
      have hq2 : (U (ofState M) != U s0) = true := by simpa using hne2
      have hodd : U (g0 % 2#64) = 1 := by rw [← HG0.out]; unfold ofGamma; exact U_odd _
      have hBel : Hid (Below w.heap.size w wr) := by
        have q1 : Below w.heap.size w W3 := (hb1.trans ((hb2.mono hb1.size).alloc (by have := hb1.size; omega) _)).trans (hb3.mono hb1.size)
        have q2 : Below w.heap.size w W6 := (q1.trans (hb5.mono q1.size)).trans (hb6.mono (by have := hb1.size; omega))
        have q3 : Below w.heap.size w W0 := by rw [← HW0.out]; exact q2.alloc q2.size _
        exact q3.trans (hS.bel.mono q3.size)
      clear hc35 hc45 hLL hMM hb56 hcj hfj hxy
      have hlt6r : W6.heap.size < wr.heap.size := by omega
      have hlt3r : g3 < wr.heap.size := by omega
      have hlt4r : g4 < wr.heap.size := by omega
      go_wp2_with fail
      refine region_grow (by kernel_rfl) (by kernel_rfl) ?_
      repeat (go_big_quiet_step ((intro _; first | (go_at_call 19; exact grow_same (mix_any _ _)) | (go_at_call 16; exact grow_of (hOr _ _)))))
      refine wpQuiet_nil ?_
      intro _ hw'
      obtain ⟨k, m, rfl⟩ := hw'
      go_wp2
      go_ret
      exact ⟨rfl, Below.ext' hBel.out hBel.out.size _ _⟩

theorem RndApartW (a0 : Option Addr) (len0 cap0 : Nat) (z0 : List Int) (a1 : Int) (a2 : Int) (w : World)
    (w0 : ((a0 = none ∧ len0 = 0 ∧ cap0 = 0 ∧ z0 = []) ∨ ∃ x, a0 = some x ∧ len0 ≤ cap0 ∧ cap0 ≤ maxLen ∧ z0.length = cap0 ∧ (∀ i, i < z0.length → w.cell? (x.add i) = some (.int .i64 (z0.getD i 0))) ∧ ∀ n ∈ z0, (Lit.int .i64 n).wf = true) ∧ cap0 * 8 ≤ 140737488351232)
    (w1 : (Lit.int .i64 a1).wf = true) (w2 : (Lit.int .i64 a2).wf = true) :
    Calls Try.prog 5 #[.slice a0 len0 cap0, .int .i64 a1, .int .i64 a2] w fun e w' => e = .returned (.bool true) ∧ Below w.heap.size w w' := by
  obtain ⟨ns, rfl, hn, hc, _, hlc⟩ := row_open w0.1
  exact walk5 a0 ns cap0 a1 a2 w (fun h => ⟨List.eq_nil_of_length_eq_zero (hn h).1, (hn h).2⟩) hc (by have := w0.2; omega) (bounds_i64 w1) (bounds_i64 w2)
end Go.Proofs.Ythfpbplpfjmmgaa
