/- tourref5.Grid. -/
import Derived.Test.YtaiflkjchbpphaaSource
namespace Go.Proofs.Ytaiflkjchbpphaa
open Go.RowKit

theorem from_any (ao : Option Addr) (ns : List Int) (cap : Nat) (w : World) (hn : ao = none → ns.length = 0) (hsrc : ∀ x, ao = some x → ∀ (j : Nat) (v : Int), ns[j]? = some v → w.cell? (x.add j) = some (.int .i64 v)) (hsb : ∀ x, ao = some x → 0 < ns.length → x.block < w.heap.size)
    (hbd : ∀ v ∈ ns, -9223372036854775808 ≤ v ∧ v ≤ 9223372036854775807) (hl : ns.length ≤ 17592186044416) :
    Calls Try.prog 19 #[.slice ao ns.length cap] w fun e w' => e = .returned (.pointer (some ⟨w.heap.size, 0, none⟩)) ∧ Src w.heap.size w.heap.size ao ns cap 0 w' ∧ Below w.heap.size w w' := by
  obtain ⟨L, hL⟩ : ∃ L, ns.length = L := ⟨_, rfl⟩
  have H := Lib.hid (And.intro hn (And.intro hsrc (And.intro hsb (And.intro hbd hl))))
  have HL := Lib.hid hL
  rw [hL]
  clear hn hsrc hsb hbd hl hL
  go_enter Try.func19, Try.ntmps19
  go_wp2_with fail
  go_ret
  obtain ⟨hn, hsrc, hsb, hbd, hl⟩ := H.out
  have hb : Below w.heap.size w (w.alloc (Obj.cells #[.slice ao L cap, .int .i64 0] 87)) := Below.al (Below.refl _ _) _
  refine ⟨rfl, ⟨?_, by simp [go_sem], by simp [go_sem], by simp, Nat.le_refl _, fun x hx j v hv => ?_, hsb, hn, hbd, Nat.zero_le _, hl⟩, hb⟩
  · rw [HL.out]; simp [go_sem]
  · rw [hb.cell (p := x.add j) (by
      rw [add_block]
      refine hsb x hx ?_
      rcases Nat.eq_zero_or_pos ns.length with e | e
      · rw [List.getElem?_eq_none (by omega)] at hv; cases hv
      · exact e)]
    exact hsrc x hx j v hv

theorem n_lit (B p : Nat) (ao : Option Addr) (ns : List Int) (cap i n : Nat) (m : Int) (hm : m = (n : Int)) (w : World) (h : Src B p ao ns cap i w) (hn : 1 ≤ n) (hn2 : n ≤ 1000) :
    Calls Try.prog 20 #[.pointer (some ⟨p, 0, none⟩), .int .i64 m] w (Drawn B p ao ns cap n w) := by
  subst hm
  exact n_any B p ao ns cap i n w h hn hn2

theorem Src.far {B p : Nat} {ao : Option Addr} {ns : List Int} {cap i : Nat} {w : World} (h : Src B p ao ns cap i w) (x : Addr) (hx : ao = some x) (j : Nat) (v : Int) (hv : ns[j]? = some v) : x.block < B :=
  h.sb x hx (by
    rcases Nat.eq_zero_or_pos ns.length with e | e
    · rw [List.getElem?_eq_none (by omega)] at hv; cases hv
    · exact e)
theorem Src.on {B p C : Nat} {ao : Option Addr} {ns : List Int} {cap i : Nat} {w w' : World} (h : Src B p ao ns cap i w) (hb : Below C w w') (hC : p < C) : Src B p ao ns cap i w' := by
  have hbp := h.bp
  refine ⟨(hb.cell (p := ⟨p, 0, none⟩) hC).trans h.s0, (hb.cell (p := ⟨p, 1, none⟩) hC).trans h.s1, (hb.frozen (p := ⟨p, 1, none⟩) hC).trans h.f1, Nat.lt_of_lt_of_le h.pl hb.size, hbp, fun x hx j v hv => ?_, h.sb, h.sn, h.bd, h.le, h.hl⟩
  have := h.far x hx j v hv
  rw [hb.cell (p := x.add j) (by rw [add_block]; omega)]
  exact h.src x hx j v hv
theorem Src.put {B p : Nat} {ao : Option Addr} {ns : List Int} {cap i : Nat} {w : World} (h : Src B p ao ns cap i w) (z k : Nat) (hz : p < z) (y : Value) : Src B p ao ns cap i (w.setCell ⟨z, k, none⟩ y) := by
  have hbp := h.bp
  have hne : ∀ a : Addr, a.block ≤ p → (w.setCell ⟨z, k, none⟩ y).cell? a = w.cell? a := fun a ha => World.cell?_setCell_other _ _ _ _ (fun e => by have := congrArg Addr.block e; simp only [] at this; omega)
  refine ⟨(hne _ (Nat.le_refl _)).trans h.s0, (hne _ (Nat.le_refl _)).trans h.s1, (World.frozen?_setCell _ _ _ _).trans h.f1, by simpa [World.setCell] using h.pl, hbp, fun x hx j v hv => ?_, h.sb, h.sn, h.bd, h.le, h.hl⟩
  have := h.far x hx j v hv
  rw [hne _ (by rw [add_block]; omega)]
  exact h.src x hx j v hv

/-- What stands in memory while Grid runs. -/
structure Gst (p q : Nat) (ao : Option Addr) (ns : List Int) (cap : Nat) (V : World) (W H k : Nat) (v : Value) (Cs : List Int) (w : World) : Prop where
  src : ∃ i, Src p p ao ns cap i w
  q0 : w.cell? ⟨q, 0, none⟩ = some (.int .i64 (W : Int))
  q1 : w.cell? ⟨q, 1, none⟩ = some (.int .i64 (H : Int))
  q2 : w.cell? ⟨q, 2, none⟩ = some v
  qf : w.frozen? ⟨q, 2, none⟩ = false
  own : w.ownsRow (q + 1) 3 1 v k (Cs.map (Value.int .i64))
  len : Cs.length = k
  bd : ∀ a, a < k → 0 ≤ gt Cs a ∧ gt Cs a ≤ 9
  bel : Below p V w
  qs : q < w.heap.size
  pq : p < q
theorem Gst.turn {p q : Nat} {ao : Option Addr} {ns : List Int} {cap : Nat} {V : World} {W H k : Nat} {v : Value} {Cs : List Int} {w w' : World} (h : Gst p q ao ns cap V W H k v Cs w) (hVp : V.heap.size = p) (hg : w.grownBy w' (some p)) (hs : ∃ i, Src p p ao ns cap i w') : Gst p q ao ns cap V W H k v Cs w' := by
  have hpq := h.pq
  have hqs := h.qs
  have hc : ∀ i, w'.cell? ⟨q, i, none⟩ = w.cell? ⟨q, i, none⟩ := fun i => hg.cell_far _ hqs (fun e => by injection e with e; simp only [] at e; omega)
  refine ⟨hs, (hc 0).trans h.q0, (hc 1).trans h.q1, (hc 2).trans h.q2, (hg.frozen_far ⟨q, 2, none⟩ hqs (fun e => by injection e with e; simp only [] at e; omega)).trans h.qf, h.own.kept hg ?_, h.len, h.bd, h.bel.grown hg (by have := h.bel.size; omega) (fun k hk => by injection hk with hk; omega), Nat.lt_of_lt_of_le hqs hg.size, hpq⟩
  rcases h.own.2 with ⟨h2, _⟩ | ⟨g', cap', cur, h2, h3, _⟩
  · exact .inl (by rw [h2]; rfl)
  · refine .inr (fun e => ?_)
    rw [h2] at e
    have : g' = p := by simpa [Value.ownBlock] using e
    omega
theorem Gst.add {p q : Nat} {ao : Option Addr} {ns : List Int} {cap : Nat} {V : World} {W H k : Nat} {v v' : Value} {Cs : List Int} {w w' : World} {o : Obj} {x : Int} (h : Gst p q ao ns cap V W H k v Cs w) (hx : 0 ≤ x ∧ x ≤ 9) (hg : (w.alloc o).grownBy w' v.ownBlock) (ho : w'.ownsRow (q + 1) 3 1 v' (k + 1) (Cs.map (Value.int .i64) ++ [.int .i64 x])) :
    Gst p q ao ns cap V W H (k + 1) v' (Cs ++ [x]) (w'.setCell ⟨q, 2, none⟩ v') := by
  have hpq := h.pq
  have hqs := h.qs
  have hb : Below (q + 1) w w' := ((Below.refl (q + 1) w).alloc hqs o).grown hg (by simp; omega) (fun k hk => (h.own.lt k hk).1)
  have hne : ∀ i, i ≠ 2 → (w'.setCell ⟨q, 2, none⟩ v').cell? ⟨q, i, none⟩ = w'.cell? ⟨q, i, none⟩ := fun i hi => World.cell?_setCell_other _ _ _ _ (fun e => hi (congrArg Addr.off e).symm)
  obtain ⟨i, hs⟩ := h.src
  have hlen := h.len
  refine ⟨⟨i, (hs.on hb (by omega)).put q 2 hpq v'⟩, (hne 0 (by omega)).trans ((hb.cell (p := ⟨q, 0, none⟩) (Nat.lt_succ_self q)).trans h.q0), (hne 1 (by omega)).trans ((hb.cell (p := ⟨q, 1, none⟩) (Nat.lt_succ_self q)).trans h.q1), ?_, (World.frozen?_setCell _ _ _ _).trans ((hb.frozen (p := ⟨q, 2, none⟩) (Nat.lt_succ_self q)).trans h.qf), ?_, by simp [hlen], fun a ha => ?_, (h.bel.trans (hb.mono (by omega))).setCell (by simp only []; omega) _, by have := hb.size; simp [World.setCell]; omega, hpq⟩
  · exact World.cell?_setCell_same _ _ _ ((hb.cell (p := ⟨q, 2, none⟩) (Nat.lt_succ_self q)).trans h.q2)
  · rw [List.map_append]
    exact ownsRow_setCell_below ho (by simp only []; omega) _
  · unfold gt
    by_cases e : a < k
    · rw [List.getElem?_append_left (by omega)]; exact h.bd a e
    · obtain rfl : a = Cs.length := by omega
      simp
      exact hx

/-- What Grid says. -/
def Gridded (w : World) (e : Ending) (w' : World) : Prop :=
  ∃ (W H N c cap : Nat) (Cs : List Int), e = .returned (.agg #[.int .i64 (W : Int), .int .i64 (H : Int), .slice (some ⟨c, 0, none⟩) N cap]) ∧ 1 ≤ W ∧ W ≤ 7 ∧ 1 ≤ H ∧ H ≤ 6 ∧ W * H = N ∧ Cs.length = N ∧ (∀ a, a < N → 0 ≤ gt Cs a ∧ gt Cs a ≤ 9) ∧ IRow w' c Cs ∧ w.heap.size ≤ c ∧ c < w'.heap.size ∧ Below w.heap.size w w'

set_option maxRecDepth 8000 in
set_option maxHeartbeats 1000000 in
theorem rgrid_any (ao : Option Addr) (ns : List Int) (cap : Nat) (w : World) (hn : ao = none → ns.length = 0) (hsrc : ∀ x, ao = some x → ∀ (j : Nat) (v : Int), ns[j]? = some v → w.cell? (x.add j) = some (.int .i64 v)) (hsb : ∀ x, ao = some x → 0 < ns.length → x.block < w.heap.size)
    (hbd : ∀ v ∈ ns, -9223372036854775808 ≤ v ∧ v ≤ 9223372036854775807) (hl : ns.length ≤ 17592186044416) :
    Calls Try.prog 15 #[.slice ao ns.length cap] w (Gridded w) := by
  obtain ⟨i0, hi0, hz0, hz1, hz2⟩ := info_parts Try.info3'
  have hfrom := fun w' (hb : Below w.heap.size w w') => from_any ao ns cap w' hn (fun x hx j v hv => by
      rw [hb.cell (p := x.add j) (by
        rw [add_block]
        refine hsb x hx ?_
        rcases Nat.eq_zero_or_pos ns.length with e | e
        · rw [List.getElem?_eq_none (by omega)] at hv; cases hv
        · exact e)]
      exact hsrc x hx j v hv) (fun x hx h0 => Nat.lt_of_lt_of_le (hsb x hx h0) hb.size) hbd hl
  clear hsrc hsb hbd hl hn
  go_enter Try.func15, Try.ntmps15
  go_wp2_with fail
  obtain ⟨r, hr⟩ : ∃ r, w.heap.size = r := ⟨_, rfl⟩
  obtain ⟨V, hV⟩ : ∃ V, w.alloc (Obj.cells #[Value.int IntKind.i64 0, Value.int IntKind.i64 0, Value.slice none 0 0] 47) = V := ⟨_, rfl⟩
  obtain ⟨p, hp⟩ : ∃ p, V.heap.size = p := ⟨_, rfl⟩
  have hpr : r < p := by rw [← hp, ← hV, ← hr]; simp
  have hVb : Below r w V := by rw [← hV, ← hr]; exact Below.al (Below.refl _ _) _
  have v0 : V.cell? ⟨r, 0, none⟩ = some (.int .i64 0) := by rw [← hV, ← hr]; simp [go_sem]
  have v1 : V.cell? ⟨r, 1, none⟩ = some (.int .i64 0) := by rw [← hV, ← hr]; simp [go_sem]
  have v2 : V.cell? ⟨r, 2, none⟩ = some (.slice none 0 0) := by rw [← hV, ← hr]; simp [go_sem]
  have vf : ∀ j, V.frozen? ⟨r, j, none⟩ = false := fun j => by rw [← hV, ← hr]; simp [go_sem]
  have HV := Lib.hid (And.intro v0 (And.intro v1 (And.intro v2 (And.intro vf hVb))))
  have hf1 := hfrom V (hr ▸ hVb)
  simp only [hr]
  rw [hV]
  clear hV hVb v0 v1 v2 vf hfrom
  refine hf1.mono ?_
  rintro e w1 ⟨rfl, hS1, hb1⟩
  simp only [hp] at hS1 hb1 ⊢
  have H1 := Lib.hid (And.intro hS1 hb1)
  clear hf1 hS1 hb1
  go_wp2_with fail
  refine (n_lit p p ao ns cap 0 7 7 (by rfl) w1 H1.out.1 (by omega) (by omega)).mono ?_
  rintro e w2 ⟨nw, rfl, hnw, ⟨i2, hS2⟩, hg2⟩
  have H2 := Lib.hid (show Src p p ao ns cap i2 w2 ∧ Below p V w2 from ⟨hS2, H1.out.2.grown hg2 (hp ▸ H1.out.2.size) (fun k hk => by injection hk with hk; omega)⟩)
  clear hS2 hg2 H1
  go_wp2_with fail
  refine (n_lit p p ao ns cap i2 6 6 (by rfl) w2 H2.out.1 (by omega) (by omega)).mono ?_
  rintro e w3 ⟨nh, rfl, hnh, ⟨i3, hS3⟩, hg3⟩
  have H3 := Lib.hid (show Src p p ao ns cap i3 w3 ∧ Below p V w3 from ⟨hS3, H2.out.2.grown hg3 (hp ▸ H2.out.2.size) (fun k hk => by injection hk with hk; omega)⟩)
  clear hS3 hg3 H2
  go_wp2_with fail
  obtain ⟨W, hW⟩ : ∃ W : Nat, nw + 1 = W := ⟨_, rfl⟩
  obtain ⟨Hh, hH⟩ : ∃ H : Nat, nh + 1 = H := ⟨_, rfl⟩
  obtain ⟨N, hN⟩ : ∃ N : Nat, W * Hh = N := ⟨_, rfl⟩
  have hNb : N ≤ 42 := by rw [← hN]; exact Nat.mul_le_mul (show W ≤ 7 by omega) (show Hh ≤ 6 by omega)
  have eW : (1 : Int) + (nw : Int) = (W : Int) := by omega
  have eH : (1 : Int) + (nh : Int) = (Hh : Int) := by omega
  have eN : (W : Int) * (Hh : Int) = (N : Int) := by rw [← hN]; push_cast; rfl
  have ewr : wrap64 (N : Int) = (N : Int) := by unfold wrap64; omega
  obtain ⟨q, hq⟩ : ∃ q, w3.heap.size = q := ⟨_, rfl⟩
  obtain ⟨W4, hW4⟩ : ∃ W4, w3.alloc (Obj.cells #[Value.int IntKind.i64 (W : Int), Value.int IntKind.i64 (Hh : Int), Value.slice none 0 0] 47) = W4 := ⟨_, rfl⟩
  have hpq : p < q := by have := H3.out.1.pl; omega
  have HG : Hid (Gst p q ao ns cap V W Hh 0 (.slice none 0 0) [] W4) := by
    rw [← hW4]
    exact ⟨⟨_, H3.out.1.on (Below.al (Below.refl _ _) _) (by omega)⟩, by rw [← hq]; simp [go_sem], by rw [← hq]; simp [go_sem], by rw [← hq]; simp [go_sem], by rw [← hq]; simp [go_sem], World.ownsRow_nil _ _ _ _, rfl, fun a ha => by omega, H3.out.2.alloc (by omega) _, by simp; omega, hpq⟩
  simp only [eW, eH, eN, ewr, hq]
  rw [hW4]
  clear hW4 eW eH eN ewr H3
  have HF := Lib.hid (show 1 ≤ W ∧ W ≤ 7 ∧ 1 ≤ Hh ∧ Hh ≤ 6 ∧ W * Hh = N ∧ 1 ≤ N from ⟨by omega, by omega, by omega, by omega, hN, by rw [← hN]; exact Nat.mul_pos (by omega) (by omega)⟩)
  clear hN hW hH hnw hnh hq
  go_loopw [20] (fun v20 wx => ∃ k : Nat, v20 = .int .i64 k ∧ k ≤ N ∧ Hid (∃ v Cs, Gst p q ao ns cap V W Hh k v Cs wx)) (fun v20 _ => N - (intOf v20).toNat)
  case atStart => exact ⟨0, rfl, Nat.zero_le _, _, _, HG.out⟩
  case round =>
    obtain ⟨k, rfl, hk, hR⟩ := hrel
    obtain ⟨v, Cs, hG⟩ := hR.out
    have HG2 := Lib.hid hG
    clear hG hR
    by_cases h0 : k = N
    · have i1 : ¬ (k : Int) < (N : Int) := by omega
      subst h0
      have q0 := HG2.out.q0
      have q1 := HG2.out.q1
      have q2 := HG2.out.q2
      have qs := HG2.out.qs
      obtain ⟨c, ccap, rfl, hcq, hcl, _, _, _, hcc, hcf⟩ := owns_open HG2.out.own HF.out.2.2.2.2.2
      have HC := Lib.hid (And.intro hcq (And.intro hcl (And.intro hcc hcf)))
      have r0 := (HG2.out.bel.cell (p := ⟨r, 0, none⟩) hpr).trans HV.out.1
      have r1 := (HG2.out.bel.cell (p := ⟨r, 1, none⟩) hpr).trans HV.out.2.1
      have r2 := (HG2.out.bel.cell (p := ⟨r, 2, none⟩) hpr).trans HV.out.2.2.1
      have rf0 := (HG2.out.bel.frozen (p := ⟨r, 0, none⟩) hpr).trans (HV.out.2.2.2.1 0)
      have rf1 := (HG2.out.bel.frozen (p := ⟨r, 1, none⟩) hpr).trans (HV.out.2.2.2.1 1)
      have rf2 := (HG2.out.bel.frozen (p := ⟨r, 2, none⟩) hpr).trans (HV.out.2.2.2.1 2)
      have hrs : r < wr.heap.size := by omega
      clear hcq hcl hcc hcf
      go_wp2_with fail
      obtain ⟨X, hX⟩ : ∃ X, ((wr.setCell ⟨r, 0, none⟩ (.int .i64 (W : Int))).setCell ⟨r, 1, none⟩ (.int .i64 (Hh : Int))).setCell ⟨r, 2, none⟩ (.slice (some ⟨c, 0, none⟩) k ccap) = X := ⟨_, rfl⟩
      have hne : ∀ (Y : World) (i j : Nat) (y : Value), i ≠ j → (Y.setCell ⟨r, i, none⟩ y).cell? ⟨r, j, none⟩ = Y.cell? ⟨r, j, none⟩ := fun Y i j y h => World.cell?_setCell_other _ _ _ _ (fun e => h (congrArg Addr.off e))
      have x2 : X.cell? ⟨r, 2, none⟩ = some (.slice (some ⟨c, 0, none⟩) k ccap) := by
        rw [← hX]
        exact World.cell?_setCell_same _ _ _ ((hne _ 1 2 _ (by omega)).trans ((hne _ 0 2 _ (by omega)).trans r2))
      have x1 : X.cell? ⟨r, 1, none⟩ = some (.int .i64 (Hh : Int)) := by
        rw [← hX, hne _ 2 1 _ (by omega)]
        exact World.cell?_setCell_same _ _ _ ((hne _ 0 1 _ (by omega)).trans r1)
      have x0 : X.cell? ⟨r, 0, none⟩ = some (.int .i64 (W : Int)) := by
        rw [← hX, hne _ 2 0 _ (by omega), hne _ 1 0 _ (by omega)]
        exact World.cell?_setCell_same _ _ _ r0
      have hbX : Below r w X := by
        rw [← hX]
        exact (((HV.out.2.2.2.2.trans (HG2.out.bel.mono (by omega))).setCell (p := ⟨r, 0, none⟩) (Nat.le_refl r) _).setCell (p := ⟨r, 1, none⟩) (Nat.le_refl r) _).setCell (p := ⟨r, 2, none⟩) (Nat.le_refl r) _
      have hcX : ∀ j, X.cell? ⟨c, j, none⟩ = wr.cell? ⟨c, j, none⟩ := fun j => by
        have hcr : c ≠ r := by have := HC.out.1; omega
        have hn : ∀ (Y : World) (i : Nat) (y : Value), (Y.setCell ⟨r, i, none⟩ y).cell? ⟨c, j, none⟩ = Y.cell? ⟨c, j, none⟩ := fun Y i y => World.cell?_setCell_other _ _ _ _ (fun e => hcr (congrArg Addr.block e).symm)
        rw [← hX, hn, hn, hn]
      have hfX : ∀ j, X.frozen? ⟨c, j, none⟩ = wr.frozen? ⟨c, j, none⟩ := fun j => by
        rw [← hX, World.frozen?_setCell, World.frozen?_setCell, World.frozen?_setCell]
      have hsX : X.heap.size = wr.heap.size := by rw [← hX]; simp [World.setCell]
      rw [hX]
      clear hX
      refine bodyPost_ret (v := .agg #[.int .i64 (W : Int), .int .i64 (Hh : Int), .slice (some ⟨c, 0, none⟩) k ccap]) (by simp [results, Try.results15, go_sem, x0, x1, x2]) rfl ?_
      obtain ⟨f1, f2, f3, f4, f5, f6⟩ := HF.out
      have hlen := HG2.out.len
      refine ⟨W, Hh, k, c, ccap, Cs, rfl, f1, f2, f3, f4, f5, hlen, HG2.out.bd, ⟨fun j hj => ?_, fun j _ => by rw [hfX]; exact HC.out.2.2.2 j⟩, by have := HC.out.1; omega, by rw [hsX]; exact HC.out.2.1, by rw [hr]; exact hbX⟩
      rw [hcX, HC.out.2.2.1 j (by omega), List.getElem?_map, List.getElem?_eq_getElem hj]
      rfl
    · have hkN : k < N := by omega
      have i1 : (k : Int) < (N : Int) := by omega
      clear h0
      go_wp2_with fail
      obtain ⟨i5, hS5⟩ := HG2.out.src
      refine (n_lit p p ao ns cap i5 14 14 (by rfl) wr hS5 (by omega) (by omega)).mono ?_
      rintro e w5 ⟨nc, rfl, hnc, hs5, hg5⟩
      have HG3 := Lib.hid (HG2.out.turn hp hg5 hs5)
      clear hS5 hs5 hg5 HG2
      have q2 := HG3.out.q2
      have qf := HG3.out.qf
      have qs := HG3.out.qs
      have hqo : q + 1 ≤ w5.heap.size := qs
      by_cases hc9 : 9 < nc
      · have c1 : (9 : Int) < (nc : Int) := by omega
        go_wp2_with (at_builtin; refine wpList_append_own _ rfl _ _ 22 rfl (q + 1) 3 i0 (.int .i64 0) 1 8 Try.underlying22 hi0 hz0 hz1 hz2 rfl (by decide) _ k _ rfl (HG3.out.own.alloc _) ⟨w5.heap.size, 0, none⟩ 1 1 [.int .i64 0] rfl rfl (new_one _ _ _) (one_ok rfl) (by unfold maxLen; omega) (by omega) (by simp; omega) ?_)
        intro v' w' own' hgr _
        obtain ⟨gv, cv, rfl, _⟩ := owns_open own' (by omega)
        have hb5 : Below (q + 1) w5 w' := ((Below.refl (q + 1) w5).alloc hqo _).grown hgr (by simp; omega) (fun k hk => (HG3.out.own.lt k hk).1)
        have q2' := (hb5.cell (p := ⟨q, 2, none⟩) (Nat.lt_succ_self q)).trans q2
        have qf' := (hb5.frozen (p := ⟨q, 2, none⟩) (Nat.lt_succ_self q)).trans qf
        have qs' : q < w'.heap.size := Nat.lt_of_lt_of_le qs hb5.size
        have HN2 := Lib.hid (HG3.out.add (x := 0) (by omega) hgr own')
        clear own' hgr hb5 q2 qf qs hqo
        go_wp2_with fail
        go_roundw
        case rel => exact ⟨k + 1, rfl, by omega, _, _, HN2.out⟩
        case measure => simp [intOf] <;> omega
      · have c1 : ¬ (9 : Int) < (nc : Int) := by omega
        go_wp2_with (at_builtin; refine wpList_append_own _ rfl _ _ 22 rfl (q + 1) 3 i0 (.int .i64 0) 1 8 Try.underlying22 hi0 hz0 hz1 hz2 rfl (by decide) _ k _ rfl (HG3.out.own.alloc _) ⟨w5.heap.size, 0, none⟩ 1 1 [.int .i64 nc] rfl rfl (new_one _ _ _) (one_ok rfl) (by unfold maxLen; omega) (by omega) (by simp; omega) ?_)
        intro v' w' own' hgr _
        obtain ⟨gv, cv, rfl, _⟩ := owns_open own' (by omega)
        have hb5 : Below (q + 1) w5 w' := ((Below.refl (q + 1) w5).alloc hqo _).grown hgr (by simp; omega) (fun k hk => (HG3.out.own.lt k hk).1)
        have q2' := (hb5.cell (p := ⟨q, 2, none⟩) (Nat.lt_succ_self q)).trans q2
        have qf' := (hb5.frozen (p := ⟨q, 2, none⟩) (Nat.lt_succ_self q)).trans qf
        have qs' : q < w'.heap.size := Nat.lt_of_lt_of_le qs hb5.size
        have HN2 := Lib.hid (HG3.out.add (x := (nc : Int)) (by omega) hgr own')
        clear own' hgr hb5 q2 qf qs hqo
        go_wp2_with fail
        go_roundw
        case rel => exact ⟨k + 1, rfl, by omega, _, _, HN2.out⟩
        case measure => simp [intOf] <;> omega
end Go.Proofs.Ytaiflkjchbpphaa
