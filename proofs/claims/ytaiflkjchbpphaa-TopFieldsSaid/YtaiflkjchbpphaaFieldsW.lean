/- TopFields: the walk. -/
import Derived.Test.YtaiflkjchbpphaaFin
import Derived.Deep.AppendLies
namespace Go.Proofs.Ytaiflkjchbpphaa
open Go.RowKit

theorem first_any (c q : Nat) (a b : Int) (ha : a = ((2 : Nat) : Int)) (hb : b = ((1 : Nat) : Int)) (w : World) (h0 : w.cell? ⟨c, 0, none⟩ = some (.int .i64 1)) (h1 : w.cell? ⟨c, 1, none⟩ = some (.int .i64 1)) (hf : ∀ j, w.frozen? ⟨c, j, none⟩ = false) (hc : c < w.heap.size) (hq : w.cell? ⟨q, 0, none⟩ = some (.int .i64 1)) (hqs : q < w.heap.size) :
    Calls Try.prog 13 #[.agg #[.int .i64 a, .int .i64 b, .slice (some ⟨c, 0, none⟩) 2 2], .slice (some ⟨q, 0, none⟩) 1 1] w fun e w' => ∃ o, e = .returned (.tuple #[.slice (some ⟨o, 0, none⟩) 2 2, .int .i64 0]) ∧ IRow w' o [1, 0] ∧ o < w'.heap.size ∧ Below w.heap.size w w' := by
  subst ha hb
  refine (field_any 2 1 2 c 2 q 1 [1, 1] w (by omega) (by omega) (by omega) (by omega) rfl (by omega) rfl ⟨fun k hk => ?_, fun k _ => hf k⟩ (fun a ha => ?_) hc hq hqs (by omega)).mono ?_
  · match k, hk with
    | 0, _ => exact h0
    | 1, _ => exact h1
  · match a, ha with
    | 0, _ => exact .inr rfl
    | 1, _ => exact .inr rfl
  · rintro e w' ⟨o, O, rfl, h2, h3, h4, _, h6, h7⟩
    obtain rfl := first_field h2 h3
    exact ⟨o, rfl, h4, h6, h7⟩

/-- While the points are laid. -/
structure Pst (W H N c ccap gq mq n : Nat) (v : Value) (Cs : List Int) (w0 w : World) : Prop where
  g0 : w.cell? ⟨gq, 0, none⟩ = some (.int .i64 (W : Int))
  g1 : w.cell? ⟨gq, 1, none⟩ = some (.int .i64 (H : Int))
  g2 : w.cell? ⟨gq, 2, none⟩ = some (.slice (some ⟨c, 0, none⟩) N ccap)
  m0 : w.cell? ⟨mq, 0, none⟩ = some v
  m1 : w.cell? ⟨mq, 1, none⟩ = some (.slice none 0 0)
  mf : ∀ j, w.frozen? ⟨mq, j, none⟩ = false
  own : w.ownsRow (mq + 1) 24 2 v n (flat (pl (fx W) (fy W) (fun k => k) n))
  ic : IRow w c Cs
  bel : Below w0.heap.size w0 w
  ms : mq < w.heap.size
  cg : c < gq
  gm : gq < mq
  bc : w0.heap.size ≤ c
theorem Pst.add {W H N c ccap gq mq n : Nat} {v v' : Value} {Cs : List Int} {w0 w w' : World} {o : Obj} (h : Pst W H N c ccap gq mq n v Cs w0 w) (hg : (w.alloc o).grownBy w' v.ownBlock) (ho : w'.ownsRow (mq + 1) 24 2 v' (n + 1) (flat (pl (fx W) (fy W) (fun k => k) n) ++ [.int .i64 (fx W n), .int .i64 (fy W n)])) :
    Pst W H N c ccap gq mq (n + 1) v' Cs w0 (w'.setCell ⟨mq, 0, none⟩ v') := by
  have h1 := h.cg
  have h2 := h.gm
  have h3 := h.ms
  have h4 := h.bc
  have hb : Below (mq + 1) w w' := ((Below.refl (mq + 1) w).alloc h3 o).grown hg (by simp; omega) (fun k hk => (h.own.lt k hk).1)
  have hne : ∀ b i, (b ≠ mq ∨ i ≠ 0) → (w'.setCell ⟨mq, 0, none⟩ v').cell? ⟨b, i, none⟩ = w'.cell? ⟨b, i, none⟩ := fun b i hi => World.cell?_setCell_other _ _ _ _ (fun e => by
    have e1 := congrArg Addr.block e
    have e2 := congrArg Addr.off e
    simp only [] at e1 e2
    omega)
  refine ⟨(hne _ _ (by omega)).trans ((hb.cell (p := ⟨gq, 0, none⟩) (by simp only []; omega)).trans h.g0), (hne _ _ (by omega)).trans ((hb.cell (p := ⟨gq, 1, none⟩) (by simp only []; omega)).trans h.g1), (hne _ _ (by omega)).trans ((hb.cell (p := ⟨gq, 2, none⟩) (by simp only []; omega)).trans h.g2), ?_, (hne _ _ (by omega)).trans ((hb.cell (p := ⟨mq, 1, none⟩) (Nat.lt_succ_self _)).trans h.m1), fun j => (World.frozen?_setCell _ _ _ _).trans ((hb.frozen (p := ⟨mq, j, none⟩) (Nat.lt_succ_self _)).trans (h.mf j)), ?_, (h.ic.below hb (by omega)).other _ (by simp only []; omega) _, (h.bel.trans (hb.mono (by omega))).setCell (by simp only []; omega) _, by have := hb.size; simp [World.setCell]; omega, h1, h2, h4⟩
  · exact World.cell?_setCell_same _ _ _ ((hb.cell (p := ⟨mq, 0, none⟩) (Nat.lt_succ_self _)).trans h.m0)
  · rw [pl_succ, flat_append]
    exact ownsRow_setCell_below ho (by simp only []; omega) _

set_option maxRecDepth 8000 in
set_option maxHeartbeats 8000000 in
theorem fields_core (ao : Option Addr) (ns : List Int) (cap : Nat) (x1 x2 : Int) (w : World) (hn : ao = none → ns.length = 0) (hsrc : ∀ x, ao = some x → ∀ (j : Nat) (v : Int), ns[j]? = some v → w.cell? (x.add j) = some (.int .i64 v)) (hsb : ∀ x, ao = some x → 0 < ns.length → x.block < w.heap.size)
    (hbd : ∀ v ∈ ns, -9223372036854775808 ≤ v ∧ v ≤ 9223372036854775807) (hl : ns.length ≤ 17592186044416) (hx1 : -9223372036854775808 ≤ x1 ∧ x1 ≤ 9223372036854775807) (hx2 : -9223372036854775808 ≤ x2 ∧ x2 ≤ 9223372036854775807) :
    Calls Try.prog 4 #[.slice ao ns.length cap, .int .i64 x1, .int .i64 x2] w fun e w' => e = .returned (.bool true) ∧ Below w.heap.size w w' := by
  obtain ⟨i0, hi0, hz0, hz1, hz2⟩ := info_parts Try.info3'
  have hgrid := fun w' (hb : Below w.heap.size w w') => rgrid_any ao ns cap w' hn (fun x hx j v hv => by
      rw [hb.cell (p := x.add j) (by
        rw [add_block]
        refine hsb x hx ?_
        rcases Nat.eq_zero_or_pos ns.length with e | e
        · rw [List.getElem?_eq_none (by omega)] at hv; cases hv
        · exact e)]
      exact hsrc x hx j v hv) (fun x hx h0 => Nat.lt_of_lt_of_le (hsb x hx h0) hb.size) hbd hl
  clear hsrc hsb hbd hl hn
  go_enter Try.func4, Try.ntmps4
  go_wp2_with fail
  obtain ⟨B0, hB0⟩ : ∃ B, w.heap.size = B := ⟨_, rfl⟩
  refine (first_any w.heap.size (w.heap.size + 1) 2 1 rfl rfl _ (by simp [go_sem]) (by simp [go_sem]) (fun j => by simp [go_sem]) (by simp; omega) (by simp [go_sem]) (by simp)).mono ?_
  rintro e w1 ⟨o, rfl, hir, hos, hb1⟩
  have hb1' : Below w.heap.size w w1 := (Below.al (Below.al (Below.refl _ _) _) _).trans (hb1.mono (by simp; omega))
  have H1 := Lib.hid (And.intro hir hb1')
  clear hir hb1 hb1'
  go_wp2_with fail
  refine (equal_any o w1.heap.size 2 2 2 [1, 0] _ rfl (H1.out.1.below (Below.al (Below.refl _ _) _) hos) ⟨fun k hk => ?_, fun k hk => ?_⟩ (by simp; omega) (by simp) (by omega)).mono ?_
  · match k, hk with
    | 0, _ => simp [go_sem]
    | 1, _ => simp [go_sem]
  · simp [go_sem]
  rintro e w2 ⟨rfl, hb2⟩
  have H2 := Lib.hid (H1.out.2.trans ((Below.al (Below.refl w1.heap.size w1) (Obj.cells #[Value.int IntKind.i64 1, Value.int IntKind.i64 0] 3)).trans (hb2.mono (by simp)) |>.mono H1.out.2.size))
  clear hb2 H1 hos
  go_wp2_with fail
  refine (hgrid w2 H2.out).mono ?_
  rintro e w3 ⟨W, H, N, c, ccap, Cs, rfl, g1, g2, g3, g4, g5, g6, g7, g8, g9, g10, hb3⟩
  have H3 := Lib.hid (show IRow w3 c Cs ∧ w.heap.size ≤ c ∧ Below w.heap.size w w3 from ⟨g8, Nat.le_trans H2.out.size g9, H2.out.trans (hb3.mono H2.out.size)⟩)
  have HF := Lib.hid (And.intro g6 g7)
  have HN := Lib.hid g5
  have hNb : N ≤ 42 := by rw [← g5]; exact Nat.mul_le_mul g2 g4
  clear hgrid g5 g6 g7 g8 g9 hb3 H2
  go_wp2_with fail
  obtain ⟨i4, hi4, hy0, hy1, hy2⟩ := info_parts Try.info24
  obtain ⟨gq, hgq⟩ : ∃ g, w3.heap.size = g := ⟨_, rfl⟩
  obtain ⟨mq, hmq⟩ : ∃ m, gq + 1 = m := ⟨_, rfl⟩
  obtain ⟨W4, hW4⟩ : ∃ X, (w3.alloc (Obj.cells #[Value.int IntKind.i64 ↑W, Value.int IntKind.i64 ↑H, Value.slice (some { block := c, off := 0 }) N ccap] 47)).alloc (Obj.cells #[Value.slice none 0 0, Value.slice none 0 0] 28) = X := ⟨_, rfl⟩
  have HP : Hid (Pst W H N c ccap gq mq 0 (.slice none 0 0) Cs w W4) := by
    rw [← hW4]
    refine ⟨by rw [← hgq]; simp [go_sem], by rw [← hgq]; simp [go_sem], by rw [← hgq]; simp [go_sem], by rw [← hmq, ← hgq]; simp [go_sem], by rw [← hmq, ← hgq]; simp [go_sem], fun j => by rw [← hmq, ← hgq]; simp [go_sem], World.ownsRow_nil _ _ _ _, ?_, Below.al (Below.al H3.out.2.2 _) _, by simp; omega, by omega, by omega, H3.out.2.1⟩
    exact (H3.out.1.below (Below.al (Below.refl _ _) _) g10).below (Below.al (Below.refl _ _) _) (by simp; omega)
  simp only [hgq, hmq]
  rw [hW4]
  clear hW4 H3 g10
  go_loopw [42] (fun v42 wx => ∃ y : Nat, v42 = .int .i64 y ∧ y ≤ H + 1 ∧ Hid (∃ v, Pst W H N c ccap gq mq (pt W 0 y) v Cs w wx)) (fun v42 _ => H + 1 - (intOf v42).toNat)
  case atStart => exact ⟨0, rfl, Nat.zero_le _, _, by simpa [pt] using HP.out⟩
  case round =>
    clear HP
    obtain ⟨y, rfl, hy, hR⟩ := hrel
    obtain ⟨v, hP⟩ := hR.out
    have HP := Lib.hid hP
    clear hR hP
    have c0 := HP.out.g0
    have hms := HP.out.ms
    have hgm := HP.out.gm
    by_cases h0 : y = H + 1
    · have y1 : ¬ (y : Int) < (H : Int) + 1 := by omega
      have hnp : pt W 0 y = (W + 1) * (H + 1) := by unfold pt; rw [h0, Nat.mul_comm]; rfl
      rw [hnp] at HP
      obtain ⟨np, hnpe⟩ : ∃ np, (W + 1) * (H + 1) = np := ⟨_, rfl⟩
      rw [hnpe] at HP
      have hnp1 : 1 ≤ np := by rw [← hnpe]; exact Nat.mul_pos (by omega) (by omega)
      obtain ⟨pp, pcap, rfl, hpp, hppl, _, _, _, hpc, _⟩ := owns_open HP.out.own hnp1
      have hgs : gq < wr.heap.size := by omega
      obtain ⟨mb, hmb⟩ : ∃ m, wr.heap.size = m := ⟨_, rfl⟩
      obtain ⟨B, hB⟩ : ∃ B, mb + 1 = B := ⟨_, rfl⟩
      have HD : Hid (Dst W H N c ccap gq mq pp np pcap mb B 0 0 (.slice none 0 0) (.slice none 0 0) (fun _ => 0) (fun _ => 0) Cs Cs w (wr.alloc (.map #[] 0))) := by
        have hal : Below wr.heap.size wr (wr.alloc (.map #[] 0)) := Below.al (Below.refl _ _) _
        have hcg := HP.out.cg
        refine ⟨(hal.cell (p := ⟨gq, 0, none⟩) hgs).trans HP.out.g0, (hal.cell (p := ⟨gq, 1, none⟩) hgs).trans HP.out.g1, (hal.cell (p := ⟨gq, 2, none⟩) hgs).trans HP.out.g2, (hal.cell (p := ⟨mq, 0, none⟩) hms).trans HP.out.m0, (hal.cell (p := ⟨mq, 1, none⟩) hms).trans HP.out.m1, (hal.frozen (p := ⟨mq, 1, none⟩) hms).trans (HP.out.mf 1), fun k hk => ?_, HP.out.ic.below hal (by omega), HF.out.1, fun a _ => by rw [if_neg (fun e => by have := e.1; omega)], Sel.begin N Cs _, hmb ▸ M1.new wr, World.ownsRow_nil _ _ _ _, World.ownsRow_nil _ _ _ _, fun k j hk => by omega, fun k hk => by omega, Below.al HP.out.bel _, HP.out.bc, HP.out.cg, HP.out.gm, by omega, by omega, by omega, by simp; omega⟩
        obtain ⟨a, b⟩ := flat_get (pl (fx W) (fy W) (fun k => k) np) k (by rw [pl_length]; exact hk)
        rw [pl_at _ _ _ _ _ hk] at a b
        exact ⟨((hal.cell (p := ⟨pp, k * 2, none⟩) hppl).trans (hpc _ (by omega))).trans a, ((hal.cell (p := ⟨pp, k * 2 + 1, none⟩) hppl).trans (hpc _ (by omega))).trans b⟩
      have HNP := Lib.hid hnpe
      have hgs2 : gq < mb := by omega
      obtain ⟨W5, hW5⟩ : ∃ X, wr.alloc (.map #[] 0) = X := ⟨_, rfl⟩
      rw [hW5] at HD
      have c2 := HD.out.g2
      clear hpc hppl hnp1 hnp hnpe HP h0 hy
      go_wp2_with fail
      obtain ⟨i5, hi5, hu0, hu1, hu2⟩ := info_parts Try.info22
      clear hW5 hgs hgs2 hB hmb hms hpp c2 y1 c0
      go_loopw [14, 67] (fun v14 v67 wx => ∃ i : Nat, v67 = .int .i64 i ∧ i ≤ N ∧ Hid (∃ nc vc s r Ds, Dst W H N c ccap gq mq pp np pcap mb B nc i v14 vc s r Cs Ds w wx)) (fun _ v67 _ => N - (intOf v67).toNat)
      case atStart => exact ⟨0, rfl, Nat.zero_le _, _, _, _, _, _, HD.out⟩
      case round =>
        clear HD
        obtain ⟨i, rfl, hi, hR⟩ := hrel
        obtain ⟨nc, vc, s, r, Ds, hD⟩ := hR.out
        have HD := Lib.hid hD
        clear hR hD
        by_cases h0 : i = N
        · have i1 : ¬ (i : Int) < (N : Int) := by omega
          by_cases hc0 : nc = 0
          · subst hc0
            obtain ⟨ba, bcp, rfl, _, _, _⟩ := owns_source HD.out.back
            go_wp2_with fail
            go_ret
            exact ⟨rfl, hB0 ▸ HD.out.bel⟩
          · subst h0
            obtain ⟨gb, bcp, rfl, _, hgb, _, _, _, hbc, _⟩ := owns_open HD.out.back (by omega)
            obtain ⟨cc, ccp, rfl, _, hcc, _, _, _, hccs, _⟩ := owns_open HD.out.cls (by omega)
            have e1 : ((nc : Int) == 0) = false := by simp; omega
            have hnc := HD.out.sel.le
            obtain ⟨r1, hr1⟩ : ∃ r : Nat, x1 % (nc : Int) = (r : Int) := ⟨(x1 % (nc : Int)).toNat, by have := Int.emod_nonneg x1 (show (nc : Int) ≠ 0 by omega); omega⟩
            obtain ⟨r2, hr2⟩ : ∃ r : Nat, x2 % (nc : Int) = (r : Int) := ⟨(x2 % (nc : Int)).toNat, by have := Int.emod_nonneg x2 (show (nc : Int) ≠ 0 by omega); omega⟩
            have hr1n : r1 < nc := by have := Int.emod_lt_of_pos x1 (show 0 < (nc : Int) by omega); omega
            have hr2n : r2 < nc := by have := Int.emod_lt_of_pos x2 (show 0 < (nc : Int) by omega); omega
            have hbl1 := fun X => below_any x1 (nc : Int) X (by omega) (by omega) hx1.1 hx1.2
            have hbl2 := fun X => below_any x2 (nc : Int) X (by omega) (by omega) hx2.1 hx2.2
            simp only [hr1] at hbl1
            simp only [hr2] at hbl2
            have k1 : wr.cell? ⟨gb, r1, none⟩ = some (.int .i64 (s r1 : Int)) := by rw [hbc r1 (by omega)]; simp [bks, hr1n]
            have k2 : wr.cell? ⟨gb, r2, none⟩ = some (.int .i64 (s r2 : Int)) := by rw [hbc r2 (by omega)]; simp [bks, hr2n]
            have q1 : (r1 : Int) < nc := by omega
            have q2 : (r2 : Int) < nc := by omega
            have HE := Lib.hid (HD.out.fin g1 HN.out HNP.out)
            have HZ := Lib.hid HD.out.zo
            have HS := Lib.hid HD.out.sel
            clear hr1 hr2 hbc hc0 HD
            go_wp2_with fail
            refine region_grow (by kernel_rfl) (by kernel_rfl) ?_
            repeat (go_big_quiet_step (first | (intro _; go_at_call 16; with_reducible exact grow_same (hbl1 _)) | (intro _; go_at_call 16; with_reducible exact grow_same (hbl2 _))))
            refine wpQuiet_nil ?_
            intro _ hw'
            obtain ⟨k9, m9, rfl⟩ := hw'
            obtain ⟨Y, hY⟩ : ∃ X, ext wr k9 m9 = X := ⟨_, rfl⟩
            have HY := Lib.hid (HE.out.on (hY ▸ below_ext wr k9 m9))
            rw [hY]
            have c0 := HY.out.g0
            have c1 := HY.out.g1
            have c2 := HY.out.g2
            have cs := HY.out.gl
            clear hY HE k1 k2 hbl1 hbl2
            go_wp2_with fail
            have HYa := Lib.hid (HY.out.on (Below.al (Below.refl _ _) (Obj.cells #[Value.int IntKind.i64 (s r2 : Int)] 3)))
            refine (field_any W H i c ccap Y.heap.size (s r2) Ds _ g1 (by omega) g3 (by omega) HN.out (by omega) HYa.out.dl HYa.out.ic (fun a ha => (HZ.out a ha).1) HYa.out.cl (by simp [go_sem]) (by simp) (HS.out.lt r2 hr2n).1).mono ?_
            rintro e w7 ⟨fo, O, rfl, hOl, hO, hOr, _, hfo, hb7⟩
            have HO := Lib.hid (And.intro hOl (And.intro hO hOr))
            have HG := Lib.hid (HYa.out.on hb7)
            have c0 := HG.out.g0
            have c1 := HG.out.g1
            have c2 := HG.out.g2
            have c3 := HG.out.m0
            have c4 := HG.out.m1
            have cs := HG.out.gl
            have cm := HG.out.ml
            have hlk1 := look1 50 3 mb (ofs s nc) (.int .i64 0) w7 Try.underlying50 (by kernel_rfl) HG.out.mp (s r1) false
            have hlk2 := look1 50 3 mb (ofs s nc) (.int .i64 0) w7 Try.underlying50 (by kernel_rfl) HG.out.mp (s r2) false
            rw [ofs_find HS.out r1 hr1n] at hlk1
            rw [ofs_find HS.out r2 hr2n] at hlk2
            simp only [Bool.false_eq_true, if_false, Option.getD_some] at hlk1 hlk2
            clear hb7 hOl hO hOr HYa HY
            go_wp2_with fail
            refine (cells_any pp np pcap cc nc ccp r1 r2 (fx W) (fy W) r (fun k j => cor W (s k) j) w7 HG.out.msh (by rw [← HNP.out]; exact good_floor g1 g2 g4 HN.out HS.out) hr1n hr2n).mono ?_
            rintro e w8 ⟨T, F, hT, hF, hcase, hb8⟩
            have hFO := floor_grid g1 HN.out HS.out hT (fun a ha => (HZ.out a ha).2) hF HO.out.2.1 hr2n r1 hr1n
            have HR := Lib.hid (HO.out.2.2.below hb8 hfo)
            have HG8 := Lib.hid (HG.out.on hb8)
            have fr := HR.out.1 (s r1) (by rw [HO.out.1]; exact (HS.out.lt r1 hr1n).1)
            have hsr1 := (HS.out.lt r1 hr1n).1
            have hfo8 := Nat.lt_of_lt_of_le hfo hb8.size
            change _ = some (Value.int IntKind.i64 (gt O (s r1))) at fr
            rw [hFO] at fr
            have d2 := HG8.out.g2
            have ds := HG8.out.gl
            have hbd : ∀ d : Nat, F r1 = (d : Int) → d < nc := fun d hd => hF.bound d r1 hr1n hd
            clear hT hF hb8 hFO hlk1 hlk2
            rcases hcase with ⟨hneg, rfl⟩ | ⟨d, g, cp, hd, rfl⟩
            · go_wp2_with fail
              go_ret
              exact ⟨rfl, hB0 ▸ HG8.out.bel⟩
            · rw [hd] at fr
              have hdn := hbd d hd
              have hdw : wrap64 ((d : Int) + 1) = (d : Int) + 1 := by unfold wrap64; omega
              go_wp2_with fail
              go_ret
              exact ⟨by simp [hdw], hB0 ▸ HG8.out.bel⟩
        · have hiN : i < N := by omega
          have i1 : (i : Int) < (N : Int) := by omega
          have hdl := HD.out.dl
          have ci := HD.out.ic.1 i (by omega)
          have cf := HD.out.ic.2 i (by omega)
          have hci : gt Ds i = gt Cs i := by rw [HD.out.ds i hiN, if_neg (fun e => by have := e.1; omega)]
          obtain ⟨x, hx⟩ : ∃ x, gt Cs i = x := ⟨_, rfl⟩
          rw [hx] at hci
          have hci' := hci
          unfold gt at hci'
          rw [hci'] at ci
          have HX := Lib.hid hx
          have hmb := HD.out.o6
          have hcB : c < wr.heap.size := by have := HD.out.o7; have := HD.out.o2; have := HD.out.o3; have := HD.out.o4; have := HD.out.o5; omega
          clear h0 hci hci' hx
          by_cases hx0 : x = 0
          · have e1 : (x == 0) = true := by simp [hx0]
            go_wp2_with fail
            go_roundw
            case rel => exact ⟨i + 1, rfl, by omega, nc, vc, s, r, Ds, HD.out.skip hiN (by rw [HX.out]; exact hx0)⟩
            case measure => simp [intOf] <;> omega
          · have e1 : (x == 0) = false := by simp [hx0]
            have g2 := HD.out.g2
            have hgB : gq < wr.heap.size := by have := HD.out.o7; have := HD.out.o3; have := HD.out.o4; have := HD.out.o5; omega
            have hx1 : gt Cs i ≠ 0 := by rw [HX.out]; exact hx0
            have HX1 := Lib.hid hx1
            have hnc := HD.out.sel.le
            obtain ⟨vo, vcp, hvs, _, _, _⟩ := owns_source HD.out.cls
            have hmB : mq < B := by have := HD.out.o4; have := HD.out.o5; omega
            have hord : c ≠ gq ∧ c ≠ mq ∧ gq ≠ mq ∧ gq ≠ mb ∧ mq ≠ mb ∧ gq < B ∧ c < B := by have := HD.out.o2; have := HD.out.o3; have := HD.out.o4; have := HD.out.o5; omega
            have HO := Lib.hid hord
            clear hx1 hx0 hdl hcB hgB hmb hord
            have hcB2 : c < wr.heap.size := by have := HO.out.2.2.2.2.2.2; have := HD.out.o7; omega
            have hgB2 : gq < wr.heap.size := by have := HO.out.2.2.2.2.2.1; have := HD.out.o7; omega
            go_wp2_with fail
            obtain ⟨X1, hX1⟩ : ∃ X, wr.setCell ⟨c, i, none⟩ (.int .i64 1) = X := ⟨_, rfl⟩
            have k1 : Kp c mb u14 vc wr X1 := hX1 ▸ Kp.set c mb i u14 vc wr _
            have a0 := (HD.out.cell k1 gq 0 HO.out.2.2.2.2.2.1 HO.out.1.symm HO.out.2.2.2.1).trans HD.out.g0
            have hs1 : gq < X1.heap.size := by rw [← hX1]; simpa [World.setCell] using hgB2
            obtain ⟨yi, hyi⟩ : ∃ y, i / W = y := ⟨_, rfl⟩
            obtain ⟨xi, hxi⟩ : ∃ y, i % W = y := ⟨_, rfl⟩
            obtain ⟨A, hA⟩ : ∃ A, yi * (W + 1) + xi = A := ⟨_, rfl⟩
            have hxW : xi < W := by rw [← hxi]; exact Nat.mod_lt _ (by omega)
            have hyH : yi ≤ 42 := by rw [← hyi]; exact Nat.le_trans (Nat.div_le_self _ _) (by omega)
            obtain ⟨PP, hPP⟩ : ∃ P, yi * (W + 1) = P := ⟨_, rfl⟩
            have hPPb : PP ≤ 336 := by rw [← hPP]; exact Nat.mul_le_mul hyH (show W + 1 ≤ 8 by omega)
            have d1 : (i : Int) / (W : Int) = (yi : Int) := by rw [← hyi]; push_cast; rfl
            have d2 : (i : Int) % (W : Int) = (xi : Int) := by rw [← hxi]; push_cast; rfl
            have d3 : (i : Int).tmod (W : Int) = (xi : Int) := by rw [Int.tmod_eq_emod_of_nonneg (by omega)]; exact d2
            have d4 : (i : Int).tdiv (W : Int) = (yi : Int) := by rw [Int.tdiv_eq_ediv_of_nonneg (by omega)]; exact d1
            have d5 : ¬ (W : Int) = 0 := by omega
            have d6 : (yi : Int) * ((W : Int) + 1) = (PP : Int) := by rw [← hPP]; push_cast; rfl
            have d7 : (PP : Int) + (xi : Int) = (A : Int) := by rw [← hA, hPP]; push_cast; rfl
            have HA := Lib.hid (show i / W * (W + 1) + i % W = A by rw [hyi, hxi]; exact hA)
            have hAb : A ≤ 400 := by omega
            rw [hX1]
            clear ci cf hcB2 hgB2 g2 hyi hxi hA hPP
            refine region_grow (by kernel_rfl) (by kernel_rfl) ?_
            repeat (go_big_quiet_step ((fail)))
            refine wpQuiet_nil ?_
            intro _ hw'
            obtain ⟨k9, m9, rfl⟩ := hw'
            obtain ⟨Y2, hw2⟩ : ∃ X, ext X1 k9 m9 = X := ⟨_, rfl⟩
            have hb2 : Below X1.heap.size X1 Y2 := hw2 ▸ below_ext X1 k9 m9
            have k2 := k1.trans (Kp.below c mb u14 vc hb2)
            rw [hw2]
            have b1 := (HD.out.cell k2 mq 1 hmB HO.out.2.1.symm HO.out.2.2.2.2.1).trans HD.out.m1
            have hs2 : mq < Y2.heap.size := by have := k2.1; have := HD.out.o7; omega
            have hM2 : M1 Y2 mb (ofs s nc) := by
              refine HD.out.mp.kept ?_
              rw [hb2.block mb (by rw [← hX1]; have := HD.out.o6; have := HD.out.o7; simp [World.setCell]; omega), ← hX1]
              have : c ≠ mb := by have := HD.out.o2; have := HD.out.o3; have := HD.out.o4; have := HD.out.o5; omega
              simp only [World.setCell, Array.getElem?_modify]
              rw [if_neg this]
            obtain ⟨w3, hput, hM3, hg3⟩ := put1 50 3 mb (ofs s nc) (.int .i64 (nc : Int)) _ Try.underlying50 hM2 (i : Int) (ofs_none HD.out.sel)
            have HM3 := Lib.hid hM3
            have HG3 := Lib.hid hg3
            have k3 := k2.trans (Kp.map c mb u14 vc hg3)
            have b3 := (HD.out.cell k3 mq 1 hmB HO.out.2.1.symm HO.out.2.2.2.2.1).trans HD.out.m1
            have HB2 := Lib.hid hb2
            subst hvs
            clear hw2 hM2 hM3 hg3 k1 hb2
            have hnc42 : nc ≤ 42 := by omega
            have back2 := owns_below (ownsRow_setCell_below HD.out.back (show (⟨c, i, none⟩ : Addr).block < B from HO.out.2.2.2.2.2.2) (.int .i64 1)) (hX1 ▸ HB2.out) (Nat.le_refl _)
            have back3 := Lib.hid (back2.kept HG3.out (.inr (fun e => HD.out.own_v mb HD.out.o6 e.symm)))
            have hBs3 : B ≤ w3.heap.size := by have := k3.1; have := HD.out.o7; omega
            have HK3 := Lib.hid k3
            clear back2 k2 k3
            go_wp2_with (at_builtin; refine wpList_append_lies _ rfl _ _ 22 rfl B 3 i0 (.int .i64 0) 1 8 Try.underlying22 hi0 hz0 hz1 hz2 rfl (by decide) _ nc _ rfl (back3.out.alloc _) ⟨w3.heap.size, 0, none⟩ 1 1 [.int .i64 i] rfl rfl (new_one _ _ _) (one_ok rfl) (by decide) (by unfold maxLen; omega) (by omega) (by simp; omega) _ rfl ?_)
            intro g cg w4 ho4 hg4 hl4 _
            have HK4 := Lib.hid ((HK3.out.trans (Kp.alloc c mb u14 _ w3 (Obj.cells #[Value.int IntKind.i64 (i : Int)] 3))).trans (Kp.v c mb u14 _ hg4))
            have a4 := (HD.out.cell HK4.out gq 0 HO.out.2.2.2.2.2.1 HO.out.1.symm HO.out.2.2.2.1).trans HD.out.g0
            have b4 := (HD.out.cell HK4.out mq 1 hmB HO.out.2.1.symm HO.out.2.2.2.2.1).trans HD.out.m1
            have hBs4 : B ≤ w4.heap.size := by have := HK4.out.1; have := HD.out.o7; omega
            have hgs4 : gq < w4.heap.size := by have := HO.out.2.2.2.2.2.1; omega
            have hms4 : mq < w4.heap.size := by omega
            have cls2 := owns_below (ownsRow_setCell_below HD.out.cls (show (⟨c, i, none⟩ : Addr).block < B from HO.out.2.2.2.2.2.2) (.int .i64 1)) (hX1 ▸ HB2.out) (Nat.le_refl _)
            have cls3 := cls2.kept HG3.out (.inr (fun e => HD.out.own_vc mb HD.out.o6 e.symm))
            have cls4 := Lib.hid ((cls3.alloc (Obj.cells #[Value.int IntKind.i64 (i : Int)] 3)).kept hg4 (own_diff HD.out.cls HD.out.back (by decide)))
            have H4 := Lib.hid (And.intro ho4 (And.intro hg4 hl4))
            clear cls2 cls3 ho4 hg4 hl4 b1 b3 hs2 hs1 back3 hBs3 a0
            go_wp2_with (at_builtin; refine wpList_append_lies _ rfl _ _ 26 rfl B 22 i5 (.slice none 0 0) 1 24 Try.underlying26 hi5 hu0 hu1 hu2 rfl (by decide) _ nc _ rfl ((cls4.out.alloc _).alloc _) ⟨w4.heap.size + 1, 0, none⟩ 1 1 [.slice (some ⟨w4.heap.size, 0, none⟩) 4 4] rfl rfl (fun j u hj => by have := new_one (w4.alloc (Obj.cells #[Value.int IntKind.i64 ↑A, Value.int IntKind.i64 (↑A + 1), Value.int IntKind.i64 (↑A + ↑W + 2), Value.int IntKind.i64 (↑A + ↑W + 1)] 3)) (.slice (some ⟨w4.heap.size, 0, none⟩) 4 4) 22 j u hj; simpa using this) (one_ok rfl) (by decide) (by unfold maxLen; omega) (by omega) (by simp; omega) _ rfl ?_)
            intro g6 cg6 w6 ho6 hg6 hl6 _
            have HK6 := Lib.hid (((HK4.out.trans (Kp.alloc c mb u14 _ w4 _)).trans (Kp.alloc c mb u14 _ _ _)).trans (Kp.vc c mb u14 _ hg6))
            have b6 := (HD.out.cell HK6.out mq 1 hmB HO.out.2.1.symm HO.out.2.2.2.2.1).trans HD.out.m1
            have f6 := (HD.out.froz HK6.out mq 1 hmB HO.out.2.1.symm HO.out.2.2.2.2.1).trans HD.out.mf
            have hms6 : mq < w6.heap.size := by have := HK6.out.1; have := HD.out.o7; omega
            rw [← sq_eq W i A HA.out] at hg6
            have HN2 := Lib.hid (HD.out.add hiN HX1.out (hX1 ▸ HB2.out) HG3.out HM3.out H4.out.2.1 H4.out.1 (by simpa using H4.out.2.2) hg6 ho6 (by simpa using hl6))
            clear ho6 hg6 hl6 a4 b4 hBs4 hgs4 hms4
            go_wp2_with fail
            go_roundw
            case rel => exact ⟨i + 1, rfl, by omega, _, _, _, _, _, HN2.out⟩
            case measure => simp [intOf] <;> omega
    · have hyl : y < H + 1 := by omega
      have y1 : (y : Int) < (H : Int) + 1 := by omega
      have hgs : gq < wr.heap.size := by omega
      clear h0
      go_wp2_with fail
      go_loopw [48] (fun v48 wx => ∃ x : Nat, v48 = .int .i64 x ∧ x ≤ W + 1 ∧ Hid (∃ v, Pst W H N c ccap gq mq (pt W x y) v Cs w wx)) (fun v48 _ => W + 1 - (intOf v48).toNat)
      case atStart => exact ⟨0, rfl, Nat.zero_le _, v, HP.out⟩
      case round =>
        clear HP c0 hms hgs
        obtain ⟨x, rfl, hx, hR⟩ := hrel
        obtain ⟨v, hP⟩ := hR.out
        have HP := Lib.hid hP
        clear hR hP
        by_cases h0 : x = W + 1
        · have xl1 : ¬ (x : Int) < (W : Int) + 1 := by omega
          go_wp2_with fail
          go_roundw
          case rel => exact ⟨y + 1, rfl, by omega, v, by
            have e : pt W 0 (y + 1) = pt W x y := by unfold pt; rw [h0, Nat.succ_mul]; omega
            rw [e]; exact HP.out⟩
          case measure => simp [intOf] <;> omega
        · have hxl : x < W + 1 := by omega
          have xl1 : (x : Int) < (W : Int) + 1 := by omega
          have m0 := HP.out.m0
          have hms := HP.out.ms
          have e1 : fx W (pt W x y) = (x : Int) * 65536 := fx_pt W x y (by omega)
          have e2 : fy W (pt W x y) = (y : Int) * 65536 := fy_pt W x y (by omega)
          have hn : pt W x y ≤ 100 := by
            unfold pt
            have : y * (W + 1) ≤ 6 * 8 := Nat.mul_le_mul (by omega) (by omega)
            omega
          obtain ⟨n, hnn⟩ : ∃ n, pt W x y = n := ⟨_, rfl⟩
          have HE := Lib.hid (show fx W n = (x : Int) * 65536 ∧ fy W n = (y : Int) * 65536 ∧ pt W (x + 1) y = n + 1 from ⟨hnn ▸ e1, hnn ▸ e2, by rw [← hnn]; rfl⟩)
          rw [hnn] at HP hn
          clear h0 e1 e2 hnn
          have hms1 : mq + 1 ≤ wr.heap.size := hms
          go_wp2_with (at_builtin; refine wpList_append_own _ rfl _ _ 25 rfl (mq + 1) 24 i4 (.agg #[.int .i64 0, .int .i64 0]) 2 16 Try.underlying25 hi4 hy0 hy1 hy2 rfl (by decide) _ n _ rfl (HP.out.own.alloc _) ⟨wr.heap.size, 0, none⟩ 1 1 [.int .i64 ((x : Int) * 65536), .int .i64 ((y : Int) * 65536)] rfl rfl (new_two _ _ _ _) (two_ok rfl rfl) (by unfold maxLen; omega) (by omega) (by simp; omega) ?_)
          intro v' w' own' hgr _
          obtain ⟨gv, cv, rfl, _⟩ := owns_open own' (by omega)
          have hb5 : Below (mq + 1) wr w' := ((Below.refl (mq + 1) wr).alloc hms1 _).grown hgr (by simp; omega) (fun k hk => (HP.out.own.lt k hk).1)
          have m0' := (hb5.cell (p := ⟨mq, 0, none⟩) (Nat.lt_succ_self mq)).trans m0
          have mf' := (hb5.frozen (p := ⟨mq, 0, none⟩) (Nat.lt_succ_self mq)).trans (HP.out.mf 0)
          have ms' : mq < w'.heap.size := Nat.lt_of_lt_of_le hms hb5.size
          have HN2 := Lib.hid (HP.out.add hgr (by rw [HE.out.1, HE.out.2.1]; exact own'))
          clear own' hgr hb5 m0 hms hms1
          go_wp2_with fail
          go_roundw
          case rel => exact ⟨x + 1, rfl, by omega, _, by rw [HE.out.2.2]; exact HN2.out⟩
          case measure => simp [intOf] <;> omega
end Go.Proofs.Ytaiflkjchbpphaa
