/- queue.Queue[int]'s Put. -/
import Derived.Test.YtfeibjokifidmaaQue
import Derived.Deep.AppendLies
import Derived.Deep.RegionLaw
namespace Go.Proofs.Ytfeibjokifidmaa
open Go.RowKit

theorem Try.info84 : (Try.prog.info? 84).map (fun i => (i.zero, i.size, i.bytes)) = some (some (.agg #[.int .i64 0, .int .i64 0, .int .i64 0]), 3, 24) := by kernel_rfl

theorem Que.below {p : Nat} {H : List Itm} {came : Nat} {w w' : World} (h : Que p H came w) (hb : Below w.heap.size w w') : Que p H came w' := by
  obtain ⟨v, h0, ho⟩ := h.ex
  have hs := h.sz
  exact ⟨⟨v, (hb.cell (p := ⟨p, 0, none⟩) hs).trans h0, owns_below ho hb (Nat.le_refl _)⟩, (hb.cell (p := ⟨p, 1, none⟩) hs).trans h.c1, fun j => (hb.frozen (p := ⟨p, j, none⟩) hs).trans (h.f j), by have := hb.size; omega⟩

theorem que_mid {p n came g cap : Nat} {H : List Itm} {v r : Int} {u : Value} {w : World} (hn : H.length = n) (own : w.ownsRow (p + 1) 84 3 (.slice (some ⟨g, 0, none⟩) (n + 1) cap) (n + 1) (flat H ++ [.int .i64 v, .int .i64 r, .int .i64 came]))
    (d0 : w.cell? ⟨p, 0, none⟩ = some u) (d1 : w.cell? ⟨p, 1, none⟩ = some (.int .i64 came)) (d2 : ∀ j, w.frozen? ⟨p, j, none⟩ = false) (hp : p < w.heap.size) :
    Que p (H ++ [⟨v, r, came⟩]) came (w.setCell ⟨p, 0, none⟩ (.slice (some ⟨g, 0, none⟩) (n + 1) cap)) := by
  refine ⟨⟨_, World.cell?_setCell_same _ _ _ d0, ?_⟩, ?_, ?_, by simpa [World.setCell] using hp⟩
  · have e : flat (H ++ [⟨v, r, came⟩]) = flat H ++ [.int .i64 v, .int .i64 r, .int .i64 came] := by rw [flat_append]; rfl
    rw [e, List.length_append, hn]
    exact ownsRow_setCell_below own (by simp) _
  · rw [World.cell?_setCell_other _ _ _ _ (by intro e; cases e)]; exact d1
  · intro j; rw [World.frozen?_setCell]; exact d2 j
theorem Que.came {p n : Nat} {H : List Itm} {w : World} (h : Que p H n w) : Que p H (n + 1) (w.setCell ⟨p, 1, none⟩ (.int .i64 ((n : Int) + 1))) := by
  obtain ⟨v, h0, ho⟩ := h.ex
  refine ⟨⟨v, ?_, ownsRow_setCell_below ho (by simp) _⟩, ?_, ?_, by simpa [World.setCell] using h.sz⟩
  · rw [World.cell?_setCell_other _ _ _ _ (by intro e; cases e)]; exact h0
  · rw [World.cell?_setCell_same _ _ _ h.c1]; simp
  · intro j; rw [World.frozen?_setCell]; exact h.f j

theorem flat_set (H : List Itm) (x : Itm) : ∀ i, i < H.length → flat (H.set i x) = (((flat H).set (i * 3) (.int .i64 x.v)).set (i * 3 + 1) (.int .i64 x.r)).set (i * 3 + 2) (.int .i64 x.c) := by
  induction H with
  | nil => intro i hi; simp at hi
  | cons y r ih =>
    intro i hi
    have e : ∀ (z : Itm) (q : List Itm), flat (z :: q) = .int .i64 z.v :: .int .i64 z.r :: .int .i64 z.c :: flat q := by intro z q; simp [flat]
    cases i with
    | zero => rw [List.set_cons_zero, e, e]; rfl
    | succ i =>
      rw [List.set_cons_succ, e, e, ih i (by simpa using hi), show (i + 1) * 3 = i * 3 + 3 by omega, show i * 3 + 3 + 1 = i * 3 + 1 + 3 by omega, show i * 3 + 3 + 2 = i * 3 + 2 + 3 by omega]
      rfl

/-- An item stored. -/
theorem Que.store {p came g cap i : Nat} {H : List Itm} {w : World} (h : Que p H came w) (hg : w.cell? ⟨p, 0, none⟩ = some (.slice (some ⟨g, 0, none⟩) H.length cap)) (hi : i < H.length) (x : Itm) :
    Que p (H.set i x) came (((w.setCell ⟨g, i * 3, none⟩ (.int .i64 x.v)).setCell ⟨g, i * 3 + 1, none⟩ (.int .i64 x.r)).setCell ⟨g, i * 3 + 2, none⟩ (.int .i64 x.c)) := by
  obtain ⟨v, h0, ho⟩ := h.ex
  rw [hg] at h0
  injection h0 with h0
  subst h0
  have hpg : p + 1 ≤ g := (owns_at ho).1
  have o1 := (ho.stored (i * 3) (.int .i64 x.v)).1
  have o2 := (o1.stored (i * 3 + 1) (.int .i64 x.r)).1
  have o3 := (o2.stored (i * 3 + 2) (.int .i64 x.c)).1
  rw [← flat_set H x i hi] at o3
  have hne : ∀ o, (⟨g, o, none⟩ : Addr) ≠ ⟨p, 0, none⟩ ∧ (⟨g, o, none⟩ : Addr) ≠ ⟨p, 1, none⟩ := by
    intro o
    exact ⟨fun e => by have := congrArg Addr.block e; simp at this; omega, fun e => by have := congrArg Addr.block e; simp at this; omega⟩
  refine ⟨⟨_, ?_, by rw [List.length_set]; exact o3⟩, ?_, ?_, by simpa [World.setCell] using h.sz⟩
  · rw [World.cell?_setCell_other _ _ _ _ (hne _).1, World.cell?_setCell_other _ _ _ _ (hne _).1, World.cell?_setCell_other _ _ _ _ (hne _).1]; exact hg
  · rw [World.cell?_setCell_other _ _ _ _ (hne _).2, World.cell?_setCell_other _ _ _ _ (hne _).2, World.cell?_setCell_other _ _ _ _ (hne _).2]; exact h.c1
  · intro j; rw [World.frozen?_setCell, World.frozen?_setCell, World.frozen?_setCell]; exact h.f j
theorem Que.ext {p came : Nat} {H : List Itm} {w : World} (h : Que p H came w) (l : List Obj) (m : Nat) : Que p H came (ext w l m) := h.below (below_ext w l m)
theorem Que.drew {p came : Nat} {H : List Itm} {w : World} (h : Que p H came w) : Que p H came w.drew := ⟨h.ex, h.c1, h.f, h.sz⟩
/-- The world behind two items' exchange. -/
def swapW (w : World) (g i k : Nat) (A B : Itm) : World :=
  (((((w.setCell ⟨g, i * 3, none⟩ (.int .i64 B.v)).setCell ⟨g, i * 3 + 1, none⟩ (.int .i64 B.r)).setCell ⟨g, i * 3 + 2, none⟩ (.int .i64 B.c)).setCell
      ⟨g, k * 3, none⟩ (.int .i64 A.v)).setCell ⟨g, k * 3 + 1, none⟩ (.int .i64 A.r)).setCell ⟨g, k * 3 + 2, none⟩ (.int .i64 A.c)
theorem swapW_below {p g : Nat} (hpg : p ≤ g) {a w : World} (h : Below p a w) (i k : Nat) (A B : Itm) : Below p a (swapW w g i k A B) :=
  (((((h.setCell (p := ⟨g, i * 3, none⟩) hpg _).setCell (p := ⟨g, i * 3 + 1, none⟩) hpg _).setCell (p := ⟨g, i * 3 + 2, none⟩) hpg _).setCell (p := ⟨g, k * 3, none⟩) hpg _).setCell (p := ⟨g, k * 3 + 1, none⟩) hpg _).setCell (p := ⟨g, k * 3 + 2, none⟩) hpg _
/-- Two items exchanged. -/
theorem Que.swap {p came g cap i k : Nat} {H : List Itm} {w : World} (h : Que p H came w) (hg : w.cell? ⟨p, 0, none⟩ = some (.slice (some ⟨g, 0, none⟩) H.length cap)) (hi : i < H.length) (hk : k < H.length) :
    Que p (swap H i k) came (swapW w g i k (at' H i) (at' H k)) := by
  have h1 := h.store hg hi (at' H k)
  have hg1 := hg
  obtain ⟨v, h0, ho⟩ := h.ex
  rw [hg] at h0
  injection h0 with h0
  subst h0
  have hpg : p + 1 ≤ g := (owns_at ho).1
  have hne : ∀ o, (⟨g, o, none⟩ : Addr) ≠ ⟨p, 0, none⟩ := fun o e => by have := congrArg Addr.block e; simp at this; omega
  refine h1.store (g := g) (cap := cap) ?_ (by simpa using hk) (at' H i)
  rw [World.cell?_setCell_other _ _ _ _ (hne _), World.cell?_setCell_other _ _ _ _ (hne _), World.cell?_setCell_other _ _ _ _ (hne _), List.length_set]; exact hg

set_option maxRecDepth 100000 in
set_option maxHeartbeats 1000000 in
theorem put_any (p : Nat) (H : List Itm) (came : Nat) (v r : Int) (w : World) (h : Que p H came w) (hH : Heap H) (hl : H.length < 4096) (hcm : came ≤ 1000000) :
    Calls Try.prog 13 #[.pointer (some ⟨p, 0, none⟩), .int .i64 v, .int .i64 r] w fun e w' => e = .returned (.int .i64 0) ∧ Hid (∃ H', Que p H' (came + 1) w' ∧ Heap H' ∧ H'.Perm (H ++ [⟨v, r, came⟩])) ∧ Below p w w' := by
  obtain ⟨i0, hi0, hz0, hz1, hz2⟩ := info_parts Try.info84
  obtain ⟨v0, h0, hown⟩ := h.ex
  obtain ⟨ao, cap, rfl, hn0, _, _⟩ := owns_source hown
  have hc1 := h.c1
  have hf := h.f
  have hsz := h.sz
  have HH := Lib.hid h
  have HP := Lib.hid hH
  obtain ⟨n, hn⟩ : ∃ n, H.length = n := ⟨_, rfl⟩
  rw [hn] at h0 hown hl
  have HN := Lib.hid hn
  have HO := Lib.hid hown
  have hsp : w.heap.size ≠ p := by omega
  clear h hH hn hown hn0
  go_enter Try.func13, Try.ntmps13
  go_upto_region 3 with fail
  go_cut [] (fun wx => Que p (H ++ [⟨v, r, came⟩]) came wx ∧ Below p w wx)
  case first =>
    obtain ⟨w1, hw1⟩ : ∃ w1, w.alloc (Obj.cells #[.int .i64 v, .int .i64 r, .int .i64 came] 84) = w1 := ⟨_, rfl⟩
    have ho1 : w1.ownsRow (p + 1) 84 3 (.slice ao n cap) n (flat H) := by rw [← hw1]; exact HO.out.alloc _
    have hs1 : w1.heap.size = w.heap.size + 1 := by rw [← hw1]; simp
    have hc0' : w1.cell? ⟨p, 0, none⟩ = some (.slice ao n cap) := by rw [← hw1, World.cell?_alloc_lt _ _ _ hsz]; exact h0
    have hc1' : w1.cell? ⟨p, 1, none⟩ = some (.int .i64 came) := by rw [← hw1, World.cell?_alloc_lt _ _ _ hsz]; exact hc1
    have hb1 : Below w.heap.size w w1 := by rw [← hw1]; exact (Below.refl _ _).alloc (Nat.le_refl _) _
    have HF1 : Hid (∀ j, w1.frozen? ⟨p, j, none⟩ = false) := fun j => (hb1.frozen (p := ⟨p, j, none⟩) hsz).trans (hf j)
    have hnew : ∀ j u, [Value.int .i64 v, .int .i64 r, .int .i64 came][j]? = some u → w1.drew.cell? ((⟨w.heap.size, 0, none⟩ : Addr).add j) = some u := by
      intro j u hj
      show w1.cell? _ = _
      rw [← hw1, Addr.add_lit]
      match j, hj with
      | 0, hj => simp at hj; subst hj; simp [go_sem]
      | 1, hj => simp at hj; subst hj; simp [go_sem]
      | 2, hj => simp at hj; subst hj; simp [go_sem]
    have HNEW := Lib.hid hnew
    have h1c : ∀ u ∈ [Value.int .i64 v, .int .i64 r, .int .i64 came], u.oneCell' = true := by
      intro u hu
      simp at hu
      rcases hu with rfl | rfl | rfl <;> rfl
    have H1C := Lib.hid h1c
    have HO1 := Lib.hid ho1
    have HC0 := Lib.hid hc0'
    have HC1 := Lib.hid hc1'
    have HB1 := Lib.hid hb1
    have hrow : Hid (∀ q, (Value.slice ao n cap).ownBlock = some q → p + 1 ≤ q) := fun q hq => (HO.out.lt q hq).1
    clear hnew h1c ho1 hb1
    go_region_law ((refine step_append_lies _ rfl _ _ 25 rfl (p + 1) 84 i0 (.agg #[.int .i64 0, .int .i64 0, .int .i64 0]) 3 24 Try.underlying25 hi0 hz0 hz1 hz2 rfl (by decide) _ n (flat H) rfl HO1.out.drew ⟨w.heap.size, 0, none⟩ 1 1 [.int .i64 v, .int .i64 r, .int .i64 came] rfl rfl HNEW.out H1C.out (by omega) (by unfold maxLen; omega) (by omega) (by simp; omega) _ rfl ?_); intro g cap' w2 own2 hg2 hor hgl; have d0 : w2.cell? ⟨p, 0, none⟩ = some (.slice ao n cap) := hg2.cell (a := ⟨p, 0, none⟩) HC0.out (fun e => by have := hrow.out _ e.symm; simp at this; omega); have d1 : w2.cell? ⟨p, 1, none⟩ = some (.int .i64 came) := hg2.cell (a := ⟨p, 1, none⟩) HC1.out (fun e => by have := hrow.out _ e.symm; simp at this; omega); have hb2 : Below (p + 1) w1.drew w2 := (Below.refl _ _).grown hg2 (by simp; omega) hrow.out; have d2 : ∀ j, w2.frozen? ⟨p, j, none⟩ = false := (fun j => (hb2.frozen (p := ⟨p, j, none⟩) (by simp)).trans (HF1.out j)); have OWN2 := Lib.hid own2; have HB2 := Lib.hid hb2; clear own2 hg2 hb2 hor)
    all_goals
      go_wp2
      go_meet
      refine ⟨que_mid HN.out OWN2.out d0 d1 d2 (by have := HB2.out.size; simp at this; omega), ?_⟩
      have r1 : Below p w w1 := HB1.out.mono (by omega)
      have r2 : Below p w1 w2 := Below.trans ((Below.refl p w1).drew) (HB2.out.mono (by omega))
      exact (r1.trans r2).setCell (p := ⟨p, 0, none⟩) (Nat.le_refl _) _
  case rest =>
    obtain ⟨hQ, hB⟩ := hcut
    have hq1 := hQ.c1
    have hqf := hQ.f
    have hqs := hQ.sz
    obtain ⟨g, gc, q0, _, _, _, _, _, _⟩ := hQ.open (by simp)
    have HQ := Lib.hid hQ
    have HB := Lib.hid hB
    have hlen : (H ++ [(⟨v, r, came⟩ : Itm)]).length = n + 1 := by rw [List.length_append, HN.out]; rfl
    rw [hlen] at q0
    have HL := Lib.hid hlen
    clear hQ hB hlen hc1 hf hsz h0
    have hcm : Hid ((H ++ [(⟨v, r, came⟩ : Itm)]).length = n + 1 ∧ Up (H ++ [⟨v, r, came⟩]) n) := ⟨HL.out, by have := Up.new HP.out (⟨v, r, came⟩ : Itm); rwa [HN.out] at this⟩
    have HQC := Lib.hid HQ.out.came
    go_wp2_with fail
    obtain ⟨W2, hW2⟩ : ∃ W2, wc.setCell ⟨p, 1, none⟩ (.int .i64 ((came : Int) + 1)) = W2 := ⟨_, rfl⟩
    rw [hW2]
    rw [hW2] at HQC
    have HB2 : Hid (Below p w W2) := by rw [← hW2]; exact HB.out.setCell (p := ⟨p, 1, none⟩) (Nat.le_refl _) _
    clear hW2 hq1 hqf hqs q0 HQ HB
    go_loopw [7] (fun i wr => ∃ (k : Nat) (K : List Itm), i = .int .i64 k ∧ Que p K (came + 1) wr ∧ Hid (Up K k ∧ K.Perm (H ++ [⟨v, r, came⟩])) ∧ k ≤ n ∧ Below p w wr) (fun i _ => (intOf i).toNat)
    case atStart => exact ⟨n, _, rfl, HQC.out, ⟨hcm.out.2, List.Perm.refl _⟩, Nat.le_refl _, HB2.out⟩
    case round =>
      obtain ⟨k, K, rfl, hQ, hK, hkn, hB⟩ := hrel
      have hKl : Hid (K.length = n + 1) := by have := hK.out.2.length_eq; rw [hcm.out.1] at this; exact this
      have HQ := Lib.hid hQ
      have HB := Lib.hid hB
      clear hQ hB
      by_cases hk0 : k = 0
      · subst hk0
        go_wp2_with fail
        go_ret
        exact ⟨rfl, ⟨K, HQ.out, hK.out.1.done (.inl rfl), hK.out.2⟩, HB.out⟩
      · obtain ⟨P, hP, hPk⟩ : ∃ P : Nat, ((k : Int) - 1) / 2 = (P : Int) ∧ (k - 1) / 2 = P := ⟨(k - 1) / 2, by omega, rfl⟩
        have hPl : P < k := by omega
        have HPK := Lib.hid hPk
        clear hPk
        have hbf := before_any p K (came + 1) k P wr HQ.out (by rw [hKl.out]; omega) (by rw [hKl.out]; omega) (by rw [hKl.out]; omega)
        obtain ⟨bb, hbb⟩ : ∃ bb, bef (at' K k) (at' K P) = bb := ⟨_, rfl⟩
        rw [hbb] at hbf
        have HBF := Lib.hid hbf
        have HBB := Lib.hid hbb
        clear hbf hbb
        go_wp2_with fail
        refine HBF.out.mono ?_
        rintro e w1 ⟨rfl, hb1⟩
        cases bb with
        | false =>
          have HB1 := Lib.hid hb1
          clear hb1
          go_wp2_with fail
          go_ret
          exact ⟨rfl, ⟨K, HQ.out.below HB1.out, hK.out.1.done (.inr (by rw [HPK.out]; exact HBB.out)), hK.out.2⟩, HB.out.trans (HB1.out.mono (by have := HQ.out.sz; omega))⟩
        | true =>
          have HQ1 := Lib.hid (HQ.out.below hb1)
          have HB1 := Lib.hid (HB.out.trans (hb1.mono (by have := HQ.out.sz; omega)))
          clear hb1
          go_wp2_with fail
          have hkl : k < K.length := by rw [hKl.out]; omega
          have hPl2 : P < K.length := by rw [hKl.out]; omega
          obtain ⟨g1, cap1, z0, _, hpg, hgl, hcap, hcell, hfr⟩ := HQ1.out.open (by omega)
          have HSW := Lib.hid (HQ1.out.swap z0 hkl hPl2)
          obtain ⟨a0, a1, a2⟩ := hcell k hkl
          obtain ⟨b0, b1, b2⟩ := hcell P hPl2
          have hfp := HQ1.out.f
          have hsp := HQ1.out.sz
          have hUp : Hid (Up (swap K k P) P) := by
            have := hK.out.1.step (by omega) hkl (by rw [HPK.out]; exact HBB.out)
            rw [HPK.out] at this; exact this
          have hPm := Lib.hid ((swap_perm K k P hkl hPl2).trans hK.out.2)
          obtain ⟨A, hA⟩ : ∃ A, at' K k = A := ⟨_, rfl⟩
          obtain ⟨B, hB⟩ : ∃ B, at' K P = B := ⟨_, rfl⟩
          rw [hA, hB] at HSW
          rw [hA] at a0 a1 a2
          rw [hB] at b0 b1 b2
          rw [hKl.out] at z0 hcap
          clear hA hB hcell hkl hPl2
          go_region
          go_wp2
          go_roundw
          case rel =>
            refine ⟨P, swap K k P, by rw [hP], ?_, ⟨hUp.out, hPm.out⟩, by omega, ?_⟩
            · exact HSW.out.drew
            · exact (swapW_below (by omega) HB1.out k P A B).drew
          case measure => simp [intOf]; omega
end Go.Proofs.Ytfeibjokifidmaa
