/- slots.Take. -/
import Derived.Test.YtfeibjokifidmaaSlotsU
import Derived.Test.YtfeibjokifidmaaLateFr
namespace Go.Proofs.Ytfeibjokifidmaa.Z
open Go.RowKit Go.Shelf Go.Proofs.Ytfeibjokifidmaa.M
variable {bz : Nat}

attribute [local go_sem] Oper.semAt_some

/-- What Take says: a slot, or that there is none left. -/
def Taken (p bz : Nat) (G : List Nat) (U F : Sets) (w : World) (e : Ending) (w' : World) : Prop :=
  (next F G.length < 256 ∧ e = .returned (.tuple #[.agg #[.int .i64 (next F G.length : Nat), .int .i64 ((grown G (next F G.length))[next F G.length]?.getD 0 : Nat)], .int .i64 0]) ∧
    SlotsAt w' p bz (grown G (next F G.length)) (jn orW U (one (next F G.length))) (jn subW F (one (next F G.length))) ∧ Turn p w w') ∨
  (next F G.length = 256 ∧ e = .returned (.tuple #[.agg #[.int .i64 0, .int .i64 0], .int .i64 6]) ∧ SlotsAt w' p bz G U F ∧ Turn p w w')

set_option maxRecDepth 100000 in
set_option maxHeartbeats 8000000 in
theorem take_any (p : Nat) (G : List Nat) (U F : Sets) (w : World) (h : SlotsAt w p bz G U F) (hI : Inv G U F) (hbz : bz ≤ w.heap.size) :
    Calls Try.prog 41 #[.pointer (some ⟨p, 0, none⟩)] w (Taken p bz G U F w) := by
  have HW := Lib.hid h
  have HI := Lib.hid hI
  obtain ⟨fv, hu, hsu⟩ := h.free
  obtain ⟨gv, hg0, hg1⟩ := h.gens
  obtain ⟨ao, cap, rfl, _, _, _⟩ := owns_source hg1
  have hps := h.sz
  obtain ⟨B, hBs⟩ : ∃ B, w.heap.size = B := ⟨_, rfl⟩
  obtain ⟨n, hn⟩ : ∃ n, G.length = n := ⟨_, rfl⟩
  have hnx : next F G.length ≤ n := by rw [← hn]; exact (next_spec hI).1
  have hn256 : n ≤ 256 := by rw [← hn]; exact hI.n256
  have HN := Lib.hid hn
  rw [hn] at hg0
  have b1 : Below w.heap.size w (w.alloc (.cells #[.int .i64 0, .int .i64 0] 64)) := (Below.refl _ _).alloc (Nat.le_refl _) _
  have hg2 := (b1.cell (p := ⟨p, 0, none⟩) hps).trans hg0
  have b0 : Two (w.alloc (.cells #[.int .i64 0, .int .i64 0] 64)) w.heap.size (.int .i64 0) (.int .i64 0) := ⟨by simp, by simp, by simp, by simp⟩
  obtain ⟨W2, hW2⟩ : ∃ W2, ((w.alloc (.cells #[.int .i64 0, .int .i64 0] 64)).alloc (.cells #[.int .i64 (n : Nat)] 3)) = W2 := ⟨_, rfl⟩
  have hb2 : Below w.heap.size w W2 := by rw [← hW2]; exact ((Below.refl _ _).alloc (Nat.le_refl _) _).alloc (by simp) _
  have t2 : Two W2 w.heap.size (.int .i64 0) (.int .i64 0) := by rw [← hW2]; exact b0.keep ((Below.refl _ _).alloc (Nat.le_refl _) _)
  have x2 : Box W2 (w.heap.size + 1) (.int .i64 (n : Nat)) := by rw [← hW2]; have := Box.new (w.alloc (.cells #[.int .i64 0, .int .i64 0] 64)) 3 (.int .i64 (n : Nat)); rwa [World.size_alloc] at this
  have hs2 : W2.heap.size = w.heap.size + 2 := by rw [← hW2]; simp
  have HALL := Lib.hid (all_any fv F W2 (hsu.keep hb2))
  have hc2 := (hb2.cell (p := ⟨p, 2, none⟩) hps).trans hu
  have HBS := Lib.hid hBs
  have HW2 := Lib.hid hW2
  have HT2 := Lib.hid t2
  have HX2 := Lib.hid x2
  have HS2 := Lib.hid hs2
  clear hBs b1 hg0 hg1 hW2 b0 t2 x2 hs2 h hI hn hsu
  refine (callsIn_wide (n := 6)).1 ?_
  refine callsIn_of_wp_marks Try.func41 rfl trivial ?_ rfl
  simp only [Try.ntmps41, List.size_toArray, List.length_cons, List.length_nil, Nat.reduceAdd, Nat.reduceSub, Array.replicate_succ, Array.replicate_zero, List.push_toArray, List.append_toArray, List.nil_append, List.cons_append]
  refine (wpIn_wide (n := 6)).2 ?_
  go_wp2_with fail
  rw [HW2.out]
  with_reducible refine HALL.out.mono ?_
  rintro e w3 ⟨Bi, g, rfl, hall, hB1, hB2, hg1, hg2, hbel⟩
  have HA := Lib.hid hall
  have HB3 := Lib.hid hbel
  have HB2 := Lib.hid hb2
  have hB3 : Below w.heap.size w w3 := hb2.trans (hbel.mono hb2.size)
  have HBW3 := Lib.hid hB3
  have HT3 := Lib.hid (HT2.out.keep hbel)
  have HX3 := Lib.hid (HX2.out.keep hbel)
  rw [HS2.out] at hB1 hg1
  clear hall hbel HALL hb2 hB3 HW2 HT2 HX2
  obtain ⟨C, hC⟩ : ∃ C, w3.heap.size = C := ⟨_, rfl⟩
  have hCB : w.heap.size + 2 ≤ C := by have := HB3.out.size; rw [HS2.out] at this; omega
  have HC := Lib.hid hC
  clear hC
  go_wp2_with fail
  rename_i K0 HK0
  have HK := Lib.hid HK0
  clear HK0 hc2
  have HT : Hid (∀ (D x : Nat) (W : World), next F G.length = x → Box W (w.heap.size + 1) (.int .i64 (x : Nat)) → Two W w.heap.size (.int .i64 0) (.int .i64 0) → Below w.heap.size w W → C ≤ D → W.heap[D]? = some (.deferred (some [])) →
      K0 { tmps := #[.pointer (some ⟨p, 0, none⟩), undef, .pointer (some ⟨w.heap.size, 0, none⟩), .int .i64 0, .pointer (some ⟨w.heap.size + 1, 0, none⟩), undef, .pointer (some ⟨p, 0, none⟩), .pointer (some ⟨p, 0, none⟩), .pointer (some ⟨p, 0, none⟩), .slice ao n cap, .int .i64 (n : Nat), .pointer (some ⟨p, 0, none⟩), .pointer (some ⟨p, 0, none⟩), .pointer (some ⟨p, 2, none⟩), fv, .func (.func 58) #[] #[.pointer (some ⟨Bi, 0, none⟩)], undef, undef, undef, undef, undef, undef, undef, undef, undef, undef, undef, undef, undef, undef, undef, undef, undef, undef, undef, undef, undef, undef, undef, undef, undef, undef, undef, undef, undef, undef, undef, undef, undef, undef, undef, undef, undef, undef, undef, undef, undef, undef, undef, undef, undef, undef, undef, undef], defers := [{ target := .collected D, args := #[] }] } W) := by
    show ∀ (D x : Nat) (W : World), _
    intro D x W hx hb h2 hB hD hK
    refine HK.out _ _ ?_
    have hS := HW.out.keep hB
    have hpw := hS.sz
    have hzB := hB.size
    have hxn : x ≤ n := by rw [← hx]; exact hnx
    obtain ⟨b, hbw⟩ : ∃ b, w.heap.size = b := ⟨_, rfl⟩
    have HBW := Lib.hid hB
    have HXX := Lib.hid hx
    have HSS := Lib.hid hS
    have HH2 := Lib.hid h2
    have HBX := Lib.hid hb
    have HKD := Lib.hid hK
    have HBB := Lib.hid hbw
    obtain ⟨t0, t1, tf0, tf1⟩ := h2
    have r4 := hb.1
    have f4 := hb.2
    have l4 := hb.lt
    have l2 := HH2.out.lt
    clear hb hB hS hK HT3 HX3 HBW3 HA hB1 hB2 hg1 hg2 hnx hx HK
    rw [hbw] at t0 t1 tf0 tf1 r4 f4 l4 l2 hps hCB ⊢
    have hpne : ∀ i j, ¬ ((⟨p, i, none⟩ : Addr) = ⟨b, j, none⟩) := fun i j e => by have := congrArg Addr.block e; simp at this; omega
    clear hbw
    by_cases hfull : x = 256
    · subst hfull
      have r4 : W.cell? ⟨b + 1, 0, none⟩ = some (.int .i64 256) := r4
      clear hpne hn256
      go_wp2_with fail
      have hBX : Below w.heap.size w ((W.setCell ⟨b, 0, none⟩ (.int .i64 0)).setCell ⟨b, 1, none⟩ (.int .i64 0)) := (HBW.out.setCell (p := ⟨b, 0, none⟩) (by rw [HBB.out]; exact Nat.le_refl _) _).setCell (p := ⟨b, 1, none⟩) (by rw [HBB.out]; exact Nat.le_refl _) _
      have c0 : ((W.setCell ⟨b, 0, none⟩ (.int .i64 0)).setCell ⟨b, 1, none⟩ (.int .i64 0)).cell? ⟨b, 0, none⟩ = some (.int .i64 0) := by simp [go_sem, t0]
      have c1 : ((W.setCell ⟨b, 0, none⟩ (.int .i64 0)).setCell ⟨b, 1, none⟩ (.int .i64 0)).cell? ⟨b, 1, none⟩ = some (.int .i64 0) := by simp [go_sem, t1]
      have hKX : ((W.setCell ⟨b, 0, none⟩ (.int .i64 0)).setCell ⟨b, 1, none⟩ (.int .i64 0)).heap[D]? = some (.deferred (some [])) := by
        rw [Below.heap_setCell _ _ _ _ (by simp; omega), Below.heap_setCell _ _ _ _ (by simp; omega)]; exact HKD.out
      generalize ((W.setCell ⟨b, 0, none⟩ (.int .i64 0)).setCell ⟨b, 1, none⟩ (.int .i64 0)) = X at hBX c0 c1 hKX ⊢
      have e0 := cell_kept c0 (grownBy_putObj' X D (.deferred none)) (fun r e => by cases e; exact ⟨_, hKX, rfl⟩)
      have e1 := cell_kept c1 (grownBy_putObj' X D (.deferred none)) (fun r e => by cases e; exact ⟨_, hKX, rfl⟩)
      have hSX := HW.out.keep hBX
      refine ⟨by simp, .inl ⟨_, _, rfl, run_takeDeferred hKX, ?_⟩⟩
      refine ⟨.tuple #[.agg #[.int .i64 0, .int .i64 0], .int .i64 6], ?_, .inr ⟨HXX.out, rfl, hSX.own (grownBy_putObj' X D _) (fun r e => by cases e; exact ⟨_, hKX, rfl⟩), (Turn.of_below hBX HW.out.sz).putObj hSX (by rw [HBB.out]; omega) ⟨_, hKX, rfl⟩⟩⟩
      simp [results, Try.f41, go_sem, e0, e1]
    · have hne : ((x : Int) == 256) = false := by rw [beq_eq_false_iff_ne]; omega
      have hx256 : x < 256 := by omega
      obtain ⟨gv, hgc, hgr⟩ := HSS.out.gens
      have HGR := Lib.hid hgr
      have hgc' := hgc
      have HGC := Lib.hid hgc'
      obtain ⟨ao', cap', rfl, _, _, _⟩ := owns_source hgr
      rw [HN.out] at hgc
      clear hgc' hgr hu hg2
      go_wp2_with fail
      refine region_grow (by kernel_rfl) (by kernel_rfl) ?_
      repeat (go_big_quiet_step (fail))
      refine wpQuiet_nil ?_
      intro _ hw'
      obtain ⟨kk, mm, rfl⟩ := hw'
      have hb7 := below_ext W kk mm
      have HS7 := Lib.hid (HSS.out.keep hb7)
      have HT7 := Lib.hid (Turn.of_below (HBW.out.trans (hb7.mono HBW.out.size)) HW.out.sz)
      have HBW7 := Lib.hid (HBW.out.trans (hb7.mono HBW.out.size))
      have HB7 := Lib.hid (HBX.out.keep hb7)
      have HH7 := Lib.hid (HH2.out.keep hb7)
      have hDW : D < W.heap.size := (Array.getElem?_eq_some_iff.1 HKD.out).1
      have HK7 := Lib.hid ((hb7.block D hDW).trans HKD.out)
      have HO7 := Lib.hid (owns_below HGR.out hb7 (Nat.le_refl _))
      have HC7 := Lib.hid ((hb7.cell (p := ⟨p, 0, none⟩) hpw).trans HGC.out)
      have hc7 := HC7.out
      have hf7 := HS7.out.fz 0
      have hp7 := HS7.out.sz
      have hz7 : W.heap.size ≤ (ext W kk mm).heap.size := hb7.size
      rw [HN.out] at hc7
      generalize ext W kk mm = W7 at HS7 HT7 HBW7 HB7 HH7 HK7 HO7 HC7 hc7 hf7 hp7 hz7 ⊢
      clear t0 t1 tf0 tf1 r4 f4 hgc hb7 hne HGR HGC HSS HBX HH2 HKD
      have hgb7 : ∀ k, gb W7 p = some k → k < b := by
        intro k hk
        have hb7 := HBW7.out
        have : gb w p = some k := by rw [← hk]; unfold gb; rw [hb7.cell (p := ⟨p, 0, none⟩) HW.out.sz]
        have := (HW.out.gb_gt this).2.2
        rw [HBB.out] at this
        exact this
      have hB7 : Box W7 (b + 1) (.int .i64 (x : Nat)) := HBB.out ▸ HB7.out
      have hH7 : Two W7 b (.int .i64 0) (.int .i64 0) := HBB.out ▸ HH7.out
      have HGB7 := Lib.hid hgb7
      have HB7 := Lib.hid hB7
      have HH7 := Lib.hid hH7
      clear hgb7 hB7 hH7
      obtain ⟨G', hG'⟩ : ∃ G', grown G x = G' := ⟨_, rfl⟩
      have HG' := Lib.hid hG'
      rcases Nat.lt_or_ge x n with hxe | hxe
      · have heq : ((x : Int) == (n : Int)) = false := by rw [beq_eq_false_iff_ne]; omega
        have hgr : grown G x = G := by unfold grown; rw [if_neg (by rw [HN.out]; omega)]
        rw [hG'] at hgr
        have HS9 : Hid (SlotsAt W7 p bz G' U F) := by rw [hgr]; exact HS7
        have hxG : x < G'.length := by rw [hgr, HN.out]; exact hxe
        have r4 := HB7.out.1
        obtain ⟨W9, hW9⟩ : ∃ W9, W7 = W9 := ⟨_, rfl⟩
        have HGN9 : Hid (∀ k, gb W7 p = some k → k ≠ b ∧ k ≠ b + 1 ∧ k ≠ D) := fun k hk => by have := HGB7.out k hk; omega
        have HT9 := HT7
        have HB9 := HB7
        have HH9 := HH7
        have HK9 := HK7
        rw [hW9] at HT9 HB9 HH9 HK9 HS9 HGN9
        have HW9 := Lib.hid hW9
        clear hG' hgr hW9
        go_wp2_with fail
        rw [HW9.out]
        clear hc7 hf7 hp7 r4 HW9 heq hxe
        obtain ⟨uv, hu, hsu⟩ := HS9.out.used
        obtain ⟨uad, un, uc, rfl⟩ : ∃ ad n c, uv = .slice ad n c := by obtain ⟨l, ad, c, h1, _⟩ := hsu; exact ⟨ad, l.length, c, h1⟩
        obtain ⟨fv9, hf, hsf⟩ := HS9.out.free
        obtain ⟨fad, fn, fc, rfl⟩ : ∃ ad n c, fv9 = .slice ad n c := by obtain ⟨l, ad, c, h1, _⟩ := hsf; exact ⟨ad, l.length, c, h1⟩
        have hp9 := HS9.out.sz
        have r4 := HB9.out.1
        have l4 := HB9.out.lt
        have HWI := Lib.hid (with_any _ _ x W9.drew (hsu.keep (Below.refl _ _).drew) (by omega))
        have HSF := Lib.hid hsf
        clear hsu hsf
        refine region_fr (S := fun w' => ∃ k m, w' = ext W9 k m) [0, 1, 2, 3, 4, 5, 6, 8, 9, 10, 11, 12] 8 [14, 15, 16, 17, 18, 19] (by kernel_rfl) rfl (by kernel_rfl) (by kernel_rfl) ⟨[], W9.drawn + 1, (by rw [← ext_nil W9]; rfl)⟩ ?_
        simp only [List.filterMap_cons, List.filterMap_nil, List.getElem?_cons_zero, List.getElem?_cons_succ]
        show wpQuiet _ _ _ _ [_, _, _, _, _, _, _, _, _, _, _, _] _
        repeat (go_big_quiet_step (fail))
        refine wpQuiet_nil ?_
        refine fr_one (i := 7) (by kernel_rfl) rfl rfl ?_
        go_simp
        with_reducible refine HWI.out.mono ?_
        rintro e w10 ⟨rv, rfl, hs10, hb10⟩
        obtain ⟨ad3, nu3, cu3, rfl⟩ : ∃ ad n c, rv = .slice ad n c := by obtain ⟨l, ad, c, h1, _⟩ := hs10; exact ⟨ad, l.length, c, h1⟩
        have hb10' : Below W9.heap.size W9 w10 := (Below.refl _ _).drew.trans hb10
        refine ⟨ext_of hb10', ?_⟩
        have HWO := Lib.hid (without_any _ _ x w10 (HSF.out.keep hb10') (by omega))
        have HB10 := Lib.hid hb10'
        have HS10 := Lib.hid hs10
        clear hs10 hb10 hb10' HWI
        refine fr_one (i := 13) (by kernel_rfl) rfl rfl ?_
        go_simp
        with_reducible refine HWO.out.mono ?_
        rintro e w11 ⟨rv, rfl, hs11, hb11⟩
        obtain ⟨ad4, nu4, cu4, rfl⟩ : ∃ ad n c, rv = .slice ad n c := by obtain ⟨l, ad, c, h1, _⟩ := hs11; exact ⟨ad, l.length, c, h1⟩
        have hb11' : Below W9.heap.size W9 w11 := HB10.out.trans (hb11.mono HB10.out.size)
        refine ⟨ext_of hb11', ?_⟩
        have hS11 := HS9.out.keep hb11'
        have hT11 := HT9.out.trans (Turn.of_below hb11' HS9.out.sz)
        have HB11 := Lib.hid (HB9.out.keep hb11')
        have HH11 := Lib.hid (HH9.out.keep hb11')
        have HK11 := Lib.hid ((hb11'.block D (Array.getElem?_eq_some_iff.1 HK9.out).1).trans HK9.out)
        obtain ⟨uv11, hu11, _⟩ := hS11.used
        obtain ⟨fv11, hf11, _⟩ := hS11.free
        have hz1 := hS11.fz 1
        have hz2 := hS11.fz 2
        obtain ⟨hS12, hT12⟩ := hS11.setUsed (HS10.out.keep hb11)
        have hs12 : SetAt (w11.setCell ⟨p, 1, none⟩ (.slice ad3 nu3 cu3)) (.slice ad4 nu4 cu4) (jn subW F (one x)) := hs11.other _ _ hS11.no64
        obtain ⟨hS13, hT13⟩ := hS12.setFree hs12
        have HS13 := Lib.hid hS13
        have HT13 := Lib.hid ((hT11.trans hT12).trans hT13)
        have HGN11 : Hid (gb w11 p = gb W9 p) := by show _ = _; unfold gb; rw [hb11'.cell (p := ⟨p, 0, none⟩) hp9]
        clear hs11 hb11 hb11' hS11 hT11 hS12 hT12 hs12 hS13 hT13 HWO HSF HS10 HB10 HT9 HS9
        refine fr_one (i := 14) (by kernel_rfl) rfl rfl ?_
        go_simp
        refine fr_one (i := 15) (by kernel_rfl) rfl rfl ?_
        go_simp
        refine fr_one (i := 16) (by kernel_rfl) rfl rfl ?_
        go_simp
        refine fr_one (i := 17) (by kernel_rfl) rfl rfl ?_
        go_simp
        refine fr_one (i := 18) (by kernel_rfl) rfl rfl ?_
        go_simp
        refine fr_one (i := 19) (by kernel_rfl) rfl rfl ?_
        go_simp
        refine ⟨by decide, (fun _ h => nomatch h), ?_⟩
        obtain ⟨W13, hW13⟩ : ∃ W13, ((w11.setCell ⟨p, 1, none⟩ (.slice ad3 nu3 cu3)).setCell ⟨p, 2, none⟩ (.slice ad4 nu4 cu4)) = W13 := ⟨_, rfl⟩
        have hne1 : b + 1 ≠ p := by omega
        have hne0 : b ≠ p := by omega
        have HB13 : Hid (Box W13 (b + 1) (.int .i64 (x : Nat))) := by rw [← hW13]; exact (HB11.out.other hne1 _ _).other hne1 _ _
        have HH13 : Hid (Two W13 b (.int .i64 0) (.int .i64 0)) := by rw [← hW13]; exact (HH11.out.other hne0 _ _).other hne0 _ _
        have HK13 : Hid (W13.heap[D]? = some (.deferred (some []))) := by
          rw [← hW13]
          show _ = _
          rw [Below.heap_setCell _ _ _ _ (by simp; omega), Below.heap_setCell _ _ _ _ (by simp; omega)]; exact HK11.out
        have HGN13 : Hid (some b ≠ gb W13 p) := by
          have e : gb W13 p = gb W9 p := by
            rw [← HGN11.out, ← hW13]
            unfold gb
            rw [World.cell?_setCell_other _ _ _ _ (by simp), World.cell?_setCell_other _ _ _ _ (by simp)]
          intro e2
          exact (HGN9.out b (by rw [← e]; exact e2.symm)).1 rfl
        rw [hW13] at HS13 HT13 ⊢
        clear hW13 hu11 hf11 hz1 hz2 HB11 HH11 HK11 hu hf r4
        obtain ⟨q, qc, hc0, hpq, hqs, hqx, _⟩ := HS13.out.genAt hxG
        obtain ⟨m, hm⟩ : ∃ m, G'.length = m := ⟨_, rfl⟩
        obtain ⟨y, hy⟩ : ∃ y, G'[x]?.getD 0 = y := ⟨_, rfl⟩
        rw [hm] at hc0
        rw [hy] at hqx
        have r4 := HB13.out.1
        obtain ⟨t0, t1, tf0, tf1⟩ := HH13.out
        have l4 := HB13.out.lt
        have l2 := HH13.out.lt
        have hp13 := HS13.out.sz
        have ix0 : (0 : Int) ≤ (x : Int) := Int.natCast_nonneg _
        have ix1 : (x : Int) < (m : Int) := by omega
        have HM := Lib.hid hm
        have HY := Lib.hid hy
        clear hm hy
        go_wp2_with fail
        refine region_fr (S := fun w' => ∃ k m, w' = ext W13 k m) [0, 1, 2, 3, 4, 5, 6, 7, 8] 2 [9, 10] (by kernel_rfl) rfl (by kernel_rfl) (by kernel_rfl) ⟨[], W13.drawn + 1, (by rw [← ext_nil W13]; rfl)⟩ ?_
        simp only [List.filterMap_cons, List.filterMap_nil, List.getElem?_cons_zero, List.getElem?_cons_succ]
        show wpQuiet _ _ _ _ [_, _, _, _, _, _, _, _, _] _
        repeat (go_big_quiet_step (fail))
        refine wpQuiet_nil ?_
        refine fr_one (i := 9) (by kernel_rfl) rfl rfl ?_
        go_simp
        refine fr_one (i := 10) (by kernel_rfl) rfl rfl ?_
        go_simp
        refine ⟨by decide, (fun _ h => nomatch h), ?_⟩
        have hx64 : ∀ z, W13.cell? ⟨b, 0, none⟩ ≠ some (.int .u64 z) := fun z e => by rw [t0] at e; cases e
        have hSA := HS13.out.other hne0 HGN13.out hx64 0 (.int .i64 (x : Nat))
        have hTA := HT13.out.setNew (by rw [HBB.out]; exact Nat.le_refl _) hne0 0 (.int .i64 (x : Nat))
        have hGA : some b ≠ gb (W13.setCell ⟨b, 0, none⟩ (.int .i64 (x : Nat))) p := by
          have e : gb (W13.setCell ⟨b, 0, none⟩ (.int .i64 (x : Nat))) p = gb W13 p := by
            unfold gb
            rw [World.cell?_setCell_other _ _ _ _ (fun e => hne0 (congrArg Addr.block e))]
          rw [e]; exact HGN13.out
        have hSB := (hSA.other hne0 hGA (fun z e => by rw [World.cell?_setCell_same _ _ _ t0] at e; cases e) 1 (.int .i64 (y : Nat))).drew
        have hTB := (hTA.setNew (by rw [HBB.out]; exact Nat.le_refl _) hne0 1 (.int .i64 (y : Nat))).trans (Turn.of_below (Below.refl _ _).drew (by have := hSB.sz; exact this))
        have c0 : ((W13.setCell ⟨b, 0, none⟩ (.int .i64 (x : Nat))).setCell ⟨b, 1, none⟩ (.int .i64 (y : Nat))).drew.cell? ⟨b, 0, none⟩ = some (.int .i64 (x : Nat)) := by simp [go_sem, t0]
        have c1 : ((W13.setCell ⟨b, 0, none⟩ (.int .i64 (x : Nat))).setCell ⟨b, 1, none⟩ (.int .i64 (y : Nat))).drew.cell? ⟨b, 1, none⟩ = some (.int .i64 (y : Nat)) := by simp [go_sem, t1]
        have hKX : ((W13.setCell ⟨b, 0, none⟩ (.int .i64 (x : Nat))).setCell ⟨b, 1, none⟩ (.int .i64 (y : Nat))).drew.heap[D]? = some (.deferred (some [])) := by
          show ((W13.setCell ⟨b, 0, none⟩ (.int .i64 (x : Nat))).setCell ⟨b, 1, none⟩ (.int .i64 (y : Nat))).heap[D]? = _
          rw [Below.heap_setCell _ _ _ _ (by simp; omega), Below.heap_setCell _ _ _ _ (by simp; omega)]; exact HK13.out
        generalize ((W13.setCell ⟨b, 0, none⟩ (.int .i64 (x : Nat))).setCell ⟨b, 1, none⟩ (.int .i64 (y : Nat))).drew = X at hSB hTB c0 c1 hKX ⊢
        clear hSA hTA hGA
        go_wp2_with fail
        have e0 := cell_kept c0 (grownBy_putObj' X D (.deferred none)) (fun r e => by cases e; exact ⟨_, hKX, rfl⟩)
        have e1 := cell_kept c1 (grownBy_putObj' X D (.deferred none)) (fun r e => by cases e; exact ⟨_, hKX, rfl⟩)
        refine ⟨by simp, .inl ⟨_, _, rfl, run_takeDeferred hKX, ?_⟩⟩
        refine ⟨.tuple #[.agg #[.int .i64 (x : Nat), .int .i64 (y : Nat)], .int .i64 0], ?_, .inl ?_⟩
        · simp [results, Try.f41, go_sem, e0, e1]
        · rw [HXX.out, HG'.out]
          exact ⟨hx256, by rw [HY.out], hSB.own (grownBy_putObj' X D _) (fun r e => by cases e; exact ⟨_, hKX, rfl⟩), hTB.putObj hSB (by rw [HBB.out]; omega) ⟨_, hKX, rfl⟩⟩
      · obtain rfl : x = n := by omega
        have hgr : grown G x = G ++ [0] := by unfold grown; rw [if_pos HN.out.symm]
        rw [hG'] at hgr
        have hxG : x < G'.length := by rw [hgr, List.length_append, HN.out]; exact Nat.lt_succ_self _
        have r4 := HB7.out.1
        obtain ⟨i0, hi0, hz0, hz1, hz2⟩ := info_parts Try.info3
        clear hG'
        go_wp2_with (at_builtin; refine wpList_append_lies _ rfl _ _ 22 rfl bz 3 i0 (.int .i64 0) 1 8 Try.underlying22 hi0 hz0 hz1 hz2 rfl (by decide) _ x (ints G) rfl ((show W7.ownsRow bz 3 1 (.slice ao' x cap') x (ints G) by have := HO7.out; rwa [HN.out] at this).alloc _) ⟨W7.heap.size, 0, none⟩ 1 1 [.int .i64 0] rfl rfl (new_one _ _ _) (Ytfeibjokifidmaa.one_ok rfl) (by decide) (by unfold maxLen; omega) (by omega) (by simp; omega) (W7.heap.size + 1) (by simp) ?_)
        intro g6 c6 w6 hO6 hg6 hat hlt6
        have hpn : some p ≠ (Value.slice ao' x cap').ownBlock := fun e => HS7.out.ne _ HC7.out (by rw [HN.out]; exact e.symm)
        have c6' := hg6.cell (a := ⟨p, 0, none⟩) ((World.cell?_alloc_lt _ _ _ hp7).trans hc7) hpn
        have f6' : w6.frozen? ⟨p, 0, none⟩ = false := (hg6.frozen_far ⟨p, 0, none⟩ (by simp; omega) hpn).trans ((((Below.refl _ _).alloc (Nat.le_refl _) _ : Below W7.heap.size W7 (W7.alloc (.cells #[.int .i64 0] 3))).frozen (p := ⟨p, 0, none⟩) hp7).trans hf7)
        have hap := HS7.out.append HI.out HC7.out HO7.out (by rw [HN.out]; exact hg6) (by rw [HN.out]; exact hO6) (by rw [HN.out]; exact hat)
        rw [HN.out] at hap
        have HAP := Lib.hid hap
        clear hO6 hg6 hat hlt6 hpn hap hi0 hz0 hz1 hz2
        go_wp2_with fail
        obtain ⟨W9, hW9⟩ : ∃ W9, (w6.setCell ⟨p, 0, none⟩ (.slice (some ⟨g6, 0, none⟩) (x + 1) c6)) = W9 := ⟨_, rfl⟩
        have hap := HAP.out
        rw [hW9] at hap ⊢
        rw [← hgr] at hap
        obtain ⟨hs9, ht9⟩ := hap
        have HS9 := Lib.hid hs9
        have HT9 := Lib.hid (HT7.out.trans ht9)
        have hbne : some (b + 1) ≠ gb W7 p := fun e => by have := HGB7.out _ e.symm; omega
        have hbne' : some b ≠ gb W7 p := fun e => by have := HGB7.out _ e.symm; omega
        have hDne : some D ≠ gb W7 p := fun e => by have := HGB7.out _ e.symm; omega
        have HB9 := Lib.hid (ht9.box HB7.out (by omega) hbne)
        have HH9 := Lib.hid (Two.turn ht9 HH7.out (by omega) hbne')
        have HK9 := Lib.hid ((ht9.block D (by have := (Array.getElem?_eq_some_iff.1 HK7.out).1; omega) (by omega) hDne).trans HK7.out)
        have HGN9 : Hid (∀ k, gb W9 p = some k → k ≠ b ∧ k ≠ b + 1 ∧ k ≠ D) := fun k hk => by
          have hDl := (Array.getElem?_eq_some_iff.1 HK7.out).1
          rcases ht9.next with e | e
          · rw [e] at hk; have := HGB7.out k hk; omega
          · have := e k hk; omega
        clear hc7 hf7 hp7 r4 hxe hs9 ht9 hgr hbne hbne' hDne HAP c6' f6' hW9
        obtain ⟨uv, hu, hsu⟩ := HS9.out.used
        obtain ⟨uad, un, uc, rfl⟩ : ∃ ad n c, uv = .slice ad n c := by obtain ⟨l, ad, c, h1, _⟩ := hsu; exact ⟨ad, l.length, c, h1⟩
        obtain ⟨fv9, hf, hsf⟩ := HS9.out.free
        obtain ⟨fad, fn, fc, rfl⟩ : ∃ ad n c, fv9 = .slice ad n c := by obtain ⟨l, ad, c, h1, _⟩ := hsf; exact ⟨ad, l.length, c, h1⟩
        have hp9 := HS9.out.sz
        have r4 := HB9.out.1
        have l4 := HB9.out.lt
        have HWI := Lib.hid (with_any _ _ x W9.drew (hsu.keep (Below.refl _ _).drew) (by omega))
        have HSF := Lib.hid hsf
        clear hsu hsf
        refine region_fr (S := fun w' => ∃ k m, w' = ext W9 k m) [0, 1, 2, 3, 4, 5, 6, 8, 9, 10, 11, 12] 8 [14, 15, 16, 17, 18, 19] (by kernel_rfl) rfl (by kernel_rfl) (by kernel_rfl) ⟨[], W9.drawn + 1, (by rw [← ext_nil W9]; rfl)⟩ ?_
        simp only [List.filterMap_cons, List.filterMap_nil, List.getElem?_cons_zero, List.getElem?_cons_succ]
        show wpQuiet _ _ _ _ [_, _, _, _, _, _, _, _, _, _, _, _] _
        repeat (go_big_quiet_step (fail))
        refine wpQuiet_nil ?_
        refine fr_one (i := 7) (by kernel_rfl) rfl rfl ?_
        go_simp
        with_reducible refine HWI.out.mono ?_
        rintro e w10 ⟨rv, rfl, hs10, hb10⟩
        obtain ⟨ad3, nu3, cu3, rfl⟩ : ∃ ad n c, rv = .slice ad n c := by obtain ⟨l, ad, c, h1, _⟩ := hs10; exact ⟨ad, l.length, c, h1⟩
        have hb10' : Below W9.heap.size W9 w10 := (Below.refl _ _).drew.trans hb10
        refine ⟨ext_of hb10', ?_⟩
        have HWO := Lib.hid (without_any _ _ x w10 (HSF.out.keep hb10') (by omega))
        have HB10 := Lib.hid hb10'
        have HS10 := Lib.hid hs10
        clear hs10 hb10 hb10' HWI
        refine fr_one (i := 13) (by kernel_rfl) rfl rfl ?_
        go_simp
        with_reducible refine HWO.out.mono ?_
        rintro e w11 ⟨rv, rfl, hs11, hb11⟩
        obtain ⟨ad4, nu4, cu4, rfl⟩ : ∃ ad n c, rv = .slice ad n c := by obtain ⟨l, ad, c, h1, _⟩ := hs11; exact ⟨ad, l.length, c, h1⟩
        have hb11' : Below W9.heap.size W9 w11 := HB10.out.trans (hb11.mono HB10.out.size)
        refine ⟨ext_of hb11', ?_⟩
        have hS11 := HS9.out.keep hb11'
        have hT11 := HT9.out.trans (Turn.of_below hb11' HS9.out.sz)
        have HB11 := Lib.hid (HB9.out.keep hb11')
        have HH11 := Lib.hid (HH9.out.keep hb11')
        have HK11 := Lib.hid ((hb11'.block D (Array.getElem?_eq_some_iff.1 HK9.out).1).trans HK9.out)
        obtain ⟨uv11, hu11, _⟩ := hS11.used
        obtain ⟨fv11, hf11, _⟩ := hS11.free
        have hz1 := hS11.fz 1
        have hz2 := hS11.fz 2
        obtain ⟨hS12, hT12⟩ := hS11.setUsed (HS10.out.keep hb11)
        have hs12 : SetAt (w11.setCell ⟨p, 1, none⟩ (.slice ad3 nu3 cu3)) (.slice ad4 nu4 cu4) (jn subW F (one x)) := hs11.other _ _ hS11.no64
        obtain ⟨hS13, hT13⟩ := hS12.setFree hs12
        have HS13 := Lib.hid hS13
        have HT13 := Lib.hid ((hT11.trans hT12).trans hT13)
        have HGN11 : Hid (gb w11 p = gb W9 p) := by show _ = _; unfold gb; rw [hb11'.cell (p := ⟨p, 0, none⟩) hp9]
        clear hs11 hb11 hb11' hS11 hT11 hS12 hT12 hs12 hS13 hT13 HWO HSF HS10 HB10 HT9 HS9
        refine fr_one (i := 14) (by kernel_rfl) rfl rfl ?_
        go_simp
        refine fr_one (i := 15) (by kernel_rfl) rfl rfl ?_
        go_simp
        refine fr_one (i := 16) (by kernel_rfl) rfl rfl ?_
        go_simp
        refine fr_one (i := 17) (by kernel_rfl) rfl rfl ?_
        go_simp
        refine fr_one (i := 18) (by kernel_rfl) rfl rfl ?_
        go_simp
        refine fr_one (i := 19) (by kernel_rfl) rfl rfl ?_
        go_simp
        refine ⟨by decide, (fun _ h => nomatch h), ?_⟩
        obtain ⟨W13, hW13⟩ : ∃ W13, ((w11.setCell ⟨p, 1, none⟩ (.slice ad3 nu3 cu3)).setCell ⟨p, 2, none⟩ (.slice ad4 nu4 cu4)) = W13 := ⟨_, rfl⟩
        have hne1 : b + 1 ≠ p := by omega
        have hne0 : b ≠ p := by omega
        have HB13 : Hid (Box W13 (b + 1) (.int .i64 (x : Nat))) := by rw [← hW13]; exact (HB11.out.other hne1 _ _).other hne1 _ _
        have HH13 : Hid (Two W13 b (.int .i64 0) (.int .i64 0)) := by rw [← hW13]; exact (HH11.out.other hne0 _ _).other hne0 _ _
        have HK13 : Hid (W13.heap[D]? = some (.deferred (some []))) := by
          rw [← hW13]
          show _ = _
          rw [Below.heap_setCell _ _ _ _ (by simp; omega), Below.heap_setCell _ _ _ _ (by simp; omega)]; exact HK11.out
        have HGN13 : Hid (some b ≠ gb W13 p) := by
          have e : gb W13 p = gb W9 p := by
            rw [← HGN11.out, ← hW13]
            unfold gb
            rw [World.cell?_setCell_other _ _ _ _ (by simp), World.cell?_setCell_other _ _ _ _ (by simp)]
          intro e2
          exact (HGN9.out b (by rw [← e]; exact e2.symm)).1 rfl
        rw [hW13] at HS13 HT13 ⊢
        clear hW13 hu11 hf11 hz1 hz2 HB11 HH11 HK11 hu hf r4
        obtain ⟨q, qc, hc0, hpq, hqs, hqx, _⟩ := HS13.out.genAt hxG
        obtain ⟨m, hm⟩ : ∃ m, G'.length = m := ⟨_, rfl⟩
        obtain ⟨y, hy⟩ : ∃ y, G'[x]?.getD 0 = y := ⟨_, rfl⟩
        rw [hm] at hc0
        rw [hy] at hqx
        have r4 := HB13.out.1
        obtain ⟨t0, t1, tf0, tf1⟩ := HH13.out
        have l4 := HB13.out.lt
        have l2 := HH13.out.lt
        have hp13 := HS13.out.sz
        have ix0 : (0 : Int) ≤ (x : Int) := Int.natCast_nonneg _
        have ix1 : (x : Int) < (m : Int) := by omega
        have HM := Lib.hid hm
        have HY := Lib.hid hy
        clear hm hy
        go_wp2_with fail
        refine region_fr (S := fun w' => ∃ k m, w' = ext W13 k m) [0, 1, 2, 3, 4, 5, 6, 7, 8] 2 [9, 10] (by kernel_rfl) rfl (by kernel_rfl) (by kernel_rfl) ⟨[], W13.drawn + 1, (by rw [← ext_nil W13]; rfl)⟩ ?_
        simp only [List.filterMap_cons, List.filterMap_nil, List.getElem?_cons_zero, List.getElem?_cons_succ]
        show wpQuiet _ _ _ _ [_, _, _, _, _, _, _, _, _] _
        repeat (go_big_quiet_step (fail))
        refine wpQuiet_nil ?_
        refine fr_one (i := 9) (by kernel_rfl) rfl rfl ?_
        go_simp
        refine fr_one (i := 10) (by kernel_rfl) rfl rfl ?_
        go_simp
        refine ⟨by decide, (fun _ h => nomatch h), ?_⟩
        have hx64 : ∀ z, W13.cell? ⟨b, 0, none⟩ ≠ some (.int .u64 z) := fun z e => by rw [t0] at e; cases e
        have hSA := HS13.out.other hne0 HGN13.out hx64 0 (.int .i64 (x : Nat))
        have hTA := HT13.out.setNew (by rw [HBB.out]; exact Nat.le_refl _) hne0 0 (.int .i64 (x : Nat))
        have hGA : some b ≠ gb (W13.setCell ⟨b, 0, none⟩ (.int .i64 (x : Nat))) p := by
          have e : gb (W13.setCell ⟨b, 0, none⟩ (.int .i64 (x : Nat))) p = gb W13 p := by
            unfold gb
            rw [World.cell?_setCell_other _ _ _ _ (fun e => hne0 (congrArg Addr.block e))]
          rw [e]; exact HGN13.out
        have hSB := (hSA.other hne0 hGA (fun z e => by rw [World.cell?_setCell_same _ _ _ t0] at e; cases e) 1 (.int .i64 (y : Nat))).drew
        have hTB := (hTA.setNew (by rw [HBB.out]; exact Nat.le_refl _) hne0 1 (.int .i64 (y : Nat))).trans (Turn.of_below (Below.refl _ _).drew (by have := hSB.sz; exact this))
        have c0 : ((W13.setCell ⟨b, 0, none⟩ (.int .i64 (x : Nat))).setCell ⟨b, 1, none⟩ (.int .i64 (y : Nat))).drew.cell? ⟨b, 0, none⟩ = some (.int .i64 (x : Nat)) := by simp [go_sem, t0]
        have c1 : ((W13.setCell ⟨b, 0, none⟩ (.int .i64 (x : Nat))).setCell ⟨b, 1, none⟩ (.int .i64 (y : Nat))).drew.cell? ⟨b, 1, none⟩ = some (.int .i64 (y : Nat)) := by simp [go_sem, t1]
        have hKX : ((W13.setCell ⟨b, 0, none⟩ (.int .i64 (x : Nat))).setCell ⟨b, 1, none⟩ (.int .i64 (y : Nat))).drew.heap[D]? = some (.deferred (some [])) := by
          show ((W13.setCell ⟨b, 0, none⟩ (.int .i64 (x : Nat))).setCell ⟨b, 1, none⟩ (.int .i64 (y : Nat))).heap[D]? = _
          rw [Below.heap_setCell _ _ _ _ (by simp; omega), Below.heap_setCell _ _ _ _ (by simp; omega)]; exact HK13.out
        generalize ((W13.setCell ⟨b, 0, none⟩ (.int .i64 (x : Nat))).setCell ⟨b, 1, none⟩ (.int .i64 (y : Nat))).drew = X at hSB hTB c0 c1 hKX ⊢
        clear hSA hTA hGA
        go_wp2_with fail
        have e0 := cell_kept c0 (grownBy_putObj' X D (.deferred none)) (fun r e => by cases e; exact ⟨_, hKX, rfl⟩)
        have e1 := cell_kept c1 (grownBy_putObj' X D (.deferred none)) (fun r e => by cases e; exact ⟨_, hKX, rfl⟩)
        refine ⟨by simp, .inl ⟨_, _, rfl, run_takeDeferred hKX, ?_⟩⟩
        refine ⟨.tuple #[.agg #[.int .i64 (x : Nat), .int .i64 (y : Nat)], .int .i64 0], ?_, .inl ?_⟩
        · simp [results, Try.f41, go_sem, e0, e1]
        · rw [HXX.out, HG'.out]
          exact ⟨hx256, by rw [HY.out], hSB.own (grownBy_putObj' X D _) (fun r e => by cases e; exact ⟨_, hKX, rfl⟩), hTB.putObj hSB (by rw [HBB.out]; omega) ⟨_, hKX, rfl⟩⟩

  refine (wpIn_wide (n := 6)).1 ?_
  refine wpIn_rangeFunc_ownF (F := Fence.wide) rfl (by omega) (gf := 58) (lb := #[.pointer (some ⟨Bi, 0, none⟩)]) rfl trivial (enters_of Try.func58 (by kernel_rfl) rfl)
    (all_stops Fence.wide 5 trivial rfl (by omega) Bi g F w3 HA.out hB2 hg2) keepG_t (keepG_b hg2) (Below.refl _ _) (fun _ => rfl)
    (fun pre W => pre = [] ∧ Box W (w.heap.size + 1) (.int .i64 (n : Nat)) ∧ Two W w.heap.size (.int .i64 0) (.int .i64 0) ∧ Below w.heap.size w W)
    (fun cd pre W => cd = .exit 0 ∧ ∃ x : El F, pre = [x] ∧ Box W (w.heap.size + 1) (.int .i64 (x.1 : Nat)) ∧ Two W w.heap.size (.int .i64 0) (.int .i64 0) ∧ Below w.heap.size w W)
    (fun s W W' row hs hg hr => ⟨hs.1, box_own' hs.2.1 hg (fun r e => (hr r e).2), hs.2.2.1.own hg (fun r e => (hr r e).2), ownFrom_below (Nat.le_refl _) (by rw [HC.out]; omega) s W W' row hs.2.2.2 hg hr⟩)
    (fun cd s W W' row hs hg hr => ⟨hs.1, hs.2.elim fun x hx => ⟨x, hx.1, box_own' hx.2.1 hg (fun r e => (hr r e).2), hx.2.2.1.own hg (fun r e => (hr r e).2), ownFrom_below (Nat.le_refl _) (by rw [HC.out]; omega) s W W' row hx.2.2.2 hg hr⟩⟩)
    ⟨rfl, HX3.out, HT3.out, HBW3.out⟩ ?a1 ?assign ?body ?done ?stop
  case assign =>
    intro l x W K hK
    gi_wp2_with fail
    exact hK
  case body =>
    rintro l pre ⟨x, hx4, hxs⟩ W ⟨rfl, hb, h2, hB⟩ hlen
    have r4 := hb.1
    have f4 := hb.2
    have l4 := hb.lt
    have HBX := Lib.hid hb
    have H2 := Lib.hid h2
    have HBW := Lib.hid hB
    clear hb h2 hB
    gi_wp2_with fail
    exact ⟨KeepsOthers.setCell _ _ _, rfl, x, ⟨⟨hx4, hxs⟩, rfl⟩, HBX.out.set _, H2.out.other (by omega) _ _, HBW.out.setCell (p := ⟨w.heap.size + 1, 0, none⟩) (by simp) _⟩
  case done =>
    rintro D ys W hD hys ⟨rfl, hb, h2, hB⟩ hK
    exact HT.out D n W (by rw [← HN.out]; exact next_nil hys.symm) hb h2 hB (by rw [← HC.out]; exact hD) hK
  case stop =>
    rintro D cd pre W hD hpre ⟨rfl, x, rfl, hb, h2, hB⟩ hK
    obtain ⟨l, hl⟩ := hpre
    have hT := HT.out D x.1 W (next_cons (l := l) hl.symm) hb h2 hB (by rw [← HC.out]; exact hD) hK
    refine wpIn_exit ?_
    simp only [Exit.inBlock, if_true]
    exact hT
end Go.Proofs.Ytfeibjokifidmaa.Z
