/- slots.Free of a living entity. -/
import Derived.Test.YtfeibjokifidmaaSlotsF
namespace Go.Proofs.Ytfeibjokifidmaa.Z
open Go.RowKit Go.Shelf Go.Proofs.Ytfeibjokifidmaa.M
variable {bz : Nat}

/-- What Free says of an entity that exists. -/
def Freed (p bz : Nat) (G : List Nat) (U F : Sets) (N g : Nat) (w : World) (e : Ending) (w' : World) : Prop :=
  e = .returned (.int .i64 0) ∧ SlotsAt w' p bz (G.set N (g + 1)) (jn subW U (one N)) (jn orW F (one N)) ∧ Turn p w w'

set_option maxRecDepth 8000 in
set_option maxHeartbeats 2000000 in
theorem free_ok (p : Nat) (G : List Nat) (U F : Sets) (w : World) (h : SlotsAt w p bz G U F) (hI : Inv G U F) (N g : Nat) (hN : N < 4096) (hU : has U N = true) (hg : G[N]?.getD 0 = g) (hlim : g + 1 < 1073741824) :
    Calls Try.prog 40 #[.pointer (some ⟨p, 0, none⟩), .agg #[.int .i64 N, .int .i64 g]] w (Freed p bz G U F N g w) := by
  have ha := alive_any p G U F (w.alloc (.cells #[.int .i64 N, .int .i64 g] 64)) (h.keep ((Below.refl _ _).alloc (Nat.le_refl _) _)) hI N g hN
  rw [hU, hg] at ha
  simp only [BEq.rfl, Bool.and_self] at ha
  have HA := Lib.hid ha
  have hNG := hI.u N hU
  obtain ⟨b, hb⟩ : ∃ b, w.heap.size = b := ⟨_, rfl⟩
  have e0 : (w.alloc (.cells #[.int .i64 N, .int .i64 g] 64)).cell? ⟨b, 0, none⟩ = some (.int .i64 (N : Int)) := by rw [← hb]; simp
  have e1 : (w.alloc (.cells #[.int .i64 N, .int .i64 g] 64)).cell? ⟨b, 1, none⟩ = some (.int .i64 (g : Int)) := by rw [← hb]; simp
  have hz1 : (w.alloc (.cells #[.int .i64 N, .int .i64 g] 64)).heap.size = b + 1 := by rw [← hb]; simp
  have hba : Below w.heap.size w (w.alloc (.cells #[.int .i64 N, .int .i64 g] 64)) := (Below.refl _ _).alloc (Nat.le_refl _) _
  have HBA := Lib.hid hba
  have HH := Lib.hid h
  have HB := Lib.hid hb
  have E0 := Lib.hid e0
  have E1 := Lib.hid e1
  have HZ1 := Lib.hid hz1
  clear ha h e0 e1 hz1 hba hb
  go_enter Try.func40, Try.ntmps40
  go_wp2_with fail
  with_reducible refine HA.out.mono ?_
  rintro e w1 ⟨rfl, hb1⟩
  rw [HZ1.out] at hb1
  have hS1 := HH.out.keep (HBA.out.trans (hb1.mono (by rw [HB.out]; omega)))
  have r0 := (hb1.cell (p := ⟨b, 0, none⟩) (by simp)).trans E0.out
  have r1 := (hb1.cell (p := ⟨b, 1, none⟩) (by simp)).trans E1.out
  have hbs := World.block_lt_of_cell? w1 _ r0
  rw [← HB.out] at r0 r1 hbs
  simp only at hbs
  obtain ⟨q, c, hc0, hpq, hqs, hqN, hqf⟩ := hS1.genAt hNG
  rw [hg] at hqN
  obtain ⟨n, hn⟩ : ∃ n, G.length = n := ⟨_, rfl⟩
  rw [hn] at hc0 hNG
  have HN := Lib.hid hn
  have hpw := hS1.sz
  have iN0 : (0 : Int) ≤ (N : Int) := Int.natCast_nonneg _
  have iN1 : (N : Int) < (n : Int) := by omega
  have HS1 := Lib.hid hS1
  have HB1 := Lib.hid hb1
  clear hS1 hb1 hn HA
  go_wp2_with fail
  refine region_late_np (S := fun w' => ∃ k m, w' = ext w1 k m) 10 1 [10] (by kernel_rfl) rfl (by kernel_rfl) (by kernel_rfl) (by kernel_rfl) ⟨[], w1.drawn + 1, (by rw [← ext_nil w1]; rfl)⟩ ?_
  simp only [List.take_succ_cons, List.take_zero]
  repeat (go_big_quiet_step (fail))
  refine wpQuiet_nil ?_
  refine late_one (i := 10) (by kernel_rfl) rfl rfl ?_
  go_simp
  refine ⟨by decide, ?_⟩
  refine ⟨(fun _ h => nomatch h), ?_⟩
  obtain ⟨hS2, hT2⟩ := HS1.out.setGen (N := N) (c := c) (by rw [HN.out]; exact hc0) (by rw [HN.out]; exact hNG) (g + 1)
  rw [show ((g + 1 : Nat) : Int) = (g : Int) + 1 by omega] at hS2 hT2
  have hbw : Below w.heap.size w w1 := HBA.out.trans (HB1.out.mono (by rw [HB.out]; omega))
  have hsz := HH.out.sz
  have hgq : gb w p = some q := by
    unfold gb
    rw [← hbw.cell (p := ⟨p, 0, none⟩) hsz, hc0]
    rfl
  have hqw := (HH.out.gb_gt hgq).2.2
  have hT2 : Turn p w ((w1.setCell ⟨q, N, none⟩ (.int .i64 ((g : Int) + 1))).drew) := ((Turn.of_below hbw hsz).trans hT2).trans (Turn.of_below (Below.refl _ _).drew hS2.sz)
  have hS2 := hS2.drew
  have c0 : ((w1.setCell ⟨q, N, none⟩ (.int .i64 ((g : Int) + 1))).drew).cell? ⟨w.heap.size, 0, none⟩ = some (.int .i64 (N : Int)) := by
    exact (World.cell?_setCell_other _ _ _ _ (fun e => by have := congrArg Addr.block e; simp at this; omega)).trans r0
  have HSZ := Lib.hid hsz
  clear hbw hsz hgq hqw
  generalize ((w1.setCell ⟨q, N, none⟩ (.int .i64 ((g : Int) + 1))).drew) = W2 at hS2 hT2 c0 ⊢
  have hbs2 := World.block_lt_of_cell? W2 _ c0
  simp only at hbs2
  obtain ⟨uv, hu, hsu⟩ := hS2.used
  obtain ⟨ad, nu, cu, rfl⟩ : ∃ ad n c, uv = .slice ad n c := by obtain ⟨l, ad, c, h1, _⟩ := hsu; exact ⟨ad, l.length, c, h1⟩
  have hpw2 := hS2.sz
  have HS2 := Lib.hid hS2
  have HT2 := Lib.hid hT2
  have HW := Lib.hid (without_any _ _ N W2.drew (hsu.keep (Below.refl _ _).drew) hN)
  have HNG := Lib.hid hNG
  clear hS2 hT2 hsu hqN hqf r0 r1 hqs hpq hNG
  go_wp2_with fail
  refine region_late_np (S := fun w' => ∃ k m, w' = ext W2 k m) 7 4 [8, 9, 10] (by kernel_rfl) rfl (by kernel_rfl) (by kernel_rfl) (by kernel_rfl) ⟨[], W2.drawn + 1, (by rw [← ext_nil W2]; rfl)⟩ ?_
  simp only [List.take_succ_cons, List.take_zero]
  repeat (go_big_quiet_step (fail))
  refine wpQuiet_nil ?_
  refine late_one (i := 7) (by kernel_rfl) rfl rfl ?_
  go_simp
  with_reducible refine HW.out.mono ?_
  rintro e w3 ⟨rv, rfl, hs3, hb3⟩
  obtain ⟨ad3, nu3, cu3, rfl⟩ : ∃ ad n c, rv = .slice ad n c := by obtain ⟨l, ad, c, h1, _⟩ := hs3; exact ⟨ad, l.length, c, h1⟩
  have hb3' : Below W2.heap.size W2 w3 := (Below.refl _ _).drew.trans hb3
  have hS3 := HS2.out.keep hb3'
  have hT3 := HT2.out.trans (Turn.of_below hb3' hpw2)
  have c3 := (hb3'.cell (p := ⟨w.heap.size, 0, none⟩) hbs2).trans c0
  obtain ⟨hS4, hT4⟩ := hS3.setUsed hs3
  have HT4 := Lib.hid (hT3.trans hT4)
  have HS4 := Lib.hid hS4
  have c4 : (w3.setCell ⟨p, 1, none⟩ (.slice ad3 nu3 cu3)).cell? ⟨w.heap.size, 0, none⟩ = some (.int .i64 (N : Int)) := by
    have := HSZ.out
    exact (World.cell?_setCell_other _ _ _ _ (fun e => by have := congrArg Addr.block e; simp at this; omega)).trans c3
  obtain ⟨uv3, hu3, _⟩ := hS3.used
  have hf3 := hS3.fz 1
  clear hT4 hS4 hT3 hS3
  refine ⟨ext_of hb3', ?_⟩
  refine late_one (i := 8) (by kernel_rfl) rfl rfl ?_
  go_simp
  refine late_one (i := 9) (by kernel_rfl) rfl rfl ?_
  go_simp
  refine late_one (i := 10) (by kernel_rfl) rfl rfl ?_
  go_simp
  refine ⟨by decide, (fun _ h => nomatch h), ?_⟩
  generalize (w3.setCell ⟨p, 1, none⟩ (.slice ad3 nu3 cu3)) = W4 at HT4 HS4 c4 ⊢
  clear HW HS2 HT2 HS1 HB1 E0 E1 HZ1 HBA hb3 hb3' hs3 c3 HH
  have hbs4 := World.block_lt_of_cell? W4 _ c4
  simp only at hbs4
  have hl4 : N < (G.set N (g + 1)).length := by rw [List.length_set, HN.out]; exact HNG.out
  obtain ⟨q4, cc4, hc4, hpq4, hqs4, hqN4, hqf4⟩ := HS4.out.genAt hl4
  rw [show (G.set N (g + 1))[N]?.getD 0 = g + 1 by rw [List.getElem?_set_self (by rw [HN.out]; exact HNG.out)]; rfl] at hqN4
  rw [List.length_set, HN.out] at hc4
  have hpw4 := HS4.out.sz
  clear hu3 hf3 hu hbs2 hc0 c0
  go_wp2_with fail
  refine region_grow (by kernel_rfl) (by kernel_rfl) ?_
  repeat (go_big_quiet_step (fail))
  refine wpQuiet_nil ?_
  intro _ hw'
  obtain ⟨kk, mm, rfl⟩ := hw'
  have hlt : decide ((g : Int) + 1 < 1073741824) = true := by rw [decide_eq_true_iff]; omega
  rw [hlt]
  have hb5 := below_ext W4 kk mm
  have hS5 := HS4.out.keep hb5
  have hT5 := HT4.out.trans (Turn.of_below hb5 hpw4)
  have c5 := (hb5.cell (p := ⟨w.heap.size, 0, none⟩) hbs4).trans c4
  generalize ext W4 kk mm = W5 at hS5 hT5 c5 ⊢
  have hbs5 := World.block_lt_of_cell? W5 _ c5
  simp only at hbs5
  obtain ⟨fv, hf, hsf⟩ := hS5.free
  obtain ⟨ad5, nu5, cu5, rfl⟩ : ∃ ad n c, fv = .slice ad n c := by obtain ⟨l, ad, c, h1, _⟩ := hsf; exact ⟨ad, l.length, c, h1⟩
  have hpw5 := hS5.sz
  have HS5 := Lib.hid hS5
  have HT5 := Lib.hid hT5
  have HW := Lib.hid (with_any _ _ N W5.drew (hsf.keep (Below.refl _ _).drew) hN)
  clear hS5 hT5 hsf hb5 c4 hbs4 HS4 HT4 hc4 hqN4 hqf4 hlt hlim hpw4
  go_wp2_with fail
  refine region_late_np (S := fun w' => ∃ k m, w' = ext W5 k m) 7 4 [8, 9, 10] (by kernel_rfl) rfl (by kernel_rfl) (by kernel_rfl) (by kernel_rfl) ⟨[], W5.drawn + 1, (by rw [← ext_nil W5]; rfl)⟩ ?_
  simp only [List.take_succ_cons, List.take_zero]
  repeat (go_big_quiet_step (fail))
  refine wpQuiet_nil ?_
  refine late_one (i := 7) (by kernel_rfl) rfl rfl ?_
  go_simp
  with_reducible refine HW.out.mono ?_
  rintro e w6 ⟨rv, rfl, hs6, hb6⟩
  obtain ⟨ad6, nu6, cu6, rfl⟩ : ∃ ad n c, rv = .slice ad n c := by obtain ⟨l, ad, c, h1, _⟩ := hs6; exact ⟨ad, l.length, c, h1⟩
  have hb6' : Below W5.heap.size W5 w6 := (Below.refl _ _).drew.trans hb6
  have hS6 := HS5.out.keep hb6'
  have hT6 := HT5.out.trans (Turn.of_below hb6' hpw5)
  obtain ⟨hS7, hT7⟩ := hS6.setFree hs6
  have HT7 := Lib.hid (hT6.trans hT7)
  have HS7 := Lib.hid hS7
  obtain ⟨uv3, hu3, _⟩ := hS6.free
  have hf3 := hS6.fz 2
  clear hT7 hS7 hT6 hS6 hb6 hs6 HS5 HT5 HW
  refine ⟨ext_of hb6', ?_⟩
  refine late_one (i := 8) (by kernel_rfl) rfl rfl ?_
  go_simp
  refine late_one (i := 9) (by kernel_rfl) rfl rfl ?_
  go_simp
  refine late_one (i := 10) (by kernel_rfl) rfl rfl ?_
  go_simp
  refine ⟨by decide, (fun _ h => nomatch h), ?_⟩
  go_wp2_with fail
  go_ret
  exact ⟨rfl, HS7.out, HT7.out⟩
end Go.Proofs.Ytfeibjokifidmaa.Z
