/- tourref5.In. -/
import Derived.Test.YtaiflkjchbpphaaPs
import Derived.Test.YtaiflkjchbpphaaPk
import Derived.Test.YtaiflkjchbpphaaFA
import Derived.Deep.DeepCutAuto
import Derived.Deep.RegionHeld3
import Derived.Deep.DrawnRows
namespace Go.Proofs.Ytaiflkjchbpphaa.P
open Go.RowKit

/-- What In answers: some point no farther out than the corners. -/
def Inned (P : Pt) (w : World) (e : Ending) (w' : World) : Prop := e = .returned (vec P) ∧ Below w.heap.size w w'
def inPt (X Y : Nat → Int) (z : Nat → Nat) (K : Nat → Nat → Nat) (nc : Nat) (a b : Int) : Pt :=
  ((2 * X (K (a % (nc : Int)).toNat (b % (z (a % (nc : Int)).toNat : Int)).toNat) + X (K (a % (nc : Int)).toNat (b.tdiv 7 % (z (a % (nc : Int)).toNat : Int)).toNat) + X (K (a % (nc : Int)).toNat (b.tdiv 49 % (z (a % (nc : Int)).toNat : Int)).toNat)).tdiv 4,
   (2 * Y (K (a % (nc : Int)).toNat (b % (z (a % (nc : Int)).toNat : Int)).toNat) + Y (K (a % (nc : Int)).toNat (b.tdiv 7 % (z (a % (nc : Int)).toNat : Int)).toNat) + Y (K (a % (nc : Int)).toNat (b.tdiv 49 % (z (a % (nc : Int)).toNat : Int)).toNat)).tdiv 4)
theorem tdiv4 {x1 x2 x3 M : Int} (h1 : -M ≤ x1 ∧ x1 ≤ M) (h2 : -M ≤ x2 ∧ x2 ≤ M) (h3 : -M ≤ x3 ∧ x3 ≤ M) : -M ≤ (2 * x1 + x2 + x3).tdiv 4 ∧ (2 * x1 + x2 + x3).tdiv 4 ≤ M := by
  have k1 := Int.mul_tdiv_add_tmod (2 * x1 + x2 + x3) 4
  have k2 := Int.tmod_lt_of_pos (2 * x1 + x2 + x3) (show (0 : Int) < 4 by omega)
  have k3 := Int.lt_tmod_of_pos (2 * x1 + x2 + x3) (show (0 : Int) < 4 by omega)
  omega
theorem inPt_in {X Y : Nat → Int} {z : Nat → Nat} {K : Nat → Nat → Nat} {np nc : Nat} {M : Int} (hnc : 1 ≤ nc) (hz : ∀ i, i < nc → 3 ≤ z i ∧ z i ≤ 4) (hlt : ∀ i j, i < nc → j < z i → K i j < np) (hX : ∀ k, k < np → (-M ≤ X k ∧ X k ≤ M) ∧ (-M ≤ Y k ∧ Y k ≤ M)) (a b : Int) :
    (-M ≤ (inPt X Y z K nc a b).1 ∧ (inPt X Y z K nc a b).1 ≤ M) ∧ (-M ≤ (inPt X Y z K nc a b).2 ∧ (inPt X Y z K nc a b).2 ≤ M) := by
  have c0 := Int.emod_nonneg a (show (nc : Int) ≠ 0 by omega)
  have c1 := Int.emod_lt_of_pos a (show (0 : Int) < nc by omega)
  unfold inPt
  generalize hc : (a % (nc : Int)).toNat = c
  have hcn : c < nc := by omega
  have hz3 := hz c hcn
  have key : ∀ d : Int, K c (d % (z c : Int)).toNat < np := fun d => by
    have d0 := Int.emod_nonneg d (show (z c : Int) ≠ 0 by omega)
    have d1 := Int.emod_lt_of_pos d (show (0 : Int) < z c by omega)
    exact hlt c _ hcn (by omega)
  have l1 := hX _ (key b)
  have l2 := hX _ (key (b.tdiv 7))
  have l3 := hX _ (key (b.tdiv 49))
  exact ⟨tdiv4 l1.1 l2.1 l3.1, tdiv4 l1.2 l2.2 l3.2⟩

/-- Three blocks for points, in slots 8, 9 and 10: made by the operations 23, 24 and 25, written by the operations 26, 27 and 28. -/
def Three (B : Nat) (Pv : Nat → Pt) (listed : Array Bool) (f : Nat → Value) (w : World) : Prop :=
  (∀ t, (8 ≤ t ∧ t ≤ 10) → listed.getD (t + 15) false = true → ∃ g, f t = .pointer (some ⟨g, 0, none⟩) ∧ B ≤ g ∧ At w g (if listed.getD (t + 18) false = true then Pv t else (0, 0))) ∧
  (∀ t u, (8 ≤ t ∧ t ≤ 10) → (8 ≤ u ∧ u ≤ 10) → t ≠ u → listed.getD (t + 15) false = true → listed.getD (u + 15) false = true → f t ≠ f u)
theorem setB (listed : Array Bool) (i j : Nat) (hi : i < listed.size) : (listed.setIfInBounds i true).getD j false = if j = i then true else listed.getD j false := by
  by_cases e : j = i
  · subst e; simp [hi]
  · rw [getD_set_ne false (Ne.symm e), if_neg e]
theorem Three.on {B : Nat} {Pv : Nat → Pt} {listed : Array Bool} {f : Nat → Value} {w w' : World} (h : Three B Pv listed f w) (hb : Below w.heap.size w w') : Three B Pv listed f w' :=
  ⟨fun t ht hl => by obtain ⟨g, h1, h2, h3⟩ := h.1 t ht hl; exact ⟨g, h1, h2, h3.on hb⟩, h.2⟩
theorem Three.mark {B : Nat} {Pv : Nat → Pt} {listed : Array Bool} {f : Nat → Value} {w : World} (h : Three B Pv listed f w) (i : Nat) (hi : i < 23) : Three B Pv (listed.setIfInBounds i true) f w := by
  have e : ∀ j, 23 ≤ j → (listed.setIfInBounds i true).getD j false = listed.getD j false := fun j hj => getD_set_ne false (by omega)
  exact ⟨fun t ht hl => by rw [e _ (by omega)] at hl; rw [e _ (by omega)]; exact h.1 t ht hl, fun t u ht hu htu h1 h2 => by rw [e _ (by omega)] at h1 h2; exact h.2 t u ht hu htu h1 h2⟩
theorem Three.made {B : Nat} {Pv : Nat → Pt} {listed : Array Bool} {f : Nat → Value} {w : World} (h : Three B Pv listed f w) (hB : B ≤ w.heap.size) (d : Nat) (hd : 8 ≤ d ∧ d ≤ 10) (hs : d + 15 < listed.size) (hn : listed.getD (d + 18) false = false) :
    Three B Pv (listed.setIfInBounds (d + 15) true) (fun t => if t = d then .pointer (some ⟨w.heap.size, 0, none⟩) else f t) (w.alloc (.cells #[.int .i64 0, .int .i64 0] 24)) := by
  have hb : Below w.heap.size w (w.alloc (.cells #[.int .i64 0, .int .i64 0] 24)) := Below.al (Below.refl _ _) _
  have hnew : ∀ t, (8 ≤ t ∧ t ≤ 10) → listed.getD (t + 15) false = true → f t ≠ .pointer (some ⟨w.heap.size, 0, none⟩) := fun t ht hl e => by
    obtain ⟨g, h1, _, h3⟩ := h.1 t ht hl
    rw [h1] at e
    injection e with e
    injection e with e
    injection e with e
    have := h3.lt
    omega
  have s15 : ∀ t, t ≠ d → (listed.setIfInBounds (d + 15) true).getD (t + 15) false = listed.getD (t + 15) false := fun t ht => by
    rw [setB _ _ _ hs, if_neg (show ¬ t + 15 = d + 15 by omega)]
  have s18 : ∀ t, (8 ≤ t ∧ t ≤ 10) → (listed.setIfInBounds (d + 15) true).getD (t + 18) false = listed.getD (t + 18) false := fun t ht => by
    rw [setB _ _ _ hs, if_neg (show ¬ t + 18 = d + 15 by omega)]
  refine ⟨fun t ht hl => ?_, fun t u ht hu htu h1 h2 => ?_⟩
  · rw [s18 t ht]
    by_cases e : t = d
    · subst e
      refine ⟨w.heap.size, by simp, hB, ?_⟩
      rw [hn]
      refine ⟨?_, ?_, ?_, ?_, by simp⟩ <;> simp [go_sem]
    · rw [s15 t e] at hl
      obtain ⟨g, h1, h2, h3⟩ := h.1 t ht hl
      exact ⟨g, by simp only [if_neg e]; exact h1, h2, h3.on hb⟩
  · by_cases e1 : t = d
    · have e2 : u ≠ d := fun e => htu (e1.trans e.symm)
      rw [s15 u e2] at h2
      simp only [if_pos e1, if_neg e2]
      exact fun e => hnew u hu h2 e.symm
    · rw [s15 t e1] at h1
      by_cases e2 : u = d
      · simp only [if_neg e1, if_pos e2]
        exact hnew t ht h1
      · rw [s15 u e2] at h2
        simp only [if_neg e1, if_neg e2]
        exact h.2 t u ht hu htu h1 h2
theorem Three.stored {B : Nat} {Pv : Nat → Pt} {listed : Array Bool} {f : Nat → Value} {w : World} (h : Three B Pv listed f w) (d g : Nat) (hd : 8 ≤ d ∧ d ≤ 10) (hs : d + 18 < listed.size) (hl : listed.getD (d + 15) false = true) (hf : f d = .pointer (some ⟨g, 0, none⟩)) (P : Pt) (hP : Pv d = P) :
    Three B Pv (listed.setIfInBounds (d + 18) true) f ((w.setCell ⟨g, 0, none⟩ (.int .i64 P.1)).setCell ⟨g, 1, none⟩ (.int .i64 P.2)) := by
  have s15 : ∀ t, (8 ≤ t ∧ t ≤ 10) → (listed.setIfInBounds (d + 18) true).getD (t + 15) false = listed.getD (t + 15) false := fun t ht => by
    rw [setB _ _ _ hs, if_neg (show ¬ t + 15 = d + 18 by omega)]
  refine ⟨fun t ht ht1 => ?_, fun t u ht hu htu h1 h2 => ?_⟩
  · rw [s15 t ht] at ht1
    obtain ⟨g', e1, e2, e3⟩ := h.1 t ht ht1
    rw [setB _ _ _ hs]
    by_cases e : t = d
    · subst e
      rw [hf] at e1
      injection e1 with e1
      injection e1 with e1
      injection e1 with e1
      subst e1
      rw [if_pos rfl, if_pos rfl, hP]
      exact ⟨g, hf, e2, e3.put P⟩
    · rw [if_neg (show ¬ t + 18 = d + 18 by omega)]
      have hne : g' ≠ g := fun x => h.2 t d ht hd e ht1 hl (by rw [e1, hf, x])
      exact ⟨g', e1, e2, (e3.other hne 0 _).other hne 1 _⟩
  · rw [s15 t ht] at h1
    rw [s15 u hu] at h2
    exact h.2 t u ht hu htu h1 h2
theorem run_new24 {ρ : Operand → Value} {W : World} {d : Option Tmp} {ty : TypeId} {ps : String} {af : Array Edge} {g : Option (Nat × Bool)} {R : Value → World → Prop} (hR : R (.pointer (some ⟨W.heap.size, 0, none⟩)) (W.alloc (.cells #[.int .i64 0, .int .i64 0] 24))) :
    F.flowUpon Try.prog R ((execOp ρ { dst := d, op := .alloc 24, type := ty, pos := ps, after := af, guard := g }).run Try.prog W) := by
  simp [execOp, go_sem]
  exact hR

theorem run_put24 {ρ : Operand → Value} {W : World} {d : Option Tmp} {ty : TypeId} {ps : String} {af : Array Edge} {gd : Option (Nat × Bool)} {R : Value → World → Prop} {s v g : Nat} {P Q : Pt} (h1 : ρ (.tmp s) = .pointer (some ⟨g, 0, none⟩)) (h2 : ρ (.tmp v) = vec P) (hA : At W g Q) (hR : ∀ u, R u ((W.setCell ⟨g, 0, none⟩ (.int .i64 P.1)).setCell ⟨g, 1, none⟩ (.int .i64 P.2))) :
    F.flowUpon Try.prog R ((execOp ρ { dst := d, op := .store 24 (.tmp s) (.tmp v), type := ty, pos := ps, after := af, guard := gd }).run Try.prog W) := by
  have c0 := hA.c0
  have c1 := hA.c1
  have f0 := hA.f0
  have f1 := hA.f1
  have hl := hA.lt
  simp [execOp, h1, h2, go_sem, c0, c1, f0, f1]
  exact hR _

set_option maxRecDepth 8000 in
set_option maxHeartbeats 8000000 in
theorem in_any (pp np pcap cc nc ccap : Nat) (X Y : Nat → Int) (z qc q : Nat → Nat) (K : Nat → Nat → Nat) (M a b : Int) (w : World) (h : Msh pp np cc nc X Y z qc q K w) (hnc1 : 1 ≤ nc) (hnc : nc ≤ 100) (hM0 : 0 ≤ M) (hM : M ≤ 65536000) (hX : ∀ k, k < np → (-M ≤ X k ∧ X k ≤ M) ∧ (-M ≤ Y k ∧ Y k ≤ M))
    (ha : -9223372036854775808 ≤ a ∧ a ≤ 9223372036854775807) (hb : -9223372036854775808 ≤ b ∧ b ≤ 9223372036854775807) :
    Calls Try.prog 7 #[.agg #[.slice (some ⟨pp, 0, none⟩) np pcap, .slice (some ⟨cc, 0, none⟩) nc ccap], .int .i64 a, .int .i64 b] w (Inned (inPt X Y z K nc a b) w) := by
  have HM := Lib.hid h
  have HX := Lib.hid hX
  have HA := Lib.hid ha
  have HB := Lib.hid hb
  have hcell := Lib.hid fun w' (hb : Below w.heap.size w w') i (hi : i < nc) => cellOf_any pp np pcap cc nc ccap i X Y z qc q K w' (h.on hb) hi
  clear h hX ha hb
  have nc0 : ((nc : Int) == 0) = false := by simp; omega
  have nc1 : ¬ nc = 0 := by omega
  go_enter Try.func7, Try.ntmps7
  go_upto_region 3 with fail
  obtain ⟨o, ho⟩ : ∃ o, w.heap.size = o := ⟨_, rfl⟩
  obtain ⟨o1, ho1⟩ : ∃ o1, o + 1 = o1 := ⟨_, rfl⟩
  obtain ⟨V, hV⟩ : ∃ V, (w.alloc (Obj.cells #[.slice (some ⟨pp, 0, none⟩) np pcap, .slice (some ⟨cc, 0, none⟩) nc ccap] 28)).alloc (Obj.cells #[Value.int IntKind.i64 0, Value.int IntKind.i64 0] 24) = V := ⟨_, rfl⟩
  have hVb := Lib.hid (show Below w.heap.size w V from hV ▸ Below.al (Below.al (Below.refl _ _) _) _)
  have HV : Hid (V.cell? ⟨o, 0, none⟩ = some (.slice (some ⟨pp, 0, none⟩) np pcap) ∧ V.cell? ⟨o, 1, none⟩ = some (.slice (some ⟨cc, 0, none⟩) nc ccap) ∧ At V o1 (0, 0) ∧ o1 + 1 = V.heap.size) := by
    rw [← hV, ← ho1, ← ho]
    refine ⟨?_, ?_, ⟨?_, ?_, ?_, ?_, ?_⟩, ?_⟩ <;> simp [go_sem]
  try rw [hV]
  try simp only [ho]
  try simp only [ho1]
  clear hV
  -- the cell's number
  obtain ⟨c, hc⟩ : ∃ c : Nat, a % (nc : Int) = (c : Int) := ⟨(a % (nc : Int)).toNat, by have := Int.emod_nonneg a (show (nc : Int) ≠ 0 by omega); omega⟩
  have hcn : c < nc := by have := Int.emod_lt_of_pos a (show (0 : Int) < nc by omega); omega
  have hbl := fun W => below_any a (nc : Int) W (by omega) (by omega) HA.out.1 HA.out.2
  simp only [hc] at hbl
  have HHC := Lib.hid hc
  clear hc
  have r0 := HM.out.row c hcn
  obtain ⟨v0, v1, vr, vs⟩ := HV.out
  have rc := (hVb.out.cell (p := ⟨cc, c, none⟩) HM.out.cl).trans r0
  have hccV : cc < V.heap.size := Nat.lt_of_lt_of_le HM.out.cl hVb.out.size
  have hoV : o < V.heap.size := by omega
  have hz3 := HM.out.z3 c hcn
  have HC3 := Lib.hid fun (W : World) (h : Below V.heap.size V W) => (show W.cell? ⟨o, 0, none⟩ = some (.slice (some ⟨pp, 0, none⟩) np pcap) ∧ W.cell? ⟨o, 1, none⟩ = some (.slice (some ⟨cc, 0, none⟩) nc ccap) ∧ W.cell? ⟨cc, c, none⟩ = some (.slice (some ⟨q c, 0, none⟩) (z c) (qc c)) from ⟨(h.cell (p := ⟨o, 0, none⟩) hoV).trans v0, (h.cell (p := ⟨o, 1, none⟩) hoV).trans v1, (h.cell (p := ⟨cc, c, none⟩) hccV).trans rc⟩)
  have hcn' : (c : Int) < (nc : Int) := by omega
  have hVd := Lib.hid hVb.out.drew
  go_cut [7] (fun v7 wx => ∃ g cap : Nat, v7 = .slice (some ⟨g, 0, none⟩) (z c) cap ∧ Pts wx g (z c) (fun j => X (K c j)) (fun j => Y (K c j)) ∧ g < wx.heap.size ∧ Below V.heap.size V wx)
  case first =>
    go_region_held3 (fun w' => w'.cell? ⟨o, 0, none⟩ = some (.slice (some ⟨pp, 0, none⟩) np pcap) ∧ w'.cell? ⟨o, 1, none⟩ = some (.slice (some ⟨cc, 0, none⟩) nc ccap) ∧ w'.cell? ⟨cc, c, none⟩ = some (.slice (some ⟨q c, 0, none⟩) (z c) (qc c))) (go_keep)
      ((first
        | (go_at_call 16; refine (hbl _).mono ?_; rintro e w1 ⟨rfl, rfl⟩)
        | (go_at_call 21; refine (hcell.out _ ?_ c hcn).mono ?_; exact hVd.out; rintro e w1 ⟨⟨g, cap, rfl, hp, hg1, hg2⟩, hb⟩; have hb1 : Below V.heap.size V w1 := (Below.refl V.heap.size V).drew.trans hb; obtain ⟨k0, k1, k2⟩ := HC3.out _ hb1)))
    all_goals go_wp2_with fail
    all_goals go_meet
    all_goals exact ⟨g, cap, rfl, hp, hg2, hb1⟩
  case rest =>
    obtain ⟨g, cap, rfl, hp, hg2, hb1⟩ := hcut
    obtain ⟨m, hm⟩ : ∃ m, z c = m := ⟨_, rfl⟩
    rw [hm] at hp hz3
    simp only [hm]
    obtain ⟨hm3, hm4⟩ := hz3
    obtain ⟨d7, hd7⟩ : ∃ d, b.tdiv 7 = d := ⟨_, rfl⟩
    obtain ⟨d49, hd49⟩ : ∃ d, b.tdiv 49 = d := ⟨_, rfl⟩
    have hb64 := HB.out
    have b7 : -9223372036854775808 ≤ d7 ∧ d7 ≤ 9223372036854775807 := by
      rw [← hd7]; have h1 := Int.mul_tdiv_add_tmod b 7; have h2 := Int.tmod_lt_of_pos b (show (0 : Int) < 7 by omega); have h3 := Int.lt_tmod_of_pos b (show (0 : Int) < 7 by omega); omega
    have b49 : -9223372036854775808 ≤ d49 ∧ d49 ≤ 9223372036854775807 := by
      rw [← hd49]; have h1 := Int.mul_tdiv_add_tmod b 49; have h2 := Int.tmod_lt_of_pos b (show (0 : Int) < 49 by omega); have h3 := Int.lt_tmod_of_pos b (show (0 : Int) < 49 by omega); omega
    have hw7 : IntKind.i64.wrap d7 = d7 := IntWalk.i64_in _ (by omega)
    have hw49 : IntKind.i64.wrap d49 = d49 := IntWalk.i64_in _ (by omega)
    have hmp : (m : Int) ≠ 0 := by omega
    have hmp2 : (0 : Int) < m := by omega
    obtain ⟨r1, hr1⟩ : ∃ c : Nat, b % (m : Int) = (c : Int) := ⟨(b % (m : Int)).toNat, by have := Int.emod_nonneg b hmp; omega⟩
    obtain ⟨r2, hr2⟩ : ∃ c : Nat, d7 % (m : Int) = (c : Int) := ⟨(d7 % (m : Int)).toNat, by have := Int.emod_nonneg d7 hmp; omega⟩
    obtain ⟨r3, hr3⟩ : ∃ c : Nat, d49 % (m : Int) = (c : Int) := ⟨(d49 % (m : Int)).toNat, by have := Int.emod_nonneg d49 hmp; omega⟩
    have q1 : r1 < m := by have := Int.emod_lt_of_pos b hmp2; omega
    have q2 : r2 < m := by have := Int.emod_lt_of_pos d7 hmp2; omega
    have q3 : r3 < m := by have := Int.emod_lt_of_pos d49 hmp2; omega
    have s1 : (r1 : Int) < m := by omega
    have s2 : (r2 : Int) < m := by omega
    have s3 : (r3 : Int) < m := by omega
    have hc1 := fun W => below_any b (m : Int) W (by omega) (by omega) hb64.1 hb64.2
    have hc2 := fun W => below_any d7 (m : Int) W (by omega) (by omega) b7.1 b7.2
    have hc3 := fun W => below_any d49 (m : Int) W (by omega) (by omega) b49.1 b49.2
    simp only [hr1] at hc1
    simp only [hr2] at hc2
    simp only [hr3] at hc3
    obtain ⟨e1, f1⟩ := hp r1 q1
    obtain ⟨e2, f2⟩ := hp r2 q2
    obtain ⟨e3, f3⟩ := hp r3 q3
    have l1 := HX.out (K c r1) (HM.out.lt c r1 hcn (by rw [hm]; exact q1))
    have l2 := HX.out (K c r2) (HM.out.lt c r2 hcn (by rw [hm]; exact q2))
    have l3 := HX.out (K c r3) (HM.out.lt c r3 hcn (by rw [hm]; exact q3))
    obtain ⟨x1, hx1⟩ : ∃ x, X (K c r1) = x := ⟨_, rfl⟩
    obtain ⟨y1, hy1⟩ : ∃ x, Y (K c r1) = x := ⟨_, rfl⟩
    obtain ⟨x2, hx2⟩ : ∃ x, X (K c r2) = x := ⟨_, rfl⟩
    obtain ⟨y2, hy2⟩ : ∃ x, Y (K c r2) = x := ⟨_, rfl⟩
    obtain ⟨x3, hx3⟩ : ∃ x, X (K c r3) = x := ⟨_, rfl⟩
    obtain ⟨y3, hy3⟩ : ∃ x, Y (K c r3) = x := ⟨_, rfl⟩
    simp only [hx1, hy1] at e1 f1 l1
    simp only [hx2, hy2] at e2 f2 l2
    simp only [hx3, hy3] at e3 f3 l3
    have HWC := Lib.hid (hVb.out.trans (hb1.mono hVb.out.size))
    have HRS : Hid (At wc o1 (0, 0)) := vr.on hb1
    have hoc : o1 < wc.heap.size := HRS.out.lt
    have LL := Lib.hid (And.intro l1 (And.intro l2 l3))
    have HP : Hid (inPt X Y z K nc a b = ((2 * x1 + x2 + x3).tdiv 4, (2 * y1 + y2 + y3).tdiv 4)) := by
      show inPt X Y z K nc a b = _
      unfold inPt
      simp only [HHC.out, Int.toNat_natCast, hm, hd7, hd49, hr1, hr2, hr3, hx1, hx2, hx3, hy1, hy2, hy3]
    clear hx1 hy1 hx2 hy2 hx3 hy3 hr1 hr2 hr3 hp hb1 hm vr vs v0 v1 rc r0 hbl HC3 hmp2 l1 l2 l3
    have HC6 := Lib.hid fun (W : World) (h : Below wc.heap.size wc W) => (show W.cell? ⟨g, r1 * 2, none⟩ = some (.int .i64 x1) ∧ W.cell? ⟨g, r1 * 2 + 1, none⟩ = some (.int .i64 y1) ∧ W.cell? ⟨g, r2 * 2, none⟩ = some (.int .i64 x2) ∧ W.cell? ⟨g, r2 * 2 + 1, none⟩ = some (.int .i64 y2) ∧ W.cell? ⟨g, r3 * 2, none⟩ = some (.int .i64 x3) ∧ W.cell? ⟨g, r3 * 2 + 1, none⟩ = some (.int .i64 y3) from ⟨(h.cell (p := ⟨g, r1 * 2, none⟩) hg2).trans e1, (h.cell (p := ⟨g, r1 * 2 + 1, none⟩) hg2).trans f1, (h.cell (p := ⟨g, r2 * 2, none⟩) hg2).trans e2, (h.cell (p := ⟨g, r2 * 2 + 1, none⟩) hg2).trans f2, (h.cell (p := ⟨g, r3 * 2, none⟩) hg2).trans e3, (h.cell (p := ⟨g, r3 * 2 + 1, none⟩) hg2).trans f3⟩)
    go_upto_region 4 with fail
    have HK3 := fun x y z => HC6.out ((((wc.alloc x).alloc y).alloc z).drew) (by repeat (first | exact Below.refl _ _ | apply Below.drew | apply Below.al))
    go_cut [8, 9, 10] (fun v8 v9 v10 wx => ∃ g1 g2 g3 : Nat, v8 = .pointer (some ⟨g1, 0, none⟩) ∧ v9 = .pointer (some ⟨g2, 0, none⟩) ∧ v10 = .pointer (some ⟨g3, 0, none⟩) ∧ At wx g1 (x1, y1) ∧ At wx g2 (x2, y2) ∧ At wx g3 (x3, y3) ∧ Below wc.heap.size wc wx)
    case first =>
      have hd1 := fun W => (hc1 W).mono (fun e w' (h : e = _ ∧ W = w') => (⟨h.1, h.2 ▸ Below.refl _ _⟩ : e = _ ∧ Below W.heap.size W w'))
      have hd2 := fun W => (hc2 W).mono (fun e w' (h : e = _ ∧ W = w') => (⟨h.1, h.2 ▸ Below.refl _ _⟩ : e = _ ∧ Below W.heap.size W w'))
      have hd3 := fun W => (hc3 W).mono (fun e w' (h : e = _ ∧ W = w') => (⟨h.1, h.2 ▸ Below.refl _ _⟩ : e = _ ∧ Below W.heap.size W w'))
      apply F.region_flow2 26 [8, 9, 10] [23, 24, 25] (fun _ => undef) _ (Three wc.heap.size (fun t => if t = 8 then (x1, y1) else if t = 9 then (x2, y2) else (x3, y3)))
      case hm => kernel_rfl
      case hB => kernel_rfl
      case hw' =>
        intro k
        simp (decide := true) only [List.take_succ_cons, List.take_zero, F.maskFrom, if_true, if_false]
        repeat (go_big_quiet_step ((first | (intro _; go_at_call 16; with_reducible exact F.grow_of2 (hd1 _)) | (intro _; go_at_call 16; with_reducible exact F.grow_of2 (hd2 _)) | (intro _; go_at_call 16; with_reducible exact F.grow_of2 (hd3 _)))))
        exact wpQuiet_nil rfl
      case hJ0 => exact fun f w => ⟨fun t ht hl => (by rw [getD_replicate_false] at hl; cases hl), fun t u ht hu htu hl => (by rw [getD_replicate_false] at hl; cases hl)⟩
      case hJq =>
        intro i listed f W k n' hi hni h
        refine (h.mark i ?_).on (below_ext _ _ _)
        simp only [List.mem_cons, List.not_mem_nil, or_false] at hni
        omega
      case hJf =>
        intro listed f f' W hff h
        have e : ∀ t, (8 ≤ t ∧ t ≤ 10) → f t = f' t := fun t ht => hff t (by
          simp only [List.mem_cons, List.not_mem_nil, or_false]; omega)
        exact ⟨fun t ht hl => by rw [← e t ht]; exact h.1 t ht hl, fun t u ht hu htu h1 h2 => by rw [← e t ht, ← e u hu]; exact h.2 t u ht hu htu h1 h2⟩
      case hph =>
        intro i hi hin o' d ho hd listed f k m' hsz hun hcl hJ ρ
        simp only [List.mem_cons, List.not_mem_nil, or_false] at hi
        rcases hi with rfl | rfl | rfl
        all_goals
          obtain rfl := Option.some.inj (show some _ = some o' from ho)
          obtain rfl := Option.some.inj (show some _ = some d from hd)
          refine run_new24 ⟨hJ.made (by rw [size_ext]; omega) _ (by omega) (by rw [hsz]; decide) ?_, ?_⟩
        · cases hh : listed.getD 26 false with
          | false => rfl
          | true => have := hcl 26 hh 23 (by kernel_rfl); rw [this] at hun; cases hun
        · obtain ⟨k', m', e⟩ := ext_of (Below.al (below_ext wc k m') (.cells #[.int .i64 0, .int .i64 0] 24))
          exact ⟨k', m', e⟩
        · cases hh : listed.getD 27 false with
          | false => rfl
          | true => have := hcl 27 hh 24 (by kernel_rfl); rw [this] at hun; cases hun
        · obtain ⟨k', m', e⟩ := ext_of (Below.al (below_ext wc k m') (.cells #[.int .i64 0, .int .i64 0] 24))
          exact ⟨k', m', e⟩
        · cases hh : listed.getD 28 false with
          | false => rfl
          | true => have := hcl 28 hh 25 (by kernel_rfl); rw [this] at hun; cases hun
        · obtain ⟨k', m', e⟩ := ext_of (Below.al (below_ext wc k m') (.cells #[.int .i64 0, .int .i64 0] 24))
          exact ⟨k', m', e⟩
      case hst =>
        intro i hi hin o' ho listed f k m' hsz hun hwf hJ
        obtain rfl | rfl | rfl : i = 26 ∨ i = 27 ∨ i = 28 := by simp at hin; omega
        · obtain rfl := Option.some.inj (show some _ = some o' from ho)
          have hl := hwf 23 (by kernel_rfl)
          obtain ⟨g', e1, e2, e3⟩ := hJ.1 8 (by omega) hl
          refine run_put24 (P := (x1, y1)) ((show _ = f 8 from rfl).trans e1) rfl e3 (fun u => ⟨hJ.stored 8 g' (by omega) (by rw [hsz]; decide) hl e1 (x1, y1) rfl, ?_⟩)
          obtain ⟨k', m', e⟩ := ext_of (((below_ext wc k m').setCell (p := ⟨g', 0, none⟩) e2 (.int .i64 x1)).setCell (p := ⟨g', 1, none⟩) e2 (.int .i64 y1))
          exact ⟨k', m', e⟩
        · obtain rfl := Option.some.inj (show some _ = some o' from ho)
          have hl := hwf 24 (by kernel_rfl)
          obtain ⟨g', e1, e2, e3⟩ := hJ.1 9 (by omega) hl
          refine run_put24 (P := (x2, y2)) ((show _ = f 9 from rfl).trans e1) rfl e3 (fun u => ⟨hJ.stored 9 g' (by omega) (by rw [hsz]; decide) hl e1 (x2, y2) rfl, ?_⟩)
          obtain ⟨k', m', e⟩ := ext_of (((below_ext wc k m').setCell (p := ⟨g', 0, none⟩) e2 (.int .i64 x2)).setCell (p := ⟨g', 1, none⟩) e2 (.int .i64 y2))
          exact ⟨k', m', e⟩
        · obtain rfl := Option.some.inj (show some _ = some o' from ho)
          have hl := hwf 25 (by kernel_rfl)
          obtain ⟨g', e1, e2, e3⟩ := hJ.1 10 (by omega) hl
          refine run_put24 (P := (x3, y3)) ((show _ = f 10 from rfl).trans e1) rfl e3 (fun u => ⟨hJ.stored 10 g' (by omega) (by rw [hsz]; decide) hl e1 (x3, y3) rfl, ?_⟩)
          obtain ⟨k', m', e⟩ := ext_of (((below_ext wc k m').setCell (p := ⟨g', 0, none⟩) e2 (.int .i64 x3)).setCell (p := ⟨g', 1, none⟩) e2 (.int .i64 y3))
          exact ⟨k', m', e⟩
      case hend =>
        intro listed f k m' hall hJ
        obtain ⟨g1, e1, _, a1⟩ := hJ.1 8 (by omega) (hall 23 (by decide))
        obtain ⟨g2, e2, _, a2⟩ := hJ.1 9 (by omega) (hall 24 (by decide))
        obtain ⟨g3, e3, _, a3⟩ := hJ.1 10 (by omega) (hall 25 (by decide))
        rw [if_pos (hall 26 (by decide))] at a1
        rw [if_pos (hall 27 (by decide))] at a2
        rw [if_pos (hall 28 (by decide))] at a3
        have HF := Lib.hid (And.intro a1 (And.intro a2 a3))
        simp (decide := true) only [F.ghosted, List.foldl_cons, List.foldl_nil, e1, e2, e3]
        clear hJ hall a1 a2 a3 e1 e2 e3
        go_wp2_with fail
        go_meet
        exact ⟨g1, g2, g3, rfl, rfl, rfl, HF.out.1, HF.out.2.1, HF.out.2.2, below_ext _ _ _⟩
    case rest =>
      obtain ⟨g1, g2, g3, rfl, rfl, rfl, ha1, ha2, ha3, hb1⟩ := hcut
      have hr := HRS.out.on hb1
      have HW2 := Lib.hid (HWC.out.trans (hb1.mono HWC.out.size))
      have HRR := Lib.hid hr
      have u0 := ha1.c0
      have u1 := ha1.c1
      have u2 := ha2.c0
      have u3 := ha2.c1
      have u4 := ha3.c0
      have u5 := ha3.c1
      have w0 := ha1.lt
      have w1 := ha2.lt
      have w2 := ha3.lt
      have r0 := hr.c0
      have r1 := hr.c1
      have r2 := hr.f0
      have r3 := hr.f1
      have r4 := hr.lt
      obtain ⟨⟨lx1, ly1⟩, ⟨lx2, ly2⟩, ⟨lx3, ly3⟩⟩ := LL.out
      simp only at u0 u1 u2 u3 u4 u5
      obtain ⟨sx, hsx⟩ : ∃ s, (2 * x1 + x2 + x3).tdiv 4 = s := ⟨_, rfl⟩
      obtain ⟨sy, hsy⟩ : ∃ s, (2 * y1 + y2 + y3).tdiv 4 = s := ⟨_, rfl⟩
      have bx : -M ≤ sx ∧ sx ≤ M := by
        rw [← hsx]; have h1 := Int.mul_tdiv_add_tmod (2 * x1 + x2 + x3) 4; have h2 := Int.tmod_lt_of_pos (2 * x1 + x2 + x3) (show (0 : Int) < 4 by omega); have h3 := Int.lt_tmod_of_pos (2 * x1 + x2 + x3) (show (0 : Int) < 4 by omega); omega
      have by' : -M ≤ sy ∧ sy ≤ M := by
        rw [← hsy]; have h1 := Int.mul_tdiv_add_tmod (2 * y1 + y2 + y3) 4; have h2 := Int.tmod_lt_of_pos (2 * y1 + y2 + y3) (show (0 : Int) < 4 by omega); have h3 := Int.lt_tmod_of_pos (2 * y1 + y2 + y3) (show (0 : Int) < 4 by omega); omega
      have wx : IntKind.i64.wrap sx = sx := IntWalk.i64_in _ (by omega)
      have wy : IntKind.i64.wrap sy = sy := IntWalk.i64_in _ (by omega)
      clear ha1 ha2 ha3 hb1 hr HRS HWC
      go_wp2_with fail
      have hc := (HRR.out.put (sx, sy)).c0
      have hd := (HRR.out.put (sx, sy)).c1
      simp only at hc hd
      refine bodyPost_ret (v := vec (sx, sy)) (by simp [results, Try.results7, go_sem, hc, hd]) rfl ⟨by rw [HP.out, hsx, hsy], ?_⟩
      have hoo : w.heap.size ≤ o1 := by omega
      exact (HW2.out.setCell (p := ⟨o1, 0, none⟩) hoo _).setCell (p := ⟨o1, 1, none⟩) hoo _
end Go.Proofs.Ytaiflkjchbpphaa.P
