/- For every input, SetsBoole returns true. No condition. -/
import Derived.Test.YtfeibjokifidmaaLen
namespace Go.Proofs.Ytfeibjokifidmaa.Z
open Go.RowKit Go.Proofs.Ytfeibjokifidmaa.M

theorem same_any (va vb : Value) (s t : Sets) (w : World) (ha : SetAt w va s) (hb : SetAt w vb t) (hst : s = t) :
    Calls Try.prog 20 #[va, vb] w fun e w' => e = .returned (.bool true) ∧ Below w.heap.size w w' := by
  have HE := Lib.hid (equal_same va vb s w ha (by rw [hst]; exact hb))
  clear ha hb hst
  go_enter Try.func20, Try.ntmps20
  go_wp2_with fail
  with_reducible refine HE.out.mono ?_
  rintro e w' ⟨rfl, hb⟩
  go_wp2_with fail
  go_ret
  exact ⟨rfl, hb⟩

theorem jn_ext {f g : W64 → W64 → W64} {a b c d : Sets} (h : ∀ k i, i < 64 → (f (a k) (b k)).getLsbD i = (g (c k) (d k)).getLsbD i) : jn f a b = jn g c d := by
  funext k
  exact BitVec.eq_of_getLsbD_eq fun i hi => h k i hi
theorem jn_ext1 {f : W64 → W64 → W64} {a b c : Sets} (h : ∀ k i, i < 64 → (f (a k) (b k)).getLsbD i = (c k).getLsbD i) : jn f a b = c := by
  funext k
  exact BitVec.eq_of_getLsbD_eq fun i hi => h k i hi
section
variable (x y z : Sets)
theorem law1 : jn orW x y = jn orW y x := jn_ext fun k i _ => by simp only [orW, BitVec.getLsbD_or]; cases (x k).getLsbD i <;> cases (y k).getLsbD i <;> rfl
theorem law2 : jn andW x y = jn andW y x := jn_ext fun k i _ => by simp only [andW, BitVec.getLsbD_and]; cases (x k).getLsbD i <;> cases (y k).getLsbD i <;> rfl
theorem law3 : jn andW x (jn orW x y) = x := jn_ext1 fun k i _ => by simp only [jn, orW, andW, BitVec.getLsbD_and, BitVec.getLsbD_or]; cases (x k).getLsbD i <;> cases (y k).getLsbD i <;> rfl
theorem law4 : jn orW x (jn andW x y) = x := jn_ext1 fun k i _ => by simp only [jn, orW, andW, BitVec.getLsbD_and, BitVec.getLsbD_or]; cases (x k).getLsbD i <;> cases (y k).getLsbD i <;> rfl
theorem law5 : jn subW z (jn orW x y) = jn andW (jn subW z x) (jn subW z y) := jn_ext fun k i hi => by simp only [jn, orW, andW, subW, BitVec.getLsbD_and, BitVec.getLsbD_or, BitVec.getLsbD_not, hi, decide_true, Bool.true_and]; cases (x k).getLsbD i <;> cases (y k).getLsbD i <;> cases (z k).getLsbD i <;> rfl
theorem law6 : jn subW z (jn andW x y) = jn orW (jn subW z x) (jn subW z y) := jn_ext fun k i hi => by simp only [jn, orW, andW, subW, BitVec.getLsbD_and, BitVec.getLsbD_or, BitVec.getLsbD_not, hi, decide_true, Bool.true_and]; cases (x k).getLsbD i <;> cases (y k).getLsbD i <;> cases (z k).getLsbD i <;> rfl
theorem law7 : jn andW x (jn orW y z) = jn orW (jn andW x y) (jn andW x z) := jn_ext fun k i _ => by simp only [jn, orW, andW, BitVec.getLsbD_and, BitVec.getLsbD_or]; cases (x k).getLsbD i <;> cases (y k).getLsbD i <;> cases (z k).getLsbD i <;> rfl
theorem law8 : jn subW x y = jn subW x (jn andW x y) := jn_ext fun k i hi => by simp only [jn, andW, subW, BitVec.getLsbD_and, BitVec.getLsbD_not, hi, decide_true, Bool.true_and]; cases (x k).getLsbD i <;> cases (y k).getLsbD i <;> rfl
end

set_option maxRecDepth 100000 in
set_option maxHeartbeats 8000000 in
theorem walk4 (a b c : Option Addr) (xs ys zs : List Int) (la ca lb cb lc cc : Nat) (w : World)
    (hla : xs.length = la) (hna : a = none → la = 0 ∧ ca = 0) (hca : ∀ x, a = some x → ∀ j u, (xs.map (Value.int .i64))[j]? = some u → w.cell? (x.add j) = some u) (hra : la * 8 ≤ 140737488351232) (hwa : ∀ z ∈ xs, -9223372036854775808 ≤ z ∧ z ≤ 9223372036854775807)
    (hlb : ys.length = lb) (hnb : b = none → lb = 0 ∧ cb = 0) (hcb : ∀ x, b = some x → ∀ j u, (ys.map (Value.int .i64))[j]? = some u → w.cell? (x.add j) = some u) (hrb : lb * 8 ≤ 140737488351232) (hwb : ∀ z ∈ ys, -9223372036854775808 ≤ z ∧ z ≤ 9223372036854775807)
    (hlc : zs.length = lc) (hnc : c = none → lc = 0 ∧ cc = 0) (hcc : ∀ x, c = some x → ∀ j u, (zs.map (Value.int .i64))[j]? = some u → w.cell? (x.add j) = some u) (hrc : lc * 8 ≤ 140737488351232) (hwc : ∀ z ∈ zs, -9223372036854775808 ≤ z ∧ z ≤ 9223372036854775807) :
    Calls Try.prog 4 #[.slice a la ca, .slice b lb cb, .slice c lc cc] w fun e w' => e = .returned (.bool true) ∧ Below w.heap.size w w' := by
  have HSA := Lib.hid fun (W : World) (hW : Below w.heap.size w W) => setOf_any a xs la ca W hla hna (fun x hx j u hu => (hW.cell (World.block_lt_of_cell? w _ (hca x hx j u hu))).trans (hca x hx j u hu)) hra hwa
  have HSB := Lib.hid fun (W : World) (hW : Below w.heap.size w W) => setOf_any b ys lb cb W hlb hnb (fun x hx j u hu => (hW.cell (World.block_lt_of_cell? w _ (hcb x hx j u hu))).trans (hcb x hx j u hu)) hrb hwb
  have HSC := Lib.hid fun (W : World) (hW : Below w.heap.size w W) => setOf_any c zs lc cc W hlc hnc (fun x hx j u hu => (hW.cell (World.block_lt_of_cell? w _ (hcc x hx j u hu))).trans (hcc x hx j u hu)) hrc hwc
  have HOF := Lib.hid (begun_of w 3)
  clear hla hna hca hwa hlb hnb hcb hwb hlc hnc hcc hwc hra hrb hrc
  go_enter Try.func4, Try.ntmps4
  go_wp2_with fail
  with_reducible refine HOF.out.mono ?_
  rintro e w0 ⟨v0, rfl, hs0, hb0⟩
  have HB := Lib.hid (((Below.refl w.heap.size w).alloc (Nat.le_refl _) _).trans (hb0.mono (by simp)))
  have HE := Lib.hid (equal_same v0 _ _ _ (hs0.keep ((Below.refl _ w0).alloc (Nat.le_refl _) _)) (begun_lit w0 37))
  clear hs0 hb0 HOF
  go_wp2_with fail
  with_reducible refine HE.out.mono ?_
  rintro e w1 ⟨rfl, hb1⟩
  have HB := Lib.hid ((HB.out.alloc HB.out.size _).trans (hb1.mono (by have := HB.out.size; simp; omega)))
  clear hb1 HE
  go_wp2_with fail
  with_reducible refine (HSA.out _ HB.out).mono ?_
  rintro e w2 ⟨x, v2, rfl, hs, hb⟩
  have HX := Lib.hid hs
  have HB := Lib.hid (HB.out.trans (hb.mono HB.out.size))
  clear hb hs HSA
  go_wp2_with fail
  with_reducible refine (HSB.out _ HB.out).mono ?_
  rintro e w3 ⟨y, v3, rfl, hs, hb⟩
  have HY := Lib.hid hs
  have HX := Lib.hid (HX.out.keep hb)
  have HB := Lib.hid (HB.out.trans (hb.mono HB.out.size))
  clear hb hs HSB
  go_wp2_with fail
  with_reducible refine (HSC.out _ HB.out).mono ?_
  rintro e w4 ⟨z, v4, rfl, hs, hb⟩
  have HZ := Lib.hid hs
  have HX := Lib.hid (HX.out.keep hb)
  have HY := Lib.hid (HY.out.keep hb)
  have HB := Lib.hid (HB.out.trans (hb.mono HB.out.size))
  clear hb hs HSC
  go_wp2_with fail
  with_reducible refine (either_any _ _ _ _ _ HX.out HY.out).mono ?_
  rintro e w5 ⟨v5, rfl, hs, hb⟩
  have T1 := Lib.hid hs
  have HX := Lib.hid (HX.out.keep hb)
  have HY := Lib.hid (HY.out.keep hb)
  have HZ := Lib.hid (HZ.out.keep hb)
  have HB := Lib.hid (HB.out.trans (hb.mono HB.out.size))
  clear hb hs
  go_wp2_with fail
  with_reducible refine (either_any _ _ _ _ _ HY.out HX.out).mono ?_
  rintro e w6 ⟨v6, rfl, hs, hb⟩
  have T2 := Lib.hid hs
  have HX := Lib.hid (HX.out.keep hb)
  have HY := Lib.hid (HY.out.keep hb)
  have HZ := Lib.hid (HZ.out.keep hb)
  have T1 := Lib.hid (T1.out.keep hb)
  have HB := Lib.hid (HB.out.trans (hb.mono HB.out.size))
  clear hb hs
  go_wp2_with fail
  with_reducible refine (same_any _ _ _ _ _ T1.out T2.out (law1 _ _)).mono ?_
  rintro e w7 ⟨rfl, hb⟩
  have HX := Lib.hid (HX.out.keep hb)
  have HY := Lib.hid (HY.out.keep hb)
  have HZ := Lib.hid (HZ.out.keep hb)
  have T1 := Lib.hid (T1.out.keep hb)
  have T2 := Lib.hid (T2.out.keep hb)
  have HB := Lib.hid (HB.out.trans (hb.mono HB.out.size))
  clear hb
  go_wp2_with fail
  clear T1 T2
  with_reducible refine (both_any _ _ _ _ _ HX.out HY.out).mono ?_
  rintro e w8 ⟨v8, rfl, hs, hb⟩
  have T3 := Lib.hid hs
  have HX := Lib.hid (HX.out.keep hb)
  have HY := Lib.hid (HY.out.keep hb)
  have HZ := Lib.hid (HZ.out.keep hb)
  have HB := Lib.hid (HB.out.trans (hb.mono HB.out.size))
  clear hb hs
  go_wp2_with fail
  with_reducible refine (both_any _ _ _ _ _ HY.out HX.out).mono ?_
  rintro e w9 ⟨v9, rfl, hs, hb⟩
  have T4 := Lib.hid hs
  have HX := Lib.hid (HX.out.keep hb)
  have HY := Lib.hid (HY.out.keep hb)
  have HZ := Lib.hid (HZ.out.keep hb)
  have T3 := Lib.hid (T3.out.keep hb)
  have HB := Lib.hid (HB.out.trans (hb.mono HB.out.size))
  clear hb hs
  go_wp2_with fail
  with_reducible refine (same_any _ _ _ _ _ T3.out T4.out (law2 _ _)).mono ?_
  rintro e w10 ⟨rfl, hb⟩
  have HX := Lib.hid (HX.out.keep hb)
  have HY := Lib.hid (HY.out.keep hb)
  have HZ := Lib.hid (HZ.out.keep hb)
  have T3 := Lib.hid (T3.out.keep hb)
  have T4 := Lib.hid (T4.out.keep hb)
  have HB := Lib.hid (HB.out.trans (hb.mono HB.out.size))
  clear hb
  go_wp2_with fail
  clear T3 T4
  with_reducible refine (either_any _ _ _ _ _ HX.out HY.out).mono ?_
  rintro e w11 ⟨v11, rfl, hs, hb⟩
  have T5 := Lib.hid hs
  have HX := Lib.hid (HX.out.keep hb)
  have HY := Lib.hid (HY.out.keep hb)
  have HZ := Lib.hid (HZ.out.keep hb)
  have HB := Lib.hid (HB.out.trans (hb.mono HB.out.size))
  clear hb hs
  go_wp2_with fail
  with_reducible refine (both_any _ _ _ _ _ HX.out T5.out).mono ?_
  rintro e w12 ⟨v12, rfl, hs, hb⟩
  have T6 := Lib.hid hs
  have HX := Lib.hid (HX.out.keep hb)
  have HY := Lib.hid (HY.out.keep hb)
  have HZ := Lib.hid (HZ.out.keep hb)
  have T5 := Lib.hid (T5.out.keep hb)
  have HB := Lib.hid (HB.out.trans (hb.mono HB.out.size))
  clear hb hs
  go_wp2_with fail
  with_reducible refine (same_any _ _ _ _ _ T6.out HX.out (law3 _ _)).mono ?_
  rintro e w13 ⟨rfl, hb⟩
  have HX := Lib.hid (HX.out.keep hb)
  have HY := Lib.hid (HY.out.keep hb)
  have HZ := Lib.hid (HZ.out.keep hb)
  have T5 := Lib.hid (T5.out.keep hb)
  have T6 := Lib.hid (T6.out.keep hb)
  have HB := Lib.hid (HB.out.trans (hb.mono HB.out.size))
  clear hb
  go_wp2_with fail
  clear T5 T6
  with_reducible refine (both_any _ _ _ _ _ HX.out HY.out).mono ?_
  rintro e w14 ⟨v14, rfl, hs, hb⟩
  have T7 := Lib.hid hs
  have HX := Lib.hid (HX.out.keep hb)
  have HY := Lib.hid (HY.out.keep hb)
  have HZ := Lib.hid (HZ.out.keep hb)
  have HB := Lib.hid (HB.out.trans (hb.mono HB.out.size))
  clear hb hs
  go_wp2_with fail
  with_reducible refine (either_any _ _ _ _ _ HX.out T7.out).mono ?_
  rintro e w15 ⟨v15, rfl, hs, hb⟩
  have T8 := Lib.hid hs
  have HX := Lib.hid (HX.out.keep hb)
  have HY := Lib.hid (HY.out.keep hb)
  have HZ := Lib.hid (HZ.out.keep hb)
  have T7 := Lib.hid (T7.out.keep hb)
  have HB := Lib.hid (HB.out.trans (hb.mono HB.out.size))
  clear hb hs
  go_wp2_with fail
  with_reducible refine (same_any _ _ _ _ _ T8.out HX.out (law4 _ _)).mono ?_
  rintro e w16 ⟨rfl, hb⟩
  have HX := Lib.hid (HX.out.keep hb)
  have HY := Lib.hid (HY.out.keep hb)
  have HZ := Lib.hid (HZ.out.keep hb)
  have T7 := Lib.hid (T7.out.keep hb)
  have T8 := Lib.hid (T8.out.keep hb)
  have HB := Lib.hid (HB.out.trans (hb.mono HB.out.size))
  clear hb
  go_wp2_with fail
  clear T7 T8
  with_reducible refine (either_any _ _ _ _ _ HX.out HY.out).mono ?_
  rintro e w17 ⟨v17, rfl, hs, hb⟩
  have T9 := Lib.hid hs
  have HX := Lib.hid (HX.out.keep hb)
  have HY := Lib.hid (HY.out.keep hb)
  have HZ := Lib.hid (HZ.out.keep hb)
  have HB := Lib.hid (HB.out.trans (hb.mono HB.out.size))
  clear hb hs
  go_wp2_with fail
  with_reducible refine (minus_any _ _ _ _ _ HZ.out T9.out).mono ?_
  rintro e w18 ⟨v18, rfl, hs, hb⟩
  have T10 := Lib.hid hs
  have HX := Lib.hid (HX.out.keep hb)
  have HY := Lib.hid (HY.out.keep hb)
  have HZ := Lib.hid (HZ.out.keep hb)
  have T9 := Lib.hid (T9.out.keep hb)
  have HB := Lib.hid (HB.out.trans (hb.mono HB.out.size))
  clear hb hs
  go_wp2_with fail
  with_reducible refine (minus_any _ _ _ _ _ HZ.out HX.out).mono ?_
  rintro e w19 ⟨v19, rfl, hs, hb⟩
  have T11 := Lib.hid hs
  have HX := Lib.hid (HX.out.keep hb)
  have HY := Lib.hid (HY.out.keep hb)
  have HZ := Lib.hid (HZ.out.keep hb)
  have T9 := Lib.hid (T9.out.keep hb)
  have T10 := Lib.hid (T10.out.keep hb)
  have HB := Lib.hid (HB.out.trans (hb.mono HB.out.size))
  clear hb hs
  go_wp2_with fail
  with_reducible refine (minus_any _ _ _ _ _ HZ.out HY.out).mono ?_
  rintro e w20 ⟨v20, rfl, hs, hb⟩
  have T12 := Lib.hid hs
  have HX := Lib.hid (HX.out.keep hb)
  have HY := Lib.hid (HY.out.keep hb)
  have HZ := Lib.hid (HZ.out.keep hb)
  have T9 := Lib.hid (T9.out.keep hb)
  have T10 := Lib.hid (T10.out.keep hb)
  have T11 := Lib.hid (T11.out.keep hb)
  have HB := Lib.hid (HB.out.trans (hb.mono HB.out.size))
  clear hb hs
  go_wp2_with fail
  with_reducible refine (both_any _ _ _ _ _ T11.out T12.out).mono ?_
  rintro e w21 ⟨v21, rfl, hs, hb⟩
  have T13 := Lib.hid hs
  have HX := Lib.hid (HX.out.keep hb)
  have HY := Lib.hid (HY.out.keep hb)
  have HZ := Lib.hid (HZ.out.keep hb)
  have T9 := Lib.hid (T9.out.keep hb)
  have T10 := Lib.hid (T10.out.keep hb)
  have T11 := Lib.hid (T11.out.keep hb)
  have T12 := Lib.hid (T12.out.keep hb)
  have HB := Lib.hid (HB.out.trans (hb.mono HB.out.size))
  clear hb hs
  go_wp2_with fail
  with_reducible refine (same_any _ _ _ _ _ T10.out T13.out (law5 _ _ _)).mono ?_
  rintro e w22 ⟨rfl, hb⟩
  have HX := Lib.hid (HX.out.keep hb)
  have HY := Lib.hid (HY.out.keep hb)
  have HZ := Lib.hid (HZ.out.keep hb)
  have T9 := Lib.hid (T9.out.keep hb)
  have T10 := Lib.hid (T10.out.keep hb)
  have T11 := Lib.hid (T11.out.keep hb)
  have T12 := Lib.hid (T12.out.keep hb)
  have T13 := Lib.hid (T13.out.keep hb)
  have HB := Lib.hid (HB.out.trans (hb.mono HB.out.size))
  clear hb
  go_wp2_with fail
  clear T9 T10 T11 T12 T13
  with_reducible refine (both_any _ _ _ _ _ HX.out HY.out).mono ?_
  rintro e w23 ⟨v23, rfl, hs, hb⟩
  have T14 := Lib.hid hs
  have HX := Lib.hid (HX.out.keep hb)
  have HY := Lib.hid (HY.out.keep hb)
  have HZ := Lib.hid (HZ.out.keep hb)
  have HB := Lib.hid (HB.out.trans (hb.mono HB.out.size))
  clear hb hs
  go_wp2_with fail
  with_reducible refine (minus_any _ _ _ _ _ HZ.out T14.out).mono ?_
  rintro e w24 ⟨v24, rfl, hs, hb⟩
  have T15 := Lib.hid hs
  have HX := Lib.hid (HX.out.keep hb)
  have HY := Lib.hid (HY.out.keep hb)
  have HZ := Lib.hid (HZ.out.keep hb)
  have T14 := Lib.hid (T14.out.keep hb)
  have HB := Lib.hid (HB.out.trans (hb.mono HB.out.size))
  clear hb hs
  go_wp2_with fail
  with_reducible refine (minus_any _ _ _ _ _ HZ.out HX.out).mono ?_
  rintro e w25 ⟨v25, rfl, hs, hb⟩
  have T16 := Lib.hid hs
  have HX := Lib.hid (HX.out.keep hb)
  have HY := Lib.hid (HY.out.keep hb)
  have HZ := Lib.hid (HZ.out.keep hb)
  have T14 := Lib.hid (T14.out.keep hb)
  have T15 := Lib.hid (T15.out.keep hb)
  have HB := Lib.hid (HB.out.trans (hb.mono HB.out.size))
  clear hb hs
  go_wp2_with fail
  with_reducible refine (minus_any _ _ _ _ _ HZ.out HY.out).mono ?_
  rintro e w26 ⟨v26, rfl, hs, hb⟩
  have T17 := Lib.hid hs
  have HX := Lib.hid (HX.out.keep hb)
  have HY := Lib.hid (HY.out.keep hb)
  have HZ := Lib.hid (HZ.out.keep hb)
  have T14 := Lib.hid (T14.out.keep hb)
  have T15 := Lib.hid (T15.out.keep hb)
  have T16 := Lib.hid (T16.out.keep hb)
  have HB := Lib.hid (HB.out.trans (hb.mono HB.out.size))
  clear hb hs
  go_wp2_with fail
  with_reducible refine (either_any _ _ _ _ _ T16.out T17.out).mono ?_
  rintro e w27 ⟨v27, rfl, hs, hb⟩
  have T18 := Lib.hid hs
  have HX := Lib.hid (HX.out.keep hb)
  have HY := Lib.hid (HY.out.keep hb)
  have HZ := Lib.hid (HZ.out.keep hb)
  have T14 := Lib.hid (T14.out.keep hb)
  have T15 := Lib.hid (T15.out.keep hb)
  have T16 := Lib.hid (T16.out.keep hb)
  have T17 := Lib.hid (T17.out.keep hb)
  have HB := Lib.hid (HB.out.trans (hb.mono HB.out.size))
  clear hb hs
  go_wp2_with fail
  with_reducible refine (same_any _ _ _ _ _ T15.out T18.out (law6 _ _ _)).mono ?_
  rintro e w28 ⟨rfl, hb⟩
  have HX := Lib.hid (HX.out.keep hb)
  have HY := Lib.hid (HY.out.keep hb)
  have HZ := Lib.hid (HZ.out.keep hb)
  have T14 := Lib.hid (T14.out.keep hb)
  have T15 := Lib.hid (T15.out.keep hb)
  have T16 := Lib.hid (T16.out.keep hb)
  have T17 := Lib.hid (T17.out.keep hb)
  have T18 := Lib.hid (T18.out.keep hb)
  have HB := Lib.hid (HB.out.trans (hb.mono HB.out.size))
  clear hb
  go_wp2_with fail
  clear T14 T15 T16 T17 T18
  with_reducible refine (either_any _ _ _ _ _ HY.out HZ.out).mono ?_
  rintro e w29 ⟨v29, rfl, hs, hb⟩
  have T19 := Lib.hid hs
  have HX := Lib.hid (HX.out.keep hb)
  have HY := Lib.hid (HY.out.keep hb)
  have HZ := Lib.hid (HZ.out.keep hb)
  have HB := Lib.hid (HB.out.trans (hb.mono HB.out.size))
  clear hb hs
  go_wp2_with fail
  with_reducible refine (both_any _ _ _ _ _ HX.out T19.out).mono ?_
  rintro e w30 ⟨v30, rfl, hs, hb⟩
  have T20 := Lib.hid hs
  have HX := Lib.hid (HX.out.keep hb)
  have HY := Lib.hid (HY.out.keep hb)
  have HZ := Lib.hid (HZ.out.keep hb)
  have T19 := Lib.hid (T19.out.keep hb)
  have HB := Lib.hid (HB.out.trans (hb.mono HB.out.size))
  clear hb hs
  go_wp2_with fail
  with_reducible refine (both_any _ _ _ _ _ HX.out HY.out).mono ?_
  rintro e w31 ⟨v31, rfl, hs, hb⟩
  have T21 := Lib.hid hs
  have HX := Lib.hid (HX.out.keep hb)
  have HY := Lib.hid (HY.out.keep hb)
  have HZ := Lib.hid (HZ.out.keep hb)
  have T19 := Lib.hid (T19.out.keep hb)
  have T20 := Lib.hid (T20.out.keep hb)
  have HB := Lib.hid (HB.out.trans (hb.mono HB.out.size))
  clear hb hs
  go_wp2_with fail
  with_reducible refine (both_any _ _ _ _ _ HX.out HZ.out).mono ?_
  rintro e w32 ⟨v32, rfl, hs, hb⟩
  have T22 := Lib.hid hs
  have HX := Lib.hid (HX.out.keep hb)
  have HY := Lib.hid (HY.out.keep hb)
  have HZ := Lib.hid (HZ.out.keep hb)
  have T19 := Lib.hid (T19.out.keep hb)
  have T20 := Lib.hid (T20.out.keep hb)
  have T21 := Lib.hid (T21.out.keep hb)
  have HB := Lib.hid (HB.out.trans (hb.mono HB.out.size))
  clear hb hs
  go_wp2_with fail
  with_reducible refine (either_any _ _ _ _ _ T21.out T22.out).mono ?_
  rintro e w33 ⟨v33, rfl, hs, hb⟩
  have T23 := Lib.hid hs
  have HX := Lib.hid (HX.out.keep hb)
  have HY := Lib.hid (HY.out.keep hb)
  have HZ := Lib.hid (HZ.out.keep hb)
  have T19 := Lib.hid (T19.out.keep hb)
  have T20 := Lib.hid (T20.out.keep hb)
  have T21 := Lib.hid (T21.out.keep hb)
  have T22 := Lib.hid (T22.out.keep hb)
  have HB := Lib.hid (HB.out.trans (hb.mono HB.out.size))
  clear hb hs
  go_wp2_with fail
  with_reducible refine (same_any _ _ _ _ _ T20.out T23.out (law7 _ _ _)).mono ?_
  rintro e w34 ⟨rfl, hb⟩
  have HX := Lib.hid (HX.out.keep hb)
  have HY := Lib.hid (HY.out.keep hb)
  have HZ := Lib.hid (HZ.out.keep hb)
  have T19 := Lib.hid (T19.out.keep hb)
  have T20 := Lib.hid (T20.out.keep hb)
  have T21 := Lib.hid (T21.out.keep hb)
  have T22 := Lib.hid (T22.out.keep hb)
  have T23 := Lib.hid (T23.out.keep hb)
  have HB := Lib.hid (HB.out.trans (hb.mono HB.out.size))
  clear hb
  go_wp2_with fail
  clear T19 T20 T21 T22 T23
  with_reducible refine (minus_any _ _ _ _ _ HX.out HY.out).mono ?_
  rintro e w35 ⟨v35, rfl, hs, hb⟩
  have T24 := Lib.hid hs
  have HX := Lib.hid (HX.out.keep hb)
  have HY := Lib.hid (HY.out.keep hb)
  have HZ := Lib.hid (HZ.out.keep hb)
  have HB := Lib.hid (HB.out.trans (hb.mono HB.out.size))
  clear hb hs
  go_wp2_with fail
  with_reducible refine (both_any _ _ _ _ _ HX.out HY.out).mono ?_
  rintro e w36 ⟨v36, rfl, hs, hb⟩
  have T25 := Lib.hid hs
  have HX := Lib.hid (HX.out.keep hb)
  have HY := Lib.hid (HY.out.keep hb)
  have HZ := Lib.hid (HZ.out.keep hb)
  have T24 := Lib.hid (T24.out.keep hb)
  have HB := Lib.hid (HB.out.trans (hb.mono HB.out.size))
  clear hb hs
  go_wp2_with fail
  with_reducible refine (minus_any _ _ _ _ _ HX.out T25.out).mono ?_
  rintro e w37 ⟨v37, rfl, hs, hb⟩
  have T26 := Lib.hid hs
  have HX := Lib.hid (HX.out.keep hb)
  have HY := Lib.hid (HY.out.keep hb)
  have HZ := Lib.hid (HZ.out.keep hb)
  have T24 := Lib.hid (T24.out.keep hb)
  have T25 := Lib.hid (T25.out.keep hb)
  have HB := Lib.hid (HB.out.trans (hb.mono HB.out.size))
  clear hb hs
  go_wp2_with fail
  with_reducible refine (same_any _ _ _ _ _ T24.out T26.out (law8 _ _)).mono ?_
  rintro e w38 ⟨rfl, hb⟩
  have HX := Lib.hid (HX.out.keep hb)
  have HY := Lib.hid (HY.out.keep hb)
  have HZ := Lib.hid (HZ.out.keep hb)
  have T24 := Lib.hid (T24.out.keep hb)
  have T25 := Lib.hid (T25.out.keep hb)
  have T26 := Lib.hid (T26.out.keep hb)
  have HB := Lib.hid (HB.out.trans (hb.mono HB.out.size))
  clear hb
  go_wp2_with fail
  clear T24 T25 T26
  have hsum := len_or_and x y
  have hl1 := elems_le (jn orW x y)
  have hl2 := elems_le (jn andW x y)
  have hl3 := elems_le x
  have hl4 := elems_le y
  have HN1 := Lib.hid fun (v : Value) (W : World) (h : SetAt W v (jn orW x y)) => len_any v _ W h
  have HN2 := Lib.hid fun (v : Value) (W : World) (h : SetAt W v (jn andW x y)) => len_any v _ W h
  have HN3 := Lib.hid fun (v : Value) (W : World) (h : SetAt W v x) => len_any v _ W h
  have HN4 := Lib.hid fun (v : Value) (W : World) (h : SetAt W v y) => len_any v _ W h
  obtain ⟨n1, hn1⟩ : ∃ n, (elems (jn orW x y)).length = n := ⟨_, rfl⟩
  obtain ⟨n2, hn2⟩ : ∃ n, (elems (jn andW x y)).length = n := ⟨_, rfl⟩
  obtain ⟨n3, hn3⟩ : ∃ n, (elems x).length = n := ⟨_, rfl⟩
  obtain ⟨n4, hn4⟩ : ∃ n, (elems y).length = n := ⟨_, rfl⟩
  rw [hn1, hn2, hn3, hn4] at hsum
  rw [hn1] at hl1 HN1
  rw [hn2] at hl2 HN2
  rw [hn3] at hl3 HN3
  rw [hn4] at hl4 HN4
  have hsum' : ((n1 : Int) + (n2 : Int) == (n3 : Int) + (n4 : Int)) = true := by rw [beq_iff_eq]; omega
  clear hn1 hn2 hn3 hn4 hsum
  with_reducible refine (either_any _ _ _ _ _ HX.out HY.out).mono ?_
  rintro e w39 ⟨v39, rfl, hs, hb⟩
  have T27 := Lib.hid hs
  have HX := Lib.hid (HX.out.keep hb)
  have HY := Lib.hid (HY.out.keep hb)
  have HZ := Lib.hid (HZ.out.keep hb)
  have HB := Lib.hid (HB.out.trans (hb.mono HB.out.size))
  clear hb hs
  go_wp2_with fail
  with_reducible refine (HN1.out _ _ T27.out).mono ?_
  rintro e w40 ⟨rfl, hb⟩
  have HX := Lib.hid (HX.out.keep hb)
  have HY := Lib.hid (HY.out.keep hb)
  have HZ := Lib.hid (HZ.out.keep hb)
  have T27 := Lib.hid (T27.out.keep hb)
  have HB := Lib.hid (HB.out.trans (hb.mono HB.out.size))
  clear hb
  go_wp2_with fail
  with_reducible refine (both_any _ _ _ _ _ HX.out HY.out).mono ?_
  rintro e w41 ⟨v41, rfl, hs, hb⟩
  have T28 := Lib.hid hs
  have HX := Lib.hid (HX.out.keep hb)
  have HY := Lib.hid (HY.out.keep hb)
  have HZ := Lib.hid (HZ.out.keep hb)
  have T27 := Lib.hid (T27.out.keep hb)
  have HB := Lib.hid (HB.out.trans (hb.mono HB.out.size))
  clear hb hs
  go_wp2_with fail
  with_reducible refine (HN2.out _ _ T28.out).mono ?_
  rintro e w42 ⟨rfl, hb⟩
  have HX := Lib.hid (HX.out.keep hb)
  have HY := Lib.hid (HY.out.keep hb)
  have HZ := Lib.hid (HZ.out.keep hb)
  have T27 := Lib.hid (T27.out.keep hb)
  have T28 := Lib.hid (T28.out.keep hb)
  have HB := Lib.hid (HB.out.trans (hb.mono HB.out.size))
  clear hb
  go_wp2_with fail
  with_reducible refine (HN3.out _ _ HX.out).mono ?_
  rintro e w43 ⟨rfl, hb⟩
  have HX := Lib.hid (HX.out.keep hb)
  have HY := Lib.hid (HY.out.keep hb)
  have HZ := Lib.hid (HZ.out.keep hb)
  have T27 := Lib.hid (T27.out.keep hb)
  have T28 := Lib.hid (T28.out.keep hb)
  have HB := Lib.hid (HB.out.trans (hb.mono HB.out.size))
  clear hb
  go_wp2_with fail
  with_reducible refine (HN4.out _ _ HY.out).mono ?_
  rintro e w44 ⟨rfl, hb⟩
  have HX := Lib.hid (HX.out.keep hb)
  have HY := Lib.hid (HY.out.keep hb)
  have HZ := Lib.hid (HZ.out.keep hb)
  have T27 := Lib.hid (T27.out.keep hb)
  have T28 := Lib.hid (T28.out.keep hb)
  have HB := Lib.hid (HB.out.trans (hb.mono HB.out.size))
  clear hb
  go_wp2_with fail
  go_ret
  exact ⟨rfl, HB.out⟩
end Go.Proofs.Ytfeibjokifidmaa.Z
namespace Go.Proofs.Ytfeibjokifidmaa
open Go.RowKit

theorem SetsBooleW (a0 : Option Addr) (len0 cap0 : Nat) (z0 : List Int) (a1 : Option Addr) (len1 cap1 : Nat) (z1 : List Int) (a2 : Option Addr) (len2 cap2 : Nat) (z2 : List Int) (w : World)
    (w0 : ((a0 = none ∧ len0 = 0 ∧ cap0 = 0 ∧ z0 = []) ∨ ∃ x, a0 = some x ∧ len0 ≤ cap0 ∧ cap0 ≤ maxLen ∧ z0.length = cap0 ∧ (∀ i, i < z0.length → w.cell? (x.add i) = some (.int .i64 (z0.getD i 0))) ∧ ∀ n ∈ z0, (Lit.int .i64 n).wf = true) ∧ cap0 * 8 ≤ 140737488351232)
    (w1 : ((a1 = none ∧ len1 = 0 ∧ cap1 = 0 ∧ z1 = []) ∨ ∃ x, a1 = some x ∧ len1 ≤ cap1 ∧ cap1 ≤ maxLen ∧ z1.length = cap1 ∧ (∀ i, i < z1.length → w.cell? (x.add i) = some (.int .i64 (z1.getD i 0))) ∧ ∀ n ∈ z1, (Lit.int .i64 n).wf = true) ∧ cap1 * 8 ≤ 140737488351232)
    (w2 : ((a2 = none ∧ len2 = 0 ∧ cap2 = 0 ∧ z2 = []) ∨ ∃ x, a2 = some x ∧ len2 ≤ cap2 ∧ cap2 ≤ maxLen ∧ z2.length = cap2 ∧ (∀ i, i < z2.length → w.cell? (x.add i) = some (.int .i64 (z2.getD i 0))) ∧ ∀ n ∈ z2, (Lit.int .i64 n).wf = true) ∧ cap2 * 8 ≤ 140737488351232) :
    Calls Try.prog 4 #[.slice a0 len0 cap0, .slice a1 len1 cap1, .slice a2 len2 cap2] w fun e w' => e = .returned (.bool true) ∧ Below w.heap.size w w' := by
  obtain ⟨n0, l0, k0, c0, h0, m0⟩ := row_open w0.1
  obtain ⟨n1, l1, k1, c1, h1, m1⟩ := row_open w1.1
  obtain ⟨n2, l2, k2, c2, h2, m2⟩ := row_open w2.1
  exact Z.walk4 a0 a1 a2 n0 n1 n2 len0 cap0 len1 cap1 len2 cap2 w l0 k0 c0 (by have := w0.2; omega) (fun c hc => bounds_i64 (h0 c hc)) l1 k1 c1 (by have := w1.2; omega) (fun c hc => bounds_i64 (h1 c hc)) l2 k2 c2 (by have := w2.2; omega) (fun c hc => bounds_i64 (h2 c hc))
end Go.Proofs.Ytfeibjokifidmaa
