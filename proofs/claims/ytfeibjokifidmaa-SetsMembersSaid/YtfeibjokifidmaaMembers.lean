/- For every input, SetsMembers returns true. No condition. -/
import Derived.Test.YtfeibjokifidmaaLen
import Derived.Test.YtfeibjokifidmaaBox
import Derived.Deep.DeepCutAuto
import Derived.Deep.RegionHeld3
import Derived.Deep.DrawnRows
namespace Go.Proofs.Ytfeibjokifidmaa.Z
open Go.RowKit Go.Shelf Go.Proofs.Ytfeibjokifidmaa.M

attribute [local go_sem] Oper.semAt_some

theorem SetAt.form {w : World} {v : Value} {s : Sets} (h : SetAt w v s) : ∃ ad n c, v = .slice ad n c := by
  obtain ⟨l, ad, c, h1, _⟩ := h
  exact ⟨ad, l.length, c, h1⟩
/-- A store into a variable that is no word. -/
theorem SetAt.far {w : World} {u : Value} {s : Sets} {b i : Nat} {v y : Value} (h : SetAt w u s) (hb : w.cell? ⟨b, 0, none⟩ = some y) (hy : ∀ x, y ≠ .int .u64 x) : SetAt (w.setCell ⟨b, i, none⟩ v) u s := by
  obtain ⟨l, ad, c, h1, h2, h3, h4, h5, h6, h7⟩ := h
  refine ⟨l, ad, c, h1, h2, h3, h4, h5, h6, fun j hj => ?_⟩
  obtain ⟨g, h8, h9⟩ := h7 j hj
  refine ⟨g, h8, (World.cell?_setCell_other _ _ _ _ (fun e => ?_)).trans h9⟩
  obtain ⟨g', h8', h9'⟩ := h7 0 (by omega)
  rw [h8] at h8'
  injection h8' with h8'
  injection h8' with h8'
  subst h8'
  have := congrArg Addr.block e
  simp only at this
  subst this
  rw [hb] at h9'
  injection h9' with h9'
  exact hy _ h9'

theorem upto_one (i : Nat) : ∀ n, upto (one i) n = if i < n then [i] else []
  | 0 => by simp [upto]
  | n + 1 => by
    rw [upto_succ, upto_one i n, has_one]
    by_cases h : i < n
    · have h1 : i < n + 1 := by omega
      have h2 : n ≠ i := by omega
      simp [h, h1, h2]
    · by_cases h2 : n = i
      · subst h2; simp
      · have h1 : ¬ i < n + 1 := by omega
        simp [h, h1, h2]
theorem with_law (s : Sets) (i : Nat) : jn orW (jn subW s (one i)) (one i) = jn orW s (one i) := by
  refine has_ext fun j => ?_
  rw [has_or, has_sub, has_or]
  cases has s j <;> cases has (one i) j <;> rfl
theorem without_law (s : Sets) (i : Nat) : jn subW (jn orW s (one i)) (one i) = jn subW s (one i) := by
  refine has_ext fun j => ?_
  rw [has_sub, has_or, has_sub]
  cases has s j <;> cases has (one i) j <;> rfl
theorem len_with (s : Sets) (i : Nat) (hi : i < 4096) : (elems (jn orW s (one i))).length = (elems (jn subW s (one i))).length + 1 := by
  have h := len_or_and (jn subW s (one i)) (one i)
  have h1 : (elems (one i)).length = 1 := by unfold elems; rw [upto_one, if_pos hi]; rfl
  have h2 : elems (jn andW (jn subW s (one i)) (one i)) = [] := by
    rw [List.eq_nil_iff_forall_not_mem]
    intro j hj
    have := (mem_elems.1 hj).2
    rw [has_and, has_sub] at this
    revert this
    cases has s j <;> cases has (one i) j <;> simp
  rw [with_law, h1, h2] at h
  simpa using h

/-- The last element, -1 if there is none. -/
def lastI (l : List Nat) : Int := match l.getLast? with | some x => (x : Int) | none => -1
theorem lastI_snoc (l : List Nat) (x : Nat) : lastI (l ++ [x]) = (x : Int) := by simp [lastI]
theorem lastI_ge (l : List Nat) : -1 ≤ lastI l := by
  unfold lastI; split <;> omega
theorem lastI_le (l : List Nat) (h : ∀ y ∈ l, y < 4096) : lastI l ≤ 4095 := by
  unfold lastI
  split
  · rename_i x hx
    have := h x (List.mem_of_getLast? hx)
    omega
  · omega
theorem unsorted {l : List Nat} {x : Nat} (h : (x : Int) ≤ lastI l) : ¬ (l ++ [x]).Pairwise (· < ·) := by
  intro hp
  unfold lastI at h
  split at h
  · rename_i y hy
    have := (List.pairwise_append.1 hp).2.2 y (List.mem_of_getLast? hy) x (by simp)
    omega
  · omega

theorem undef_bool (b : Bool) : ¬ some undef = some (Value.bool b) := by
  intro h
  injection h with h
  cases h
/-- What the variables hold in a round. -/
structure Held (W : World) (B b5 b6 C I : Nat) (vs v6 v7 : Value) (s : Sets) (L N : Int) : Prop where
  b3 : Box W B (.int .i64 (I : Int))
  b4 : Box W (B + 1) (.bool false)
  b5 : Box W b5 vs
  b6 : Box W b6 v6
  b8 : Box W C (.int .i64 L)
  b9 : Box W (C + 1) (.int .i64 N)
  hs : SetAt W vs s
  hs6 : SetAt W v6 (jn orW s (one I))
  hs7 : SetAt W v7 (jn subW s (one I))
theorem box_own {W W' : World} {row : Option Nat} {b : Nat} {v : Value} (h : Box W b v) (hg : W.grownBy W' row) (hr : ∀ r, row = some r → ∃ o : Obj, W.heap[r]? = some o ∧ o.isCells = false) : Box W' b v :=
  ⟨cell_kept h.1 hg hr, (frozen_kept h.1 hg hr).trans h.2⟩
theorem set_own {W W' : World} {row : Option Nat} {v : Value} {s : Sets} (h : SetAt W v s) (hg : W.grownBy W' row) (hr : ∀ r, row = some r → ∃ o : Obj, W.heap[r]? = some o ∧ o.isCells = false) : SetAt W' v s := by
  obtain ⟨l, ad, c, h1, h2, h3, h4, h5, h6, h7⟩ := h
  refine ⟨l, ad, c, h1, h2, h3, h4, h5, h6, fun j hj => ?_⟩
  obtain ⟨g, h8, h9⟩ := h7 j hj
  exact ⟨g, h8, cell_kept h9 hg hr⟩
theorem Held.own {W W' : World} {row : Option Nat} {B b5 b6 C I : Nat} {vs v6 v7 : Value} {s : Sets} {L N : Int} (h : Held W B b5 b6 C I vs v6 v7 s L N) (hg : W.grownBy W' row) (hr : ∀ r, row = some r → ∃ o : Obj, W.heap[r]? = some o ∧ o.isCells = false) :
    Held W' B b5 b6 C I vs v6 v7 s L N :=
  ⟨box_own h.b3 hg hr, box_own h.b4 hg hr, box_own h.b5 hg hr, box_own h.b6 hg hr, box_own h.b8 hg hr, box_own h.b9 hg hr, set_own h.hs hg hr, set_own h.hs6 hg hr, set_own h.hs7 hg hr⟩

theorem len_snoc {s : Sets} (pre : List (El s)) (z : El s) {N : Nat} (h : pre.length = N) : (((pre ++ [z]).length : Nat) : Int) = (N : Int) + 1 := by
  rw [List.length_append, h]; simp
theorem turn_keeps (W : World) (C : Nat) (x y : Value) : KeepsOthers W ((W.setCell ⟨C, 0, none⟩ x).setCell ⟨C + 1, 0, none⟩ y).drew :=
  ((KeepsOthers.setCell _ _ _).trans (KeepsOthers.setCell _ _ _)).trans (KeepsOthers.drew _)
theorem turn_below {w W : World} {B C : Nat} (h : Below B w W) (hB : B ≤ C) (x y : Value) : Below B w ((W.setCell ⟨C, 0, none⟩ x).setCell ⟨C + 1, 0, none⟩ y).drew :=
  ((h.setCell (p := ⟨C, 0, none⟩) hB x).setCell (p := ⟨C + 1, 0, none⟩) (Nat.le_succ_of_le hB) y).drew
theorem turn_keepG {W : World} {g C : Nat} (h1 : g ≠ C) (h2 : g ≠ C + 1) (x y : Value) : KeepG g W ((W.setCell ⟨C, 0, none⟩ x).setCell ⟨C + 1, 0, none⟩ y).drew :=
  keepG_t (keepG_t (keepG_set h1) (keepG_set h2)) (fun _ _ h => h)
/-- Both counts are set. -/
theorem Held.turn {W : World} {B b5 b6 C I : Nat} {vs v6 v7 : Value} {s : Sets} {L N : Int} (h : Held W B b5 b6 C I vs v6 v7 s L N) (h1 : B + 1 < C) (h5 : b5 < C) (h6 : b6 < C) (x y : Int) :
    Held ((W.setCell ⟨C, 0, none⟩ (.int .i64 x)).setCell ⟨C + 1, 0, none⟩ (.int .i64 y)).drew B b5 b6 C I vs v6 v7 s x y := by
  have far : ∀ {b : Nat} {v : Value}, Box W b v → b < C → Box ((W.setCell ⟨C, 0, none⟩ (.int .i64 x)).setCell ⟨C + 1, 0, none⟩ (.int .i64 y)).drew b v := fun hb hl =>
    ((hb.other (by omega) _ _).other (by omega) _ _).drew
  have c8 := (h.b8.set (.int .i64 x)).other (show C ≠ C + 1 by omega) 0 (.int .i64 y)
  have c9 := (h.b9.other (show C + 1 ≠ C by omega) 0 (.int .i64 x))
  have sets : ∀ {v : Value} {t : Sets}, SetAt W v t → SetAt ((W.setCell ⟨C, 0, none⟩ (.int .i64 x)).setCell ⟨C + 1, 0, none⟩ (.int .i64 y)).drew v t := fun hs =>
    SetAt.keep ((hs.far h.b8.1 (by intro z e; cases e)).far c9.1 (by intro z e; cases e)) ((Below.refl _ _).drew)
  exact ⟨far h.b3 (by omega), far h.b4 h1, far h.b5 h5, far h.b6 h6, c8.drew, (c9.set _).drew, sets h.hs, sets h.hs6, sets h.hs7⟩

/-- What the statement with two calls leaves. -/
def Two (C : Nat) (W0 : World) (s : Sets) (I : Nat) (v6 v7 : Value) (wx : World) : Prop :=
  ∃ (b6 : Nat) (ad6 : Option Addr) (n6 c6 : Nat) (ad7 : Option Addr) (n7 c7 : Nat), v6 = .pointer (some ⟨b6, 0, none⟩) ∧ v7 = .slice ad7 n7 c7 ∧ Box wx b6 (.slice ad6 n6 c6) ∧ SetAt wx (.slice ad6 n6 c6) (jn orW s (one I)) ∧ SetAt wx (.slice ad7 n7 c7) (jn subW s (one I)) ∧ Below C W0 wx ∧ C ≤ b6

set_option maxRecDepth 100000 in
set_option maxHeartbeats 4000000 in
theorem walk5 (a : Option Addr) (xs : List Int) (la ca : Nat) (ci : Int) (w : World)
    (hla : xs.length = la) (hna : a = none → la = 0 ∧ ca = 0) (hca : ∀ x, a = some x → ∀ j u, (xs.map (Value.int .i64))[j]? = some u → w.cell? (x.add j) = some u) (hra : la * 8 ≤ 140737488351232) (hwa : ∀ z ∈ xs, -9223372036854775808 ≤ z ∧ z ≤ 9223372036854775807)
    (hct : -9223372036854775808 ≤ ci ∧ ci ≤ 9223372036854775807) :
    Calls Try.prog 5 #[.slice a la ca, .int .i64 ci] w fun e w' => e = .returned (.bool true) ∧ Below w.heap.size w w' := by
  have HSA := Lib.hid fun (W : World) (hW : Below w.heap.size w W) => setOf_any a xs la ca W hla hna (fun x hx j u hu => (hW.cell (World.block_lt_of_cell? w _ (hca x hx j u hu))).trans (hca x hx j u hu)) hra hwa
  obtain ⟨I, hI⟩ : ∃ I : Nat, ci % 4096 = (I : Int) := ⟨(ci % 4096).toNat, by have := Int.emod_nonneg ci (show (4096 : Int) ≠ 0 by omega); omega⟩
  have hI4 : I < 4096 := by have := Int.emod_lt_of_pos ci (show (0 : Int) < 4096 by omega); omega
  have hbc := fun W => M.below_any ci 4096 W (by omega) (by omega) hct.1 hct.2
  rw [hI] at hbc
  have HBC := Lib.hid hbc
  clear hla hna hca hwa hra hbc hI hct
  obtain ⟨B, hBs⟩ : ∃ B, w.heap.size = B := ⟨_, rfl⟩
  obtain ⟨W2, hW2⟩ : ∃ W2, (w.alloc (.cells #[.int .i64 ci] 3)).alloc (.cells #[.bool false] 4) = W2 := ⟨_, rfl⟩
  have b3 : Box W2 B (.int .i64 ci) := by rw [← hW2, ← hBs]; exact (Box.new w 3 _).alloc _
  have b4 : Box W2 (B + 1) (.bool false) := by rw [← hW2, ← hBs]; have := Box.new (w.alloc (.cells #[.int .i64 ci] 3)) 4 (.bool false); rwa [World.size_alloc] at this
  have hs2 : W2.heap.size = B + 2 := by rw [← hW2]; simp; omega
  have hb2 : Below B w W2 := by rw [← hW2, ← hBs]; exact ((Below.refl _ _).alloc (Nat.le_refl _) _).alloc (by simp) _
  have hof := begun_of W2 3
  rw [hs2] at hof
  have HOF := Lib.hid hof
  have HB := Lib.hid hb2
  have B3 := Lib.hid b3
  have B4 := Lib.hid b4
  have HS2 := Lib.hid hs2
  have HBS := Lib.hid hBs
  rw [hBs] at HSA ⊢
  clear hof
  refine (callsIn_wide (n := 6)).1 ?_
  refine callsIn_of_wp_marks Try.func5 rfl trivial ?_ rfl
  simp only [Try.ntmps5, List.size_toArray, List.length_cons, List.length_nil, Nat.reduceAdd, Nat.reduceSub, Array.replicate_succ, Array.replicate_zero, List.push_toArray, List.append_toArray, List.nil_append, List.cons_append]
  refine (wpIn_wide (n := 6)).2 ?_
  clear b3 b4 hb2
  go_wp2_with fail
  with_reducible refine HOF.out.mono ?_
  rintro e w0 ⟨v0, rfl, hs0, hb0⟩
  have hbw : Below (B + 2) W2 w0 := by
    rw [← HS2.out]
    exact ((Below.refl _ _).alloc (Nat.le_refl _) _).trans (hb0.mono (by simp))
  have HB := Lib.hid (HB.out.trans (hbw.mono (by omega)))
  have B3 := Lib.hid (B3.out.below hbw (by omega))
  have B4 := Lib.hid (B4.out.below hbw (by omega))
  have HE := Lib.hid (equal_same v0 _ _ _ (hs0.keep ((Below.refl _ w0).alloc (Nat.le_refl _) _)) (begun_lit w0 37))
  have hsz : B + 2 ≤ w0.heap.size := by have := hbw.size; have := HS2.out; omega
  clear hs0 hb0 HOF hbw HS2 hs2 hW2
  go_wp2_with fail
  with_reducible refine HE.out.mono ?_
  rintro e w1 ⟨rfl, hb1⟩
  have hbw : Below (B + 2) w0 w1 := ((Below.refl _ _).alloc hsz _).trans (hb1.mono (by simp; omega))
  have HB := Lib.hid (HB.out.trans (hbw.mono (by omega)))
  have B3 := Lib.hid (B3.out.below hbw (by omega))
  have B4 := Lib.hid (B4.out.below hbw (by omega))
  have hsz : B + 2 ≤ w1.heap.size := by have := hbw.size; omega
  clear hb1 HE hbw
  go_wp2_with fail
  with_reducible refine (HSA.out _ HB.out).mono ?_
  rintro e w3 ⟨s, vs, rfl, hss, hb⟩
  obtain ⟨ad, n, c, rfl⟩ := hss.form
  obtain ⟨vs, hvs⟩ : ∃ vs, Value.slice ad n c = vs := ⟨_, rfl⟩
  rw [hvs] at hss
  have B3 := Lib.hid ((B3.out.keep hb).alloc (.cells #[vs] 36))
  have B4 := Lib.hid ((B4.out.keep hb).alloc (.cells #[vs] 36))
  have B5 := Lib.hid (Box.new w3 36 vs)
  have HB := Lib.hid ((HB.out.trans (hb.mono (by omega))).alloc (by have := hb.size; omega) (.cells #[vs] 36))
  have HS := Lib.hid (hss.keep ((Below.refl _ w3).alloc (Nat.le_refl _) (.cells #[vs] 36)))
  have hs3 : B + 2 ≤ w3.heap.size := by have := hb.size; omega
  obtain ⟨b5, hb5⟩ : ∃ b5, w3.heap.size = b5 := ⟨_, rfl⟩
  obtain ⟨W3, hW3⟩ : ∃ W3, w3.alloc (.cells #[vs] 36) = W3 := ⟨_, rfl⟩
  have hsW : W3.heap.size = b5 + 1 := by rw [← hW3, ← hb5]; simp
  rw [hb5] at B5 hs3
  rw [hW3] at B3 B4 B5 HB HS
  have c3 := B3.out.1
  have f3 := B3.out.2
  clear hb hss HSA hsz
  subst hvs
  go_wp2_with fail
  with_reducible refine (HBC.out _).mono ?_
  rintro e _ ⟨rfl, rfl⟩
  have B3 := Lib.hid (B3.out.set (.int .i64 (I : Int)))
  have B4 := Lib.hid (B4.out.other (show B + 1 ≠ B by omega) 0 (.int .i64 (I : Int)))
  have B5 := Lib.hid (B5.out.other (show b5 ≠ B by omega) 0 (.int .i64 (I : Int)))
  have HS := Lib.hid (HS.out.far (b := B) (i := 0) (v := .int .i64 (I : Int)) c3 (by intro x h; cases h))
  have HB := Lib.hid (HB.out.setCell (p := ⟨B, 0, none⟩) (Nat.le_refl _) (.int .i64 (I : Int)))
  obtain ⟨W4, hW4⟩ : ∃ W4, W3.setCell ⟨B, 0, none⟩ (.int .i64 (I : Int)) = W4 := ⟨_, rfl⟩
  have hsz4 : W4.heap.size = b5 + 1 := by rw [← hW4]; simpa using hsW
  have HSZ := Lib.hid hsz4
  rw [hW4] at B3 B4 B5 HS HB
  have HW4 := Lib.hid hW4
  clear hW4 hW3 hsW hsz4
  go_upto_region 5 with fail
  rw [HW4.out]
  have hsz4 : W4.heap.size = b5 + 1 := HSZ.out
  clear c3 f3
  have c3 := B3.out.1
  have c5 := B5.out.1
  go_cut [6, 7] from 20 to 25 (fun v6 v7 wx => Two (b5 + 1) W4 s I v6 v7 wx)
  case first =>
    have HW := Lib.hid fun (W : World) (h : Below W4.heap.size W4 W) => with_any _ s I W (HS.out.keep h) hI4
    have HO := Lib.hid fun (W : World) (h : Below W4.heap.size W4 W) => without_any _ s I W (HS.out.keep h) hI4
    have n3 := World.new_ne W4 ⟨B, 0, none⟩ c3
    have n5 := World.new_ne W4 ⟨b5, 0, none⟩ c5
    clear hsz4
    have HC3 := Lib.hid fun (W : World) (h : Below W4.heap.size W4 W) => (h.cell (p := ⟨B, 0, none⟩) B3.out.lt).trans c3
    have HC5 := Lib.hid fun (W : World) (h : Below W4.heap.size W4 W) => (h.cell (p := ⟨b5, 0, none⟩) B5.out.lt).trans c5
    go_region_held3 (fun w' => w'.cell? ⟨B, 0, none⟩ = some (.int .i64 (I : Int)) ∧ w'.cell? ⟨b5, 0, none⟩ = some (.slice ad n c)) (go_keep)
      ((first | (go_at_call 25; refine (HW.out _ ?_).mono ?_; (first | exact (Below.refl _ _).drew | exact ((Below.refl _ _).alloc (Nat.le_refl _) _).drew | exact hb5 | exact hb5.alloc hb5.size _); rintro e w5 ⟨vw, rfl, hsw, hx⟩; obtain ⟨adw5, nw5, cw5, rfl⟩ := hsw.form; have hb5 : Below W4.heap.size W4 w5 := Below.trans (by (first | exact (Below.refl _ _).drew | exact ((Below.refl _ _).alloc (Nat.le_refl _) _).drew | exact hb5 | exact hb5.alloc hb5.size _)) (hx.mono (by first | exact Nat.le_refl _ | (simp; done) | exact hb5.size | (have := hb5.size; simp; omega))); have k3 := HC3.out _ hb5; have k5 := HC5.out _ hb5; have m3 := World.new_ne w5 ⟨B, 0, none⟩ k3; have m5 := World.new_ne w5 ⟨b5, 0, none⟩ k5; (try (have q1 := (Box.made' hx : Box w5 W4.heap.size (.slice none 0 0)); have cq1 := q1.1; have fq1 := q1.2; have Bq1 := Lib.hid q1; clear q1)); (try (have q1 := (Box.made hx : Box w5 W4.heap.size (.slice none 0 0)); have cq1 := q1.1; have fq1 := q1.2; have Bq1 := Lib.hid q1; clear q1)); have HXw5 := Lib.hid hx; clear hx) | (go_at_call 26; refine (HO.out _ ?_).mono ?_; (first | exact (Below.refl _ _).drew | exact ((Below.refl _ _).alloc (Nat.le_refl _) _).drew | exact hb5 | exact hb5.alloc hb5.size _); rintro e w6 ⟨vo, rfl, hso, hx⟩; obtain ⟨adw6, nw6, cw6, rfl⟩ := hso.form; have hb6 : Below W4.heap.size W4 w6 := Below.trans (by (first | exact (Below.refl _ _).drew | exact ((Below.refl _ _).alloc (Nat.le_refl _) _).drew | exact hb5 | exact hb5.alloc hb5.size _)) (hx.mono (by first | exact Nat.le_refl _ | (simp; done) | exact hb5.size | (have := hb5.size; simp; omega))); have k3 := HC3.out _ hb6; have k5 := HC5.out _ hb6; have m3 := World.new_ne w6 ⟨B, 0, none⟩ k3; have m5 := World.new_ne w6 ⟨b5, 0, none⟩ k5; (try (have q2 := (Box.made hx : Box w6 w5.heap.size (.slice none 0 0)); have cq2 := q2.1; have fq2 := q2.2; have Bq2 := Lib.hid q2; clear q2)); (try (have q3 := Bq1.out.keep hx; have cq3 := q3.1; have fq3 := q3.2; have Bq3 := Lib.hid q3; clear q3)); have HXw6 := Lib.hid hx; clear hx)))
    all_goals go_wp2
    all_goals go_meet
    · have hz := HSZ.out
      have hz6 := hb6.size
      exact ⟨_, _, _, _, _, _, _, rfl, rfl, Box.new w6 36 _, (hsw.keep HXw6.out).keep ((Below.refl _ _).alloc (Nat.le_refl _) _), hso.keep ((Below.refl _ _).alloc (Nat.le_refl _) _), (show Below (b5 + 1) W4 w6 by rw [← hz]; exact hb6).alloc (by omega) _, by omega⟩
    · have hz := HSZ.out
      have hz5 := hb5.size
      exact ⟨_, _, _, _, _, _, _, rfl, rfl, Bq2.out.set _, ((hsw.keep ((Below.refl _ _).alloc (Nat.le_refl _) _)).keep HXw6.out).far Bq2.out.1 (by intro x h; cases h), hso.far Bq2.out.1 (by intro x h; cases h), (show Below (b5 + 1) W4 w6 by rw [← hz]; exact hb6).setCell (p := ⟨w5.heap.size, 0, none⟩) (by simp; omega) _, by omega⟩
    · have hz := HSZ.out
      exact ⟨_, _, _, _, _, _, _, rfl, rfl, Bq3.out.set _, (hsw.keep HXw6.out).far Bq3.out.1 (by intro x h; cases h), hso.far Bq3.out.1 (by intro x h; cases h), (show Below (b5 + 1) W4 w6 by rw [← hz]; exact hb6).setCell (p := ⟨W4.heap.size, 0, none⟩) (by simp; omega) _, by omega⟩
  case rest =>
    obtain ⟨b6, ad6, n6, c6', ad7, n7, c7, rfl, rfl, hb6, hs6, hs7, hbl, hle6⟩ := hcut
    have hz := HSZ.out
    have HB := Lib.hid (HB.out.trans (hbl.mono (by omega)))
    have B3 := Lib.hid (B3.out.below hbl (by have := B3.out.lt; omega))
    have B4 := Lib.hid (B4.out.below hbl (by have := B4.out.lt; omega))
    have B5 := Lib.hid (B5.out.below hbl (by omega))
    have HS := Lib.hid (HS.out.keep (by rw [hz]; exact hbl))
    have B6 := Lib.hid hb6
    have HS6 := Lib.hid hs6
    have HS7 := Lib.hid hs7
    obtain ⟨C, hC⟩ : ∃ C, wc.heap.size = C := ⟨_, rfl⟩
    have hCb : b5 + 1 ≤ C := by have := hbl.size; omega
    have hb6C : b6 < C := by have := hb6.lt; omega
    have c6 := hb6.1
    have HC := Lib.hid hC
    clear hb6 hs6 hs7 hbl hz c3 c5 hsz4
    go_wp2_with fail
    obtain ⟨W8, hW8⟩ : ∃ W8, (wc.alloc (.cells #[.int .i64 (-1)] 3)).alloc (.cells #[.int .i64 0] 3) = W8 := ⟨_, rfl⟩
    rw [hW8]
    have hz8 : W8.heap.size = C + 2 := by rw [← hW8]; simp; omega
    have hb8 : Below wc.heap.size wc W8 := by rw [← hW8]; exact ((Below.refl _ _).alloc (Nat.le_refl _) _).alloc (by simp) _
    have b8 : Box W8 C (.int .i64 (-1)) := by rw [← hW8, ← hC]; exact (Box.new wc 3 _).alloc _
    have b9 : Box W8 (C + 1) (.int .i64 0) := by rw [← hW8, ← hC]; have := Box.new (wc.alloc (.cells #[.int .i64 (-1)] 3)) 3 (.int .i64 0); rwa [World.size_alloc] at this
    with_reducible refine (all_any _ _ W8 (HS6.out.keep hb8)).mono ?_
    rintro e w9 ⟨Bi, g, rfl, hall, hB1, hB2, hg1, hg2, hbel⟩
    have B3 := Lib.hid ((B3.out.keep hb8).keep hbel)
    have B4 := Lib.hid ((B4.out.keep hb8).keep hbel)
    have B5 := Lib.hid ((B5.out.keep hb8).keep hbel)
    have B6 := Lib.hid ((B6.out.keep hb8).keep hbel)
    have B8 := Lib.hid (b8.keep hbel)
    have B9 := Lib.hid (b9.keep hbel)
    have HS := Lib.hid ((HS.out.keep hb8).keep hbel)
    have HS6 := Lib.hid ((HS6.out.keep hb8).keep hbel)
    have HS7 := Lib.hid ((HS7.out.keep hb8).keep hbel)
    have HB := Lib.hid ((HB.out.trans (hb8.mono (by rw [hC]; omega))).trans (hbel.mono (by omega)))
    have HALL := Lib.hid hall
    rw [hz8] at hB1 hg1
    have hz9 : C + 2 ≤ w9.heap.size := by have := hbel.size; omega
    clear hW8 hb8 b8 b9 hall hbel
    go_wp2_with fail
    have H0 : Held w9 B b5 b6 C I (.slice ad n c) (.slice ad6 n6 c6') (.slice ad7 n7 c7) s (-1) 0 := ⟨B3.out, B4.out, B5.out, B6.out, B8.out, B9.out, HS.out, HS6.out, HS7.out⟩
    have hB9 := HB.out
    have hlt5 : B + 2 ≤ b5 := hs3
    refine (wpIn_wide (n := 6)).1 ?_
    refine wpIn_rangeFunc_ownF (F := Fence.wide) rfl (by omega) (gf := 58) (lb := #[.pointer (some ⟨Bi, 0, none⟩)]) rfl trivial (enters_of Try.func58 (by kernel_rfl) rfl)
      (all_stops Fence.wide 5 trivial rfl (by omega) Bi g (jn orW s (one I)) w9 HALL.out hB2 hg2) keepG_t (keepG_b hg2) (Below.refl _ _) (fun _ => rfl)
      (fun pre W => Held W B b5 b6 C I (.slice ad n c) (.slice ad6 n6 c6') (.slice ad7 n7 c7) s (lastI (vals pre)) ((pre.length : Nat) : Int) ∧ (∀ y ∈ vals pre, y ≠ I) ∧ Below B w W)
      (fun cd pre W => (cd = .exit 0 ∧ Held W B b5 b6 C I (.slice ad n c) (.slice ad6 n6 c6') (.slice ad7 n7 c7) s (I : Int) ((pre.length : Nat) : Int) ∧ 1 ≤ pre.length ∧ Below B w W) ∨ (cd = .ret ∧ ¬ (vals pre).Pairwise (· < ·)))
      (fun s W W' row hs hg hr => ⟨hs.1.own hg (fun r e => (hr r e).2), hs.2.1, ownFrom_below (by rw [HBS.out]; exact Nat.le_refl _) (by omega) s W W' row hs.2.2 hg hr⟩)
      (fun cd s W W' row hs hg hr => hs.elim (fun h => .inl ⟨h.1, h.2.1.own hg (fun r e => (hr r e).2), h.2.2.1, ownFrom_below (by rw [HBS.out]; exact Nat.le_refl _) (by omega) s W W' row h.2.2.2 hg hr⟩) .inr)
      ⟨H0, by simp [vals], hB9⟩ ?a1 ?assign ?body ?done ?stop
    case assign =>
      intro l x W K hK
      gi_wp2_with fail
      exact hK
    case body =>
      rintro l pre ⟨x, hx4, hxs⟩ W ⟨hH, hne, hB⟩ hlen
      have hlI := lastI_ge (vals pre)
      have hlE := lastI_le (vals pre) (fun y hy => by obtain ⟨z, _, rfl⟩ := List.mem_map.1 hy; exact z.2.1)
      have hvs := vals_snoc pre ⟨x, hx4, hxs⟩
      have hls := lastI_snoc (vals pre) x
      obtain ⟨L, hL⟩ : ∃ L, lastI (vals pre) = L := ⟨_, rfl⟩
      have hun : (x : Int) ≤ L → ¬ (vals pre ++ [x]).Pairwise (· < ·) := fun h => unsorted (by rw [hL]; exact h)
      rw [hL] at hH hlI hlE
      obtain ⟨N, hN⟩ : ∃ N, pre.length = N := ⟨_, rfl⟩
      rw [hN] at hH hlen
      have r3 := hH.b3.1
      have r5 := hH.b5.1
      have r6 := hH.b6.1
      have r8 := hH.b8.1
      have r9 := hH.b9.1
      have r4 := hH.b4.1
      have f4 := hH.b4.2
      have f8 := hH.b8.2
      have f9 := hH.b9.2
      have HH := Lib.hid hH
      have HNE := Lib.hid hne
      have HBW := Lib.hid hB
      have HVS := Lib.hid hvs
      have HLS := Lib.hid hls
      have HUN := Lib.hid hun
      have HNN := Lib.hid hN
      have hx6 := has_any _ _ x W hH.hs6 (by omega)
      rw [hxs] at hx6
      have HX6 := Lib.hid hx6
      have HX5 := Lib.hid (has_any _ _ x W hH.hs (by omega))
      have hor := has_or s (one I) x
      rw [hxs, has_one] at hor
      have HOR := Lib.hid hor
      clear hH hne hB hvs hls hL hN hx6 hor hun
      by_cases hle : (x : Int) ≤ L
      · gi_wp2_with fail
        refine ⟨trivial, ?_⟩
        gi_wp2_with fail
        · exact absurd (show some undef = some (Value.bool _) by assumption) (undef_bool _)
        · exact absurd (show some undef = some (Value.bool _) by assumption) (undef_bool _)
        · refine ⟨trivial, ?_⟩
          gi_wp2_with fail
          exact ⟨KeepsOthers.setCell _ _ _, .inr ⟨rfl, by rw [HVS.out]; exact HUN.out hle⟩⟩
      · have hlt : L < (x : Int) := by omega
        by_cases hxI : x = I
        · have hxI' := hxI.symm
          subst hxI'
          have hle' : decide ((I : Int) ≤ L) = false := by rw [decide_eq_false_iff_not]; exact hle
          clear hle hxI
          gi_wp2_with fail
          refine ⟨trivial, (CallsIn.inRound l (callsIn_wide.2 HX6.out)).mono ?_⟩
          rintro e _ ⟨rfl, rfl⟩
          gi_wp2_with fail
          refine ⟨trivial, ?_⟩
          gi_wp2_with fail
          have hmix : Try.prog.follows .mixedOrders = true := by kernel_rfl
          gi_region_o
          clear hmix
          all_goals gi_wp2_with fail
          all_goals (refine ⟨turn_keeps _ _ _ _, .inl ⟨rfl, ?_, ?_, turn_below HBW.out (by omega) _ _⟩⟩)
          all_goals first | (rw [List.length_append]; simp; done) | skip
          all_goals (rw [len_snoc _ _ HNN.out]; exact HH.out.turn (by omega) (by omega) hb6C _ _)
        · have hne : ((x : Int) != (I : Int)) = true := by rw [bne, show ((x : Int) == (I : Int)) = false from by rw [beq_eq_false_iff_ne]; omega]; rfl
          have heq : ((x : Int) == (I : Int)) = false := by rw [beq_eq_false_iff_ne]; omega
          have hxs5 : has s x = true := by have := HOR.out; rw [show decide (x = I) = false from by simp [hxI], Bool.or_false] at this; exact this.symm
          rw [hxs5] at HX5
          gi_wp2_with fail
          refine ⟨trivial, (CallsIn.inRound l (callsIn_wide.2 HX6.out)).mono ?_⟩
          rintro e _ ⟨rfl, rfl⟩
          gi_wp2_with fail
          refine ⟨trivial, (CallsIn.inRound l (callsIn_wide.2 HX5.out)).mono ?_⟩
          rintro e _ ⟨rfl, rfl⟩
          gi_wp2_with fail
          have hmix : Try.prog.follows .mixedOrders = true := by kernel_rfl
          gi_region_o
          clear hmix
          all_goals gi_wp2_with fail
          all_goals (refine ⟨turn_keeps _ _ _ _, turn_keepG (by omega) (by omega) _ _, ?_, ?_, turn_below HBW.out (by omega) _ _⟩)
          all_goals first | (intro y hy; rw [HVS.out] at hy; rcases List.mem_append.1 hy with h | h; exact HNE.out y h; rw [List.mem_singleton] at h; rw [h]; exact hxI) | skip
          all_goals (rw [len_snoc _ _ HNN.out, HVS.out, HLS.out]; exact HH.out.turn (by omega) (by omega) hb6C _ _)
    case done =>
      rintro D ys W hD hys ⟨_, hne, _⟩ hK
      exfalso
      refine hne I ?_ rfl
      rw [hys, mem_elems]
      exact ⟨hI4, by rw [has_or, has_one]; simp⟩
    case stop =>
      rintro D cd pre W hD hpre hix hK
      rcases hix with ⟨rfl, hH, hN, hBW⟩ | ⟨_, hun⟩
      · have hN4 : pre.length ≤ 4096 := by
          have h1 := hpre.length_le
          have h2 := elems_le (jn orW s (one I))
          rw [vals_length] at h1
          omega
        obtain ⟨N, hNN⟩ : ∃ N, pre.length = N := ⟨_, rfl⟩
        rw [hNN] at hH hN hN4
        have HH := Lib.hid hH
        have HBW := Lib.hid hBW
        have HK := Lib.hid hK
        have r3 := hH.b3.1
        have r5 := hH.b5.1
        have r6 := hH.b6.1
        have r8 := hH.b8.1
        have r9 := hH.b9.1
        have r4 := hH.b4.1
        have f4 := hH.b4.2
        clear hH hBW hK hpre hNN
        have HC3 := Lib.hid fun (X : World) (h : Below W.heap.size W X) => (h.cell (p := ⟨B, 0, none⟩) HH.out.b3.lt).trans r3
        have HC4 := Lib.hid fun (X : World) (h : Below W.heap.size W X) => (h.cell (p := ⟨B + 1, 0, none⟩) HH.out.b4.lt).trans r4
        have HF4 := Lib.hid fun (X : World) (h : Below W.heap.size W X) => (h.frozen (p := ⟨B + 1, 0, none⟩) HH.out.b4.lt).trans f4
        have HC6 := Lib.hid fun (X : World) (h : Below W.heap.size W X) => (h.cell (p := ⟨b6, 0, none⟩) HH.out.b6.lt).trans r6
        have HC8 := Lib.hid fun (X : World) (h : Below W.heap.size W X) => (h.cell (p := ⟨C, 0, none⟩) HH.out.b8.lt).trans r8
        have HC9 := Lib.hid fun (X : World) (h : Below W.heap.size W X) => (h.cell (p := ⟨C + 1, 0, none⟩) HH.out.b9.lt).trans r9
        have HT7 := Lib.hid fun (X : World) (h : Below W.heap.size W X) => HH.out.hs7.keep h
        have HT6 := Lib.hid fun (X : World) (h : Below W.heap.size W X) => HH.out.hs6.keep h
        have HA : Hid (∀ (X : World), Below W.heap.size W X → Calls Try.prog 28 #[.slice ad6 n6 c6', .int .i64 (I : Int)] X fun e w' => e = .returned (.bool true) ∧ X = w') := fun X h => by
          have := has_any _ _ I X (HT6.out X h) (by omega)
          rwa [show has (jn orW s (one I)) I = true by rw [has_or, has_one]; simp] at this
        have HO : Hid (∀ (X : World), Below W.heap.size W X → Calls Try.prog 28 #[.slice ad7 n7 c7, .int .i64 (I : Int)] X fun e w' => e = .returned (.bool false) ∧ X = w') := fun X h => by
          have := has_any _ _ I X (HT7.out X h) (by omega)
          rwa [show has (jn subW s (one I)) I = false by rw [has_sub, has_one]; simp] at this
        have HWO := Lib.hid fun (X : World) (h : Below W.heap.size W X) => without_any _ _ I X (HT6.out X h) hI4
        have HWI := Lib.hid fun (X : World) (h : Below W.heap.size W X) => with_any _ _ I X (HT7.out X h) hI4
        have HT1 : Hid (∀ X, Below W.heap.size W X → SetAt X (.slice ad7 n7 c7) (jn subW (jn orW s (one I)) (one I))) := fun X h => by rw [without_law]; exact HT7.out X h
        have HT3 : Hid (∀ X, Below W.heap.size W X → SetAt X (.slice ad6 n6 c6') (jn orW (jn subW s (one I)) (one I))) := fun X h => by rw [with_law]; exact HT6.out X h
        have hle7 := elems_le (jn subW s (one I))
        have hlw := len_with s I hI4
        obtain ⟨M, hM⟩ : ∃ M, (elems (jn subW s (one I))).length = M := ⟨_, rfl⟩
        rw [hM] at hlw hle7
        have HL6 : Hid (∀ (X : World), Below W.heap.size W X → Calls Try.prog 24 #[.slice ad6 n6 c6'] X fun e w' => e = .returned (.int .i64 ((M : Int) + 1)) ∧ Below X.heap.size X w') := fun X h => by
          have := len_any _ _ X (HT6.out X h)
          rw [hlw] at this
          exact this
        have HL7 : Hid (∀ (X : World), Below W.heap.size W X → Calls Try.prog 24 #[.slice ad7 n7 c7] X fun e w' => e = .returned (.int .i64 (M : Int)) ∧ Below X.heap.size X w') := fun X h => by
          have := len_any _ _ X (HT7.out X h)
          rw [hM] at this
          exact this
        have hN1 : decide ((1 : Int) ≤ (N : Int)) = true := by rw [decide_eq_true_iff]; omega
        have iM : IntKind.i64.wrap ((M : Int) + 1) = (M : Int) + 1 := IntWalk.i64_in _ (by omega)
        have q1 : ¬ B = C := by omega
        have q2 : ¬ C = B := by omega
        have q3 : ¬ b6 = B + 1 := by omega
        have q4 : ¬ B + 1 = b6 := by omega
        have q5 : ¬ C = B + 1 := by omega
        have q6 : ¬ B + 1 = C := by omega
        have q7 : ¬ C + 1 = B + 1 := by omega
        clear hM hlw
        refine (wpIn_wide (n := 6)).2 ?_
        go_wp2_with fail
        go_region_held3 (fun w' => w'.cell? ⟨B, 0, none⟩ = some (.int .i64 (I : Int)) ∧ w'.cell? ⟨b6, 0, none⟩ = some (.slice ad6 n6 c6') ∧ w'.cell? ⟨C, 0, none⟩ = some (.int .i64 (I : Int)) ∧ w'.cell? ⟨C + 1, 0, none⟩ = some (.int .i64 (N : Int))) (go_keep)
          ((first | (go_at_call 28; (with_reducible refine (HA.out _ ?_).mono ?_); (first | exact (Below.refl _ _).drew); rintro e _ ⟨rfl, rfl⟩) | (go_at_call 28; (with_reducible refine (HO.out _ ?_).mono ?_); (first | exact (Below.refl _ _).drew); rintro e _ ⟨rfl, rfl⟩) | (go_at_call 26; (with_reducible refine (HWO.out _ ?_).mono ?_); (first | exact (Below.refl _ _).drew); rintro e x1 ⟨y1, rfl, hs1, hx⟩; obtain ⟨ay1, ny1, cy1, rfl⟩ := hs1.form; have hb1 : Below W.heap.size W x1 := ((Below.refl W.heap.size W).drew).trans (hx.mono (Nat.le_refl _)); have k3 := HC3.out _ hb1; have k6 := HC6.out _ hb1; have k8 := HC8.out _ hb1; have k9 := HC9.out _ hb1; have HY1 := Lib.hid hs1; clear hs1 hx) | (go_at_call 17; (with_reducible refine (equal_same _ _ _ _ HY1.out (HT1.out _ hb1)).mono ?_); rintro e x2 ⟨rfl, hx⟩; have hb2 : Below W.heap.size W x2 := hb1.trans (hx.mono hb1.size); have k3 := HC3.out _ hb2; have k6 := HC6.out _ hb2; have k8 := HC8.out _ hb2; have k9 := HC9.out _ hb2; clear hx) | (go_at_call 25; (with_reducible refine (HWI.out _ ?_).mono ?_); (first | exact (Below.refl _ _).drew | exact hb2); rintro e x3 ⟨y3, rfl, hs3, hx⟩; obtain ⟨ay3, ny3, cy3, rfl⟩ := hs3.form; have hb3 : Below W.heap.size W x3 := hb2.trans (hx.mono hb2.size); have k3 := HC3.out _ hb3; have k6 := HC6.out _ hb3; have k8 := HC8.out _ hb3; have k9 := HC9.out _ hb3; have HY3 := Lib.hid hs3; clear hs3 hx) | (go_at_call 17; (with_reducible refine (equal_same _ _ _ _ HY3.out (HT3.out _ hb3)).mono ?_); rintro e x4 ⟨rfl, hx⟩; have hb4 : Below W.heap.size W x4 := hb3.trans (hx.mono hb3.size); have k3 := HC3.out _ hb4; have k6 := HC6.out _ hb4; have k8 := HC8.out _ hb4; have k9 := HC9.out _ hb4; clear hx) | (go_at_call 24; (with_reducible refine (HL6.out _ ?_).mono ?_); (first | exact (Below.refl _ _).drew | exact hb4); rintro e x5 ⟨rfl, hx⟩; have hb5 : Below W.heap.size W x5 := hb4.trans (hx.mono hb4.size); have k3 := HC3.out _ hb5; have k6 := HC6.out _ hb5; have k8 := HC8.out _ hb5; have k9 := HC9.out _ hb5; clear hx) | (go_at_call 24; (with_reducible refine (HL7.out _ ?_).mono ?_); (first | exact (Below.refl _ _).drew | exact hb5); rintro e x6 ⟨rfl, hx⟩; have hb6 : Below W.heap.size W x6 := hb5.trans (hx.mono hb5.size); have k3 := HC3.out _ hb6; have k6 := HC6.out _ hb6; have k8 := HC8.out _ hb6; have k9 := HC9.out _ hb6; have k4 := HC4.out _ hb6; have kf4 := HF4.out _ hb6; clear hx)))
        have hDW : D < W.heap.size := (Array.getElem?_eq_some_iff.1 HK.out).1
        have hKx : x6.heap[D]? = some (.deferred (some [])) := (hb6.block D hDW).trans HK.out
        have hK' := (KeepsOthers.setCell x6 ⟨B + 1, 0, none⟩ (.bool true)).same D _ hKx rfl
        have hc5 := cell_kept (World.cell?_setCell_same' x6 ⟨B + 1, 0, none⟩ (.bool true) (by rw [k4]; rfl)) (grownBy_putObj' _ D (.deferred none)) (fun r e => by cases e; exact ⟨_, hK', rfl⟩)
        have hBx : Below B w (x6.setCell ⟨B + 1, 0, none⟩ (.bool true)) := (HBW.out.trans (hb6.mono (by have := HBW.out.size; have := HBS.out; omega))).setCell (p := ⟨B + 1, 0, none⟩) (by simp) _
        have hBy := hBx.trans (belowK_b (n₀ := B) (w := w9) (by omega) _ D _ (.deferred none) hD hK' rfl rfl)
        clear k3 k6 k8 k9 k4 kf4 hb6 hKx hBx HK HBW HH
        go_wp2_with fail
        refine ⟨by simp, .inl ⟨_, _, rfl, run_takeDeferred hK', ?_⟩⟩
        refine ⟨.bool true, ?_, rfl, hBy⟩
        simp [results, Try.f5, go_sem, hc5]
      · exact absurd ((elems_sorted _).sublist hpre.sublist) hun
end Go.Proofs.Ytfeibjokifidmaa.Z
namespace Go.Proofs.Ytfeibjokifidmaa
open Go.RowKit

theorem SetsMembersW (a0 : Option Addr) (len0 cap0 : Nat) (z0 : List Int) (a1 : Int) (w : World)
    (w0 : ((a0 = none ∧ len0 = 0 ∧ cap0 = 0 ∧ z0 = []) ∨ ∃ x, a0 = some x ∧ len0 ≤ cap0 ∧ cap0 ≤ maxLen ∧ z0.length = cap0 ∧ (∀ i, i < z0.length → w.cell? (x.add i) = some (.int .i64 (z0.getD i 0))) ∧ ∀ n ∈ z0, (Lit.int .i64 n).wf = true) ∧ cap0 * 8 ≤ 140737488351232)
    (w1 : (Lit.int .i64 a1).wf = true) :
    Calls Try.prog 5 #[.slice a0 len0 cap0, .int .i64 a1] w fun e w' => e = .returned (.bool true) ∧ Below w.heap.size w w' := by
  obtain ⟨ns, hl, hn, hc, hw, hlc⟩ := row_open w0.1
  exact Z.walk5 a0 ns len0 cap0 a1 w hl hn hc (by have := w0.2; omega) (fun c hc => bounds_i64 (hw c hc)) (bounds_i64 w1)
end Go.Proofs.Ytfeibjokifidmaa
