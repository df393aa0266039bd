/- For every input, SlotsOld returns true. No condition. -/
import Derived.Test.YtfeibjokifidmaaSlotsC
import Derived.Test.YtfeibjokifidmaaSlotsK
import Derived.OpenShut
namespace Go.Proofs.Ytfeibjokifidmaa.Z
open Go.RowKit Go.Shelf Go.Proofs.Ytfeibjokifidmaa.M
attribute [local go_sem ↓] run_mn

/-- Entities that were freed, as cells. -/
def olds (O : List (Nat × Nat)) : List Value := O.flatMap fun e => [.int .i64 ((e.1 : Nat) : Int), .int .i64 ((e.2 : Nat) : Int)]
theorem olds_snoc (O : List (Nat × Nat)) (e : Nat × Nat) : olds (O ++ [e]) = olds O ++ [.int .i64 ((e.1 : Nat) : Int), .int .i64 ((e.2 : Nat) : Int)] := by simp [olds]
theorem olds_at {O : List (Nat × Nat)} {k : Nat} {e : Nat × Nat} (h : O[k]? = some e) : (olds O)[k * 2]? = some (.int .i64 ((e.1 : Nat) : Int)) ∧ (olds O)[k * 2 + 1]? = some (.int .i64 ((e.2 : Nat) : Int)) := by
  induction O generalizing k with
  | nil => simp at h
  | cons a l ih =>
    have he : olds (a :: l) = .int .i64 ((a.1 : Nat) : Int) :: .int .i64 ((a.2 : Nat) : Int) :: olds l := by simp [olds]
    rw [he]
    match k with
    | 0 => simp at h; subst h; simp
    | k + 1 =>
      have := ih (k := k) (by simpa using h)
      rw [show (k + 1) * 2 = k * 2 + 1 + 1 by omega]
      simpa using this
/-- What was freed never comes again. -/
structure Gone (G : List Nat) (O : List (Nat × Nat)) (k : Nat) : Prop where
  len : G.length ≤ k
  gens : ∀ i : Nat, G[i]?.getD 0 ≤ k
  num : O.length ≤ k
  old : ∀ e ∈ O, e.1 < G.length ∧ e.2 < G[e.1]?.getD 0
theorem Gone.start : Gone [] [] 0 := ⟨by simp, by simp, by simp, by simp⟩
theorem Gone.step {G : List Nat} {O : List (Nat × Nat)} {k : Nat} (h : Gone G O k) : Gone G O (k + 1) := ⟨by have := h.len; omega, fun i => by have := h.gens i; omega, by have := h.num; omega, h.old⟩
theorem Gone.take {G : List Nat} {O : List (Nat × Nat)} {k : Nat} (h : Gone G O k) (x : Nat) : Gone (grown G x) O (k + 1) := by
  unfold grown
  split
  · refine ⟨by simp; exact h.len, fun i => ?_, by have := h.num; omega, fun e he => ?_⟩
    · rw [List.getElem?_append]
      split
      · have := h.gens i; omega
      · rcases Nat.eq_zero_or_pos (i - G.length) with h0 | h0
        · rw [h0]; simp
        · rw [List.getElem?_eq_none (by simp; omega)]; simp
    · obtain ⟨h1, h2⟩ := h.old e he
      refine ⟨by simp; omega, by rw [List.getElem?_append_left h1]; exact h2⟩
  · exact h.step
theorem Gone.free {G : List Nat} {O : List (Nat × Nat)} {k : Nat} (h : Gone G O k) {x : Nat} (hx : x < G.length) : Gone (G.set x (G[x]?.getD 0 + 1)) (O ++ [(x, G[x]?.getD 0)]) (k + 1) := by
  have hg : ∀ i : Nat, (G.set x (G[x]?.getD 0 + 1))[i]?.getD 0 = if x = i then G[x]?.getD 0 + 1 else G[i]?.getD 0 := by
    intro i
    by_cases e : x = i
    · subst e; rw [List.getElem?_set_self hx, if_pos rfl]; rfl
    · rw [List.getElem?_set_ne e, if_neg e]
  refine ⟨by simp; have := h.len; omega, fun i => ?_, by simp; exact h.num, fun e he => ?_⟩
  · rw [hg]
    split
    · have := h.gens x; omega
    · have := h.gens i; omega
  · rw [List.length_set, hg]
    rcases List.mem_append.1 he with he | he
    · obtain ⟨h1, h2⟩ := h.old e he
      refine ⟨h1, ?_⟩
      split
      · rename_i e'; rw [← e'] at h2; omega
      · exact h2
    · rw [List.mem_singleton] at he
      subst he
      refine ⟨hx, ?_⟩
      rw [if_pos rfl]
      exact Nat.lt_succ_self _

theorem Gone.drop {G : List Nat} {O : List (Nat × Nat)} {e : Nat × Nat} {k : Nat} (h : Gone G (O ++ [e]) k) : Gone G O k := ⟨h.len, h.gens, by have := h.num; simp at this; omega, fun x hx => h.old x (List.mem_append_left _ hx)⟩
theorem tdiv3 {z : Int} (h : -9223372036854775808 ≤ z ∧ z ≤ 9223372036854775807) : -9223372036854775808 ≤ z.tdiv 3 ∧ z.tdiv 3 ≤ 9223372036854775807 := by
  rw [Int.tdiv_eq_ediv]
  split
  · omega
  · rw [show Int.sign 3 = 1 from rfl]; omega

/-- The memory between two rounds. -/
structure Between (w wr : World) (p : Nat) (v : Value) (G : List Nat) (U F : Sets) (O : List (Nat × Nat)) (k : Nat) : Prop where
  slots : SlotsAt wr p G U F
  inv : Inv G U F
  gone : Gone G O k
  row : wr.ownsRow (p + 1) 64 2 v O.length (olds O)
  nil : O = [] → v = .slice none 0 0
  apart : ∀ b, v.ownBlock = some b → b ≠ p ∧ some b ≠ gb wr p
  below : Below w.heap.size w wr
theorem Between.keep {w wr W : World} {p : Nat} {v : Value} {G : List Nat} {U F : Sets} {O : List (Nat × Nat)} {k : Nat} (h : Between w wr p v G U F O k) (hb : Below wr.heap.size wr W) : Between w W p v G U F O k := by
  refine ⟨h.slots.keep hb, h.inv, h.gone, owns_below h.row hb (Nat.le_refl _), h.nil, fun b hv => ?_, h.below.trans (hb.mono h.below.size)⟩
  have : gb W p = gb wr p := by unfold gb; rw [hb.cell (p := ⟨p, 0, none⟩) h.slots.sz]
  rw [this]
  exact h.apart b hv
/-- A call on the slots. -/
theorem Between.turn {w wr W : World} {p : Nat} {v : Value} {G G' : List Nat} {U F U' F' : Sets} {O : List (Nat × Nat)} {k k' : Nat} (h : Between w wr p v G U F O k) (hw : w.heap.size ≤ p) (ht : Turn p wr W) (hs : SlotsAt W p G' U' F') (hi : Inv G' U' F') (hg : Gone G' O k') : Between w W p v G' U' F' O k' := by
  refine ⟨hs, hi, hg, ht.row h.row h.apart, h.nil, fun b hv => ⟨(h.apart b hv).1, fun e => ?_⟩, h.below.trans (ht.below h.slots hw)⟩
  have hl := (h.row.lt b hv).2
  rcases ht.next with e2 | e2
  · rw [e2] at e; exact (h.apart b hv).2 e
  · have := e2 b e.symm; omega
theorem SlotsAt.far {W W' : World} {row : Option Nat} {p : Nat} {G : List Nat} {U F : Sets} (h : SlotsAt W p G U F) (hg : W.grownBy W' row) (hr : ∀ k, row = some k → k ≠ p ∧ some k ≠ gb W p ∧ ∃ z, W.cell? ⟨k, 0, none⟩ = some (.int .i64 z)) : SlotsAt W' p G U F := by
  obtain ⟨gv, h1, h2⟩ := h.gens
  obtain ⟨uv, h3, h4⟩ := h.used
  obtain ⟨fv, h5, h6⟩ := h.free
  have hp : some p ≠ row := fun e => (hr p e.symm).1 rfl
  refine ⟨⟨gv, hg.cell h1 hp, M.owns_keep h2 fun k _ hl hk => hg.block k hl fun e => (hr k e.symm).2.1 (by unfold gb; rw [h1]; exact hk.symm)⟩, ⟨uv, hg.cell h3 hp, h4.grow hg fun k hk => .inr (hr k hk).2.2⟩, ⟨fv, hg.cell h5 hp, h6.grow hg fun k hk => .inr (hr k hk).2.2⟩, fun j => (hg.frozen_far ⟨p, j, none⟩ h.sz hp).trans (h.fz j), Nat.lt_of_lt_of_le h.sz hg.size⟩
/-- One more entity that was freed. -/
theorem Between.push {w W w7 : World} {p g7 c7 : Nat} {v : Value} {G : List Nat} {U F : Sets} {O : List (Nat × Nat)} {e : Nat × Nat} {k k' : Nat} {o : Obj} (h : Between w W p v G U F O k) (hw : w.heap.size ≤ p) (hg7 : (W.alloc o).grownBy w7 v.ownBlock)
    (hO7 : w7.ownsRow (p + 1) 64 2 (.slice (some ⟨g7, 0, none⟩) (O.length + 1) c7) (O.length + 1) (olds O ++ [.int .i64 ((e.1 : Nat) : Int), .int .i64 ((e.2 : Nat) : Int)])) (hat : v.ownBlock = some g7 ∨ g7 = W.heap.size + 1) (hg : Gone G (O ++ [e]) k') :
    Between w w7 p (.slice (some ⟨g7, 0, none⟩) (O.length + 1) c7) G U F (O ++ [e]) k' := by
  have hb1 : Below W.heap.size W (W.alloc o) := (Below.refl _ _).alloc (Nat.le_refl _) _
  have hgb1 : gb (W.alloc o) p = gb W p := by unfold gb; rw [hb1.cell (p := ⟨p, 0, none⟩) h.slots.sz]
  have hpn : some p ≠ v.ownBlock := fun e => (h.apart p e.symm).1 rfl
  have hgb7 : gb w7 p = gb W p := by
    rw [← hgb1]
    obtain ⟨gv, h1, _⟩ := (h.slots.keep hb1).gens
    unfold gb
    rw [hg7.cell h1 hpn, h1]
  refine ⟨(h.slots.keep hb1).far hg7 fun k hk => ⟨(h.apart k hk).1, by rw [hgb1]; exact (h.apart k hk).2, ?_⟩, h.inv, hg, ?_, fun h0 => by simp at h0, fun b hb => ?_, (h.below.trans (hb1.mono h.below.size)).grown hg7 (by have := h.below.size; simp; omega) (fun k hk => by have := (h.row.lt k hk).1; omega)⟩
  · have hne : O ≠ [] := fun h0 => by rw [h.nil h0] at hk; cases hk
    have hl : 1 ≤ O.length := by cases O with | nil => exact absurd rfl hne | cons _ _ => simp
    obtain ⟨g, c, rfl, _, hgl, _, _, _, hcl, _⟩ := owns_open h.row hl
    cases hk
    obtain ⟨y, hy⟩ : ∃ y, O[0]? = some y := ⟨_, List.getElem?_eq_getElem hl⟩
    have := (olds_at hy).1
    exact ⟨_, (hb1.cell (p := ⟨g, 0, none⟩) hgl).trans ((hcl 0 (by omega)).trans this)⟩
  · have e1 : (O ++ [e]).length = O.length + 1 := List.length_append
    rw [e1, olds_snoc]
    exact hO7
  · cases hb
    rw [hgb7]
    rcases hat with hat | hat
    · exact h.apart _ hat
    · have hs := h.slots.sz
      refine ⟨?_, fun e => ?_⟩
      · show g7 ≠ p; omega
      · have := (h.slots.gb_gt e.symm).2; simp at this; omega

set_option maxRecDepth 8000 in
set_option maxHeartbeats 4000000 in
theorem walk8 (a : Option Addr) (zs : List Int) (len cap : Nat) (w : World) (hl : zs.length = len) (hn : a = none → len = 0 ∧ cap = 0)
    (hc : ∀ x, a = some x → ∀ j u, (zs.map (Value.int .i64))[j]? = some u → w.cell? (x.add j) = some u) (hlc : len ≤ cap) (hr : len ≤ 9223372036854775807)
    (hw : ∀ z ∈ zs, -9223372036854775808 ≤ z ∧ z ≤ 9223372036854775807) :
    Calls Try.prog 8 #[.slice a len cap] w fun e w' => e = .returned (.bool true) ∧ Below w.heap.size w w' := by
  obtain ⟨i0, hi0, hz0, hz1, hz2⟩ := info_parts Try.info3
  obtain ⟨i1, hj0, hy0, hy1, hy2⟩ := info_parts Try.info64
  obtain ⟨n, hcm, hcn, hc2⟩ : ∃ c : Nat, mn (len : Int) 200 = (c : Int) ∧ c ≤ len ∧ c ≤ 200 := by
    unfold mn
    by_cases h : len ≤ 200
    · exact ⟨len, by rw [if_neg (by omega)], by omega, by omega⟩
    · exact ⟨200, by rw [if_pos (by omega)]; rfl, by omega, by omega⟩
  have hcut : ∀ W : World, (Instr.slice 22 (.slice a len cap) none (some (.int .i64 (n : Int))) none).run Try.prog W = .ok (.slice a n cap) W := fun W => run_cut W 22 3 a len cap n i0 Try.underlying22 hi0 (by omega) (fun h => (hn h).2)
  have HC : Hid (∀ k, k < n → ∃ x, a = some x ∧ ∀ W, Below w.heap.size w W → W.cell? (x.add k) = some (.int .i64 (zs[k]?.getD 0))) := by
    intro k hk
    cases a with
    | none => have := (hn rfl).1; omega
    | some x =>
      have h := hc x rfl k (.int .i64 (zs[k]?.getD 0)) (by rw [List.getElem?_map, List.getElem?_eq_getElem (by omega)]; rfl)
      exact ⟨x, rfl, fun W hW => (hW.cell (World.block_lt_of_cell? w _ h)).trans h⟩
  have HW : Hid (∀ k, k < n → -9223372036854775808 ≤ zs[k]?.getD 0 ∧ zs[k]?.getD 0 ≤ 9223372036854775807) := by
    intro k hk
    rw [List.getElem?_eq_getElem (by omega)]
    exact hw _ (List.getElem_mem _)
  clear hn hc hl hw hi0 hz0 hz1 hz2
  go_enter Try.func8, Try.ntmps8
  go_wp2_with fail
  with_reducible refine (begun_any w).mono ?_
  rintro e w1 ⟨rfl, hb1⟩
  have HB1 := Lib.hid hb1
  clear hb1
  go_wp2_with fail
  with_reducible refine (new_any w1).mono ?_
  rintro e w2 ⟨rfl, hs2, hb2⟩
  obtain ⟨p, hp⟩ : ∃ p, w1.heap.size = p := ⟨_, rfl⟩
  have hwp : w.heap.size ≤ p := by rw [← hp]; exact HB1.out.size
  have hb2' := HB1.out.trans (hb2.mono HB1.out.size)
  rw [hp] at hs2 ⊢
  have HE2 : Hid (Between w w2 p (.slice none 0 0) [] none' none' [] 0) := ⟨hs2, Inv.empty, Gone.start, World.ownsRow_nil _ _ _ _, fun _ => rfl, (fun b hb => nomatch hb), hb2'⟩
  clear hs2 hb2 hb2' HB1 hp
  go_wp2_with fail
  go_loopw [4, 6, 7, 8, 9, 10, 22] (fun v4 _ _ _ _ _ i wr => ∃ (k : Nat) (G : List Nat) (U F : Sets) (O : List (Nat × Nat)), i = .int .i64 k ∧ k ≤ n ∧ Between w wr p v4 G U F O k) (fun _ _ _ _ _ _ i _ => n - (intOf i).toNat)
  case atStart => exact ⟨0, [], none', none', [], rfl, Nat.zero_le _, HE2.out⟩
  case round =>
    obtain ⟨k, G, U, F, O, rfl, hk, hE⟩ := hrel
    have HE := Lib.hid hE
    clear hE
    by_cases hlt : k < n
    · obtain ⟨x, rfl, hx⟩ := HC.out k hlt
      have hxk := hx wr HE.out.below
      obtain ⟨z, hz⟩ : ∃ z, zs[k]?.getD 0 = z := ⟨_, rfl⟩
      have hwz := HW.out k hlt
      rw [hz] at hxk hwz
      have HL := Lib.hid (list_any p G U F wr HE.out.slots HE.out.inv)
      clear hx hz
      go_wp2_with fail
      with_reducible refine HL.out.mono ?_
      rintro e w3 ⟨v3, rfl, hr3, hb3⟩
      have HE3 := Lib.hid (HE.out.keep hb3)
      have HR3 := Lib.hid hr3
      have HSZ := Lib.hid (HE.out.slots.sz)
      have HGB : Hid (∀ b, gb w3 p = some b → b < wr.heap.size) := fun b hb => by
        have : gb w3 p = gb wr p := by unfold gb; rw [hb3.cell (p := ⟨p, 0, none⟩) HE.out.slots.sz]
        rw [this] at hb
        exact (HE.out.slots.gb_gt hb).2
      obtain ⟨m, hm⟩ : ∃ m, (elems U).length = m := ⟨_, rfl⟩
      obtain ⟨ao3, cap3, rfl, hn3, _, _⟩ := owns_source hr3
      rw [hm] at hn3 ⊢
      have HM := Lib.hid hm
      have hm4 : m ≤ 4096 := by rw [← hm]; exact elems_le U
      clear hr3 hb3 hm HL HE hxk
      obtain ⟨t, ht⟩ : ∃ t, z.tmod 3 = t := ⟨_, rfl⟩
      by_cases hd : t = 0 ∧ 0 < m
      · obtain ⟨rfl, hm1⟩ := hd
        obtain ⟨j, hj⟩ : ∃ j : Nat, (z.tdiv 3) % (m : Int) = (j : Int) := ⟨((z.tdiv 3) % (m : Int)).toNat, by have := Int.emod_nonneg (z.tdiv 3) (show (m : Int) ≠ 0 by omega); omega⟩
        have hjm : j < m := by have := Int.emod_lt_of_pos (z.tdiv 3) (show (0 : Int) < (m : Int) by omega); omega
        have hbl := fun W => below_any (z.tdiv 3) m W (by omega) (by omega) (tdiv3 hwz).1 (tdiv3 hwz).2
        rw [hj] at hbl
        have HBL := Lib.hid hbl
        obtain ⟨b3, c3, he3, _, hb3, _, _, _, hcl3, _⟩ := owns_open HR3.out (by rw [HM.out]; omega)
        cases he3
        obtain ⟨y, hy⟩ : ∃ y, (elems U)[j]? = some y := ⟨_, List.getElem?_eq_getElem (by rw [HM.out]; exact hjm)⟩
        obtain ⟨hy4, hyU⟩ := mem_elems.1 (List.mem_of_getElem? hy)
        obtain ⟨e0, e1⟩ := ents_at (G := G) hy
        have d0 := (hcl3 (j * 2) (by rw [HM.out]; omega)).trans e0
        have d1 := (hcl3 (j * 2 + 1) (by rw [HM.out]; omega)).trans e1
        obtain ⟨g, hg⟩ : ∃ g, G[y]?.getD 0 = g := ⟨_, rfl⟩
        rw [hg] at d1
        have hgk : g ≤ k := by rw [← hg]; exact HE3.out.gone.gens y
        have HG := Lib.hid hg
        have ij0 : (0 : Int) ≤ (j : Int) := Int.natCast_nonneg _
        have ij1 : (j : Int) < (m : Int) := by omega
        clear hbl hj hcl3 hy e0 e1 hg hn3
        go_wp2_with fail
        with_reducible refine (HBL.out w3).mono ?_
        rintro e _ ⟨rfl, rfl⟩
        go_wp2_with fail
        obtain ⟨B4, hB4⟩ : ∃ B4, w3.heap.size = B4 := ⟨_, rfl⟩
        have hb4 : Below w3.heap.size w3 (w3.alloc (.cells #[.int .i64 (y : Nat), .int .i64 (g : Nat)] 64)) := (Below.refl _ _).alloc (Nat.le_refl _) _
        have ht4 : Two (w3.alloc (.cells #[.int .i64 (y : Nat), .int .i64 (g : Nat)] 64)) B4 (.int .i64 (y : Nat)) (.int .i64 (g : Nat)) := by rw [← hB4]; exact ⟨by simp, by simp, by simp, by simp⟩
        have hE4 := HE3.out.keep hb4
        have hgb4 : gb (w3.alloc (.cells #[.int .i64 (y : Nat), .int .i64 (g : Nat)] 64)) p = gb w3 p := by unfold gb; rw [hb4.cell (p := ⟨p, 0, none⟩) HE3.out.slots.sz]
        have hgB : some B4 ≠ gb (w3.alloc (.cells #[.int .i64 (y : Nat), .int .i64 (g : Nat)] 64)) p := fun e => by
          rw [hgb4] at e
          have := (HE3.out.slots.gb_gt e.symm).2
          omega
        have hpB : B4 ≠ p := by have := HE3.out.slots.sz; omega
        have hz4 : (w3.alloc (.cells #[.int .i64 (y : Nat), .int .i64 (g : Nat)] 64)).heap.size = B4 + 1 := by rw [← hB4]; simp
        rw [hB4]
        generalize (w3.alloc (.cells #[.int .i64 (y : Nat), .int .i64 (g : Nat)] 64)) = W4 at hb4 ht4 hE4 hgb4 hgB hz4 ⊢
        have hyG : y < G.length := HE3.out.inv.u y hyU
        with_reducible refine (free_ok p G U F W4 hE4.slots hE4.inv y g hy4 hyU HG.out (by omega)).mono ?_
        rintro e w5 ⟨rfl, hs5, ht5⟩
        have hI5 := hE4.inv.free hyU (g + 1)
        have hgone := hE4.gone.free hyG
        rw [HG.out] at hgone
        have HE5 := Lib.hid (hE4.turn hwp ht5 hs5 hI5 hgone.drop)
        have HGN := Lib.hid hgone
        have HT5 := Lib.hid (Two.turn ht5 ht4 hpB hgB)
        obtain ⟨c0, c1, _, _⟩ := HT5.out
        have hz5 : B4 < w5.heap.size := HT5.out.lt
        have hno : (has (jn subW U (one y)) y && ((G.set y (g + 1))[y]?.getD 0 == g)) = false := by rw [has_sub, has_one]; simp
        have HNO := Lib.hid (free_no p _ _ _ w5 hs5 hI5 y g hy4 hno)
        clear hb4 ht4 hE4 hgb4 hgB hz4 hs5 ht5 hI5 hgone hno d0 d1 HE3 HR3 HGB
        go_wp2_with fail
        with_reducible refine HNO.out.mono ?_
        rintro e w6 ⟨rfl, hb6⟩
        have HE6 := Lib.hid (HE5.out.keep hb6)
        have HT6 := Lib.hid (HT5.out.keep hb6)
        clear hb6 c0 c1 hz5 HE5 HT5 HNO
        obtain ⟨c0, c1, _, _⟩ := HT6.out
        have hz6 : B4 < w6.heap.size := HT6.out.lt
        obtain ⟨q, hq⟩ : ∃ q, O.length = q := ⟨_, rfl⟩
        have hqk : q ≤ k + 1 := by rw [← hq]; exact HE6.out.gone.num
        have hO6 := HE6.out.row
        rw [hq] at hO6
        have HO6 := Lib.hid hO6
        have HQ := Lib.hid hq
        have hpw6 := HE6.out.slots.sz
        clear hO6 hq
        go_wp2_with (at_builtin; refine wpList_append_lies _ rfl _ _ 61 rfl (p + 1) 64 i1 (.agg #[.int .i64 0, .int .i64 0]) 2 16 Try.underlying61 hj0 hy0 hy1 hy2 rfl (by decide) _ q _ rfl (HO6.out.alloc _) ⟨w6.heap.size, 0, none⟩ 1 1 [.int .i64 (y : Nat), .int .i64 (g : Nat)] rfl rfl (World.news_of_block (cs := #[.int .i64 (y : Nat), .int .i64 (g : Nat)]) (t := 64) (fr := (0, 0)) (heap_alloc_new w6 _)) (by simp [Value.oneCell']) (by decide) (by unfold maxLen; omega) (by omega) (by simp; omega) (w6.heap.size + 1) (by simp) ?_)
        intro g7 c7 w7 hO7 hg7 hat hlt7
        have HE7 := Lib.hid (HE6.out.push (k' := k + 1) (e := (y, g)) hwp hg7 (by rw [HQ.out]; exact hO7) hat HGN.out)
        rw [HQ.out] at HE7
        clear hO7 hg7 hat hlt7 HE6 HT6 c0 c1 hz6
        go_wp2_with fail
        go_roundw
        case rel => exact ⟨k + 1, _, _, _, _, by go_num, by omega, HE7.out⟩
        case measure => simp [intOf]; omega
      · have hx5 : next F G.length ≤ G.length ∧ G.length ≤ k := ⟨(next_spec HE3.out.inv).1, HE3.out.gone.len⟩
        have HTK := Lib.hid (take_any p G U F w3 HE3.out.slots HE3.out.inv)
        have hgu : (t == 0) = false ∨ ((t == 0) = true ∧ decide (0 < m) = false) := by
          by_cases h0 : t = 0
          · right
            refine ⟨by rw [h0]; rfl, ?_⟩
            rw [decide_eq_false_iff_not]
            intro h
            exact hd ⟨h0, by omega⟩
          · left
            rw [beq_eq_false_iff_ne]; exact h0
        clear hd hwz
        rcases hgu with hgu | ⟨hgu, hgu2⟩
        all_goals
          go_wp2_with fail
          with_reducible refine HTK.out.mono ?_
          rintro e w4 htk
          obtain ⟨y, hy⟩ : ∃ y, next F G.length = y := ⟨_, rfl⟩
          unfold Taken at htk
          rw [hy] at htk hx5
          rcases htk with htk | ⟨hbad, _⟩
          rotate_left
          · omega
          obtain ⟨_, rfl, hs4, ht4⟩ := htk
          have hyU : has U y = false := by rw [← hy]; exact (next_spec HE3.out.inv).2.2
          have hI4 := HE3.out.inv.take (by rw [hy]; omega)
          rw [hy] at hI4
          have hE4 := HE3.out.turn hwp ht4 hs4 hI4 (HE3.out.gone.take y)
          have hR4 := ht4.row HR3.out (fun b hb => ⟨by have := (HR3.out.lt b hb).1; have := HSZ.out; omega, fun e => by have := (HR3.out.lt b hb).1; have := HGB.out b e.symm; omega⟩)
          obtain ⟨g, hg⟩ : ∃ g, (grown G y)[y]?.getD 0 = g := ⟨_, rfl⟩
          rw [hg]
          have HE4 := Lib.hid hE4
          have HR4 := Lib.hid hR4
          have HG := Lib.hid hg
          clear hs4 ht4 hI4 hE4 hR4 hg hy HTK HE3 HR3 HGB HSZ
          go_wp2_with fail
          obtain ⟨B4, hB4⟩ : ∃ B4, w4.heap.size = B4 := ⟨_, rfl⟩
          have hb5 : Below w4.heap.size w4 (w4.alloc (.cells #[.int .i64 (y : Nat), .int .i64 (g : Nat)] 64)) := (Below.refl _ _).alloc (Nat.le_refl _) _
          have ht5 : Two (w4.alloc (.cells #[.int .i64 (y : Nat), .int .i64 (g : Nat)] 64)) B4 (.int .i64 (y : Nat)) (.int .i64 (g : Nat)) := by rw [← hB4]; exact ⟨by simp, by simp, by simp, by simp⟩
          have hE5 := HE4.out.keep hb5
          have hR5 := owns_below HR4.out hb5 (Nat.le_refl _)
          rw [hB4]
          generalize (w4.alloc (.cells #[.int .i64 (y : Nat), .int .i64 (g : Nat)] 64)) = W5 at hb5 ht5 hE5 hR5 ⊢
          have HCN := Lib.hid (contains_no _ G (elems U) _ W5 hR5 y g (fun h => by have := (mem_elems.1 h).2; rw [hyU] at this; cases this) (by rw [HM.out]; exact hm4) (fun z hz => (mem_elems.1 hz).1))
          rw [HM.out] at HCN
          have HE5 := Lib.hid hE5
          have HT5 := Lib.hid ht5
          clear hb5 ht5 hE5 hR5 HE4 HR4 hB4
          obtain ⟨c0, c1, _, _⟩ := HT5.out
          have hz5 : B4 < W5.heap.size := HT5.out.lt
          with_reducible refine HCN.out.mono ?_
          rintro e w6 ⟨rfl, hb6⟩
          have HE6 := Lib.hid (HE5.out.keep hb6)
          have HT6 := Lib.hid (HT5.out.keep hb6)
          clear hb6 c0 c1 hz5 HE5 HT5 HCN
          obtain ⟨c0, c1, _, _⟩ := HT6.out
          have hz6 : B4 < w6.heap.size := HT6.out.lt
          have HAL := alive_any p _ _ _ w6 HE6.out.slots HE6.out.inv y g (by omega)
          rw [show (has (jn orW U (one y)) y && ((grown G y)[y]?.getD 0 == g)) = true by rw [has_or, has_one, HG.out]; simp] at HAL
          have HAL := Lib.hid HAL
          go_wp2_with fail
          with_reducible refine HAL.out.mono ?_
          rintro e w7 ⟨rfl, hb7⟩
          have HE7 := Lib.hid (HE6.out.keep hb7)
          clear hb7 c0 c1 hz6 HE6 HT6 HAL
          go_wp2_with fail
          go_roundw
          case rel => exact ⟨k + 1, _, _, _, _, by go_num, by omega, HE7.out⟩
          case measure => simp [intOf]; omega
    · obtain rfl : k = n := by omega
      obtain ⟨q, hq⟩ : ∃ q, O.length = q := ⟨_, rfl⟩
      have hE := HE.out
      have hrow := hE.row
      obtain ⟨ao, cap4, rfl, _, _, _⟩ := owns_source hrow
      rw [hq] at hrow hE ⊢
      have HE := Lib.hid hE
      have HQ := Lib.hid hq
      have hqk : q ≤ k := by rw [← hq]; exact hE.gone.num
      clear hrow hE hq
      go_wp2_with fail
      go_loopw [12, 79] (fun _ i wx => ∃ j : Nat, i = .int .i64 j ∧ j ≤ q ∧ Between w wx p (.slice ao q cap4) G U F O k) (fun _ i _ => q - (intOf i).toNat)
      case atStart => exact ⟨0, rfl, Nat.zero_le _, HE.out⟩
      case round =>
        obtain ⟨j, rfl, hj, hE⟩ := hrel
        have HE := Lib.hid hE
        clear hE
        by_cases hlj : j < q
        · obtain ⟨b3, c3, he3, _, hb3, _, _, _, hcl3, _⟩ := owns_open HE.out.row (by rw [HQ.out]; omega)
          rw [HQ.out] at he3
          cases he3
          obtain ⟨y, hy⟩ : ∃ y, O[j]? = some y := ⟨_, List.getElem?_eq_getElem (by rw [HQ.out]; exact hlj)⟩
          obtain ⟨e0, e1⟩ := olds_at hy
          have d0 := (hcl3 (j * 2) (by rw [HQ.out]; omega)).trans e0
          have d1 := (hcl3 (j * 2 + 1) (by rw [HQ.out]; omega)).trans e1
          obtain ⟨ho1, ho2⟩ := HE.out.gone.old y (List.mem_of_getElem? hy)
          have hlen := HE.out.gone.len
          obtain ⟨N, g⟩ := y
          simp only at d0 d1 ho1 ho2
          have ij0 : (0 : Int) ≤ (j : Int) := Int.natCast_nonneg _
          have ij1 : (j : Int) < (q : Int) := by omega
          clear hcl3 hy e0 e1
          go_wp2_with fail
          have hb4 : Below wr.heap.size wr (wr.alloc (.cells #[.int .i64 (N : Nat), .int .i64 (g : Nat)] 64)) := (Below.refl _ _).alloc (Nat.le_refl _) _
          have hE4 := HE.out.keep hb4
          have HAL := alive_any p _ _ _ _ hE4.slots hE4.inv N g (by omega)
          rw [show (has U N && (G[N]?.getD 0 == g)) = false by rw [show (G[N]?.getD 0 == g) = false from beq_eq_false_iff_ne.2 (by omega)]; simp] at HAL
          with_reducible refine HAL.mono ?_
          rintro e w7 ⟨rfl, hb7⟩
          have HE7 := Lib.hid (hE4.keep hb7)
          clear hb4 hE4 HAL hb7 d0 d1
          go_wp2_with fail
          go_roundw
          case rel => exact ⟨j + 1, by go_num, by omega, HE7.out⟩
          case measure => simp [intOf]; omega
        · obtain rfl : j = q := by omega
          have HGE := Lib.hid (gens_any p G U F wr HE.out.slots HE.out.inv.n256)
          have hgl := HE.out.gone.len
          obtain ⟨m, hm⟩ : ∃ m, G.length = m := ⟨_, rfl⟩
          rw [hm] at HGE hgl
          have hle : decide ((m : Int) ≤ 200) = true := by rw [decide_eq_true_iff]; omega
          go_wp2_with fail
          with_reducible refine HGE.out.mono ?_
          rintro e w7 ⟨⟨ad, c, rfl⟩, hb7⟩
          have HE7 := Lib.hid (HE.out.below.trans (hb7.mono HE.out.below.size))
          clear hb7
          go_wp2_with fail
          go_ret
          exact ⟨by simp, HE7.out⟩
end Go.Proofs.Ytfeibjokifidmaa.Z
namespace Go.Proofs.Ytfeibjokifidmaa
open Go.RowKit

theorem SlotsOldW (a0 : Option Addr) (len0 cap0 : Nat) (z0 : List Int) (w : World)
    (w0 : ((a0 = none ∧ len0 = 0 ∧ cap0 = 0 ∧ z0 = []) ∨ ∃ x, a0 = some x ∧ len0 ≤ cap0 ∧ cap0 ≤ maxLen ∧ z0.length = cap0 ∧ (∀ i, i < z0.length → w.cell? (x.add i) = some (.int .i64 (z0.getD i 0))) ∧ ∀ n ∈ z0, (Lit.int .i64 n).wf = true) ∧ cap0 * 8 ≤ 140737488351232) :
    Calls Try.prog 8 #[.slice a0 len0 cap0] w fun e w' => e = .returned (.bool true) ∧ Below w.heap.size w w' := by
  obtain ⟨ns, hl, hn, hc, hw, hlc⟩ := row_open w0.1
  exact Z.walk8 a0 ns len0 cap0 w hl hn hc hlc (by have := w0.2; omega) (fun c hc => bounds_i64 (hw c hc))
end Go.Proofs.Ytfeibjokifidmaa
