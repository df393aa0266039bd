/- slots.List: the entities in the order of their slots. -/
import Derived.Test.YtfeibjokifidmaaSlots
import Derived.Test.YtfeibjokifidmaaLate
namespace Go.Proofs.Ytfeibjokifidmaa.Z
open Go.RowKit Go.Shelf Go.Proofs.Ytfeibjokifidmaa.M
variable {bz : Nat}

attribute [local go_sem] Oper.semAt_some

theorem Try.info64 : (Try.prog.info? 64).map (fun i => (i.zero, i.size, i.bytes)) = some (some (.agg #[.int .i64 0, .int .i64 0]), 2, 16) := by kernel_rfl
def noDefB (o : Oper) : Bool := match o.op with | .defer _ => false | _ => true
theorem noDef_spec {l : List Oper} (h : l.all noDefB = true) : ∀ (i : Nat) (o : Oper) c, l.toArray[i]? = some o → o.op ≠ .defer c := by
  intro i o c ho hc
  have hm : o ∈ l := by
    rw [List.getElem?_toArray] at ho
    exact List.mem_of_getElem? ho
  have := List.all_eq_true.1 h o hm
  unfold noDefB at this
  rw [hc] at this
  cases this

/-- Entities, as cells. -/
def ents (G : List Nat) (l : List Nat) : List Value := l.flatMap fun n => [.int .i64 ((n : Nat) : Int), .int .i64 ((G[n]?.getD 0 : Nat) : Int)]
theorem ents_length (G l : List Nat) : (ents G l).length = l.length * 2 := by
  induction l with
  | nil => rfl
  | cons x l ih => simp [ents] at ih ⊢; omega
theorem ents_snoc (G l : List Nat) (n : Nat) : ents G (l ++ [n]) = ents G l ++ [.int .i64 ((n : Nat) : Int), .int .i64 ((G[n]?.getD 0 : Nat) : Int)] := by simp [ents]

/-- A row of the call's own abides what turns no cells. -/
theorem row_own {W W' : World} {row : Option Nat} {B : Nat} {e : TypeId} {size : Nat} {v : Value} {n : Nat} {xs : List Value} (h : W.ownsRow B e size v n xs) (hg : W.grownBy W' row) (hr : ∀ r, row = some r → ∃ o : Obj, W.heap[r]? = some o ∧ o.isCells = false) : W'.ownsRow B e size v n xs := by
  refine M.owns_keep h fun k _ hl hk => hg.block k hl fun e => ?_
  obtain ⟨o, ho, hc⟩ := hr k e.symm
  obtain ⟨_, h2⟩ := h
  rcases h2 with ⟨rfl, _⟩ | ⟨g, cap, cur, rfl, _, hh, _⟩
  · cases hk
  · injection hk with hk
    subst hk
    rw [hh] at ho
    injection ho with ho
    subst ho
    cases hc

theorem box_own' {W W' : World} {row : Option Nat} {b : Nat} {v : Value} (h : Box W b v) (hg : W.grownBy W' row) (hr : ∀ r, row = some r → ∃ o : Obj, W.heap[r]? = some o ∧ o.isCells = false) : Box W' b v :=
  ⟨cell_kept h.1 hg hr, (frozen_kept h.1 hg hr).trans h.2⟩
theorem _root_.Go.Proofs.Ytfeibjokifidmaa.Box.grown {W W' : World} {row : Option Nat} {b : Nat} {v : Value} (h : Box W b v) (hg : W.grownBy W' row) (hne : some b ≠ row) : Box W' b v :=
  ⟨hg.cell (a := ⟨b, 0, none⟩) h.1 hne, (hg.frozen_far ⟨b, 0, none⟩ h.lt hne).trans h.2⟩
theorem list_keeps {W W6 : World} {C N : Nat} {ao : Option Addr} {cap b : Nat} {xs : List Value} {u : Value} (hO : W.ownsRow C 64 2 (.slice ao N cap) N xs) {d : Array Value} (hg : (W.alloc (.cells d 64)).drew.grownBy W6 (Value.slice ao N cap).ownBlock) :
    KeepsOthers W (W6.setCell ⟨b, 0, none⟩ u) := by
  refine (((KeepsOthers.alloc _ _).trans (KeepsOthers.drew _)).trans (KeepsOthers.of_grownBy hg fun j o hj ho => ?_)).trans (KeepsOthers.setCell _ _ _)
  obtain ⟨_, h2⟩ := hO.alloc (.cells d 64)
  rcases h2 with ⟨e, _⟩ | ⟨g, cap', cur, e, _, hh, _⟩
  · rw [e] at hj; cases hj
  · rw [e] at hj
    injection hj with hj
    subst hj
    have : (W.alloc (.cells d 64)).drew.heap[g]? = (W.alloc (.cells d 64)).heap[g]? := rfl
    rw [this, hh] at ho
    injection ho with ho
    subst ho
    rfl
theorem list_keepG {W W6 : World} {g b : Nat} {row : Option Nat} {u : Value} {d : Array Value} (hne : some g ≠ row) (hb : g ≠ b) (hgs : g < W.heap.size) (hg : (W.alloc (.cells d 64)).drew.grownBy W6 row) : KeepG g W (W6.setCell ⟨b, 0, none⟩ u) :=
  keepG_t (keepG_t (keepG_below (((Below.refl _ _).alloc (Nat.le_refl _) _).drew) hgs) (fun _ _ hv => hg.cell hv hne)) (keepG_set hb)
/-- What List says. -/
def Listed (G : List Nat) (U : Sets) (w : World) (e : Ending) (w' : World) : Prop :=
  ∃ v, e = .returned v ∧ w'.ownsRow w.heap.size 64 2 v (elems U).length (ents G (elems U)) ∧ Below w.heap.size w w'

set_option maxRecDepth 100000 in
set_option maxHeartbeats 4000000 in
theorem list_any (p : Nat) (G : List Nat) (U F : Sets) (w : World) (h : SlotsAt w p bz G U F) (hI : Inv G U F) :
    Calls Try.prog 39 #[.pointer (some ⟨p, 0, none⟩)] w (Listed G U w) := by
  obtain ⟨i0, hi0, hz0, hz1, hz2⟩ := info_parts Try.info64
  obtain ⟨uv, hu, hsu⟩ := h.used
  have hps := h.sz
  obtain ⟨B, hBs⟩ : ∃ B, w.heap.size = B := ⟨_, rfl⟩
  obtain ⟨W2, hW2⟩ : ∃ W2, (w.alloc (.cells #[.pointer (some ⟨p, 0, none⟩)] 59)).alloc (.cells #[.slice none 0 0] 61) = W2 := ⟨_, rfl⟩
  have b1 : Box W2 B (.pointer (some ⟨p, 0, none⟩)) := by rw [← hW2, ← hBs]; exact (Box.new w 59 _).alloc _
  have b3 : Box W2 (B + 1) (.slice none 0 0) := by rw [← hW2, ← hBs]; have := Box.new (w.alloc (.cells #[.pointer (some ⟨p, 0, none⟩)] 59)) 61 (.slice none 0 0); rwa [World.size_alloc] at this
  have hs2 : W2.heap.size = B + 2 := by rw [← hW2]; simp; omega
  have hb2 : Below w.heap.size w W2 := by rw [← hW2]; exact ((Below.refl _ _).alloc (Nat.le_refl _) _).alloc (by simp) _
  have HALL := Lib.hid (all_any uv U W2 (hsu.keep hb2))
  have hc1 := (hb2.cell (p := ⟨p, 1, none⟩) hps).trans hu
  have HH := Lib.hid (h.keep hb2)
  have HW00 := Lib.hid h
  have c1 := b1.1
  have B1 := Lib.hid b1
  have B3 := Lib.hid b3
  have HB2 := Lib.hid hb2
  have HS2 := Lib.hid hs2
  have HBS := Lib.hid hBs
  clear hsu hu h b1 b3 hb2
  refine (callsIn_wide (n := 6)).1 ?_
  refine callsIn_of_wp_marks Try.func39 rfl trivial ?_ rfl
  simp only [Try.ntmps39, List.size_toArray, List.length_cons, List.length_nil, Nat.reduceAdd, Nat.reduceSub, Array.replicate_succ, Array.replicate_zero, List.push_toArray, List.append_toArray, List.nil_append, List.cons_append]
  refine (wpIn_wide (n := 6)).2 ?_
  go_wp2_with fail
  with_reducible refine HALL.out.mono ?_
  rintro e w3 ⟨Bi, g, rfl, hall, hB1, hB2, hg1, hg2, hbel⟩
  have B1 := Lib.hid (B1.out.keep hbel)
  have B3 := Lib.hid (B3.out.keep hbel)
  have HB3 := Lib.hid (HB2.out.trans (hbel.mono HB2.out.size))
  have HA := Lib.hid hall
  have hz3 := hbel.size
  rw [HS2.out] at hB1 hg1 hz3
  have HW0 : Hid (SlotsAt w p bz G U F) := HW00.out
  clear hall hbel HALL HH c1 hc1 hW2 hs2
  obtain ⟨C, hC⟩ : ∃ C, w3.heap.size = C := ⟨_, rfl⟩
  have HC := Lib.hid hC
  have h0 : (∃ v, Box w3 (B + 1) v ∧ w3.ownsRow C 64 2 v ([] : List (El U)).length (ents G (vals ([] : List (El U))))) ∧ Box w3 B (.pointer (some ⟨p, 0, none⟩)) ∧ Below B w w3 ∧ C ≤ w3.heap.size :=
    ⟨⟨_, B3.out, World.ownsRow_nil _ _ _ _⟩, B1.out, by rw [← HBS.out]; exact HB3.out, Nat.le_of_eq HC.out.symm⟩
  go_wp2_with fail
  refine (wpIn_wide (n := 6)).1 ?_
  refine wpIn_rangeFunc_ownF (F := Fence.wide) rfl (by omega) (gf := 58) (lb := #[.pointer (some ⟨Bi, 0, none⟩)]) rfl trivial (enters_of Try.func58 (by kernel_rfl) rfl)
    (all_stops Fence.wide 5 trivial rfl (by omega) Bi g U w3 HA.out hB2 hg2) keepG_t (keepG_b hg2) (Below.refl _ _) (fun _ => rfl)
    (fun pre W => (∃ v, Box W (B + 1) v ∧ W.ownsRow C 64 2 v pre.length (ents G (vals pre))) ∧ Box W B (.pointer (some ⟨p, 0, none⟩)) ∧ Below B w W ∧ C ≤ W.heap.size)
    (fun _ _ _ => False)
    (fun s W W' row hs hg hr => ⟨hs.1.elim fun v hv => ⟨v, box_own' hv.1 hg (fun r e => (hr r e).2), row_own hv.2 hg (fun r e => (hr r e).2)⟩, box_own' hs.2.1 hg (fun r e => (hr r e).2), ownFrom_below (by rw [HBS.out]; exact Nat.le_refl _) (by rw [HC.out]; omega) s W W' row hs.2.2.1 hg hr, Nat.le_trans hs.2.2.2 hg.size⟩)
    (fun _ _ _ _ _ hs _ _ => hs)
    h0 ?a1 ?assign ?body ?done ?stop
  case assign =>
    intro l x W K hK
    gi_wp2_with fail
    exact hK
  case body =>
    rintro l pre ⟨x, hx4, hxs⟩ W ⟨⟨v, hbv, hO⟩, hb1, hB, hCWx⟩ hlen
    have hxG := hI.u x hxs
    have HCWx := Lib.hid hCWx
    clear hCWx
    have hS := HW0.out.keep (by rw [HBS.out]; exact hB)
    obtain ⟨gb, c, hc0, hpg, hgs, hgx, _⟩ := hS.genAt hxG
    have hpw := hS.sz
    have r1 := hb1.1
    have r3 := hbv.1
    have f3 := hbv.2
    have l1 := hb1.lt
    have l3 := hbv.lt
    obtain ⟨ao, cap, rfl, _, _, _⟩ := owns_source hO
    obtain ⟨N, hN⟩ : ∃ N, pre.length = N := ⟨_, rfl⟩
    obtain ⟨n, hn⟩ : ∃ n, G.length = n := ⟨_, rfl⟩
    obtain ⟨gx, hgxe⟩ : ∃ gx, G[x]?.getD 0 = gx := ⟨_, rfl⟩
    rw [hN] at hO r3 hbv hlen
    rw [hn] at hc0 hxG
    rw [hgxe] at hgx
    have HO := Lib.hid hO
    have HBV := Lib.hid hbv
    have HBX := Lib.hid hb1
    have HBW := Lib.hid hB
    have ix0 : (0 : Int) ≤ (x : Int) := Int.natCast_nonneg _
    have ix1 : (x : Int) < (n : Int) := by omega
    have HN := Lib.hid hN
    have HGX := Lib.hid hgxe
    have HCW : Hid (C ≤ W.heap.size) := HCWx.out
    clear hO hbv hb1 hB hS hN hn hgxe
    gi_wp2_with fail
    refine round_late (S := fun w' => ∃ k m, w' = ext W k m) 10 3 [11, 12] (by kernel_rfl) rfl (by kernel_rfl) (noDef_spec (by kernel_rfl)) ?hL (by kernel_rfl) (by kernel_rfl) ?hQ ⟨[], W.drawn + 1, (by rw [← ext_nil W]; rfl)⟩ ?_
    case hL => rintro ⟨_, _, h⟩; exact h
    case hQ => exact fun _ _ _ _ h => h
    simp only [List.take_succ_cons, List.take_zero]
    repeat (go_big_quiet_step (fail))
    refine wpQuiet_nil ?_
    refine late_one (i := 10) (by kernel_rfl) rfl rfl ?_
    go_simp
    refine ⟨ext_of (((Below.refl _ _).alloc (Nat.le_refl _) _).drew), ?_⟩
    refine late_one (i := 11) (by kernel_rfl) rfl rfl ?_
    have hCW : C ≤ W.heap.size := HCW.out
    refine wp_append_lies _ _ _ 61 rfl C 64 i0 (.agg #[.int .i64 0, .int .i64 0]) 2 16 Try.underlying61 hi0 hz0 hz1 hz2 rfl (by decide) (.slice ao N cap) N (ents G (vals pre)) (by rfl) ((HO.out.alloc _).drew) ⟨W.heap.size, 0, none⟩ 1 1 [.int .i64 (x : Int), .int .i64 (gx : Int)] (by rfl) (by rfl)
      (World.news_of_block (cs := #[.int .i64 (x : Int), .int .i64 (gx : Int)]) (t := 64) (fr := (0, 0)) (heap_alloc_new W _)) (by simp [Value.oneCell']) (by omega) (by unfold maxLen; omega) (by omega) (by simp; omega) (W.heap.size + 1) (by simp) ?_
    intro gg cp w6 hO6 hg6 hat hlt6
    refine ⟨fun h => (h (by decide)).elim, ?_⟩
    have hnb : some (B + 1) ≠ (Value.slice ao N cap).ownBlock := fun e => by have := (HO.out.lt _ e.symm).1; omega
    have hnb0 : some B ≠ (Value.slice ao N cap).ownBlock := fun e => by have := (HO.out.lt _ e.symm).1; omega
    have hng : some g ≠ (Value.slice ao N cap).ownBlock := fun e => by have := (HO.out.lt _ e.symm).1; omega
    have bv6 := ((HBV.out.alloc (.cells #[.int .i64 (x : Int), .int .i64 (gx : Int)] 64)).drew).grown hg6 hnb
    have bx6 := ((HBX.out.alloc (.cells #[.int .i64 (x : Int), .int .i64 (gx : Int)] 64)).drew).grown hg6 hnb0
    have q3 := bv6.1
    have qf3 := bv6.2
    have HBV6 := Lib.hid bv6
    have HBX6 := Lib.hid bx6
    have HO6 := Lib.hid hO6
    have HG6 := Lib.hid hg6
    clear bv6 bx6 hO6 hg6 hat
    refine late_one (i := 12) (by kernel_rfl) rfl rfl ?_
    go_simp
    refine ⟨by kernel_rfl, ?_⟩
    have hBl : B + 1 < C := by omega
    have hW1 : Below B w ((W.alloc (.cells #[.int .i64 (x : Int), .int .i64 (gx : Int)] 64)).drew) := ((HBW.out.alloc (by omega) _).drew)
    have hW6 : Below B w w6 := hW1.grown HG6.out (by simp; omega) (fun k hk => by have := (HO.out.lt _ hk).1; omega)
    refine ⟨list_keeps HO.out HG6.out, list_keepG hng (by omega) (by omega) HG6.out, ⟨⟨_, HBV6.out.set _, ?_⟩, HBX6.out.other (by omega) _ _, hW6.setCell (p := ⟨B + 1, 0, none⟩) (by simp) _, ?_⟩⟩
    · rw [vals_snoc, ents_snoc, HGX.out, List.length_append, HN.out]
      exact HO6.out.kept (grownBy_setCell' w6 (B + 1) _) (.inr (fun e => by have := (HO6.out.lt _ e).1; omega))
    · have := HG6.out.size
      simp at this ⊢
      omega
  case done =>
    rintro D ys W hD hys ⟨⟨v, hbv, hO⟩, _, hB, hCW⟩ hK
    have r3 := hbv.1
    obtain ⟨ao, cap, rfl, _, _, _⟩ := owns_source hO
    have HO := Lib.hid hO
    have HBW := Lib.hid hB
    clear hO hB
    go_wp2_with fail
    refine ⟨by simp, .inl ⟨_, _, rfl, run_takeDeferred hK, ?_⟩⟩
    refine ⟨_, results_tmp rfl _ _ _, .slice ao ys.length cap, rfl, ?_, ?_⟩
    · have hlen : ys.length = (elems U).length := by rw [← hys, vals_length]
      have h1 := row_own HO.out (grownBy_putObj' W D (.deferred none)) (fun r e => by cases e; exact ⟨_, hK, rfl⟩)
      rw [hys, hlen] at h1
      rw [hlen]
      exact owns_mono h1 (by rw [HBS.out]; omega)
    · rw [HBS.out]
      exact HBW.out.trans (belowK_b (n₀ := B) (w := w3) (by omega) W D _ (.deferred none) hD hK rfl rfl)
  case stop =>
    rintro D cd pre W _ _ h _
    exact h.elim
end Go.Proofs.Ytfeibjokifidmaa.Z
