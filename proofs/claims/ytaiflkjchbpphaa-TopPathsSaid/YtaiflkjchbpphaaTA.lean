/- TopPaths: the walk, with the form's own premises. -/
import Derived.Test.YtaiflkjchbpphaaGC
import Derived.Test.YtaiflkjchbpphaaPw
import Derived.Test.YtaiflkjchbpphaaPx
import Derived.Test.YtaiflkjchbpphaaPr
import Derived.Test.YtaiflkjchbpphaaTv
import Derived.Test.YtaiflkjchbpphaaPj
import Derived.Deep.CutBlock
import Derived.OpenShut
namespace Go.Proofs.Ytaiflkjchbpphaa.P
open Go.RowKit

theorem Msh.put {pp np cc nc : Nat} {X Y : Nat → Int} {z qc q : Nat → Nat} {K : Nat → Nat → Nat} {w : World} (h : Msh pp np cc nc X Y z qc q K w) {o j : Nat} (h1 : o < pp) (h2 : o < cc) (h3 : ∀ i, i < nc → o < q i) (v : Value) : Msh pp np cc nc X Y z qc q K (w.setCell ⟨o, j, none⟩ v) := by
  have e : ∀ (g k : Nat), o < g → (w.setCell ⟨o, j, none⟩ v).cell? ⟨g, k, none⟩ = w.cell? ⟨g, k, none⟩ := fun g k hg => World.cell?_setCell_other _ _ _ _ (fun x => by have := congrArg Addr.block x; simp at this; omega)
  have es : (w.setCell ⟨o, j, none⟩ v).heap.size = w.heap.size := by simp [World.setCell]
  exact ⟨fun k hk => ⟨(e _ _ h1).trans (h.pts k hk).1, (e _ _ h1).trans (h.pts k hk).2⟩, fun i hi => (e _ _ h2).trans (h.row i hi), fun i j hi hj => (e _ _ (h3 i hi)).trans (h.kor i j hi hj), h.lt, h.z3, by rw [es]; exact h.pl, by rw [es]; exact h.cl, fun i hi => by rw [es]; exact h.ql i hi⟩
theorem Bfs.congr {N : Nat} {C : Nat → Prop} {A A' : Nat → Nat → Prop} {g : Nat} {O : Nat → Int} (h : Bfs N C A g O) (hA : ∀ a b, a < N → b < N → (A a b ↔ A' a b)) : Bfs N C A' g O :=
  ⟨h.val, fun a ha h0 => by
    obtain ⟨h1, h2 | ⟨b, b1, b2, b3, b4⟩⟩ := h.done a ha h0
    · exact ⟨h1, .inl h2⟩
    · exact ⟨h1, .inr ⟨b, b1, (hA b a b1 ha).1 b2, b3, b4⟩⟩, fun a b ha hb hab => h.edge a b ha hb ((hA a b ha hb).2 hab), h.goal⟩
theorem Way.val {nc : Nat} {N : Nat → Nat → Int} {F : Nat → Int} {b a : Nat} {l : List Nat} (h : Way nc N F b a l) : F a + 1 = F b + l.length := by
  induction h with
  | stop => simp
  | step a c l hab hc h ih =>
    have := hc.2.2.1
    rw [List.length_cons]
    push_cast
    omega
theorem Made.above {w w' : World} {W H : Nat} {L : List Pt} {rs : List (Nat × List Nat)} {kd : Nat → Nat} {gp pcap gc ccap : Nat} (h : Made w W H L rs kd (.slice (some ⟨gp, 0, none⟩) L.length pcap) (.slice (some ⟨gc, 0, none⟩) rs.length ccap) w') : w.heap.size ≤ gp ∧ w.heap.size ≤ gc ∧ ∀ i, i < rs.length → w.heap.size ≤ qq rs i := by
  refine ⟨(owns_at h.pts).1, (owns_at h.own).1, fun i hi => ?_⟩
  have e : rs[i]? = some (rs.getD i (0, [])) := by rw [List.getD_eq_getElem?_getD, List.getElem?_eq_getElem hi]; rfl
  exact (h.row _ (List.mem_of_getElem? e)).2

theorem Ptl.on {w w' : World} {g : Nat} {L : List Pt} (h : Ptl w g L) (hg : g < w.heap.size) (hb : Below w.heap.size w w') : Ptl w' g L := fun k P hP =>
  ⟨(hb.cell (p := ⟨g, k * 2, none⟩) hg).trans (h k P hP).1, (hb.cell (p := ⟨g, k * 2 + 1, none⟩) hg).trans (h k P hP).2⟩

theorem at_oneP (V : World) (P : Pt) : At (V.alloc (.cells #[.int .i64 P.1, .int .i64 P.2] 24)).drew V.heap.size P := by
  refine ⟨?_, ?_, ?_, ?_, by simp⟩ <;> simp [go_sem]

set_option maxRecDepth 8000 in
set_option maxHeartbeats 8000000 in
theorem paths_core (ao : Option Addr) (ns : List Int) (cap : Nat) (a b c d : Int) (w : World) (hn : ao = none → ns.length = 0) (hsrc : ∀ x, ao = some x → ∀ (j : Nat) (v : Int), ns[j]? = some v → w.cell? (x.add j) = some (.int .i64 v)) (hsb : ∀ x, ao = some x → 0 < ns.length → x.block < w.heap.size)
    (hbd : ∀ v ∈ ns, -9223372036854775808 ≤ v ∧ v ≤ 9223372036854775807) (hl : ns.length ≤ 17592186044416)
    (ha : -9223372036854775808 ≤ a ∧ a ≤ 9223372036854775807) (hb : -9223372036854775808 ≤ b ∧ b ≤ 9223372036854775807) (hc : -9223372036854775808 ≤ c ∧ c ≤ 9223372036854775807) (hd : -9223372036854775808 ≤ d ∧ d ≤ 9223372036854775807) :
    Calls Try.prog 3 #[.slice ao ns.length cap, .int .i64 a, .int .i64 b, .int .i64 c, .int .i64 d] w fun e w' => e = .returned (.bool true) ∧ Below w.heap.size w w' := by
  have hmesh := Lib.hid fun w' (hb : Below w.heap.size w w') => mesh_any ao ns cap w' hn (fun x hx j v hv => by
      rw [hb.cell (p := x.add j) (by
        rw [add_block]
        refine hsb x hx ?_
        rcases Nat.eq_zero_or_pos ns.length with e | e
        · rw [List.getElem?_eq_none (by omega)] at hv; cases hv
        · exact e)]
      exact hsrc x hx j v hv) (fun x hx h0 => Nat.lt_of_lt_of_le (hsb x hx h0) hb.size) hbd hl
  have HAB := Lib.hid (And.intro (And.intro ha hb) (And.intro hc hd))
  clear hsrc hsb hbd hl hn ha hb hc hd
  go_enter Try.func3, Try.ntmps3
  go_upto_region 3 with fail
  go_wp2_with fail
  obtain ⟨q, hq⟩ : ∃ q, w.heap.size + 1 + 1 + 1 = q := ⟨_, rfl⟩
  obtain ⟨V, hV⟩ : ∃ V, (((w.alloc (Obj.cells #[.int .i64 0, .int .i64 0, .int .i64 65536, .int .i64 0, .int .i64 65536, .int .i64 65536, .int .i64 0, .int .i64 65536] 24)).alloc (Obj.cells #[.int .i64 0, .int .i64 1, .int .i64 2, .int .i64 3] 3)).alloc (Obj.cells #[.slice (some ⟨w.heap.size + 1, 0, none⟩) 4 4] 22)).alloc (Obj.cells #[.slice (some ⟨w.heap.size, 0, none⟩) 4 4, .slice (some ⟨w.heap.size + 1 + 1, 0, none⟩) 1 1] 28) = V := ⟨_, rfl⟩
  have hM : Msh w.heap.size 4 (w.heap.size + 1 + 1) 1 uX uY (fun _ => 4) (fun _ => 4) (fun _ => w.heap.size + 1) (fun _ j => j) V := by
    rw [← hV]
    refine ⟨fun k hk => ?_, fun i hi => ?_, fun i j hi hj => ?_, fun i j _ hj => hj, fun i _ => by omega, by simp <;> omega, by simp, fun i _ => by simp⟩
    · match k, hk with
      | 0, _ => exact ⟨by simp [go_sem, uX], by simp [go_sem, uY]⟩
      | 1, _ => exact ⟨by simp [go_sem, uX], by simp [go_sem, uY]⟩
      | 2, _ => exact ⟨by simp [go_sem, uX], by simp [go_sem, uY]⟩
      | 3, _ => exact ⟨by simp [go_sem, uX], by simp [go_sem, uY]⟩
    · obtain rfl : i = 0 := by omega
      simp [go_sem]
    · match j, hj with
      | 0, _ => simp [go_sem]
      | 1, _ => simp [go_sem]
      | 2, _ => simp [go_sem]
      | 3, _ => simp [go_sem]
  have hVb : Below w.heap.size w V := by rw [← hV]; exact Below.al (Below.al (Below.al (Below.al (Below.refl _ _) _) _) _) _
  have hq0 : V.cell? ⟨q, 0, none⟩ = some (.slice (some ⟨w.heap.size, 0, none⟩) 4 4) := by rw [← hV, ← hq]; simp [go_sem]
  have hq1 : V.cell? ⟨q, 1, none⟩ = some (.slice (some ⟨w.heap.size + 1 + 1, 0, none⟩) 1 1) := by rw [← hV, ← hq]; simp [go_sem]
  have hqf : ∀ j, V.frozen? ⟨q, j, none⟩ = false := fun j => by rw [← hV, ← hq]; simp [go_sem]
  have hqs : q < V.heap.size := by rw [← hV, ← hq]; simp
  have hwq : w.heap.size ≤ q := by omega
  try rw [hV]
  try simp only [hq]
  clear hV
  refine (path_any w.heap.size 4 4 (w.heap.size + 1 + 1) 1 1 uX uY _ _ _ _ (0, 0) (65536, 65536) V hM unit_good (by unfold Small; simp) (by unfold Small; simp)).mono ?_
  rintro e w1 ⟨⟨rfl, hlo⟩ | ⟨i, k, m, N, F, l, kf, raw, v, rfl, hR, hp, hsr, hown⟩, hb1⟩
  · exact absurd hlo unit_lost
  have h2 := unit_len hR hp
  rw [h2] at hown
  obtain ⟨gv, cv, rfl, hgv⟩ := owns_open hown (by omega)
  have r0 := (hb1.cell (p := ⟨q, 0, none⟩) hqs).trans hq0
  have r1 := (hb1.cell (p := ⟨q, 1, none⟩) hqs).trans hq1
  have rf := fun j => (hb1.frozen (p := ⟨q, j, none⟩) hqs).trans (hqf j)
  have rs := Nat.lt_of_lt_of_le hqs hb1.size
  have HW1 := Lib.hid (hVb.trans (hb1.mono hVb.size))
  clear hM hVb hq0 hq1 hqf hqs hb1 hR hp hown h2 hsr hgv raw kf l F N m k i
  go_wp2_with fail
  refine (hmesh.out w1 HW1.out).mono ?_
  rintro e w2 ⟨W, H, L, rs', kd, vp, vc, rfl, hmade⟩
  obtain ⟨av, capv, rfl⟩ := own_slice hmade.pts
  obtain ⟨ac, capc, rfl⟩ := own_slice hmade.own
  have q0 := (hmade.bel.cell (p := ⟨q, 0, none⟩) rs).trans r0
  have q1 := (hmade.bel.cell (p := ⟨q, 1, none⟩) rs).trans r1
  have qf := fun j => (hmade.bel.frozen (p := ⟨q, j, none⟩) rs).trans (rf j)
  have qf0 := qf 0
  have qf1 := qf 1
  have qs := Nat.lt_of_lt_of_le rs hmade.bel.size
  have HMD := Lib.hid hmade
  clear hmade r0 r1 rf
  go_upto_region 7 with fail
  obtain ⟨W3, hW3⟩ : ∃ W3, (w2.setCell ⟨q, 0, none⟩ (.slice av L.length capv)).setCell ⟨q, 1, none⟩ (.slice ac rs'.length capc) = W3 := ⟨_, rfl⟩
  have hne : ∀ (Y : World) (i j : Nat) (y : Value), i ≠ j → (Y.setCell ⟨q, i, none⟩ y).cell? ⟨q, j, none⟩ = Y.cell? ⟨q, j, none⟩ := fun Y i j y h => World.cell?_setCell_other _ _ _ _ (fun e => h (congrArg Addr.off e))
  have p0 : W3.cell? ⟨q, 0, none⟩ = some (.slice av L.length capv) := by
    rw [← hW3, hne _ 1 0 _ (by omega)]
    exact World.cell?_setCell_same _ _ _ q0
  have p1 : W3.cell? ⟨q, 1, none⟩ = some (.slice ac rs'.length capc) := by
    rw [← hW3]
    exact World.cell?_setCell_same _ _ _ ((hne _ 0 1 _ (by omega)).trans q1)
  have ps : q < W3.heap.size := by rw [← hW3]; simp only [World.setCell, Array.size_modify]; exact qs
  have HW3 : Hid (Below w.heap.size w W3) := by
    show Below w.heap.size w W3
    rw [← hW3]
    exact ((HW1.out.trans (HMD.out.bel.mono HW1.out.size)).setCell (p := ⟨q, 0, none⟩) hwq _).setCell (p := ⟨q, 1, none⟩) hwq _
  have HMS : Hid (rs'.length = 0 ∨ ∃ gp gc, av = some ⟨gp, 0, none⟩ ∧ ac = some ⟨gc, 0, none⟩ ∧ 1 ≤ rs'.length ∧ Msh gp L.length gc rs'.length (LX L) (LY L) (zz rs') (zz rs') (qq rs') (KK rs') W3) := by
    show _ ∨ _
    rcases Nat.eq_zero_or_pos rs'.length with h | h
    · exact .inl h
    · right
      have hm := HMD.out
      have hlen : 1 ≤ L.length := by rw [hm.len]; exact Nat.mul_pos (by omega) (by omega)
      obtain ⟨gp, cp, e1, _⟩ := owns_open hm.pts hlen
      obtain ⟨gc, cc, e2, _⟩ := owns_open hm.own h
      injection e1 with e1 e1' e1''
      injection e2 with e2 e2' e2''
      subst e1 e2
      obtain ⟨k1, k2, k3⟩ := hm.above
      refine ⟨gp, gc, rfl, rfl, h, ?_⟩
      rw [← hW3]
      exact (hm.msh.put (by omega) (by omega) (fun i hi => by have := k3 i hi; omega) _).put (by omega) (by omega) (fun i hi => by have := k3 i hi; omega) _
  rw [hW3]
  clear hW3 q0 q1 qf qf0 qf1 qs
  have hin : ∃ P Q : Pt, (InM 1703936 P ∧ InM 1703936 Q) ∧ ∀ w', Below W3.heap.size W3 w' → Calls Try.prog 7 #[.agg #[.slice av L.length capv, .slice ac rs'.length capc], .int .i64 a, .int .i64 b] w' (Inned P w') ∧ Calls Try.prog 7 #[.agg #[.slice av L.length capv, .slice ac rs'.length capc], .int .i64 c, .int .i64 d] w' (Inned Q w') := by
    rcases HMS.out with h | ⟨gp, gc, rfl, rfl, h1, hM⟩
    · rw [h]
      exact ⟨(0, 0), (0, 0), ⟨by unfold InM; simp, by unfold InM; simp⟩, fun w' _ => ⟨in_none _ _ _ _ _ _ _ _, in_none _ _ _ _ _ _ _ _⟩⟩
    · have hg := HMD.out.good
      have hX : ∀ k, k < L.length → (-1703936 ≤ LX L k ∧ LX L k ≤ 1703936) ∧ (-1703936 ≤ LY L k ∧ LY L k ≤ 1703936) := fun k hk => HMD.out.in k hk
      obtain ⟨r1, r2⟩ := HMD.out.rng
      exact ⟨_, _, ⟨inPt_in h1 r2 r1 hX a b, inPt_in h1 r2 r1 hX c d⟩, fun w' hb => ⟨in_any _ _ _ _ _ _ _ _ _ _ _ _ 1703936 a b w' (hM.on hb) h1 hg.hnc (by omega) (by omega) hX HAB.out.1.1 HAB.out.1.2, in_any _ _ _ _ _ _ _ _ _ _ _ _ 1703936 c d w' (hM.on hb) h1 hg.hnc (by omega) (by omega) hX HAB.out.2.1 HAB.out.2.2⟩⟩
  obtain ⟨P, Q, HPQ, hin⟩ := hin
  have HPQ := Lib.hid HPQ
  have hd1 := fun W h => (hin W h).1
  have hd2 := fun W h => (hin W h).2
  clear hin
  unfold Inned at hd1 hd2
  go_cut [15, 16] from 15 to 69 (fun v15 v16 wx => ∃ g1 g2 : Nat, v15 = .pointer (some ⟨g1, 0, none⟩) ∧ v16 = .pointer (some ⟨g2, 0, none⟩) ∧ At wx g1 P ∧ At wx g2 Q ∧ Below W3.heap.size W3 wx)
  case first =>
    apply F.region_flow2 10 [15, 16] [8, 9] (fun _ => undef) _ (Two W3.heap.size (fun t => if t = 15 then P else Q))
    case hm => kernel_rfl
    case hB => kernel_rfl
    case hw' =>
      intro k
      simp (decide := true) only [List.take_succ_cons, List.take_zero, F.maskFrom, if_true, if_false]
      repeat (go_big_quiet_step ((first | (intro _; go_at_call 7; with_reducible exact F.grow_of2 (hd1 _ (below_ext _ _ _))) | (intro _; go_at_call 7; with_reducible exact F.grow_of2 (hd2 _ (below_ext _ _ _))))))
      exact wpQuiet_nil rfl
    case hJ0 => exact fun f w => ⟨fun t ht hl => (by rw [getD_replicate_false] at hl; cases hl), fun t u ht hu htu hl => (by rw [getD_replicate_false] at hl; cases hl)⟩
    case hJq =>
      intro i listed f W k n' hi hni h
      refine (h.mark i ?_).on (below_ext _ _ _)
      simp only [List.mem_cons, List.not_mem_nil, or_false] at hni
      omega
    case hJf =>
      intro listed f f' W hff h
      have e : ∀ t, (15 ≤ t ∧ t ≤ 16) → f t = f' t := fun t ht => hff t (by
        simp only [List.mem_cons, List.not_mem_nil, or_false]; omega)
      exact ⟨fun t ht hl => by rw [← e t ht]; exact h.1 t ht hl, fun t u ht hu htu h1 h2 => by rw [← e t ht, ← e u hu]; exact h.2 t u ht hu htu h1 h2⟩
    case hph =>
      intro i hi hin o' d' ho hd listed f k m' hsz hun hcl hJ ρ
      simp only [List.mem_cons, List.not_mem_nil, or_false] at hi
      rcases hi with rfl | rfl
      · obtain rfl := Option.some.inj (show some _ = some o' from ho)
        obtain rfl := Option.some.inj (show some _ = some d' from hd)
        refine run_new24 ⟨hJ.made (by rw [size_ext]; omega) 15 (by omega) (by rw [hsz]; decide) ?_, ?_⟩
        · cases hh : listed.getD 10 false with
          | false => rfl
          | true => have := hcl 10 hh 8 (by kernel_rfl); rw [this] at hun; cases hun
        · obtain ⟨k', m', e⟩ := ext_of (Below.al (below_ext W3 k m') (.cells #[.int .i64 0, .int .i64 0] 24))
          exact ⟨k', m', e⟩
      · obtain rfl := Option.some.inj (show some _ = some o' from ho)
        obtain rfl := Option.some.inj (show some _ = some d' from hd)
        refine run_new24 ⟨hJ.made (by rw [size_ext]; omega) 16 (by omega) (by rw [hsz]; decide) ?_, ?_⟩
        · cases hh : listed.getD 11 false with
          | false => rfl
          | true => have := hcl 11 hh 9 (by kernel_rfl); rw [this] at hun; cases hun
        · obtain ⟨k', m', e⟩ := ext_of (Below.al (below_ext W3 k m') (.cells #[.int .i64 0, .int .i64 0] 24))
          exact ⟨k', m', e⟩
    case hst =>
      intro i hi hin o' ho listed f k m' hsz hun hwf hJ
      obtain rfl | rfl : i = 10 ∨ i = 11 := by simp at hin; omega
      · obtain rfl := Option.some.inj (show some _ = some o' from ho)
        have hl := hwf 8 (by kernel_rfl)
        obtain ⟨g', e1, e2, e3⟩ := hJ.1 15 (by omega) hl
        refine run_put24 (P := P) ((show _ = f 15 from rfl).trans e1) rfl e3 (fun u => ⟨hJ.stored 15 g' (by omega) (by rw [hsz]; decide) hl e1 P rfl, ?_⟩)
        obtain ⟨k', m', e⟩ := ext_of (((below_ext W3 k m').setCell (p := ⟨g', 0, none⟩) e2 (.int .i64 P.1)).setCell (p := ⟨g', 1, none⟩) e2 (.int .i64 P.2))
        exact ⟨k', m', e⟩
      · obtain rfl := Option.some.inj (show some _ = some o' from ho)
        have hl := hwf 9 (by kernel_rfl)
        obtain ⟨g', e1, e2, e3⟩ := hJ.1 16 (by omega) hl
        refine run_put24 (P := Q) ((show _ = f 16 from rfl).trans e1) rfl e3 (fun u => ⟨hJ.stored 16 g' (by omega) (by rw [hsz]; decide) hl e1 Q rfl, ?_⟩)
        obtain ⟨k', m', e⟩ := ext_of (((below_ext W3 k m').setCell (p := ⟨g', 0, none⟩) e2 (.int .i64 Q.1)).setCell (p := ⟨g', 1, none⟩) e2 (.int .i64 Q.2))
        exact ⟨k', m', e⟩
    case hend =>
      intro listed f k m' hall hJ
      obtain ⟨g1, e1, _, a1⟩ := hJ.1 15 (by omega) (hall 8 (by decide))
      obtain ⟨g2, e2, _, a2⟩ := hJ.1 16 (by omega) (hall 9 (by decide))
      have b1 : At (ext W3 k m') g1 P := by have h := a1; simp [hall 10 (by decide)] at h; exact h
      have b2 : At (ext W3 k m') g2 Q := by have h := a2; simp [hall 11 (by decide)] at h; exact h
      have HF := Lib.hid (And.intro b1 b2)
      simp (decide := true) only [F.ghosted, List.foldl_cons, List.foldl_nil, e1, e2]
      clear hJ hall a1 a2 e1 e2 b1 b2
      go_wp2_with fail
      go_meet
      exact ⟨g1, g2, rfl, rfl, HF.out.1, HF.out.2, below_ext _ _ _⟩
  case rest =>
    obtain ⟨g1, g2, rfl, rfl, ha1, ha2, hb1⟩ := hcut
    have HWC := Lib.hid (HW3.out.trans (hb1.mono HW3.out.size))
    have q0 := (hb1.cell (p := ⟨q, 0, none⟩) ps).trans p0
    have q1 := (hb1.cell (p := ⟨q, 1, none⟩) ps).trans p1
    have qs := Nat.lt_of_lt_of_le ps hb1.size
    have HB1 := Lib.hid hb1
    have HA := Lib.hid (And.intro ha1 ha2)
    have a0 := ha1.c0
    have a1 := ha1.c1
    have al := ha1.lt
    have b0 := ha2.c0
    have b1 := ha2.c1
    have bl := ha2.lt
    obtain ⟨px, py⟩ := P
    obtain ⟨qx, qy⟩ := Q
    simp only at a0 a1 b0 b1
    clear ha1 ha2 hb1 p0 p1 ps hd1 hd2
    rcases HMS.out with h | ⟨gp, gc, rfl, rfl, h1, hM⟩
    · rw [h] at q1
      have hp := fun W => path_none av ac L.length capv capc (px, py) (qx, qy) W HMD.out.good.hnp
      go_wp2_with fail
      refine (hp wc).mono ?_
      rintro e w4 ⟨rfl, hb4⟩
      clear hp
      go_wp2_with fail
      go_ret
      exact ⟨rfl, HWC.out.trans (hb4.mono HWC.out.size)⟩
    · have hp := fun W h => path_any gp L.length capv gc rs'.length capc (LX L) (LY L) (zz rs') (zz rs') (qq rs') (KK rs') (px, py) (qx, qy) W (hM.on h) HMD.out.good (by have := HPQ.out.1; unfold InM at this; unfold Small; simp only at this ⊢; omega) (by have := HPQ.out.2; unfold InM at this; unfold Small; simp only at this ⊢; omega)
      go_wp2_with fail
      refine (hp wc HB1.out).mono ?_
      rintro e w4 ⟨⟨rfl, _⟩ | ⟨i, k, m, N, Fd, l, kf, raw, v, rfl, hR, hpul, hsr, hown⟩, hb4⟩
      · clear hp
        go_wp2_with fail
        go_ret
        exact ⟨rfl, HWC.out.trans (hb4.mono HWC.out.size)⟩
      · have hlaw := made_law HMD.out HPQ.out.1 HPQ.out.2 hR hpul
        have HL := Lib.hid hlaw
        have HR := Lib.hid hR
        have HSR := Lib.hid hsr
        obtain ⟨gv2, cv2, rfl, hgv2⟩ := owns_open hown hlaw.pos
        have HO := Lib.hid hown
        have hsP : Small (px, py) := by have := HPQ.out.1; unfold InM at this; unfold Small; simp only at this ⊢; omega
        have hsQ : Small (qx, qy) := by have := HPQ.out.2; unfold InM at this; unfold Small; simp only at this ⊢; omega
        have HS := Lib.hid (And.intro hsP hsQ)
        have HM4 := Lib.hid (hM.on (HB1.out.trans (hb4.mono HB1.out.size)))
        have HW4 := Lib.hid (HWC.out.trans (hb4.mono HWC.out.size))
        have hpl := hlaw.pos
        obtain ⟨n, hn⟩ : ∃ n, (pln raw).length = n := ⟨_, rfl⟩
        rw [hn] at hpl hgv2
        simp only [hn]
        have HN := Lib.hid hn
        have hl16 : n ≤ 1000 := by
          have k1 := pln_le raw
          have k2 := hpul.len
          have k3 := hR.mn
          have k4 := HMD.out.good.hnc
          omega
        have HIM : Hid (∀ P ∈ pln raw, InM 1703936 P) := fun P hP => hpul.in (gts_in HMD.out.rng.1 HMD.out.rng.2 HMD.out.in HPQ.out.2 hR.st) HPQ.out.1 P (pln_mem hP)
        have hfind := fun (Z : Pt) (hZ : Small Z) W h => find_any gp L.length capv gc rs'.length capc (LX L) (LY L) (zz rs') (zz rs') (qq rs') (KK rs') Z W (HM4.out.on h) HMD.out.good hZ
        have cc0 := (hb4.cell (p := ⟨q, 0, none⟩) qs).trans q0
        have cc1 := (hb4.cell (p := ⟨q, 1, none⟩) qs).trans q1
        have cs := Nat.lt_of_lt_of_le qs hb4.size
        have ca0 := (hb4.cell (p := ⟨g1, 0, none⟩) al).trans a0
        have ca1 := (hb4.cell (p := ⟨g1, 1, none⟩) al).trans a1
        have cal := Nat.lt_of_lt_of_le al hb4.size
        have cb0 := (hb4.cell (p := ⟨g2, 0, none⟩) bl).trans b0
        have cb1 := (hb4.cell (p := ⟨g2, 1, none⟩) bl).trans b1
        have cbl := Nat.lt_of_lt_of_le bl hb4.size
        have HC := Lib.hid fun W (h : Below w4.heap.size w4 W) => (show W.cell? ⟨q, 0, none⟩ = some (.slice (some ⟨gp, 0, none⟩) L.length capv) ∧ W.cell? ⟨q, 1, none⟩ = some (.slice (some ⟨gc, 0, none⟩) rs'.length capc) ∧ q < W.heap.size ∧ W.cell? ⟨g1, 0, none⟩ = some (.int .i64 px) ∧ W.cell? ⟨g1, 1, none⟩ = some (.int .i64 py) ∧ g1 < W.heap.size ∧ W.cell? ⟨g2, 0, none⟩ = some (.int .i64 qx) ∧ W.cell? ⟨g2, 1, none⟩ = some (.int .i64 qy) ∧ g2 < W.heap.size from
          ⟨(h.cell (p := ⟨q, 0, none⟩) cs).trans cc0, (h.cell (p := ⟨q, 1, none⟩) cs).trans cc1, Nat.lt_of_lt_of_le cs h.size, (h.cell (p := ⟨g1, 0, none⟩) cal).trans ca0, (h.cell (p := ⟨g1, 1, none⟩) cal).trans ca1, Nat.lt_of_lt_of_le cal h.size, (h.cell (p := ⟨g2, 0, none⟩) cbl).trans cb0, (h.cell (p := ⟨g2, 1, none⟩) cbl).trans cb1, Nat.lt_of_lt_of_le cbl h.size⟩)
        clear hlaw hR hsr hown hp hpul hgv2 hn hb4 q0 q1 qs a0 a1 al b0 b1 bl hsP hsQ hM HB1 HA HPQ
        clear cc0 cc1 cs ca0 ca1 cal cb0 cb1 cbl
        have hn0 : ¬ n = 0 := by omega
        obtain ⟨c0, c1, c2, c3, c4, c5, c6, c7, c8⟩ := HC.out w4 (Below.refl _ _)
        go_wp2_with fail
        refine (hfind (px, py) HS.out.1 w4 (Below.refl _ _)).mono ?_
        rintro e w5 ⟨⟨i', rfl, hi', hin', hno'⟩ | ⟨rfl, hno'⟩, hb5⟩
        · obtain rfl : i' = i := by
            rcases Nat.lt_trichotomy i' i with x | x | x
            · exact absurd hin' (HR.out.fn i' x)
            · exact x
            · exact absurd HR.out.fi (hno' i x)
          clear c0 c1 c2 c3 c4 c5 c6 c7 c8 hi' hin' hno'
          obtain ⟨c0, c1, c2, c3, c4, c5, c6, c7, c8⟩ := HC.out w5 hb5
          have HB5 := Lib.hid hb5
          clear hb5
          go_wp2_with fail
          refine (hfind (qx, qy) HS.out.2 w5 HB5.out).mono ?_
          rintro e w6 ⟨⟨k', rfl, hk', hin', hno'⟩ | ⟨rfl, hno'⟩, hb6⟩
          · obtain rfl : k' = k := by
              rcases Nat.lt_trichotomy k' k with x | x | x
              · exact absurd hin' (HR.out.tn k' x)
              · exact x
              · exact absurd HR.out.ti (hno' k x)
            have HB6 := Lib.hid (HB5.out.trans (hb6.mono HB5.out.size))
            clear c0 c1 c2 c3 c4 c5 c6 c7 c8 hk' hin' hno' hb6 HB5 hfind
            obtain ⟨c0, c1, c2, c3, c4, c5, c6, c7, c8⟩ := HC.out w6 HB6.out
            go_wp2_with fail
            refine (cells_any gp L.length capv gc rs'.length capc i' k' (LX L) (LY L) (zz rs') (zz rs') (qq rs') (KK rs') w6 (HM4.out.on HB6.out) HMD.out.good HR.out.hi HR.out.hk).mono ?_
            rintro e w7 ⟨N', F', hN', hF', hcase, hb7⟩
            have hNN : ∀ x j, x < rs'.length → N' x j = N x j := fun x j hx => hN'.uniq HR.out.nbr x j hx
            have hFF : ∀ x, x < rs'.length → F' x = Fd x := fun x hx => (Bfs.congr hF' (A' := NA N) (fun a b ha _ => by unfold NA; simp only [hNN a _ ha])).uniq HR.out.bfs x hx
            have hval := HR.out.way.val
            have hgo := HR.out.bfs.goal trivial
            have hlen0 := HR.out.len
            have hFi := hFF i' HR.out.hi
            rcases hcase with ⟨hneg, rfl⟩ | ⟨d', gw, wcap, l', hFd, rfl, hlen, hway, hat, hgl, _⟩
            · omega
            · obtain rfl : l' = l := hway.uniq HR.out.way hNN hFF HR.out.hi
              obtain rfl : d' = m := by omega
              have hmn := HR.out.mn
              have HB7 := Lib.hid (HB6.out.trans (hb7.mono HB6.out.size))
              have hnums : Nums w7 gw (d' + 1) (fun i => (wf l' i : Int)) := fun j hj => by
                have : l'[j]? = some (wf l' j) := by
                  unfold wf
                  rw [List.getElem?_eq_getElem (by omega)]; rfl
                exact hat j _ this
              have HNU := Lib.hid (And.intro hnums hgl)
              have hd100 : d' ≤ 100 := by have := HMD.out.good.hnc; omega
              clear c0 c1 c2 c3 c4 c5 c6 c7 c8 hNN hFF hval hgo hlen0 hFi hway hat hnums hgl hFd hlen hN' hF' hb7
              obtain ⟨c0, c1, c2, c3, c4, c5, c6, c7, c8⟩ := HC.out w7 HB7.out
              go_wp2_with fail
              refine (Gates_any gp L.length capv gc rs'.length capc gw wcap d' (LX L) (LY L) (zz rs') (zz rs') (qq rs') (KK rs') (wf l') kf w7 (HM4.out.on HB7.out) HMD.out.good HR.out.st HNU.out.1 HNU.out.2 hd100).mono ?_
              rintro e w8 ⟨vg, rfl, hog, hb8⟩
              have HB8 := Lib.hid (HB7.out.trans (hb8.mono HB7.out.size))
              have HOG := Lib.hid hog
              obtain ⟨ag, cg, rfl⟩ := own_slice hog
              clear c0 c1 c2 c3 c4 c5 c6 c7 c8 hog hb8
              obtain ⟨c0, c1, c2, c3, c4, c5, c6, c7, c8⟩ := HC.out w8 HB8.out
              go_upto_block 0 with fail
              obtain ⟨G, hG⟩ : ∃ G, gts (LX L) (LY L) (zz rs') (KK rs') (wf l') kf d' (qx, qy) = G := ⟨_, rfl⟩
              have HG0 := Lib.hid hG
              have HOG2 : Hid (w8.ownsRow w7.heap.size 41 4 (.slice ag d' cg) d' (flat4 G d')) := by
                have := HOG.out
                rw [flat4_congr (G' := G) d' (fun t ht => by rw [← hG]; unfold gts; rw [if_pos ht])] at this
                exact this
              have HSG : Hid (∀ t, t < d' → Small (G t).1 ∧ Small (G t).2) := fun t ht => by
                have := gts_in HMD.out.rng.1 HMD.out.rng.2 HMD.out.in HPQ.2 HR.out.st t
                rw [hG] at this
                obtain ⟨⟨k1, k2⟩, ⟨k3, k4⟩⟩ := this
                unfold Small
                omega
              clear hG HOG
              obtain ⟨i0, hi0, hz0, hz1, hz2⟩ := info_parts Try.info24
              obtain ⟨B, hB⟩ : ∃ B, w8.heap.size = B := ⟨_, rfl⟩
              have HS0 : Hid ((w8.alloc (Obj.cells #[.int .i64 px, .int .i64 py] 24)).ownsRow B 24 2 (.slice (some ⟨B, 0, none⟩) 1 1) 1 (fl [(px, py)])) := ⟨by rw [fl_length]; rfl, .inr ⟨B, 1, _, rfl, Nat.le_refl _, ha_new _ _ _ hB.symm, Nat.le_refl _, by unfold maxLen; omega, rfl, rfl⟩⟩
              have HBB := Lib.hid hB
              simp only [hB]
              clear hB
              go_cut [27] from 27 to 154 (fun v27 wx => wx.ownsRow B 24 2 v27 (d' + 1) (fl ((px, py) :: (List.range d').map (fun t => mid (G t)))) ∧ Below w8.heap.size w8 wx)
              case first =>
                rcases Nat.eq_zero_or_pos d' with hd0 | hd0
                · subst hd0
                  go_wp2_with fail
                  go_loopw [27, 130] (fun v27 v130 wx => v130 = .int .i64 0 ∧ Hid (wx.ownsRow B 24 2 v27 (0 + 1) (fl ((px, py) :: (List.range 0).map (fun t => mid (G t)))) ∧ Below w8.heap.size w8 wx)) (fun _ _ _ => 0)
                  case atStart => exact ⟨rfl, HS0.out, Below.al (Below.refl _ _) _⟩
                  case round =>
                    obtain ⟨rfl, hRR⟩ := hrel
                    go_wp2_with fail
                    go_meet
                    exact hRR.out
                · obtain ⟨gg, cgg, e, ge1, ge2, _⟩ := owns_open HOG2.out (by omega)
                  injection e with e e' e''
                  subst e e''
                  go_wp2_with fail
                  go_loopw [27, 130] (fun v27 v130 wx => ∃ j : Nat, v130 = .int .i64 j ∧ j ≤ d' ∧ Hid (wx.ownsRow B 24 2 v27 (j + 1) (fl ((px, py) :: (List.range j).map (fun t => mid (G t)))) ∧ Below w8.heap.size w8 wx)) (fun _ v130 _ => d' - (intOf v130).toNat)
                  case atStart => exact ⟨0, rfl, Nat.zero_le _, HS0.out, Below.al (Below.refl _ _) _⟩
                  case round =>
                    clear c0 c1 c2 c3 c4 c5 c6 c7 c8
                    obtain ⟨j, rfl, hj, hRR⟩ := hrel
                    by_cases h0 : j = d'
                    · have j1 : ¬ (j : Int) < (d' : Int) := by omega
                      have HJ := Lib.hid h0
                      clear h0
                      go_wp2_with fail
                      go_meet
                      rw [← HJ.out]
                      exact hRR.out
                    · have hjd : j < d' := by omega
                      have j1 : (j : Int) < (d' : Int) := by omega
                      have hgt := gts_of HOG2.out
                      obtain ⟨z0, z1, z2, z3⟩ := hgt.on hRR.out.2 ge2 j hjd
                      obtain ⟨s1, s2⟩ := HSG.out j hjd
                      have hsz := Nat.lt_of_lt_of_le ge2 hRR.out.2.size
                      obtain ⟨⟨⟨x1, y1⟩, ⟨x2, y2⟩⟩, hg⟩ : ∃ g, G j = g := ⟨_, rfl⟩
                      simp only [hg] at z0 z1 z2 z3 s1 s2
                      unfold Small at s1 s2
                      simp only at s1 s2
                      obtain ⟨sx, hsx⟩ : ∃ s, (x1 + x2).tdiv 2 = s := ⟨_, rfl⟩
                      obtain ⟨sy, hsy⟩ : ∃ s, (y1 + y2).tdiv 2 = s := ⟨_, rfl⟩
                      have tx := tdiv2 (x1 + x2)
                      have ty := tdiv2 (y1 + y2)
                      rw [hsx] at tx
                      rw [hsy] at ty
                      have wx : IntKind.i64.wrap sx = sx := IntWalk.i64_in _ (by omega)
                      have wy : IntKind.i64.wrap sy = sy := IntWalk.i64_in _ (by omega)
                      have HGJ := Lib.hid hg
                      clear hgt hg h0
                      have hBw : B ≤ wr.heap.size := by have := HBB.out; have := hRR.out.2.size; omega
                      go_upto_region 21 with fail
                      go_wp2_with (at_builtin; refine wpList_append_own _ rfl _ _ 25 rfl B 24 i0 (.agg #[.int .i64 0, .int .i64 0]) 2 16 Try.underlying25 hi0 hz0 hz1 hz2 rfl (by decide) _ (j + 1) _ rfl ((hRR.out.1.alloc _).alloc _) ⟨wr.heap.size + 1, 0, none⟩ 1 1 [.int .i64 sx, .int .i64 sy] rfl rfl (new_twoS _ _ (by simp) _ _ _) (two_ok rfl rfl) (by unfold maxLen; omega) (by omega) (by simp; omega) ?_)
                      intro v' w' own' hgr _
                      have HN2 : Hid (w'.ownsRow B 24 2 v' (j + 1 + 1) (fl ((px, py) :: (List.range (j + 1)).map (fun t => mid (G t)))) ∧ Below w8.heap.size w8 w') := by
                        refine ⟨?_, ((hRR.out.2.alloc (by have := hRR.out.2.size; omega) _).alloc (by have := hRR.out.2.size; simp; omega) _).grown hgr (by have := hRR.out.2.size; simp; omega) (fun k hk => by have := (hRR.out.1.lt k hk).1; have := HBB.out; omega)⟩
                        rw [List.range_succ, List.map_append, ← List.cons_append]
                        have em : mid (G j) = (sx, sy) := by rw [HGJ.out]; unfold mid; simp only [hsx, hsy]
                        show w'.ownsRow B 24 2 v' (j + 1 + 1) (fl (((px, py) :: (List.range j).map (fun t => mid (G t))) ++ [mid (G j)]))
                        rw [em, fl_append]
                        exact own'
                      clear own' hgr z0 z1 z2 z3
                      go_wp2_with fail
                      go_roundw
                      case rel => exact ⟨j + 1, rfl, by omega, HN2⟩
                      case measure => simp [intOf] <;> omega
              case rest =>
                obtain ⟨hown9, hb9⟩ := hcut
                have HB9 := Lib.hid (HB8.out.trans (hb9.mono HB8.out.size))
                have hBw : B ≤ wc.heap.size := by have := HBB.out; have := hb9.size; omega
                clear c0 c1 c2 c3 c4 c5 c6 c7 c8 hb9
                obtain ⟨c0, c1, c2, c3, c4, c5, c6, c7, c8⟩ := HC.out wc HB9.out
                go_upto_region 23 with fail
                go_wp2_with (at_builtin; refine wpList_append_own _ rfl _ _ 25 rfl B 24 i0 (.agg #[.int .i64 0, .int .i64 0]) 2 16 Try.underlying25 hi0 hz0 hz1 hz2 rfl (by decide) _ (d' + 1) _ rfl (hown9.alloc _) ⟨wc.heap.size, 0, none⟩ 1 1 [.int .i64 qx, .int .i64 qy] rfl rfl (new_two _ _ _ _) (two_ok rfl rfl) (by unfold maxLen; omega) (by omega) (by simp; omega) ?_)
                intro v' w' own' hgr _
                have HN3 : Hid (w'.ownsRow B 24 2 v' (d' + 1 + 1) (fl (others G d' (px, py) (qx, qy))) ∧ Below w4.heap.size w4 w') := by
                  refine ⟨?_, (HB9.out.alloc HB9.out.size _).grown hgr (by have := HB9.out.size; simp; omega) (fun k hk => by have := (hown9.lt k hk).1; have := HBB.out; have := HB8.out.size; omega)⟩
                  rw [← others_snoc, fl_append]
                  exact own'
                clear own' hgr hown9 c0 c1 c2 c3 c4 c5 c6 c7 c8
                obtain ⟨og, oc, rfl, _, hog, _⟩ := owns_open HN3.out.1 (by omega)
                have HP := Lib.hid fun W (h : Below w4.heap.size w4 W) => (show Ptl W gv2 (pln raw) ∧ gv2 < W.heap.size from ⟨(ptl_of HO.out rfl).on (owns_at HO.out).2.1 h, Nat.lt_of_lt_of_le (owns_at HO.out).2.1 h.size⟩)
                have hlo1 := fun W h => long_any gv2 n cv2 (pln raw) W (HP.out W h).1 (HP.out W h).2 HN.out hl16 (pln_small HSR.out)
                have hlo2 := fun W (h : Below w'.heap.size w' W) => long_any og (d' + 1 + 1) oc (others G d' (px, py) (qx, qy)) W ((ptl_of HN3.out.1 (others_length _ _ _ _)).on hog h) (Nat.lt_of_lt_of_le hog h.size) (others_length _ _ _ _) (by omega) (others_small HS.out.1 HS.out.2 HSG.out)
                have hbd1 := hlong_bd _ (pln_small HSR.out)
                have hbd2 := hlong_bd _ (others_small HS.out.1 HS.out.2 HSG.out)
                have hle := HL.out.len
                rw [HG0.out] at hle
                rw [others_length] at hbd2
                rw [HN.out] at hbd1
                obtain ⟨A1, hA1⟩ : ∃ A, hlong (pln raw) = A := ⟨_, rfl⟩
                obtain ⟨A2, hA2⟩ : ∃ A, hlong (others G d' (px, py) (qx, qy)) = A := ⟨_, rfl⟩
                simp only [hA1] at hlo1 hle hbd1
                simp only [hA2] at hlo2 hle hbd2
                clear hA1 hA2
                go_wp2_with fail
                refine (hlo1 w' HN3.out.2).mono ?_
                rintro e w10 ⟨rfl, hb10⟩
                go_wp2_with fail
                refine (hlo2 w10 hb10).mono ?_
                rintro e w11 ⟨rfl, hb11⟩
                have HB11 := Lib.hid (HN3.out.2.trans ((hb10.trans (hb11.mono hb10.size)).mono HN3.out.2.size))
                clear hb10 hb11 hlo1 hlo2
                have wr1 : IntKind.i64.wrap (4 * ((d' + 1 + 1 : Nat) : Int)) = 4 * ((d' + 1 + 1 : Nat) : Int) := IntWalk.i64_in _ (by push_cast; omega)
                have wr2 : IntKind.i64.wrap (A2 + 4 * ((d' + 1 + 1 : Nat) : Int)) = A2 + 4 * ((d' + 1 + 1 : Nat) : Int) := IntWalk.i64_in _ (by push_cast at hbd2 ⊢; omega)
                have cmp : ¬ A2 + 4 * ((d' + 1 + 1 : Nat) : Int) < A1 := by push_cast at hle ⊢; omega
                go_upto_region 26 with fail
                have HNR := Lib.hid HL.out.near
                clear wr1 wr2 cmp hle hbd1 hbd2
                go_wp2_with fail
                go_loopw [30] (fun v30 wx => ∃ (i t : Nat), v30 = .int .i64 i ∧ Hid (i = t + 1) ∧ i ≤ n ∧ Hid (Below w4.heap.size w4 wx)) (fun v30 _ => n + 1 - (intOf v30).toNat)
                case atStart => exact ⟨1, 0, rfl, rfl, by omega, HB11.out⟩
                case round =>
                  obtain ⟨i, t, rfl, hit, hin, hR⟩ := hrel
                  by_cases h0 : i = n
                  · have i1 : ¬ (i : Int) < (n : Int) := by omega
                    clear h0
                    go_wp2_with fail
                    go_ret
                    exact ⟨rfl, HW4.out.trans (hR.out.mono HW4.out.size)⟩
                  · have i1 : (i : Int) < (n : Int) := by omega
                    have hit' := hit.out
                    have i2 : (i : Int) - 1 = (t : Int) := by omega
                    have i3 : i < n := by omega
                    have i4 : t < n := by omega
                    have i5 : (t : Int) < (n : Int) := by omega
                    obtain ⟨P, hP⟩ : ∃ P, (pln raw)[t]? = some P := ⟨(pln raw)[t]'(by rw [HN.out]; exact i4), List.getElem?_eq_getElem _⟩
                    obtain ⟨R, hRR⟩ : ∃ P, (pln raw)[i]? = some P := ⟨(pln raw)[i]'(by rw [HN.out]; exact i3), List.getElem?_eq_getElem _⟩
                    obtain ⟨hpl, hgw⟩ := HP.out wr hR.out
                    obtain ⟨p0, p1⟩ := hpl t P hP
                    obtain ⟨r0, r1⟩ := hpl i R hRR
                    have hPs := HIM.out P (List.mem_of_getElem? hP)
                    have hRs := HIM.out R (List.mem_of_getElem? hRR)
                    have HX := Lib.hid (HNR.out t P R hP (by rw [← hit']; exact hRR))
                    have HMI := Lib.hid (mid_in hPs hRs)
                    obtain ⟨px1, py1⟩ := P
                    obtain ⟨rx1, ry1⟩ := R
                    simp only at p0 p1 r0 r1 HX HMI
                    unfold InM at hPs hRs
                    simp only at hPs hRs
                    obtain ⟨sx, hsx⟩ : ∃ s, (px1 + rx1).tdiv 2 = s := ⟨_, rfl⟩
                    obtain ⟨sy, hsy⟩ : ∃ s, (py1 + ry1).tdiv 2 = s := ⟨_, rfl⟩
                    have tx := tdiv2 (px1 + rx1)
                    have ty := tdiv2 (py1 + ry1)
                    rw [hsx] at tx
                    rw [hsy] at ty
                    rw [hsx, hsy] at HX HMI
                    have wx : IntKind.i64.wrap sx = sx := IntWalk.i64_in _ (by omega)
                    have wy : IntKind.i64.wrap sy = sy := IntWalk.i64_in _ (by omega)
                    obtain ⟨c0, c1, c2, _⟩ := HC.out wr hR.out
                    clear h0 hit' hP hRR hpl
                    go_upto_region 29 with fail
                    go_cut [31] from 174 to 204 (fun v31 wx => ∃ g : Nat, v31 = .pointer (some ⟨g, 0, none⟩) ∧ At wx g (sx, sy) ∧ Below wr.heap.size wr wx)
                    case first =>
                      go_region
                      all_goals
                        go_wp2_with fail
                        go_meet
                        exact ⟨_, rfl, at_oneP wr (sx, sy), (Below.al (Below.refl _ _) _).drew⟩
                    case rest =>
                      obtain ⟨g, rfl, hag, hbg⟩ := hcut
                      have HBG := Lib.hid (hR.out.trans (hbg.mono hR.out.size))
                      have a0 := hag.c0
                      have a1 := hag.c1
                      have al := hag.lt
                      simp only at a0 a1
                      clear c0 c1 c2 p0 p1 r0 r1 hag hbg
                      obtain ⟨c0, c1, c2, _⟩ := HC.out wc HBG.out
                      have hnear := fun W h => near_any gp L.length capv gc rs'.length capc (LX L) (LY L) (zz rs') (zz rs') (qq rs') (KK rs') (sx, sy) W (HM4.out.on h) HMD.out.good (by have := HMI.out; unfold InM at this; simp only at this ⊢; omega) HX.out
                      go_wp2_with fail
                      refine (hnear wc HBG.out).mono ?_
                      rintro e wn ⟨rfl, hbn⟩
                      have HBN := Lib.hid (HBG.out.trans (hbn.mono HBG.out.size))
                      clear hbn hnear c0 c1 c2 a0 a1 al
                      go_wp2_with fail
                      go_roundw
                      case rel => exact ⟨i + 1, i, by push_cast; rfl, rfl, by omega, HBN.out⟩
                      case measure => simp [intOf] <;> omega
          · exact absurd HR.out.ti (hno' k HR.out.hk)
        · exact absurd HR.out.fi (hno' i HR.out.hi)
end Go.Proofs.Ytaiflkjchbpphaa.P
namespace Go.Proofs.Ytaiflkjchbpphaa
open Go.RowKit

theorem TopPathsW (a0 : Option Addr) (len0 cap0 : Nat) (z0 : List Int) (a1 : Int) (a2 : Int) (a3 : Int) (a4 : Int) (w : World)
    (w0 : ((a0 = none ∧ len0 = 0 ∧ cap0 = 0 ∧ z0 = []) ∨ ∃ x, a0 = some x ∧ len0 ≤ cap0 ∧ cap0 ≤ maxLen ∧ z0.length = cap0 ∧ (∀ i, i < z0.length → w.cell? (x.add i) = some (.int .i64 (z0.getD i 0))) ∧ ∀ n ∈ z0, (Lit.int .i64 n).wf = true) ∧ cap0 * 8 ≤ 140737488351232)
    (w1 : (Lit.int .i64 a1).wf = true) (w2 : (Lit.int .i64 a2).wf = true) (w3 : (Lit.int .i64 a3).wf = true) (w4 : (Lit.int .i64 a4).wf = true) :
    Calls Try.prog 3 #[.slice a0 len0 cap0, .int .i64 a1, .int .i64 a2, .int .i64 a3, .int .i64 a4] w fun e w' => e = .returned (.bool true) ∧ Below w.heap.size w w' := by
  obtain ⟨ns, rfl, hn, hc, hb, hlc⟩ := row_open w0.1
  refine P.paths_core a0 ns cap0 a1 a2 a3 a4 w (fun h => (hn h).1) (fun x hx j v hv => hc x hx j _ (by simp [hv])) (fun x hx h0 => ?_) (fun v hv => bounds_i64 (hb v hv)) (by have := w0.2; omega) (bounds_i64 w1) (bounds_i64 w2) (bounds_i64 w3) (bounds_i64 w4)
  have := hc x hx 0 (.int .i64 ns[0]) (by simp [h0])
  rcases Nat.lt_or_ge x.block w.heap.size with h1 | h1
  · exact h1
  · exfalso
    simp only [World.cell?, add_block] at this
    rw [Array.getElem?_eq_none h1] at this
    simp at this
end Go.Proofs.Ytaiflkjchbpphaa
