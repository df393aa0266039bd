/- For every input, QuatBlends returns true. No condition. -/
import Derived.Test.YtdnepccjgclgiaaQends
import Derived.Test.YtdnepccjgclgiaaQunitsW
namespace Go.Proofs.Ytdnepccjgclgiaa
open Go.RowKit

theorem ends_split {e0 e1 e2 e3 v0 v1 v2 v3 r0 r1 r2 r3 : Int} (h : (e0 = v0 ∧ e1 = v1 ∧ e2 = v2 ∧ e3 = v3) ∨ (e0 = r0 ∧ e1 = r1 ∧ e2 = r2 ∧ e3 = r3)) :
    (e0 = v0 ∧ e1 = v1 ∧ e2 = v2 ∧ e3 = v3) ∨ ((e0 = r0 ∧ e1 = r1 ∧ e2 = r2 ∧ e3 = r3) ∧ ¬ e0 = v0) ∨ ((e0 = r0 ∧ e1 = r1 ∧ e2 = r2 ∧ e3 = r3) ∧ e0 = v0 ∧ ¬ e1 = v1) ∨ ((e0 = r0 ∧ e1 = r1 ∧ e2 = r2 ∧ e3 = r3) ∧ (e0 = v0 ∧ e1 = v1) ∧ ¬ e2 = v2) ∨ ((e0 = r0 ∧ e1 = r1 ∧ e2 = r2 ∧ e3 = r3) ∧ (e0 = v0 ∧ e1 = v1 ∧ e2 = v2) ∧ ¬ e3 = v3) := by
  rcases h with h | h
  · exact .inl h
  · by_cases h0 : e0 = v0
    · by_cases h1 : e1 = v1
      · by_cases h2 : e2 = v2
        · by_cases h3 : e3 = v3
          · exact .inl ⟨h0, h1, h2, h3⟩
          · exact .inr (.inr (.inr (.inr ⟨h, ⟨h0, h1, h2⟩, h3⟩)))
        · exact .inr (.inr (.inr (.inl ⟨h, ⟨h0, h1⟩, h2⟩)))
      · exact .inr (.inr (.inl ⟨h, h0, h1⟩))
    · exact .inr (.inl ⟨h, h0⟩)

set_option maxRecDepth 8000 in
set_option maxHeartbeats 16000000 in
theorem blends_core (a0 a1 a2 a3 b0 b1 b2 b3 t p0 p1 p2 p3 q0 q1 q2 q3 m0 m1 m2 m3 u0 u1 u2 u3 s0 s1 s2 s3 v0 v1 v2 v3 r0 r1 r2 r3 e0 e1 e2 e3 : Int) (w : World)
    (T1 : ∀ w, Calls Try.prog 54 #[.agg #[.int .i64 a0, .int .i64 a1, .int .i64 a2, .int .i64 a3]] w fun e w' => e = .returned (.agg #[.int .i64 p0, .int .i64 p1, .int .i64 p2, .int .i64 p3]) ∧ Below w.heap.size w w')
    (T2 : ∀ w, Calls Try.prog 54 #[.agg #[.int .i64 b0, .int .i64 b1, .int .i64 b2, .int .i64 b3]] w fun e w' => e = .returned (.agg #[.int .i64 q0, .int .i64 q1, .int .i64 q2, .int .i64 q3]) ∧ Below w.heap.size w w')
    (Bm : ∀ w, Calls Try.prog 60 #[.agg #[.int .i64 p0, .int .i64 p1, .int .i64 p2, .int .i64 p3], .agg #[.int .i64 q0, .int .i64 q1, .int .i64 q2, .int .i64 q3], .int .i64 t] w fun e w' => e = .returned (.agg #[.int .i64 m0, .int .i64 m1, .int .i64 m2, .int .i64 m3]) ∧ Below w.heap.size w w')
    (Be : ∀ w, Calls Try.prog 60 #[.agg #[.int .i64 p0, .int .i64 p1, .int .i64 p2, .int .i64 p3], .agg #[.int .i64 q0, .int .i64 q1, .int .i64 q2, .int .i64 q3], .int .i64 65536] w fun e w' => e = .returned (.agg #[.int .i64 e0, .int .i64 e1, .int .i64 e2, .int .i64 e3]) ∧ Below w.heap.size w w')
    (Bz : ∀ w, Calls Try.prog 60 #[.agg #[.int .i64 p0, .int .i64 p1, .int .i64 p2, .int .i64 p3], .agg #[.int .i64 q0, .int .i64 q1, .int .i64 q2, .int .i64 q3], .int .i64 0] w fun e w' => e = .returned (.agg #[.int .i64 u0, .int .i64 u1, .int .i64 u2, .int .i64 u3]) ∧ Below w.heap.size w w')
    (Bs : ∀ w, Calls Try.prog 60 #[.agg #[.int .i64 p0, .int .i64 p1, .int .i64 p2, .int .i64 p3], .agg #[.int .i64 p0, .int .i64 p1, .int .i64 p2, .int .i64 p3], .int .i64 t] w fun e w' => e = .returned (.agg #[.int .i64 s0, .int .i64 s1, .int .i64 s2, .int .i64 s3]) ∧ Below w.heap.size w w')
    (U1 : ∀ w, Calls Try.prog 61 #[.agg #[.int .i64 p0, .int .i64 p1, .int .i64 p2, .int .i64 p3]] w fun e w' => e = .returned (.agg #[.int .i64 u0, .int .i64 u1, .int .i64 u2, .int .i64 u3]) ∧ Below w.heap.size w w')
    (U2 : ∀ w, Calls Try.prog 61 #[.agg #[.int .i64 q0, .int .i64 q1, .int .i64 q2, .int .i64 q3]] w fun e w' => e = .returned (.agg #[.int .i64 v0, .int .i64 v1, .int .i64 v2, .int .i64 v3]) ∧ Below w.heap.size w w')
    (U3 : ∀ w, Calls Try.prog 61 #[.agg #[.int .i64 (-q0), .int .i64 (-q1), .int .i64 (-q2), .int .i64 (-q3)]] w fun e w' => e = .returned (.agg #[.int .i64 r0, .int .i64 r1, .int .i64 r2, .int .i64 r3]) ∧ Below w.heap.size w w')
    (Q : (-1048576 ≤ q0 ∧ q0 ≤ 1048576) ∧ (-1048576 ≤ q1 ∧ q1 ≤ 1048576) ∧ (-1048576 ≤ q2 ∧ q2 ≤ 1048576) ∧ (-1048576 ≤ q3 ∧ q3 ≤ 1048576))
    (M : (-1048576 ≤ m0 ∧ m0 ≤ 1048576) ∧ (-1048576 ≤ m1 ∧ m1 ≤ 1048576) ∧ (-1048576 ≤ m2 ∧ m2 ≤ 1048576) ∧ (-1048576 ≤ m3 ∧ m3 ≤ 1048576))
    (hM : sqq m0 m1 m2 m3 - 65536 ≤ 8 ∧ 65536 - sqq m0 m1 m2 m3 ≤ 8)
    (U : (-1048576 ≤ u0 ∧ u0 ≤ 1048576) ∧ (-1048576 ≤ u1 ∧ u1 ≤ 1048576) ∧ (-1048576 ≤ u2 ∧ u2 ≤ 1048576) ∧ (-1048576 ≤ u3 ∧ u3 ≤ 1048576))
    (hS : (s0 - u0 ≤ 4 ∧ u0 - s0 ≤ 4) ∧ (s1 - u1 ≤ 4 ∧ u1 - s1 ≤ 4) ∧ (s2 - u2 ≤ 4 ∧ u2 - s2 ≤ 4) ∧ (s3 - u3 ≤ 4 ∧ u3 - s3 ≤ 4))
    (hE : (e0 = v0 ∧ e1 = v1 ∧ e2 = v2 ∧ e3 = v3) ∨ (e0 = r0 ∧ e1 = r1 ∧ e2 = r2 ∧ e3 = r3)) :
    Calls Try.prog 22 #[.agg #[.int .i64 a0, .int .i64 a1, .int .i64 a2, .int .i64 a3], .agg #[.int .i64 b0, .int .i64 b1, .int .i64 b2, .int .i64 b3], .int .i64 t] w fun e w' => e = .returned (.bool true) ∧ Below w.heap.size w w' := by
  obtain ⟨⟨Q0, Q0'⟩, ⟨Q1, Q1'⟩, ⟨Q2, Q2'⟩, ⟨Q3, Q3'⟩⟩ := Q
  obtain ⟨⟨M0, M0'⟩, ⟨M1, M1'⟩, ⟨M2, M2'⟩, ⟨M3, M3'⟩⟩ := M
  obtain ⟨⟨UB0, UB0'⟩, ⟨UB1, UB1'⟩, ⟨UB2, UB2'⟩, ⟨UB3, UB3'⟩⟩ := U
  obtain ⟨hM1, hM2⟩ := hM
  obtain ⟨⟨S0, S0'⟩, ⟨S1, S1'⟩, ⟨S2, S2'⟩, ⟨S3, S3'⟩⟩ := hS
  go_enter Try.func22, Try.ntmps22
  go_wp2_with (go_at_call 53; (with_reducible refine (quatBegun_any _).mono ?_); rintro e w1 ⟨rfl, hb⟩; obtain ⟨l0, n0, rfl⟩ := ext_of hb; clear hb)
  apply region_flow 6 [7, 8] [4, 5] (fun _ => undef) (fun _ => Fresh (w.heap.size + 2))
  case hm => kernel_rfl
  case hB => kernel_rfl
  case hw' =>
    intro k
    simp (decide := true) only [List.take_succ_cons, List.take_zero, maskFrom, if_true, if_false]
    repeat (go_big_quiet_step ((first | (intro _; go_at_call 54; with_reducible exact grow_of2 (T1 _)) | (intro _; go_at_call 54; with_reducible exact grow_of2 (T2 _)))))
    exact wpQuiet_nil rfl
  case hsp =>
    intro i hi
    simp only [List.mem_cons, List.not_mem_nil, or_false] at hi
    rcases hi with rfl | rfl <;> intro o d ho hd f k m hG <;> obtain rfl := Option.some.inj (show some _ = some o from ho) <;> obtain rfl := Option.some.inj (show some _ = some d from hd)
    · exact flow_new (by decide) (by simp [go_sem])
    · exact flow_new (by decide) (by simp [go_sem])
  case hG => intro t v k m k' m' h; exact h.ext k' m'
  case ht =>
    intro f k m hf hs
    obtain ⟨g5, e5, h51, h52, h53, h54⟩ := hf 7 (by decide)
    obtain ⟨g6, e6, h61, h62, h63, h64⟩ := hf 8 (by decide)
    have hne : ¬ g5 = g6 := fun e => hs 7 8 (by decide) (by decide) (by decide) (by rw [e5, e6, e])
    simp (decide := true) only [List.drop_succ_cons, List.drop_zero, ghosted, List.foldl_cons, List.foldl_nil, e5, e6]
    obtain ⟨W, hW⟩ : ∃ W, W = ext ((w.alloc (Obj.cells #[Value.int IntKind.i64 a0, Value.int IntKind.i64 a1, Value.int IntKind.i64 a2, Value.int IntKind.i64 a3] 49)).alloc (Obj.cells #[Value.int IntKind.i64 b0, Value.int IntKind.i64 b1, Value.int IntKind.i64 b2, Value.int IntKind.i64 b3] 49)) k m := ⟨_, rfl⟩
    have hbW := Lib.hid (show Below w.heap.size w W from hW ▸ Below.ex (Below.al (Below.al (Below.refl _ w) _) _) _ _)
    rw [← hW] at h52 h53 h54 h62 h63 h64 ⊢
    have c0 := h53 0 (by omega)
    have c1 := h53 1 (by omega)
    have c2 := h53 2 (by omega)
    have c3 := h53 3 (by omega)
    have f0 := h54 0
    have f1 := h54 1
    have f2 := h54 2
    have f3 := h54 3
    have d0 := h63 0 (by omega)
    have d1 := h63 1 (by omega)
    have d2 := h63 2 (by omega)
    have d3 := h63 3 (by omega)
    have i0 := h64 0
    have i1 := h64 1
    have i2 := h64 2
    have i3 := h64 3
    clear hW h54 h64 hf hs e5 e6 T1 T2
    go_wp2_with fail
    have D1 := h53
    have D2 := h63
    obtain ⟨V, hV⟩ : ∃ V, V = put4 (put4 W g5 p0 p1 p2 p3) g6 q0 q1 q2 q3 := ⟨_, rfl⟩
    have hVs : V.heap.size = W.heap.size := by rw [hV, put4_size, put4_size]
    have hVb := Lib.hid (show Below w.heap.size w V from hV ▸ put4_below (put4_below hbW.out (by omega) _ _ _ _) (by omega) _ _ _ _)
    obtain ⟨x0, x1, x2, x3⟩ : QAt V g5 p0 p1 p2 p3 := hV ▸ (put4_at h53 p0 p1 p2 p3).put4 hne _ _ _ _
    obtain ⟨y0, y1, y2, y3⟩ : QAt V g6 q0 q1 q2 q3 := hV ▸ put4_at (fun i hi => by rw [put4_cell _ _ _ _ _ _ _ (fun e => hne e.symm)]; exact h63 i hi) q0 q1 q2 q3
    change Calls _ _ _ (put4 (put4 W g5 p0 p1 p2 p3) g6 q0 q1 q2 q3) _
    rw [← hV]
    rw [← hVs] at h52 h62
    clear hV hVs hbW c0 c1 c2 c3 d0 d1 d2 d3 f0 f1 f2 f3 i0 i1 i2 i3 D1 D2 h53 h63
    refine (Bm _).mono ?_
    rintro e w1 ⟨rfl, hb⟩
    obtain ⟨l1, n1, rfl⟩ := ext_of hb
    clear hb
    go_wp2_with (go_at_call 60; (with_reducible refine (Be _).mono ?_); rintro e w1 ⟨rfl, hb⟩; obtain ⟨l2, n2, rfl⟩ := ext_of hb; clear hb)
    obtain ⟨Y, hY⟩ : ∃ Y, Y = (ext ((ext V l1 n1).alloc (Obj.cells #[Value.int IntKind.i64 m0, Value.int IntKind.i64 m1, Value.int IntKind.i64 m2, Value.int IntKind.i64 m3] 51)) l2 n2).alloc (Obj.cells #[Value.int IntKind.i64 e0, Value.int IntKind.i64 e1, Value.int IntKind.i64 e2, Value.int IntKind.i64 e3] 51) := ⟨_, rfl⟩
    have hYb := Lib.hid (show Below V.heap.size V Y from hY ▸ by repeat (first | exact Below.refl _ _ | apply Below.drew | apply Below.al | apply Below.ex))
    have Ym : QAt Y (V.heap.size + l1.length) m0 m1 m2 m3 := by rw [hY]; unfold QAt; simp [go_sem]
    have Ye : QAt Y (V.heap.size + l1.length + 1 + l2.length) e0 e1 e2 e3 := by rw [hY]; unfold QAt; simp [go_sem]
    have Yp : QAt Y g5 p0 p1 p2 p3 := ⟨(hYb.out.cell (p := ⟨g5, 0, none⟩) h52).trans x0, (hYb.out.cell (p := ⟨g5, 1, none⟩) h52).trans x1, (hYb.out.cell (p := ⟨g5, 2, none⟩) h52).trans x2, (hYb.out.cell (p := ⟨g5, 3, none⟩) h52).trans x3⟩
    have Yq : QAt Y g6 q0 q1 q2 q3 := ⟨(hYb.out.cell (p := ⟨g6, 0, none⟩) h62).trans y0, (hYb.out.cell (p := ⟨g6, 1, none⟩) h62).trans y1, (hYb.out.cell (p := ⟨g6, 2, none⟩) h62).trans y2, (hYb.out.cell (p := ⟨g6, 3, none⟩) h62).trans y3⟩
    have z9 : V.heap.size + l1.length < Y.heap.size := by rw [hY]; simp [go_sem] <;> omega
    have z10 : V.heap.size + l1.length + 1 + l2.length < Y.heap.size := by rw [hY]; simp [go_sem] <;> omega
    have hYs := hYb.out.size
    have z5 : g5 < Y.heap.size := by omega
    have z6 : g6 < Y.heap.size := by omega
    obtain ⟨g9, hg9⟩ : ∃ g, V.heap.size + l1.length = g := ⟨_, rfl⟩
    rw [hg9] at Ym z9 Ye z10
    obtain ⟨g10, hg10⟩ : ∃ g, g9 + 1 + l2.length = g := ⟨_, rfl⟩
    rw [hg10] at Ye z10
    simp only [hg9, hg10]
    rw [← hY]
    have hYw := Lib.hid (hVb.out.trans (hYb.out.mono hVb.out.size))
    clear hY hg9 hg10 x0 x1 x2 x3 y0 y1 y2 y3 Bm Be hYb hYs h52 h62
    obtain ⟨x0, x1, x2, x3⟩ := id Yp
    apply region_flow0 8 [11, 12] [6, 7] (fun _ => undef) (fun _ => Fresh Y.heap.size)
    case hm => kernel_rfl
    case hB => kernel_rfl
    case hw' =>
      intro k
      simp (decide := true) only [List.take_succ_cons, List.take_zero, maskFrom, if_true, if_false]
      repeat (go_big_quiet_step ((first | (intro _; go_at_call 60; with_reducible exact grow_of2 (Bs _)) | (intro _; go_at_call 61; with_reducible exact grow_of2 (U1 _)))))
      exact wpQuiet_nil rfl
    case hsp =>
      intro i hi
      simp only [List.mem_cons, List.not_mem_nil, or_false] at hi
      rcases hi with rfl | rfl <;> intro o d ho hd f k m hG <;> obtain rfl := Option.some.inj (show some _ = some o from ho) <;> obtain rfl := Option.some.inj (show some _ = some d from hd)
      · exact flow_new (by decide) (by simp [go_sem])
      · exact flow_new (by decide) (by simp [go_sem])
    case hG => intro t v k m k' m' h; exact h.ext k' m'
    case ht =>
      intro f k m hf hs
      obtain ⟨g11, e11, h111, h112, h113, h114⟩ := hf 11 (by decide)
      obtain ⟨g12, e12, h121, h122, h123, h124⟩ := hf 12 (by decide)
      have hne2 : ¬ g11 = g12 := fun e => hs 11 12 (by decide) (by decide) (by decide) (by rw [e11, e12, e])
      simp (decide := true) only [List.drop_succ_cons, List.drop_zero, ghosted, List.foldl_cons, List.foldl_nil, e11, e12]
      obtain ⟨Z, hZ⟩ : ∃ Z, Z = ext Y k m := ⟨_, rfl⟩
      have hbZ := Lib.hid (show Below Y.heap.size Y Z from hZ ▸ below_ext Y k m)
      rw [← hZ] at h112 h113 h114 h122 h123 h124 ⊢
      have keep : ∀ {g a b c d}, g < Y.heap.size → QAt Y g a b c d → QAt Z g a b c d := fun {g a b c d} hg ⟨c0, c1, c2, c3⟩ => ⟨(hbZ.out.cell (p := ⟨g, 0, none⟩) hg).trans c0, (hbZ.out.cell (p := ⟨g, 1, none⟩) hg).trans c1, (hbZ.out.cell (p := ⟨g, 2, none⟩) hg).trans c2, (hbZ.out.cell (p := ⟨g, 3, none⟩) hg).trans c3⟩
      have Zp := keep z5 Yp
      have Zq := keep z6 Yq
      have Zm := keep z9 Ym
      have Ze := keep z10 Ye
      have c0 := h113 0 (by omega)
      have c1 := h113 1 (by omega)
      have c2 := h113 2 (by omega)
      have c3 := h113 3 (by omega)
      have f0 := h114 0
      have f1 := h114 1
      have f2 := h114 2
      have f3 := h114 3
      have d0 := h123 0 (by omega)
      have d1 := h123 1 (by omega)
      have d2 := h123 2 (by omega)
      have d3 := h123 3 (by omega)
      have i0 := h124 0
      have i1 := h124 1
      have i2 := h124 2
      have i3 := h124 3
      clear hZ h114 h124 hf hs e11 e12 Bs keep
      go_wp2_with fail
      have D1 := h113
      have D2 := h123
      obtain ⟨X, hX⟩ : ∃ X, X = put4 (put4 Z g11 s0 s1 s2 s3) g12 u0 u1 u2 u3 := ⟨_, rfl⟩
      have hXs : X.heap.size = Z.heap.size := by rw [hX, put4_size, put4_size]
      have hYz := hbZ.out.size
      have hYws := hYw.out.size
      have hXb := Lib.hid (show Below w.heap.size w X from hX ▸ put4_below (put4_below (hYw.out.trans (hbZ.out.mono hYw.out.size)) (by omega) _ _ _ _) (by omega) _ _ _ _)
      obtain ⟨k0, k1, k2, k3⟩ : QAt X g11 s0 s1 s2 s3 := hX ▸ (put4_at h113 s0 s1 s2 s3).put4 hne2 _ _ _ _
      obtain ⟨j0, j1, j2, j3⟩ : QAt X g12 u0 u1 u2 u3 := hX ▸ put4_at (fun i hi => by rw [put4_cell _ _ _ _ _ _ _ (fun e => hne2 e.symm)]; exact h123 i hi) u0 u1 u2 u3
      obtain ⟨v50, v51, v52, v53⟩ : QAt X g5 p0 p1 p2 p3 := hX ▸ (Zp.put4 (by omega) _ _ _ _).put4 (by omega) _ _ _ _
      obtain ⟨v60, v61, v62, v63⟩ : QAt X g6 q0 q1 q2 q3 := hX ▸ (Zq.put4 (by omega) _ _ _ _).put4 (by omega) _ _ _ _
      obtain ⟨v90, v91, v92, v93⟩ : QAt X g9 m0 m1 m2 m3 := hX ▸ (Zm.put4 (by omega) _ _ _ _).put4 (by omega) _ _ _ _
      obtain ⟨v100, v101, v102, v103⟩ : QAt X g10 e0 e1 e2 e3 := hX ▸ (Ze.put4 (by omega) _ _ _ _).put4 (by omega) _ _ _ _
      change Code.wp _ _ _ _ (put4 (put4 Z g11 s0 s1 s2 s3) g12 u0 u1 u2 u3)
      rw [← hX]
      rw [← hXs] at h112 h122 hYz
      have z5' : g5 < X.heap.size := by omega
      have z6' : g6 < X.heap.size := by omega
      have z9' : g9 < X.heap.size := by omega
      have z10' : g10 < X.heap.size := by omega
      clear hX hXs hbZ c0 c1 c2 c3 d0 d1 d2 d3 f0 f1 f2 f3 i0 i1 i2 i3 D1 D2 h113 h123 Yp Yq Ym Ye Zp Zq Zm Ze x0 x1 x2 x3 hYw hYws hYz z5 z6 z9 z10
      have hE' := ends_split hE
      clear hE
      rcases hE' with ⟨rfl, rfl, rfl, rfl⟩ | ⟨⟨rfl, rfl, rfl, rfl⟩, hv⟩ | ⟨⟨rfl, rfl, rfl, rfl⟩, rfl, hv⟩ | ⟨⟨rfl, rfl, rfl, rfl⟩, ⟨rfl, rfl⟩, hv⟩ | ⟨⟨rfl, rfl, rfl, rfl⟩, ⟨rfl, rfl, rfl⟩, hv⟩
      · refine region_grow (by kernel_rfl) (by kernel_rfl) ?_
        repeat (go_big_quiet_step ((first
          | (intro _; go_at_call 60; with_reducible exact grow_of (Bz _))
          | (intro _; go_at_call 61; with_reducible exact grow_of (U1 _))
          | (intro _; go_at_call 61; with_reducible exact grow_of (U2 _))
          | (intro _; go_at_call 61; with_reducible exact grow_of (U3 _))
          | (intro _; go_at_call 57; with_reducible exact grow_of (square_any _ _ _ _ _ (by assumption) (by assumption) (by assumption) (by assumption) (by assumption) (by assumption) (by assumption) (by assumption)))
          | (intro _; go_at_call 33; exact grow_same (near_any _ _ _ _ (by omega) (by omega) (by omega) (by omega) (by omega) (by omega))))))
        refine wpQuiet_nil ?_
        intro _ hw'
        obtain ⟨k, m, rfl⟩ := hw'
        go_wp2
        go_ret
        exact ⟨rfl, by
          repeat (first | exact hXb.out | apply Below.drew | apply Below.al | apply Below.ex)⟩
      · refine region_grow (by kernel_rfl) (by kernel_rfl) ?_
        repeat (go_big_quiet_step ((first
          | (intro _; go_at_call 60; with_reducible exact grow_of (Bz _))
          | (intro _; go_at_call 61; with_reducible exact grow_of (U1 _))
          | (intro _; go_at_call 61; with_reducible exact grow_of (U2 _))
          | (intro _; go_at_call 61; with_reducible exact grow_of (U3 _))
          | (intro _; go_at_call 57; with_reducible exact grow_of (square_any _ _ _ _ _ (by assumption) (by assumption) (by assumption) (by assumption) (by assumption) (by assumption) (by assumption) (by assumption)))
          | (intro _; go_at_call 33; exact grow_same (near_any _ _ _ _ (by omega) (by omega) (by omega) (by omega) (by omega) (by omega))))))
        refine wpQuiet_nil ?_
        intro _ hw'
        obtain ⟨k, m, rfl⟩ := hw'
        go_wp2
        go_ret
        exact ⟨rfl, by
          repeat (first | exact hXb.out | apply Below.drew | apply Below.al | apply Below.ex)⟩
      · refine region_grow (by kernel_rfl) (by kernel_rfl) ?_
        repeat (go_big_quiet_step ((first
          | (intro _; go_at_call 60; with_reducible exact grow_of (Bz _))
          | (intro _; go_at_call 61; with_reducible exact grow_of (U1 _))
          | (intro _; go_at_call 61; with_reducible exact grow_of (U2 _))
          | (intro _; go_at_call 61; with_reducible exact grow_of (U3 _))
          | (intro _; go_at_call 57; with_reducible exact grow_of (square_any _ _ _ _ _ (by assumption) (by assumption) (by assumption) (by assumption) (by assumption) (by assumption) (by assumption) (by assumption)))
          | (intro _; go_at_call 33; exact grow_same (near_any _ _ _ _ (by omega) (by omega) (by omega) (by omega) (by omega) (by omega))))))
        refine wpQuiet_nil ?_
        intro _ hw'
        obtain ⟨k, m, rfl⟩ := hw'
        go_wp2
        go_ret
        exact ⟨rfl, by
          repeat (first | exact hXb.out | apply Below.drew | apply Below.al | apply Below.ex)⟩
      · refine region_grow (by kernel_rfl) (by kernel_rfl) ?_
        repeat (go_big_quiet_step ((first
          | (intro _; go_at_call 60; with_reducible exact grow_of (Bz _))
          | (intro _; go_at_call 61; with_reducible exact grow_of (U1 _))
          | (intro _; go_at_call 61; with_reducible exact grow_of (U2 _))
          | (intro _; go_at_call 61; with_reducible exact grow_of (U3 _))
          | (intro _; go_at_call 57; with_reducible exact grow_of (square_any _ _ _ _ _ (by assumption) (by assumption) (by assumption) (by assumption) (by assumption) (by assumption) (by assumption) (by assumption)))
          | (intro _; go_at_call 33; exact grow_same (near_any _ _ _ _ (by omega) (by omega) (by omega) (by omega) (by omega) (by omega))))))
        refine wpQuiet_nil ?_
        intro _ hw'
        obtain ⟨k, m, rfl⟩ := hw'
        go_wp2
        go_ret
        exact ⟨rfl, by
          repeat (first | exact hXb.out | apply Below.drew | apply Below.al | apply Below.ex)⟩
      · refine region_grow (by kernel_rfl) (by kernel_rfl) ?_
        repeat (go_big_quiet_step ((first
          | (intro _; go_at_call 60; with_reducible exact grow_of (Bz _))
          | (intro _; go_at_call 61; with_reducible exact grow_of (U1 _))
          | (intro _; go_at_call 61; with_reducible exact grow_of (U2 _))
          | (intro _; go_at_call 61; with_reducible exact grow_of (U3 _))
          | (intro _; go_at_call 57; with_reducible exact grow_of (square_any _ _ _ _ _ (by assumption) (by assumption) (by assumption) (by assumption) (by assumption) (by assumption) (by assumption) (by assumption)))
          | (intro _; go_at_call 33; exact grow_same (near_any _ _ _ _ (by omega) (by omega) (by omega) (by omega) (by omega) (by omega))))))
        refine wpQuiet_nil ?_
        intro _ hw'
        obtain ⟨k, m, rfl⟩ := hw'
        go_wp2
        go_ret
        exact ⟨rfl, by
          repeat (first | exact hXb.out | apply Below.drew | apply Below.al | apply Below.ex)⟩

theorem QuatBlends_any (a0 a1 a2 a3 b0 b1 b2 b3 t p0 p1 p2 p3 q0 q1 q2 q3 : Int) (w : World)
    (T1 : ∀ w, Calls Try.prog 54 #[.agg #[.int .i64 a0, .int .i64 a1, .int .i64 a2, .int .i64 a3]] w fun e w' => e = .returned (.agg #[.int .i64 p0, .int .i64 p1, .int .i64 p2, .int .i64 p3]) ∧ Below w.heap.size w w')
    (T2 : ∀ w, Calls Try.prog 54 #[.agg #[.int .i64 b0, .int .i64 b1, .int .i64 b2, .int .i64 b3]] w fun e w' => e = .returned (.agg #[.int .i64 q0, .int .i64 q1, .int .i64 q2, .int .i64 q3]) ∧ Below w.heap.size w w')
    (hp : Tn p0 p1 p2 p3) (hq : Tn q0 q1 q2 q3) :
    Calls Try.prog 22 #[.agg #[.int .i64 a0, .int .i64 a1, .int .i64 a2, .int .i64 a3], .agg #[.int .i64 b0, .int .i64 b1, .int .i64 b2, .int .i64 b3], .int .i64 t] w fun e w' => e = .returned (.bool true) ∧ Below w.heap.size w w' := by
  obtain ⟨g0, g1, g2, g3⟩ := hp.bd
  obtain ⟨k0, k1, k2, k3⟩ := hq.bd
  obtain ⟨X, Y, Z, V, hX, hB⟩ := blend_any p0 p1 p2 p3 q0 q1 q2 q3 g0 g1 g2 g3 k0 k1 k2 k3
  have Bz := hB 0
  have Be := hB 65536
  rw [tcut_0, show (65536 : Int) - 0 = 65536 by omega, mix_zero p0 X (by omega) (by omega), mix_zero p1 Y (by omega) (by omega), mix_zero p2 Z (by omega) (by omega), mix_zero p3 V (by omega) (by omega)] at Bz
  rw [tcut_1, show (65536 : Int) - 65536 = 0 by omega, mix_one p0 X (by omega) (by omega), mix_one p1 Y (by omega) (by omega), mix_one p2 Z (by omega) (by omega), mix_one p3 V (by omega) (by omega)] at Be
  have hX0 : -65544 ≤ X ∧ X ≤ 65544 := by omega
  have hY0 : -65544 ≤ Y ∧ Y ≤ 65544 := by omega
  have hZ0 : -65544 ≤ Z ∧ Z ≤ 65544 := by omega
  have hV0 : -65544 ≤ V ∧ V ≤ 65544 := by omega
  obtain ⟨t1, t2⟩ := tcut_bd t
  obtain ⟨mb, ms⟩ := un_facts (mix_most (s := 65536 - tcut t) (t := tcut t) g0 g1 g2 g3 hX0 hY0 hZ0 hV0 (by omega) (by omega) t1 t2)
  have ub := (un_facts (show most [p0, p1, p2, p3] < 2147483648 by have := most4_lt 65544 (by omega) g0 g1 g2 g3; omega)).1
  have hs := same_near hp _ _ _ _ (mix_same p0 (tcut t) (by omega) (by omega) t1 t2) (mix_same p1 (tcut t) (by omega) (by omega) t1 t2) (mix_same p2 (tcut t) (by omega) (by omega) t1 t2) (mix_same p3 (tcut t) (by omega) (by omega) t1 t2)
  have Bs := fun w => blend_pos p0 p1 p2 p3 p0 p1 p2 p3 t w (dot_same hp) (by omega) (by omega) (by omega) (by omega) (by omega) (by omega) (by omega) (by omega) (by omega) (by omega) (by omega) (by omega) (by omega) (by omega) (by omega) (by omega)
  have U1 := fun w => unit_any p0 p1 p2 p3 w (by omega) (by omega) (by omega) (by omega) (by omega) (by omega) (by omega) (by omega)
  have U2 := fun w => unit_any q0 q1 q2 q3 w (by omega) (by omega) (by omega) (by omega) (by omega) (by omega) (by omega) (by omega)
  have U3 := fun w => unit_any (-q0) (-q1) (-q2) (-q3) w (by omega) (by omega) (by omega) (by omega) (by omega) (by omega) (by omega) (by omega)
  refine blends_core a0 a1 a2 a3 b0 b1 b2 b3 t p0 p1 p2 p3 q0 q1 q2 q3 _ _ _ _ _ _ _ _ _ _ _ _ _ _ _ _ _ _ _ _ _ _ _ _ w T1 T2 (hB t) Be Bz Bs U1 U2 U3 ⟨by omega, by omega, by omega, by omega⟩ ⟨by omega, by omega, by omega, by omega⟩ ms ⟨by omega, by omega, by omega, by omega⟩ hs ?_
  rcases hX with ⟨rfl, rfl, rfl, rfl⟩ | ⟨rfl, rfl, rfl, rfl⟩
  · exact .inl ⟨rfl, rfl, rfl, rfl⟩
  · exact .inr ⟨rfl, rfl, rfl, rfl⟩

theorem QuatBlendsW (a0 a1 a2 a3 b0 b1 b2 b3 t : Int) (w0 : (Lit.int .i64 a0).wf = true) (w1 : (Lit.int .i64 a1).wf = true) (w2 : (Lit.int .i64 a2).wf = true) (_w3 : (Lit.int .i64 a3).wf = true) (v0 : (Lit.int .i64 b0).wf = true) (v1 : (Lit.int .i64 b1).wf = true) (v2 : (Lit.int .i64 b2).wf = true) (_v3 : (Lit.int .i64 b3).wf = true) (_wt : (Lit.int .i64 t).wf = true) (w : World) :
    Calls Try.prog 22 #[.agg #[.int .i64 a0, .int .i64 a1, .int .i64 a2, .int .i64 a3], .agg #[.int .i64 b0, .int .i64 b1, .int .i64 b2, .int .i64 b3], .int .i64 t] w fun e w' => e = .returned (.bool true) ∧ Below w.heap.size w w' :=
  QuatBlends_any a0 a1 a2 a3 b0 b1 b2 b3 t _ _ _ _ _ _ _ _ w (fun v => turner_any a0 a1 a2 a3 v (bounds_i64 w0) (bounds_i64 w1) (bounds_i64 w2)) (fun v => turner_any b0 b1 b2 b3 v (bounds_i64 v0) (bounds_i64 v1) (bounds_i64 v2))
    (turner_norm _ _ _ a3 (num_lo a0 1048576 (by omega)) (num_hi a0 1048576 (by omega)) (num_lo a1 1048576 (by omega)) (num_hi a1 1048576 (by omega)) (num_lo a2 1048576 (by omega)) (num_hi a2 1048576 (by omega)))
    (turner_norm _ _ _ b3 (num_lo b0 1048576 (by omega)) (num_hi b0 1048576 (by omega)) (num_lo b1 1048576 (by omega)) (num_hi b1 1048576 (by omega)) (num_lo b2 1048576 (by omega)) (num_hi b2 1048576 (by omega)))
end Go.Proofs.Ytdnepccjgclgiaa
