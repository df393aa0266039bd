/- QuatUnits: the walk. -/
import Derived.Test.YtdnepccjgclgiaaQlaws
namespace Go.Proofs.Ytdnepccjgclgiaa
open Go.RowKit

/-- A quaternion in a block. -/
def QAt (W : World) (g : Nat) (a b c d : Int) : Prop := W.cell? ⟨g, 0, none⟩ = some (.int .i64 a) ∧ W.cell? ⟨g, 1, none⟩ = some (.int .i64 b) ∧ W.cell? ⟨g, 2, none⟩ = some (.int .i64 c) ∧ W.cell? ⟨g, 3, none⟩ = some (.int .i64 d)
/-- The four stores of a quaternion. -/
def put4 (W : World) (g : Nat) (a b c d : Int) : World := (((W.setCell ⟨g, 0, none⟩ (.int .i64 a)).setCell ⟨g, 1, none⟩ (.int .i64 b)).setCell ⟨g, 2, none⟩ (.int .i64 c)).setCell ⟨g, 3, none⟩ (.int .i64 d)
theorem put4_at {W : World} {g : Nat} {x : Value} (h : ∀ i, i < 4 → W.cell? ⟨g, i, none⟩ = some x) (a b c d : Int) : QAt (put4 W g a b c d) g a b c d := by
  have h0 := h 0 (by omega)
  have h1 := h 1 (by omega)
  have h2 := h 2 (by omega)
  have h3 := h 3 (by omega)
  unfold QAt put4
  simp [go_sem, h0, h1, h2, h3]
theorem put4_cell (W : World) (g : Nat) (a b c d : Int) (p : Addr) (h : p.block ≠ g) : (put4 W g a b c d).cell? p = W.cell? p := by
  unfold put4
  rw [World.cell?_setCell_other _ _ _ _ (fun e => h (by rw [← e])), World.cell?_setCell_other _ _ _ _ (fun e => h (by rw [← e])), World.cell?_setCell_other _ _ _ _ (fun e => h (by rw [← e])), World.cell?_setCell_other _ _ _ _ (fun e => h (by rw [← e]))]
theorem QAt.put4 {W : World} {g : Nat} {a b c d : Int} (h : QAt W g a b c d) {g' : Nat} (hne : g ≠ g') (x y z v : Int) : QAt (put4 W g' x y z v) g a b c d := by
  unfold QAt at *
  rw [put4_cell _ _ _ _ _ _ _ hne, put4_cell _ _ _ _ _ _ _ hne, put4_cell _ _ _ _ _ _ _ hne, put4_cell _ _ _ _ _ _ _ hne]
  exact h
theorem put4_below {B : Nat} {w W : World} (h : Below B w W) {g : Nat} (hg : B ≤ g) (a b c d : Int) : Below B w (put4 W g a b c d) :=
  (((h.setCell hg _).setCell hg _).setCell hg _).setCell hg _
theorem put4_size (W : World) (g : Nat) (a b c d : Int) : (put4 W g a b c d).heap.size = W.heap.size := by simp [put4, World.setCell]

set_option maxRecDepth 8000 in
set_option maxHeartbeats 2000000 in
theorem units_core (a0 a1 a2 a3 b0 b1 b2 b3 p0 p1 p2 p3 q0 q1 q2 q3 : Int) (w : World)
    (T1 : ∀ w, Calls Try.prog 54 #[.agg #[.int .i64 a0, .int .i64 a1, .int .i64 a2, .int .i64 a3]] w fun e w' => e = .returned (.agg #[.int .i64 p0, .int .i64 p1, .int .i64 p2, .int .i64 p3]) ∧ Below w.heap.size w w')
    (T2 : ∀ w, Calls Try.prog 54 #[.agg #[.int .i64 b0, .int .i64 b1, .int .i64 b2, .int .i64 b3]] w fun e w' => e = .returned (.agg #[.int .i64 q0, .int .i64 q1, .int .i64 q2, .int .i64 q3]) ∧ Below w.heap.size w w')
    (P : (-1048576 ≤ p0 ∧ p0 ≤ 1048576) ∧ (-1048576 ≤ p1 ∧ p1 ≤ 1048576) ∧ (-1048576 ≤ p2 ∧ p2 ≤ 1048576) ∧ (-1048576 ≤ p3 ∧ p3 ≤ 1048576))
    (hP : sqq p0 p1 p2 p3 - 65536 ≤ 24 ∧ 65536 - sqq p0 p1 p2 p3 ≤ 24) (s0 s1 s2 s3 r0 r1 r2 r3 : Int)
    (hs0 : qmw p0 p1 p2 p3 q0 q1 q2 q3 = s0) (hs1 : qmx p0 p1 p2 p3 q0 q1 q2 q3 = s1) (hs2 : qmy p0 p1 p2 p3 q0 q1 q2 q3 = s2) (hs3 : qmz p0 p1 p2 p3 q0 q1 q2 q3 = s3)
    (S : (-1048576 ≤ s0 ∧ s0 ≤ 1048576) ∧ (-1048576 ≤ s1 ∧ s1 ≤ 1048576) ∧ (-1048576 ≤ s2 ∧ s2 ≤ 1048576) ∧ (-1048576 ≤ s3 ∧ s3 ≤ 1048576)) (hS : sqq s0 s1 s2 s3 - 65536 ≤ 80 ∧ 65536 - sqq s0 s1 s2 s3 ≤ 80)
    (hr0 : qmw p0 p1 p2 p3 (clamp p0) (-clamp p1) (-clamp p2) (-clamp p3) = r0) (hr1 : qmx p0 p1 p2 p3 (clamp p0) (-clamp p1) (-clamp p2) (-clamp p3) = r1) (hr2 : qmy p0 p1 p2 p3 (clamp p0) (-clamp p1) (-clamp p2) (-clamp p3) = r2) (hr3 : qmz p0 p1 p2 p3 (clamp p0) (-clamp p1) (-clamp p2) (-clamp p3) = r3)
    (hR : (r0 - 65536 ≤ 40 ∧ 65536 - r0 ≤ 40) ∧ (r1 ≤ 4 ∧ -4 ≤ r1) ∧ (r2 ≤ 4 ∧ -4 ≤ r2) ∧ (r3 ≤ 4 ∧ -4 ≤ r3)) :
    Calls Try.prog 20 #[.agg #[.int .i64 a0, .int .i64 a1, .int .i64 a2, .int .i64 a3], .agg #[.int .i64 b0, .int .i64 b1, .int .i64 b2, .int .i64 b3]] w fun e w' => e = .returned (.bool true) ∧ Below w.heap.size w w' := by
  go_enter Try.func20, Try.ntmps20
  go_wp2_with (go_at_call 53; (with_reducible refine (quatBegun_any _).mono ?_); rintro e w1 ⟨rfl, hb⟩; obtain ⟨l0, n0, rfl⟩ := ext_of hb; clear hb)
  apply region_flow 6 [5, 6] [4, 5] (fun _ => undef) (fun _ => Fresh (w.heap.size + 2))
  case hm => kernel_rfl
  case hB => kernel_rfl
  case hw' =>
    intro k
    simp (decide := true) only [List.take_succ_cons, List.take_zero, maskFrom, if_true, if_false]
    repeat (go_big_quiet_step ((first | (intro _; go_at_call 54; with_reducible exact grow_of2 (T1 _)) | (intro _; go_at_call 54; with_reducible exact grow_of2 (T2 _)))))
    exact wpQuiet_nil rfl
  case hsp =>
    intro i hi
    simp only [List.mem_cons, List.not_mem_nil, or_false] at hi
    rcases hi with rfl | rfl <;> intro o d ho hd f k m hG <;> obtain rfl := Option.some.inj (show some _ = some o from ho) <;> obtain rfl := Option.some.inj (show some _ = some d from hd)
    · exact flow_new (by decide) (by simp [go_sem])
    · exact flow_new (by decide) (by simp [go_sem])
  case hG => intro t v k m k' m' h; exact h.ext k' m'
  case ht =>
    intro f k m hf hs
    obtain ⟨g5, e5, h51, h52, h53, h54⟩ := hf 5 (by decide)
    obtain ⟨g6, e6, h61, h62, h63, h64⟩ := hf 6 (by decide)
    have hne : ¬ g5 = g6 := fun e => hs 5 6 (by decide) (by decide) (by decide) (by rw [e5, e6, e])
    simp (decide := true) only [List.drop_succ_cons, List.drop_zero, ghosted, List.foldl_cons, List.foldl_nil, e5, e6]
    obtain ⟨W, hW⟩ : ∃ W, W = ext ((w.alloc (Obj.cells #[Value.int IntKind.i64 a0, Value.int IntKind.i64 a1, Value.int IntKind.i64 a2, Value.int IntKind.i64 a3] 49)).alloc (Obj.cells #[Value.int IntKind.i64 b0, Value.int IntKind.i64 b1, Value.int IntKind.i64 b2, Value.int IntKind.i64 b3] 49)) k m := ⟨_, rfl⟩
    have hbW := Lib.hid (show Below w.heap.size w W from hW ▸ Below.ex (Below.al (Below.al (Below.refl _ w) _) _) _ _)
    rw [← hW] at h52 h53 h54 h62 h63 h64 ⊢
    have c0 := h53 0 (by omega)
    have c1 := h53 1 (by omega)
    have c2 := h53 2 (by omega)
    have c3 := h53 3 (by omega)
    have f0 := h54 0
    have f1 := h54 1
    have f2 := h54 2
    have f3 := h54 3
    have d0 := h63 0 (by omega)
    have d1 := h63 1 (by omega)
    have d2 := h63 2 (by omega)
    have d3 := h63 3 (by omega)
    have i0 := h64 0
    have i1 := h64 1
    have i2 := h64 2
    have i3 := h64 3
    clear hW h54 h64 hf hs e5 e6 T1 T2
    go_wp2_with fail
    have D1 := h53
    have D2 := h63
    obtain ⟨V, hV⟩ : ∃ V, V = put4 (put4 W g5 p0 p1 p2 p3) g6 q0 q1 q2 q3 := ⟨_, rfl⟩
    have hVs : V.heap.size = W.heap.size := by rw [hV, put4_size, put4_size]
    have hVb := Lib.hid (show Below w.heap.size w V from hV ▸ put4_below (put4_below hbW.out (by omega) _ _ _ _) (by omega) _ _ _ _)
    obtain ⟨v0, v1, v2, v3⟩ : QAt V g5 p0 p1 p2 p3 := hV ▸ (put4_at h53 p0 p1 p2 p3).put4 hne _ _ _ _
    obtain ⟨u0, u1, u2, u3⟩ : QAt V g6 q0 q1 q2 q3 := hV ▸ put4_at (fun i hi => by rw [put4_cell _ _ _ _ _ _ _ (fun e => hne e.symm)]; exact h63 i hi) q0 q1 q2 q3
    change Code.wp _ _ _ _ (put4 (put4 W g5 p0 p1 p2 p3) g6 q0 q1 q2 q3)
    rw [← hV]
    rw [← hVs] at h52 h62
    clear hV hVs hbW c0 c1 c2 c3 d0 d1 d2 d3 f0 f1 f2 f3 i0 i1 i2 i3 D1 D2 h53 h63
    apply region_flow0 5 [7] [4] (fun _ => undef) (fun _ => Fresh V.heap.size)
    case hm => kernel_rfl
    case hB => kernel_rfl
    case hw' =>
      intro k
      simp (decide := true) only [List.take_succ_cons, List.take_zero, maskFrom, if_true, if_false]
      repeat (go_big_quiet_step ((first | (intro _; go_at_call 55; with_reducible exact grow_of2 (qmul_any _ _ _ _ _ _ _ _ _)) | (intro _; go_at_call 56; with_reducible exact grow_of2 (qback_any _ _ _ _ _)))))
      exact wpQuiet_nil rfl
    case hsp =>
      intro i hi
      simp only [List.mem_cons, List.not_mem_nil, or_false] at hi
      rcases hi with rfl
      intro o d ho hd f k m hG
      obtain rfl := Option.some.inj (show some _ = some o from ho)
      obtain rfl := Option.some.inj (show some _ = some d from hd)
      exact flow_new (by decide) (by simp [go_sem])
    case hG => intro t v k m k' m' h; exact h.ext k' m'
    case ht =>
      intro f k m hf _
      obtain ⟨g7, e7, h71, h72, h73, h74⟩ := hf 7 (by decide)
      simp (decide := true) only [List.drop_succ_cons, List.drop_zero, ghosted, List.foldl_cons, List.foldl_nil, e7]
      obtain ⟨X, hX⟩ : ∃ X, X = ext V k m := ⟨_, rfl⟩
      have hbX := Lib.hid (show Below V.heap.size V X from hX ▸ below_ext V k m)
      rw [← hX] at h72 h73 h74 ⊢
      have y0 := (hbX.out.cell (p := ⟨g5, 0, none⟩) h52).trans v0
      have y1 := (hbX.out.cell (p := ⟨g5, 1, none⟩) h52).trans v1
      have y2 := (hbX.out.cell (p := ⟨g5, 2, none⟩) h52).trans v2
      have y3 := (hbX.out.cell (p := ⟨g5, 3, none⟩) h52).trans v3
      have z0 := (hbX.out.cell (p := ⟨g6, 0, none⟩) h62).trans u0
      have z1 := (hbX.out.cell (p := ⟨g6, 1, none⟩) h62).trans u1
      have z2 := (hbX.out.cell (p := ⟨g6, 2, none⟩) h62).trans u2
      have z3 := (hbX.out.cell (p := ⟨g6, 3, none⟩) h62).trans u3
      have c0 := h73 0 (by omega)
      have c1 := h73 1 (by omega)
      have c2 := h73 2 (by omega)
      have c3 := h73 3 (by omega)
      have f0 := h74 0
      have f1 := h74 1
      have f2 := h74 2
      have f3 := h74 3
      have n5 : ¬ g5 = g7 := by omega
      have x5 : g5 < X.heap.size := by omega
      have x6 : g6 < X.heap.size := by omega
      have n6 : ¬ g6 = g7 := by omega
      clear hX v0 v1 v2 v3 u0 u1 u2 u3 h73 h74 hf e7
      obtain ⟨⟨P0, P0'⟩, ⟨P1, P1'⟩, ⟨P2, P2'⟩, ⟨P3, P3'⟩⟩ := P
      obtain ⟨⟨S0, S0'⟩, ⟨S1, S1'⟩, ⟨S2, S2'⟩, ⟨S3, S3'⟩⟩ := S
      obtain ⟨hP1, hP2⟩ := hP
      obtain ⟨hS1, hS2⟩ := hS
      obtain ⟨⟨R1, R2⟩, ⟨R3, R4⟩, ⟨R5, R6⟩, ⟨R7, R8⟩⟩ := hR
      rw [hr0, hr1, hr2, hr3]
      go_wp2_with (first
        | (go_at_call 57; (with_reducible refine (square_any _ _ _ _ _ (by assumption) (by assumption) (by assumption) (by assumption) (by assumption) (by assumption) (by assumption) (by assumption)).mono ?_); rintro e w1 ⟨rfl, hb⟩; obtain ⟨l, n, rfl⟩ := ext_of hb; clear hb)
        | (go_at_call 55; (with_reducible refine (qmul_any _ _ _ _ _ _ _ _ _).mono ?_); rw [hs0, hs1, hs2, hs3]; rintro e w1 ⟨rfl, hb⟩; obtain ⟨l, n, rfl⟩ := ext_of hb; clear hb)
        | (go_at_call 33; (with_reducible refine (near_any _ _ _ _ (by omega) (by omega) (by omega) (by omega) (by omega) (by omega)).mono ?_); rintro e w1 ⟨rfl, rfl⟩))
      go_ret
      have hXb : Below w.heap.size w X := hVb.out.trans (hbX.out.mono hVb.out.size)
      exact ⟨rfl, by
        repeat (first | exact hXb | (refine Below.setCell ?_ (by simp only []; omega) _) | (refine Below.setCell ?_ (show w.heap.size ≤ g7 by omega) _) | apply Below.drew | apply Below.al | apply Below.ex)⟩
end Go.Proofs.Ytdnepccjgclgiaa
