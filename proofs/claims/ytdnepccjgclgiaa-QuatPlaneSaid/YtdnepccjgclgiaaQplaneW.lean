/- For every input, QuatPlane returns true. No condition. -/
import Derived.Test.YtdnepccjgclgiaaQplane
namespace Go.Proofs.Ytdnepccjgclgiaa
open Go.RowKit

/-- A pointer to a new block of three zeros, at or above B. -/
def Fresh3 (B : Nat) (v : Value) (w : World) : Prop := ∃ g, v = .pointer (some ⟨g, 0, none⟩) ∧ B ≤ g ∧ g < w.heap.size ∧ (∀ i, i < 3 → w.cell? ⟨g, i, none⟩ = some (.int .i64 0)) ∧ ∀ i, w.frozen? ⟨g, i, none⟩ = false
theorem Fresh3.ext {B : Nat} {v : Value} {w : World} (h : Fresh3 B v w) (k : List Obj) (m : Nat) : Fresh3 B v (ext w k m) := by
  obtain ⟨g, rfl, h1, h2, h3, h4⟩ := h
  exact ⟨g, rfl, h1, by rw [size_ext]; omega, fun i hi => ((below_ext w k m).cell (p := ⟨g, i, none⟩) h2).trans (h3 i hi), fun i => ((below_ext w k m).frozen (p := ⟨g, i, none⟩) h2).trans (h4 i)⟩
theorem flow_new03 {ρ : Operand → Value} {W : World} {R : Value → World → Prop} {d : Option Tmp} {ty : TypeId} {ps : String} {af : Array Edge} {g : Option (Nat × Bool)}
    (hR : R (.pointer (some ⟨W.heap.size, 0, none⟩)) (W.alloc (.cells #[.int .i64 0, .int .i64 0, .int .i64 0] 58))) :
    flowUpon Try.prog R ((execOp ρ { dst := d, op := .alloc 58, type := ty, pos := ps, after := af, guard := g }).run Try.prog W) := by
  simp [execOp, go_sem]
  exact hR
theorem flow_new3 {ρ : Operand → Value} {W : World} {B : Nat} {gs : List Nat} {aF : Act} {d : Nat} {dst : Option Tmp} {ty : TypeId} {ps : String} {af : Array Edge} {g : Option (Nat × Bool)} (hd : d ∈ gs) (hB : B ≤ W.heap.size) :
    flowUpon Try.prog (fun v w' => (d ∈ gs → Fresh3 B v w' ∧ ∀ t u, t ∈ gs → Fresh3 B u W → u ≠ v) ∧ (d ∉ gs → aF.tmps[d]? = some v) ∧ ∃ k' m', w' = ext W k' m') ((execOp ρ { dst := dst, op := .alloc 58, type := ty, pos := ps, after := af, guard := g }).run Try.prog W) := by
  refine flow_new03 ⟨fun _ => ⟨⟨W.heap.size, rfl, hB, by rw [alloc_ext', size_ext]; simp, fun i hi => ?_, fun i => by simp [go_sem]⟩, ?_⟩, fun h => absurd hd h, _, _, alloc_ext' _ _⟩
  · match i, hi with
    | 0, _ => simp [go_sem]
    | 1, _ => simp [go_sem]
    | 2, _ => simp [go_sem]
  · rintro t u _ ⟨g, rfl, _, hg, _⟩ he
    injection he with h1
    injection h1 with h1
    injection h1 with h1
    omega

set_option maxRecDepth 8000 in
set_option maxHeartbeats 2000000 in
theorem QuatPlaneW (a0 a1 a2 : Int) (w0 : (Lit.int .i64 a0).wf = true) (w1 : (Lit.int .i64 a1).wf = true) (w2 : (Lit.int .i64 a2).wf = true) (w : World) :
    Calls Try.prog 23 #[.int .i64 a0, .int .i64 a1, .int .i64 a2] w fun e w' => e = .returned (.bool true) ∧ Below w.heap.size w w' := by
  have hx := bounds_i64 w0
  have hy := bounds_i64 w1
  have hz := bounds_i64 w2
  clear w0 w1 w2
  have X1 := num_lo a0 16777216 (by omega)
  have X2 := num_hi a0 16777216 (by omega)
  have Y1 := num_lo a1 16777216 (by omega)
  have Y2 := num_hi a1 16777216 (by omega)
  have K1 : 0 ≤ a2 % 65536 := by omega
  have K2 : a2 % 65536 < 65536 := by omega
  obtain ⟨l, u, v, t1, t2, t3, eL, eU, eV, e1, e2, e3, l0, l1, ⟨u0, u1⟩, ⟨v0, v1⟩, ⟨f1, f2⟩, ⟨f3, f4⟩, f5, f6⟩ := plane_facts (a2 % 65536) _ _ K1 X1 X2 Y1 Y2
  go_enter Try.func23, Try.ntmps23
  go_wp2_with (first
    | (go_at_call 53; (with_reducible refine (quatBegun_any _).mono ?_); rintro e w1 ⟨rfl, hb⟩; obtain ⟨k0, n0, rfl⟩ := ext_of hb; clear hb)
    | (go_at_call 30; (with_reducible refine (below_any _ _ _ (by omega) (by omega) (by omega) (by omega)).mono ?_); rintro e w1 ⟨rfl, rfl⟩)
    | (go_at_call 42; (with_reducible refine (num_any _ _ _ (by omega) (by omega) (by omega) (by omega)).mono ?_); rintro e w1 ⟨rfl, rfl⟩)
    | (go_at_call 52; (with_reducible refine (vturn_any _ _ _ _).mono ?_); rintro e w1 ⟨rfl, hb⟩; obtain ⟨k3, n3, rfl⟩ := ext_of hb; clear hb))
  generalize num a0 16777216 = X at *
  generalize num a1 16777216 = Y at *
  obtain ⟨V, hV⟩ : ∃ V, V = (ext ((ext w k0 n0).alloc (Obj.cells #[Value.int IntKind.i64 X, Value.int IntKind.i64 Y] 24)) k3 n3).alloc (Obj.cells #[Value.int IntKind.i64 u, Value.int IntKind.i64 v] 24) := ⟨_, rfl⟩
  have hVb := Lib.hid (show Below w.heap.size w V from hV ▸ by repeat (first | exact Below.refl _ _ | apply Below.drew | apply Below.al | apply Below.ex))
  have g1 : V.cell? ⟨w.heap.size + k0.length, 0, none⟩ = some (.int .i64 X) := by rw [hV]; simp [go_sem]
  have g2 : V.cell? ⟨w.heap.size + k0.length, 1, none⟩ = some (.int .i64 Y) := by rw [hV]; simp [go_sem]
  have g3 : V.cell? ⟨w.heap.size + k0.length + 1 + k3.length, 0, none⟩ = some (.int .i64 u) := by rw [hV]; simp [go_sem]
  have g4 : V.cell? ⟨w.heap.size + k0.length + 1 + k3.length, 1, none⟩ = some (.int .i64 v) := by rw [hV]; simp [go_sem]
  have s1 : w.heap.size + k0.length < V.heap.size := by rw [hV]; simp [go_sem] <;> omega
  have s2 : w.heap.size + k0.length + 1 + k3.length < V.heap.size := by rw [hV]; simp [go_sem]
  obtain ⟨p, hp⟩ : ∃ p, w.heap.size + k0.length = p := ⟨_, rfl⟩
  rw [hp] at g1 g2 g3 g4 s1 s2
  obtain ⟨q, hq⟩ : ∃ q, p + 1 + k3.length = q := ⟨_, rfl⟩
  rw [hq] at g3 g4 s2
  simp only [hp, hq]
  rw [← hV]
  have hbase := hVb.out.size
  clear hV hp hq
  apply region_flow0 10 [9] [9] (fun _ => undef) (fun _ => Fresh3 V.heap.size)
  case hm => kernel_rfl
  case hB => kernel_rfl
  case hw' =>
    intro k
    simp (decide := true) only [List.take_succ_cons, List.take_zero, maskFrom, if_true, if_false]
    repeat (go_big_quiet_step ((first | (intro _; go_at_call 62; with_reducible exact grow_of2 (of_axis _ _)) | (intro _; go_at_call 59; with_reducible exact grow_of2 (qturn_any _ _ _ _ _ _ _ _)))))
    exact wpQuiet_nil rfl
  case hsp =>
    intro i hi
    simp only [List.mem_cons, List.not_mem_nil, or_false] at hi
    rcases hi with rfl
    intro o d ho hd f k m hG
    obtain rfl := Option.some.inj (show some _ = some o from ho)
    obtain rfl := Option.some.inj (show some _ = some d from hd)
    exact flow_new3 (by decide) (by simp [go_sem])
  case hG => intro t v k m k' m' h; exact h.ext k' m'
  case ht =>
    intro f k m hf _
    obtain ⟨g9, e9, h91, h92, h93, h94⟩ := hf 9 (by decide)
    simp (decide := true) only [List.drop_succ_cons, List.drop_zero, ghosted, List.foldl_cons, List.foldl_nil, e9]
    obtain ⟨Z, hZ⟩ : ∃ Z, Z = ext V k m := ⟨_, rfl⟩
    have hbZ := Lib.hid (show Below V.heap.size V Z from hZ ▸ below_ext V k m)
    rw [← hZ] at h92 h93 h94 ⊢
    have y0 := (hbZ.out.cell (p := ⟨p, 0, none⟩) s1).trans g1
    have y1 := (hbZ.out.cell (p := ⟨p, 1, none⟩) s1).trans g2
    have z0 := (hbZ.out.cell (p := ⟨q, 0, none⟩) s2).trans g3
    have z1 := (hbZ.out.cell (p := ⟨q, 1, none⟩) s2).trans g4
    have c0 := h93 0 (by omega)
    have c1 := h93 1 (by omega)
    have c2 := h93 2 (by omega)
    have i0 := h94 0
    have i1 := h94 1
    have i2 := h94 2
    have m1 : ¬ p = g9 := by omega
    have m2 : ¬ q = g9 := by omega
    have m3 : p < Z.heap.size := by omega
    have m4 : q < Z.heap.size := by omega
    clear hZ h93 h94 hf e9 g1 g2 g3 g4
    rw [e1, e2, e3]
    go_wp2_with (first
      | (go_at_call 26; (with_reducible refine (vlen_any _ _ _).mono ?_); rintro e w1 ⟨rfl, hb⟩; obtain ⟨k3, n3, rfl⟩ := ext_of hb; clear hb)
      | (go_at_call 33; (with_reducible refine (near_any _ _ _ _ (by omega) (by omega) (by omega) (by omega) (by omega) (by omega)).mono ?_); rintro e w1 ⟨rfl, rfl⟩))
    go_ret
    have hZb : Below w.heap.size w Z := hVb.out.trans (hbZ.out.mono hVb.out.size)
    exact ⟨rfl, by
      repeat (first | exact hZb | (refine Below.setCell ?_ (by simp only []; omega) _) | apply Below.drew | apply Below.al | apply Below.ex)⟩
end Go.Proofs.Ytdnepccjgclgiaa
