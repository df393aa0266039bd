/- quat.Mul. -/
import Derived.Test.YtdnepccjgclgiaaQrow
import Derived.Test.YtdnepccjgclgiaaFlow
namespace Go.Proofs.Ytdnepccjgclgiaa
open Go.RowKit

theorem irow_al (w : World) (a b c d : Int) (t : TypeId) : IRow (w.alloc (.cells #[.int .i64 a, .int .i64 b, .int .i64 c, .int .i64 d] t)) w.heap.size [a, b, c, d] := by
  have hh : (w.alloc (.cells #[.int .i64 a, .int .i64 b, .int .i64 c, .int .i64 d] t)).heap[w.heap.size]? = some (.cells #[.int .i64 a, .int .i64 b, .int .i64 c, .int .i64 d] t) := by
    show (w.heap.push _)[w.heap.size]? = _
    rw [Array.getElem?_push_size]
  refine ⟨fun k hk => ?_, fun k hk => ?_⟩
  · rw [cell_of_row _ _ k _ _ _ hh]
    match k, hk with
    | 0, _ => rfl
    | 1, _ => rfl
    | 2, _ => rfl
    | 3, _ => rfl
  · unfold World.frozen?
    simp only [hh]
    simp

/-- A slice of these numbers. -/
def Good (X : List Int) (v : Value) (w : World) : Prop := ∃ g, v = .slice (some ⟨g, 0, none⟩) X.length X.length ∧ IRow w g X ∧ g < w.heap.size
theorem Good.ext {X : List Int} {v : Value} {w : World} (h : Good X v w) (k : List Obj) (m : Nat) : Good X v (ext w k m) := by
  obtain ⟨g, rfl, hr, hg⟩ := h
  exact ⟨g, rfl, hr.below (below_ext w k m) hg, by rw [size_ext]; omega⟩

theorem alloc_ext (w : World) (o : Obj) : w.alloc o = ext w [o] w.drawn := by
  cases w; simp [World.alloc, Go.Proofs.Ytdnepccjgclgiaa.ext]
theorem flow_build0 {ρ : Operand → Value} {W : World} {R : Value → World → Prop} {d : Option Tmp} {ty : TypeId} {ps : String} {af : Array Edge} {g : Option (Nat × Bool)} {t1 t2 t3 t4 : Tmp} {a b c e : Int}
    (e1 : ρ (.tmp t1) = .int .i64 a) (e2 : ρ (.tmp t2) = .int .i64 b) (e3 : ρ (.tmp t3) = .int .i64 c) (e4 : ρ (.tmp t4) = .int .i64 e)
    (hR : ∀ t : TypeId, R (.slice (some ⟨W.heap.size, 0, none⟩) 4 4) (W.alloc (.cells #[.int .i64 a, .int .i64 b, .int .i64 c, .int .i64 e] t))) :
    flowUpon Try.prog R ((execOp ρ { dst := d, op := .buildSlice 81 4 #[(0, .tmp t1), (1, .tmp t2), (2, .tmp t3), (3, .tmp t4)], type := ty, pos := ps, after := af, guard := g }).run Try.prog W) := by
  simp [execOp, e1, e2, e3, e4, go_sem]
  exact hR 3
theorem flow_build {ρ : Operand → Value} {W : World} {gs : List Nat} {Y : List Int} {Z : Nat → List Int} {aF : Act} {d : Nat} {dst : Option Tmp} {ty : TypeId} {ps : String} {af : Array Edge} {g : Option (Nat × Bool)} {t1 t2 t3 t4 : Tmp} {a b c e : Int} (hd : d ∈ gs) (hX : Y = [a, b, c, e])
    (e1 : ρ (.tmp t1) = .int .i64 a) (e2 : ρ (.tmp t2) = .int .i64 b) (e3 : ρ (.tmp t3) = .int .i64 c) (e4 : ρ (.tmp t4) = .int .i64 e) :
    flowUpon Try.prog (fun v w' => (d ∈ gs → Good Y v w' ∧ ∀ t u, t ∈ gs → Good (Z t) u W → u ≠ v) ∧ (d ∉ gs → aF.tmps[d]? = some v) ∧ ∃ k' m', w' = ext W k' m') ((execOp ρ { dst := dst, op := .buildSlice 81 4 #[(0, .tmp t1), (1, .tmp t2), (2, .tmp t3), (3, .tmp t4)], type := ty, pos := ps, after := af, guard := g }).run Try.prog W) := by
  refine flow_build0 e1 e2 e3 e4 fun t => ⟨fun _ => ⟨?_, ?_⟩, fun h => absurd hd h, _, _, alloc_ext _ _⟩
  case refine_2 =>
    rintro t u _ ⟨g, rfl, _, hg⟩ he
    injection he with h1
    injection h1 with h1
    injection h1 with h1
    omega
  rw [hX]
  exact ⟨W.heap.size, rfl, irow_al _ _ _ _ _ _, by rw [alloc_ext, size_ext]; simp⟩
theorem flow_sum {ρ : Operand → Value} {W : World} {gs : List Nat} {Y : List Int} {Z : Nat → List Int} {aF : Act} {d : Nat} {dst : Option Tmp} {ty : TypeId} {ps : String} {af : Array Edge} {g : Option (Nat × Bool)} {t : Tmp} {v : Value} {X : List Int} (hd : d ∉ gs) (hX : X.length ≤ 16)
    (hF : aF.tmps[d]? = some (.int .i64 (qsum X))) (hv : Good X v W) (e : ρ (.tmp t) = v) (hc : ρ (.func 79) = .func (.func 79) #[] #[]) :
    flowUpon Try.prog (fun v w' => (d ∈ gs → Good Y v w' ∧ ∀ t u, t ∈ gs → Good (Z t) u W → u ≠ v) ∧ (d ∉ gs → aF.tmps[d]? = some v) ∧ ∃ k' m', w' = ext W k' m') ((execOp ρ { dst := dst, op := .call { callee := .value (.func 79), args := #[.tmp t], argTypes := #[81] }, type := ty, pos := ps, after := af, guard := g }).run Try.prog W) := by
  obtain ⟨b, rfl, hr, hb⟩ := hv
  simp only [execOp, e, hc, go_sem, resolve, List.map_toArray, List.map_cons, List.map_nil]
  exact (sum_any b X.length X.length X W rfl hX hr).mono fun e w' ⟨he, hw⟩ => ⟨_, he, fun h => absurd h hd, fun _ => hF, [], W.drawn, by rw [ext_nil, hw]⟩

set_option maxRecDepth 20000 in
set_option maxHeartbeats 4000000 in
theorem mul_any (a b c d x y z v : Int) (w : World) :
    Calls Try.prog 55 #[.agg #[.int .i64 a, .int .i64 b, .int .i64 c, .int .i64 d], .agg #[.int .i64 x, .int .i64 y, .int .i64 z, .int .i64 v]] w fun e w' => e = .returned (.agg #[.int .i64 (qsum [fmul a x, - fmul b y, - fmul c z, - fmul d v]), .int .i64 (qsum [fmul a y, fmul b x, fmul c v, - fmul d z]), .int .i64 (qsum [fmul a z, - fmul b v, fmul c x, fmul d y]), .int .i64 (qsum [fmul a v, fmul b z, - fmul c y, fmul d x])]) ∧ Below w.heap.size w w' := by
  obtain ⟨b1, b2⟩ := fmul_bd b y
  obtain ⟨b3, b4⟩ := fmul_bd c z
  obtain ⟨b5, b6⟩ := fmul_bd d v
  obtain ⟨b7, b8⟩ := fmul_bd d z
  obtain ⟨b9, b10⟩ := fmul_bd b v
  obtain ⟨b11, b12⟩ := fmul_bd c y
  go_enter Try.func55, Try.ntmps55
  go_wp2_with fail
  apply region_flow0 111 [33, 60, 87, 114] [27, 28, 54, 55, 81, 82, 108, 109] (fun i => if i = 28 then .int .i64 (qsum [fmul a x, - fmul b y, - fmul c z, - fmul d v]) else if i = 55 then .int .i64 (qsum [fmul a y, fmul b x, fmul c v, - fmul d z]) else if i = 82 then .int .i64 (qsum [fmul a z, - fmul b v, fmul c x, fmul d y]) else if i = 109 then .int .i64 (qsum [fmul a v, fmul b z, - fmul c y, fmul d x]) else undef)
    (fun t => Good (if t = 33 then [fmul a x, - fmul b y, - fmul c z, - fmul d v] else if t = 60 then [fmul a y, fmul b x, fmul c v, - fmul d z] else if t = 87 then [fmul a z, - fmul b v, fmul c x, fmul d y] else [fmul a v, fmul b z, - fmul c y, fmul d x])) 
  case hm => kernel_rfl
  case hB => kernel_rfl
  case hw' =>
    intro k
    simp (decide := true) only [List.append, List.take_succ_cons, List.take_zero, maskFrom, if_true, if_false]
    repeat (go_big_quiet_step ((intro _; go_at_call 43; exact grow_of2 (fmul_any _ _ _))))
    exact wpQuiet_nil rfl
  case hsp =>
    intro i hi
    simp only [List.mem_cons, List.not_mem_nil, or_false] at hi
    rcases hi with rfl | rfl | rfl | rfl | rfl | rfl | rfl | rfl <;> intro o d ho hd f k m hG <;> obtain rfl := Option.some.inj (show some _ = some o from ho) <;> obtain rfl := Option.some.inj (show some _ = some d from hd)
    · refine flow_build (a := fmul a x) (b := - fmul b y) (c := - fmul c z) (e := - fmul d v) ?_ ?_ ?_ ?_ ?_ ?_ <;> first | decide | rfl
    · refine flow_sum (X := [fmul a x, - fmul b y, - fmul c z, - fmul d v]) ?_ (by simp) ?_ (hG 33 (by decide) (by simp [Op.operands, Call.operands])) ?_ ?_ <;> first | decide | rfl
    · refine flow_build (a := fmul a y) (b := fmul b x) (c := fmul c v) (e := - fmul d z) ?_ ?_ ?_ ?_ ?_ ?_ <;> first | decide | rfl
    · refine flow_sum (X := [fmul a y, fmul b x, fmul c v, - fmul d z]) ?_ (by simp) ?_ (hG 60 (by decide) (by simp [Op.operands, Call.operands])) ?_ ?_ <;> first | decide | rfl
    · refine flow_build (a := fmul a z) (b := - fmul b v) (c := fmul c x) (e := fmul d y) ?_ ?_ ?_ ?_ ?_ ?_ <;> first | decide | rfl
    · refine flow_sum (X := [fmul a z, - fmul b v, fmul c x, fmul d y]) ?_ (by simp) ?_ (hG 87 (by decide) (by simp [Op.operands, Call.operands])) ?_ ?_ <;> first | decide | rfl
    · refine flow_build (a := fmul a v) (b := fmul b z) (c := - fmul c y) (e := fmul d x) ?_ ?_ ?_ ?_ ?_ ?_ <;> first | decide | rfl
    · refine flow_sum (X := [fmul a v, fmul b z, - fmul c y, fmul d x]) ?_ (by simp) ?_ (hG 114 (by decide) (by simp [Op.operands, Call.operands])) ?_ ?_ <;> first | decide | rfl
  case hG =>
    intro t v k m k' m' h
    exact h.ext k' m'
  case ht =>
    intro f k m _ _
    simp (decide := true) only [List.append, List.drop_succ_cons, List.drop_zero, ghosted, List.foldl_cons, List.foldl_nil]
    go_wp2
    exact bodyPost_ret (v := .agg #[.int .i64 (qsum [fmul a x, - fmul b y, - fmul c z, - fmul d v]), .int .i64 (qsum [fmul a y, fmul b x, fmul c v, - fmul d z]), .int .i64 (qsum [fmul a z, - fmul b v, fmul c x, fmul d y]), .int .i64 (qsum [fmul a v, fmul b z, - fmul c y, fmul d x])]) (by simp [results, Try.results55, go_sem]) rfl ⟨rfl, by repeat (first | exact Below.refl _ _ | apply Below.drew | apply Below.al | apply Below.ex)⟩
end Go.Proofs.Ytdnepccjgclgiaa
