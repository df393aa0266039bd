/- New blocks for quaternions in a region that draws its order. -/
import Derived.Test.YtdnepccjgclgiaaQrow
import Derived.Test.YtdnepccjgclgiaaFlow
namespace Go.Proofs.Ytdnepccjgclgiaa
open Go.RowKit

/-- A pointer to a new block of four zeros, at or above B. -/
def Fresh (B : Nat) (v : Value) (w : World) : Prop := ∃ g, v = .pointer (some ⟨g, 0, none⟩) ∧ B ≤ g ∧ g < w.heap.size ∧ (∀ i, i < 4 → w.cell? ⟨g, i, none⟩ = some (.int .i64 0)) ∧ ∀ i, w.frozen? ⟨g, i, none⟩ = false
theorem Fresh.ext {B : Nat} {v : Value} {w : World} (h : Fresh B v w) (k : List Obj) (m : Nat) : Fresh B v (ext w k m) := by
  obtain ⟨g, rfl, h1, h2, h3, h4⟩ := h
  exact ⟨g, rfl, h1, by rw [size_ext]; omega, fun i hi => ((below_ext w k m).cell (p := ⟨g, i, none⟩) h2).trans (h3 i hi), fun i => ((below_ext w k m).frozen (p := ⟨g, i, none⟩) h2).trans (h4 i)⟩
theorem alloc_ext' (w : World) (o : Obj) : w.alloc o = ext w [o] w.drawn := by
  cases w; simp [World.alloc, Go.Proofs.Ytdnepccjgclgiaa.ext]
theorem flow_new0 {ρ : Operand → Value} {W : World} {R : Value → World → Prop} {d : Option Tmp} {ty : TypeId} {ps : String} {af : Array Edge} {g : Option (Nat × Bool)}
    (hR : R (.pointer (some ⟨W.heap.size, 0, none⟩)) (W.alloc (.cells #[.int .i64 0, .int .i64 0, .int .i64 0, .int .i64 0] 51))) :
    flowUpon Try.prog R ((execOp ρ { dst := d, op := .alloc 51, type := ty, pos := ps, after := af, guard := g }).run Try.prog W) := by
  simp [execOp, go_sem]
  exact hR
theorem flow_new {ρ : Operand → Value} {W : World} {B : Nat} {gs : List Nat} {aF : Act} {d : Nat} {dst : Option Tmp} {ty : TypeId} {ps : String} {af : Array Edge} {g : Option (Nat × Bool)} (hd : d ∈ gs) (hB : B ≤ W.heap.size) :
    flowUpon Try.prog (fun v w' => (d ∈ gs → Fresh B v w' ∧ ∀ t u, t ∈ gs → Fresh B u W → u ≠ v) ∧ (d ∉ gs → aF.tmps[d]? = some v) ∧ ∃ k' m', w' = ext W k' m') ((execOp ρ { dst := dst, op := .alloc 51, type := ty, pos := ps, after := af, guard := g }).run Try.prog W) := by
  refine flow_new0 ⟨fun _ => ⟨⟨W.heap.size, rfl, hB, by rw [alloc_ext', size_ext]; simp, fun i hi => ?_, fun i => by simp [go_sem]⟩, ?_⟩, fun h => absurd hd h, _, _, alloc_ext' _ _⟩
  · match i, hi with
    | 0, _ => simp [go_sem]
    | 1, _ => simp [go_sem]
    | 2, _ => simp [go_sem]
    | 3, _ => simp [go_sem]
  · rintro t u _ ⟨g, rfl, _, hg, _⟩ he
    injection he with h1
    injection h1 with h1
    injection h1 with h1
    omega
end Go.Proofs.Ytdnepccjgclgiaa
