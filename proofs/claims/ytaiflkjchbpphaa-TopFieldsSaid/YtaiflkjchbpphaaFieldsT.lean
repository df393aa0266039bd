/- TopFields: the walk with the form's own premises. -/
import Derived.Test.YtaiflkjchbpphaaFieldsW
import Derived.OpenShut
namespace Go.Proofs.Ytaiflkjchbpphaa
open Go.RowKit

theorem TopFieldsW (a0 : Option Addr) (len0 cap0 : Nat) (z0 : List Int) (a1 : Int) (a2 : Int) (w : World)
    (w0 : ((a0 = none ∧ len0 = 0 ∧ cap0 = 0 ∧ z0 = []) ∨ ∃ x, a0 = some x ∧ len0 ≤ cap0 ∧ cap0 ≤ maxLen ∧ z0.length = cap0 ∧ (∀ i, i < z0.length → w.cell? (x.add i) = some (.int .i64 (z0.getD i 0))) ∧ ∀ n ∈ z0, (Lit.int .i64 n).wf = true) ∧ cap0 * 8 ≤ 140737488351232)
    (w1 : (Lit.int .i64 a1).wf = true) (w2 : (Lit.int .i64 a2).wf = true) :
    Calls Try.prog 4 #[.slice a0 len0 cap0, .int .i64 a1, .int .i64 a2] w fun e w' => e = .returned (.bool true) ∧ Below w.heap.size w w' := by
  obtain ⟨ns, rfl, hn, hc, hb, hlc⟩ := row_open w0.1
  refine fields_core a0 ns cap0 a1 a2 w (fun h => (hn h).1) (fun x hx j v hv => hc x hx j _ (by simp [hv])) (fun x hx h0 => ?_) (fun v hv => bounds_i64 (hb v hv)) (by have := w0.2; omega) (bounds_i64 w1) (bounds_i64 w2)
  have := hc x hx 0 (.int .i64 ns[0]) (by simp [h0])
  rcases Nat.lt_or_ge x.block w.heap.size with h1 | h1
  · exact h1
  · exfalso
    simp only [World.cell?, add_block] at this
    rw [Array.getElem?_eq_none h1] at this
    simp at this
end Go.Proofs.Ytaiflkjchbpphaa
