/- Regions that read and call, in a world that has grown already. -/
import Derived.Test.YtdnepccjgclgiaaExt
import Derived.Test.YtdnepccjgclgiaaTail
namespace Go.Proofs.Ytdnepccjgclgiaa
open Go.RowKit

/-- A region that reads and calls, in a world that has grown already. -/
theorem region_grow_ext {P : Program} {id : Nat} {Q : Exit → Act → World → Prop} {a : Act} {w : World} {l0 : List Obj} {n0 : Nat} {l : List Oper} (hm : P.follows .mixedOrders = true) (hB : Region.lexB .any l.toArray = true)
    (h : wpQuiet P l.toArray (fun w' => ∃ k n, w' = ext w k n) (fun a' => ∀ w', (∃ k n, w' = ext w k n) → Q .normal a' w') l a) : (Code.region id l.toArray true).wp P Q a (ext w l0 n0) :=
  wp_region_quiet (C := fun w' => ∃ k n, w' = ext w k n) hm hB ⟨l0, n0 + 1, by simp [ext]⟩ (by simpa using h)

end Go.Proofs.Ytdnepccjgclgiaa
