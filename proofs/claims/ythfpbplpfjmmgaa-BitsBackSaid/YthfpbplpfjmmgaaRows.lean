/-
  No cell of these rows narrows 'for every input' (looked for: loops, veiled, ifaces, maps, wideKeys, modest, calm, conditions, laid).
  DERIVED. THE GIVEN ROWS OF THIS SEAT. 8 by the template 'for every input the law returns true; each argument reads behind the call as it read before'; 0 by the template 'total and deterministic' (their statements: YthfpbplpfjmmgaaTotals.lean).
  GIVEN WITH THE SEED: the statements are not yours to turn. If you find one false, say at which input.
  Laid BY PROGRAM, IN A SANDBOX (cutbox-rows.mjs): the forced cells as the released guide's own fill.sh prints them over the translation 47426613e24fdda0… (all of the seat's roots in one cut). By AI agents, Wed Nov 11 2026. No macro, syntax, notation, axiom, sorry.
-/
import Derived.Test.YthfpbplpfjmmgaaChecked
import GoSem.Claim
import GoSem.ClaimJoined
import GoSem.ClaimMapViews
import Derived.JoinedTies
import Derived.KernelRfl
namespace Go.Proofs.Ythfpbplpfjmmgaa
/- THE CELL 'sum', in the pinned program and in every row, IS THE sha256 OF THE DUMP (.gsa) THAT YthfpbplpfjmmgaaProg.lean LOADS. Nothing in Lean hashes anything: it is a label: what it is worth is what the hold of that sum in a sandbox is worth. -/
noncomputable def Try.pinned : Pinned := { name := "ythfpbplpfjmmgaa", sum := "47426613e24fdda0121dd30b6b957fa3ccc9e34ade84a5ec4c463ccbaab89150", checked := Try.checked }
namespace Rows
def none {H : Type} : Left H := { results := [], args := [] }

/-- 'tourkeep1.RndSplits': WHATEVER THE INPUT: true; the input reads as it did. -/
def rndSplitsSpec : ChangeSpec := { name := "rndSplits", fn := fun _ => fun
  | [d1, d2] => { results := [.lit (.bool true)], args := [d1, d2] }
  | _ => none }
def rndSplitsRow : OpenClaim := { program := "ythfpbplpfjmmgaa", sum := "47426613e24fdda0121dd30b6b957fa3ccc9e34ade84a5ec4c463ccbaab89150", func := "tourney/tourkeep1.RndSplits", spec := "rndSplits", apart := false }
def RndSplitsSaid : Prop := rndSplitsRow.holds Try.pinned (OpenSpec.ofChange rndSplitsSpec)

/-- ITS FALSE NEIGHBOUR: 'it returns false'. Refute it at one input. -/
def rndSplitsWrong : ChangeSpec := { name := "rndSplits", fn := fun _ => fun
  | [d1, d2] => { results := [.lit (.bool false)], args := [d1, d2] }
  | _ => none }
def RndSplitsWrongFalsely : Prop := rndSplitsRow.holds Try.pinned (OpenSpec.ofChange rndSplitsWrong)

/-- 'tourkeep1.RndRanges': WHATEVER THE INPUT: true; the input reads as it did. -/
def rndRangesSpec : ChangeSpec := { name := "rndRanges", fn := fun _ => fun
  | [d1, d2] => { results := [.lit (.bool true)], args := [d1, d2] }
  | _ => none }
def rndRangesRow : OpenClaim := { program := "ythfpbplpfjmmgaa", sum := "47426613e24fdda0121dd30b6b957fa3ccc9e34ade84a5ec4c463ccbaab89150", func := "tourney/tourkeep1.RndRanges", spec := "rndRanges", apart := false }
def RndRangesSaid : Prop := rndRangesRow.holds Try.pinned (OpenSpec.ofChange rndRangesSpec)

/-- ITS FALSE NEIGHBOUR: 'it returns false'. Refute it at one input. -/
def rndRangesWrong : ChangeSpec := { name := "rndRanges", fn := fun _ => fun
  | [d1, d2] => { results := [.lit (.bool false)], args := [d1, d2] }
  | _ => none }
def RndRangesWrongFalsely : Prop := rndRangesRow.holds Try.pinned (OpenSpec.ofChange rndRangesWrong)

/-- 'tourkeep1.RndApart': WHATEVER THE INPUT: true; the input reads as it did. -/
def rndApartSpec : ChangeSpec := { name := "rndApart", fn := fun _ => fun
  | [d1, d2, d3] => { results := [.lit (.bool true)], args := [d1, d2, d3] }
  | _ => none }
def rndApartRow : OpenClaim := { program := "ythfpbplpfjmmgaa", sum := "47426613e24fdda0121dd30b6b957fa3ccc9e34ade84a5ec4c463ccbaab89150", func := "tourney/tourkeep1.RndApart", spec := "rndApart", apart := false }
def RndApartSaid : Prop := rndApartRow.holds Try.pinned (OpenSpec.ofChange rndApartSpec)

/-- ITS FALSE NEIGHBOUR: 'it returns false'. Refute it at one input. -/
def rndApartWrong : ChangeSpec := { name := "rndApart", fn := fun _ => fun
  | [d1, d2, d3] => { results := [.lit (.bool false)], args := [d1, d2, d3] }
  | _ => none }
def RndApartWrongFalsely : Prop := rndApartRow.holds Try.pinned (OpenSpec.ofChange rndApartWrong)

/-- 'tourkeep1.SumApart': WHATEVER THE INPUT: true; the input reads as it did. -/
def sumApartSpec : ChangeSpec := { name := "sumApart", fn := fun _ => fun
  | [d1, d2, d3, d4, d5] => { results := [.lit (.bool true)], args := [d1, d2, d3, d4, d5] }
  | _ => none }
def sumApartRow : OpenClaim := { program := "ythfpbplpfjmmgaa", sum := "47426613e24fdda0121dd30b6b957fa3ccc9e34ade84a5ec4c463ccbaab89150", func := "tourney/tourkeep1.SumApart", spec := "sumApart", apart := false }
def SumApartSaid : Prop := sumApartRow.holds Try.pinned (OpenSpec.ofChange sumApartSpec)

/-- ITS FALSE NEIGHBOUR: 'it returns false'. Refute it at one input. -/
def sumApartWrong : ChangeSpec := { name := "sumApart", fn := fun _ => fun
  | [d1, d2, d3, d4, d5] => { results := [.lit (.bool false)], args := [d1, d2, d3, d4, d5] }
  | _ => none }
def SumApartWrongFalsely : Prop := sumApartRow.holds Try.pinned (OpenSpec.ofChange sumApartWrong)

/-- 'tourkeep1.QuantBounds': WHATEVER THE INPUT: true; the input reads as it did. -/
def quantBoundsSpec : ChangeSpec := { name := "quantBounds", fn := fun _ => fun
  | [d1, d2, d3, d4, d5] => { results := [.lit (.bool true)], args := [d1, d2, d3, d4, d5] }
  | _ => none }
def quantBoundsRow : OpenClaim := { program := "ythfpbplpfjmmgaa", sum := "47426613e24fdda0121dd30b6b957fa3ccc9e34ade84a5ec4c463ccbaab89150", func := "tourney/tourkeep1.QuantBounds", spec := "quantBounds", apart := false }
def QuantBoundsSaid : Prop := quantBoundsRow.holds Try.pinned (OpenSpec.ofChange quantBoundsSpec)

/-- ITS FALSE NEIGHBOUR: 'it returns false'. Refute it at one input. -/
def quantBoundsWrong : ChangeSpec := { name := "quantBounds", fn := fun _ => fun
  | [d1, d2, d3, d4, d5] => { results := [.lit (.bool false)], args := [d1, d2, d3, d4, d5] }
  | _ => none }
def QuantBoundsWrongFalsely : Prop := quantBoundsRow.holds Try.pinned (OpenSpec.ofChange quantBoundsWrong)

/-- 'tourkeep1.QuantBack': WHATEVER THE INPUT: true; the input reads as it did. -/
def quantBackSpec : ChangeSpec := { name := "quantBack", fn := fun _ => fun
  | [d1, d2, d3, d4] => { results := [.lit (.bool true)], args := [d1, d2, d3, d4] }
  | _ => none }
def quantBackRow : OpenClaim := { program := "ythfpbplpfjmmgaa", sum := "47426613e24fdda0121dd30b6b957fa3ccc9e34ade84a5ec4c463ccbaab89150", func := "tourney/tourkeep1.QuantBack", spec := "quantBack", apart := false }
def QuantBackSaid : Prop := quantBackRow.holds Try.pinned (OpenSpec.ofChange quantBackSpec)

/-- ITS FALSE NEIGHBOUR: 'it returns false'. Refute it at one input. -/
def quantBackWrong : ChangeSpec := { name := "quantBack", fn := fun _ => fun
  | [d1, d2, d3, d4] => { results := [.lit (.bool false)], args := [d1, d2, d3, d4] }
  | _ => none }
def QuantBackWrongFalsely : Prop := quantBackRow.holds Try.pinned (OpenSpec.ofChange quantBackWrong)

/-- 'tourkeep1.BitsBack': WHATEVER THE INPUT: true; the input reads as it did. -/
def bitsBackSpec : ChangeSpec := { name := "bitsBack", fn := fun _ => fun
  | [d] => { results := [.lit (.bool true)], args := [d] }
  | _ => none }
def bitsBackRow : OpenClaim := { program := "ythfpbplpfjmmgaa", sum := "47426613e24fdda0121dd30b6b957fa3ccc9e34ade84a5ec4c463ccbaab89150", func := "tourney/tourkeep1.BitsBack", spec := "bitsBack", unfollowed := true, recurses := true, apart := false }
def BitsBackSaid : Prop := bitsBackRow.holds Try.pinned (OpenSpec.ofChange bitsBackSpec)

/-- ITS FALSE NEIGHBOUR: 'it returns false'. Refute it at one input. -/
def bitsBackWrong : ChangeSpec := { name := "bitsBack", fn := fun _ => fun
  | [d] => { results := [.lit (.bool false)], args := [d] }
  | _ => none }
def BitsBackWrongFalsely : Prop := bitsBackRow.holds Try.pinned (OpenSpec.ofChange bitsBackWrong)

/-- 'tourkeep1.BitsOnly': WHATEVER THE INPUT: true; the input reads as it did. -/
def bitsOnlySpec : ChangeSpec := { name := "bitsOnly", fn := fun _ => fun
  | [d] => { results := [.lit (.bool true)], args := [d] }
  | _ => none }
def bitsOnlyRow : OpenClaim := { program := "ythfpbplpfjmmgaa", sum := "47426613e24fdda0121dd30b6b957fa3ccc9e34ade84a5ec4c463ccbaab89150", func := "tourney/tourkeep1.BitsOnly", spec := "bitsOnly", apart := false }
def BitsOnlySaid : Prop := bitsOnlyRow.holds Try.pinned (OpenSpec.ofChange bitsOnlySpec)

/-- ITS FALSE NEIGHBOUR: 'it returns false'. Refute it at one input. -/
def bitsOnlyWrong : ChangeSpec := { name := "bitsOnly", fn := fun _ => fun
  | [d] => { results := [.lit (.bool false)], args := [d] }
  | _ => none }
def BitsOnlyWrongFalsely : Prop := bitsOnlyRow.holds Try.pinned (OpenSpec.ofChange bitsOnlyWrong)

/- THE SECOND FORM. 'bulk': how many values and letters a reading holds, each counted each time it is reached (what is shared counts as often as it is met; a slice's spare places count too). A statement '..UptoSaid' is the law's where the arguments, and the package variables that the reading takes, are together of bulk at most 1048576: NARROWER than '..Said'. Prove '..Said' where nothing that the law and all that it calls make is longer than what came in: it says more and counts as full. Else prove '..UptoSaid'. A law counts once. -/
mutual
def uptoBulk {H : Type} : DataW H → Nat
  | .lit (.string bytes) => bytes.length + 1
  | .lit _ => 1
  | .nil => 1
  | .ptr d => uptoBulk d + 1
  | .slice elems spare => uptoBulkAll elems + uptoBulkAll spare + 1
  | .agg parts => uptoBulkAll parts + 1
  | .iface _ d => uptoBulk d + 1
  | .map entries => uptoBulkEntries entries + 1
  | .held _ => 1
def uptoBulkAll {H : Type} : List (DataW H) → Nat
  | [] => 0
  | d :: r => uptoBulk d + uptoBulkAll r
def uptoBulkEntries {H : Type} : List (Lit × DataW H) → Nat
  | [] => 0
  | x :: r => uptoBulkEntry x + uptoBulkEntries r
def uptoBulkEntry {H : Type} : Lit × DataW H → Nat
  | (.string bytes, d) => bytes.length + uptoBulk d + 1
  | (_, d) => uptoBulk d + 1
 end
def uptoSmall : (H : Type) → List (DataW H) → Bool := fun _ ds => decide (uptoBulkAll ds ≤ 1048576)
def OpenSpec.upto (s : _root_.Go.ChangeSpec) : _root_.Go.OpenSpec := { _root_.Go.OpenSpec.ofChange s with cond := some uptoSmall }

/-- 'tourkeep1.RndSplits', WHERE WHAT IT READS IS OF BULK AT MOST 1048576: true; the input reads as it did. -/
def rndSplitsUptoRow : OpenClaim := { program := "ythfpbplpfjmmgaa", sum := "47426613e24fdda0121dd30b6b957fa3ccc9e34ade84a5ec4c463ccbaab89150", func := "tourney/tourkeep1.RndSplits", spec := "rndSplits", apart := false, narrowed := true }
def RndSplitsUptoSaid : Prop := rndSplitsUptoRow.holds Try.pinned (OpenSpec.upto rndSplitsSpec)

/-- 'tourkeep1.RndRanges', WHERE WHAT IT READS IS OF BULK AT MOST 1048576: true; the input reads as it did. -/
def rndRangesUptoRow : OpenClaim := { program := "ythfpbplpfjmmgaa", sum := "47426613e24fdda0121dd30b6b957fa3ccc9e34ade84a5ec4c463ccbaab89150", func := "tourney/tourkeep1.RndRanges", spec := "rndRanges", apart := false, narrowed := true }
def RndRangesUptoSaid : Prop := rndRangesUptoRow.holds Try.pinned (OpenSpec.upto rndRangesSpec)

/-- 'tourkeep1.RndApart', WHERE WHAT IT READS IS OF BULK AT MOST 1048576: true; the input reads as it did. -/
def rndApartUptoRow : OpenClaim := { program := "ythfpbplpfjmmgaa", sum := "47426613e24fdda0121dd30b6b957fa3ccc9e34ade84a5ec4c463ccbaab89150", func := "tourney/tourkeep1.RndApart", spec := "rndApart", apart := false, narrowed := true }
def RndApartUptoSaid : Prop := rndApartUptoRow.holds Try.pinned (OpenSpec.upto rndApartSpec)

/-- 'tourkeep1.SumApart', WHERE WHAT IT READS IS OF BULK AT MOST 1048576: true; the input reads as it did. -/
def sumApartUptoRow : OpenClaim := { program := "ythfpbplpfjmmgaa", sum := "47426613e24fdda0121dd30b6b957fa3ccc9e34ade84a5ec4c463ccbaab89150", func := "tourney/tourkeep1.SumApart", spec := "sumApart", apart := false, narrowed := true }
def SumApartUptoSaid : Prop := sumApartUptoRow.holds Try.pinned (OpenSpec.upto sumApartSpec)

/-- 'tourkeep1.QuantBounds', WHERE WHAT IT READS IS OF BULK AT MOST 1048576: true; the input reads as it did. -/
def quantBoundsUptoRow : OpenClaim := { program := "ythfpbplpfjmmgaa", sum := "47426613e24fdda0121dd30b6b957fa3ccc9e34ade84a5ec4c463ccbaab89150", func := "tourney/tourkeep1.QuantBounds", spec := "quantBounds", apart := false, narrowed := true }
def QuantBoundsUptoSaid : Prop := quantBoundsUptoRow.holds Try.pinned (OpenSpec.upto quantBoundsSpec)

/-- 'tourkeep1.QuantBack', WHERE WHAT IT READS IS OF BULK AT MOST 1048576: true; the input reads as it did. -/
def quantBackUptoRow : OpenClaim := { program := "ythfpbplpfjmmgaa", sum := "47426613e24fdda0121dd30b6b957fa3ccc9e34ade84a5ec4c463ccbaab89150", func := "tourney/tourkeep1.QuantBack", spec := "quantBack", apart := false, narrowed := true }
def QuantBackUptoSaid : Prop := quantBackUptoRow.holds Try.pinned (OpenSpec.upto quantBackSpec)

/-- 'tourkeep1.BitsBack', WHERE WHAT IT READS IS OF BULK AT MOST 1048576: true; the input reads as it did. -/
def bitsBackUptoRow : OpenClaim := { program := "ythfpbplpfjmmgaa", sum := "47426613e24fdda0121dd30b6b957fa3ccc9e34ade84a5ec4c463ccbaab89150", func := "tourney/tourkeep1.BitsBack", spec := "bitsBack", unfollowed := true, recurses := true, apart := false, narrowed := true }
def BitsBackUptoSaid : Prop := bitsBackUptoRow.holds Try.pinned (OpenSpec.upto bitsBackSpec)

/-- 'tourkeep1.BitsOnly', WHERE WHAT IT READS IS OF BULK AT MOST 1048576: true; the input reads as it did. -/
def bitsOnlyUptoRow : OpenClaim := { program := "ythfpbplpfjmmgaa", sum := "47426613e24fdda0121dd30b6b957fa3ccc9e34ade84a5ec4c463ccbaab89150", func := "tourney/tourkeep1.BitsOnly", spec := "bitsOnly", apart := false, narrowed := true }
def BitsOnlyUptoSaid : Prop := bitsOnlyUptoRow.holds Try.pinned (OpenSpec.upto bitsOnlySpec)

end Rows
end Go.Proofs.Ythfpbplpfjmmgaa
