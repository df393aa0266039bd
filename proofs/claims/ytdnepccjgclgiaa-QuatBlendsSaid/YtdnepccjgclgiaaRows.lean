/-
  No cell of these rows narrows 'for every input' (looked for: loops, veiled, ifaces, maps, wideKeys, modest, calm, conditions, laid).
  DERIVED. THE GIVEN ROWS OF THIS SEAT. 21 by the template 'for every input the law returns true; each argument reads behind the call as it read before'; 0 by the template 'total and deterministic' (their statements: YtdnepccjgclgiaaTotals.lean).
  GIVEN WITH THE SEED: the statements are not yours to turn. If you find one false, say at which input.
  Laid BY PROGRAM, IN A SANDBOX (cutbox-rows.mjs): the forced cells as the released guide's own fill.sh prints them over the translation f43c4ad0eee52b99… (all of the seat's roots in one cut). By AI agents, Wed Nov 11 2026. No macro, syntax, notation, axiom, sorry.
-/
import Derived.Test.YtdnepccjgclgiaaChecked
import GoSem.Claim
import GoSem.ClaimJoined
import GoSem.ClaimMapViews
import Derived.JoinedTies
import Derived.KernelRfl
namespace Go.Proofs.Ytdnepccjgclgiaa
/- THE CELL 'sum', in the pinned program and in every row, IS THE sha256 OF THE DUMP (.gsa) THAT YtdnepccjgclgiaaProg.lean LOADS. Nothing in Lean hashes anything: it is a label: what it is worth is what the hold of that sum in a sandbox is worth. -/
noncomputable def Try.pinned : Pinned := { name := "ytdnepccjgclgiaa", sum := "f43c4ad0eee52b992290930daee0f14ceecb7c4a1b68e9029998560e01450bcc", checked := Try.checked }
namespace Rows
def none {H : Type} : Left H := { results := [], args := [] }

/-- 'tourkeep1.VecTriangle': WHATEVER THE INPUT: true; the input reads as it did. -/
def vecTriangleSpec : ChangeSpec := { name := "vecTriangle", fn := fun _ => fun
  | [d1, d2, d3, d4] => { results := [.lit (.bool true)], args := [d1, d2, d3, d4] }
  | _ => none }
def vecTriangleRow : OpenClaim := { program := "ytdnepccjgclgiaa", sum := "f43c4ad0eee52b992290930daee0f14ceecb7c4a1b68e9029998560e01450bcc", func := "tourney/tourkeep1.VecTriangle", spec := "vecTriangle", inPlace := ["math/bits.Add64"], apart := false }
def VecTriangleSaid : Prop := vecTriangleRow.holds Try.pinned (OpenSpec.ofChange vecTriangleSpec)

/-- ITS FALSE NEIGHBOUR: 'it returns false'. Refute it at one input. -/
def vecTriangleWrong : ChangeSpec := { name := "vecTriangle", fn := fun _ => fun
  | [d1, d2, d3, d4] => { results := [.lit (.bool false)], args := [d1, d2, d3, d4] }
  | _ => none }
def VecTriangleWrongFalsely : Prop := vecTriangleRow.holds Try.pinned (OpenSpec.ofChange vecTriangleWrong)

/-- 'tourkeep1.TrigTurns': WHATEVER THE INPUT: true; the input reads as it did. -/
def trigTurnsSpec : ChangeSpec := { name := "trigTurns", fn := fun _ => fun
  | [d] => { results := [.lit (.bool true)], args := [d] }
  | _ => none }
def trigTurnsRow : OpenClaim := { program := "ytdnepccjgclgiaa", sum := "f43c4ad0eee52b992290930daee0f14ceecb7c4a1b68e9029998560e01450bcc", func := "tourney/tourkeep1.TrigTurns", spec := "trigTurns", apart := false }
def TrigTurnsSaid : Prop := trigTurnsRow.holds Try.pinned (OpenSpec.ofChange trigTurnsSpec)

/-- ITS FALSE NEIGHBOUR: 'it returns false'. Refute it at one input. -/
def trigTurnsWrong : ChangeSpec := { name := "trigTurns", fn := fun _ => fun
  | [d] => { results := [.lit (.bool false)], args := [d] }
  | _ => none }
def TrigTurnsWrongFalsely : Prop := trigTurnsRow.holds Try.pinned (OpenSpec.ofChange trigTurnsWrong)

/-- 'tourkeep1.TrigCircle': WHATEVER THE INPUT: true; the input reads as it did. -/
def trigCircleSpec : ChangeSpec := { name := "trigCircle", fn := fun _ => fun
  | [d] => { results := [.lit (.bool true)], args := [d] }
  | _ => none }
def trigCircleRow : OpenClaim := { program := "ytdnepccjgclgiaa", sum := "f43c4ad0eee52b992290930daee0f14ceecb7c4a1b68e9029998560e01450bcc", func := "tourney/tourkeep1.TrigCircle", spec := "trigCircle", apart := false }
def TrigCircleSaid : Prop := trigCircleRow.holds Try.pinned (OpenSpec.ofChange trigCircleSpec)

/-- ITS FALSE NEIGHBOUR: 'it returns false'. Refute it at one input. -/
def trigCircleWrong : ChangeSpec := { name := "trigCircle", fn := fun _ => fun
  | [d] => { results := [.lit (.bool false)], args := [d] }
  | _ => none }
def TrigCircleWrongFalsely : Prop := trigCircleRow.holds Try.pinned (OpenSpec.ofChange trigCircleWrong)

/-- 'tourkeep1.TrigBack': WHATEVER THE INPUT: true; the input reads as it did. -/
def trigBackSpec : ChangeSpec := { name := "trigBack", fn := fun _ => fun
  | [d1, d2] => { results := [.lit (.bool true)], args := [d1, d2] }
  | _ => none }
def trigBackRow : OpenClaim := { program := "ytdnepccjgclgiaa", sum := "f43c4ad0eee52b992290930daee0f14ceecb7c4a1b68e9029998560e01450bcc", func := "tourney/tourkeep1.TrigBack", spec := "trigBack", apart := false }
def TrigBackSaid : Prop := trigBackRow.holds Try.pinned (OpenSpec.ofChange trigBackSpec)

/-- ITS FALSE NEIGHBOUR: 'it returns false'. Refute it at one input. -/
def trigBackWrong : ChangeSpec := { name := "trigBack", fn := fun _ => fun
  | [d1, d2] => { results := [.lit (.bool false)], args := [d1, d2] }
  | _ => none }
def TrigBackWrongFalsely : Prop := trigBackRow.holds Try.pinned (OpenSpec.ofChange trigBackWrong)

/-- 'tourkeep1.TrigQuarters': WHATEVER THE INPUT: true; the input reads as it did. -/
def trigQuartersSpec : ChangeSpec := { name := "trigQuarters", fn := fun _ => fun
  | [d1, d2] => { results := [.lit (.bool true)], args := [d1, d2] }
  | _ => none }
def trigQuartersRow : OpenClaim := { program := "ytdnepccjgclgiaa", sum := "f43c4ad0eee52b992290930daee0f14ceecb7c4a1b68e9029998560e01450bcc", func := "tourney/tourkeep1.TrigQuarters", spec := "trigQuarters", apart := false }
def TrigQuartersSaid : Prop := trigQuartersRow.holds Try.pinned (OpenSpec.ofChange trigQuartersSpec)

/-- ITS FALSE NEIGHBOUR: 'it returns false'. Refute it at one input. -/
def trigQuartersWrong : ChangeSpec := { name := "trigQuarters", fn := fun _ => fun
  | [d1, d2] => { results := [.lit (.bool false)], args := [d1, d2] }
  | _ => none }
def TrigQuartersWrongFalsely : Prop := trigQuartersRow.holds Try.pinned (OpenSpec.ofChange trigQuartersWrong)

/-- 'tourkeep1.VecUnits': WHATEVER THE INPUT: true; the input reads as it did. -/
def vecUnitsSpec : ChangeSpec := { name := "vecUnits", fn := fun _ => fun
  | [d1, d2] => { results := [.lit (.bool true)], args := [d1, d2] }
  | _ => none }
def vecUnitsRow : OpenClaim := { program := "ytdnepccjgclgiaa", sum := "f43c4ad0eee52b992290930daee0f14ceecb7c4a1b68e9029998560e01450bcc", func := "tourney/tourkeep1.VecUnits", spec := "vecUnits", inPlace := ["math/bits.Add64"], apart := false }
def VecUnitsSaid : Prop := vecUnitsRow.holds Try.pinned (OpenSpec.ofChange vecUnitsSpec)

/-- ITS FALSE NEIGHBOUR: 'it returns false'. Refute it at one input. -/
def vecUnitsWrong : ChangeSpec := { name := "vecUnits", fn := fun _ => fun
  | [d1, d2] => { results := [.lit (.bool false)], args := [d1, d2] }
  | _ => none }
def VecUnitsWrongFalsely : Prop := vecUnitsRow.holds Try.pinned (OpenSpec.ofChange vecUnitsWrong)

/-- 'tourkeep1.BorderBack': WHATEVER THE INPUT: true; the input reads as it did. -/
def borderBackSpec : ChangeSpec := { name := "borderBack", fn := fun _ => fun
  | [d] => { results := [.lit (.bool true)], args := [d] }
  | _ => none }
def borderBackRow : OpenClaim := { program := "ytdnepccjgclgiaa", sum := "f43c4ad0eee52b992290930daee0f14ceecb7c4a1b68e9029998560e01450bcc", func := "tourney/tourkeep1.BorderBack", spec := "borderBack", inPlace := ["math.Float64frombits", "math.Float64bits", "math.archTrunc"], apart := false }
def BorderBackSaid : Prop := borderBackRow.holds Try.pinned (OpenSpec.ofChange borderBackSpec)

/-- ITS FALSE NEIGHBOUR: 'it returns false'. Refute it at one input. -/
def borderBackWrong : ChangeSpec := { name := "borderBack", fn := fun _ => fun
  | [d] => { results := [.lit (.bool false)], args := [d] }
  | _ => none }
def BorderBackWrongFalsely : Prop := borderBackRow.holds Try.pinned (OpenSpec.ofChange borderBackWrong)

/-- 'tourkeep1.BorderWhole': WHATEVER THE INPUT: true; the input reads as it did. -/
def borderWholeSpec : ChangeSpec := { name := "borderWhole", fn := fun _ => fun
  | [d] => { results := [.lit (.bool true)], args := [d] }
  | _ => none }
def borderWholeRow : OpenClaim := { program := "ytdnepccjgclgiaa", sum := "f43c4ad0eee52b992290930daee0f14ceecb7c4a1b68e9029998560e01450bcc", func := "tourney/tourkeep1.BorderWhole", spec := "borderWhole", inPlace := ["math.Float64frombits", "math.Float64bits", "math.archTrunc"], apart := false }
def BorderWholeSaid : Prop := borderWholeRow.holds Try.pinned (OpenSpec.ofChange borderWholeSpec)

/-- ITS FALSE NEIGHBOUR: 'it returns false'. Refute it at one input. -/
def borderWholeWrong : ChangeSpec := { name := "borderWhole", fn := fun _ => fun
  | [d] => { results := [.lit (.bool false)], args := [d] }
  | _ => none }
def BorderWholeWrongFalsely : Prop := borderWholeRow.holds Try.pinned (OpenSpec.ofChange borderWholeWrong)

/-- 'tourkeep1.FixWritten': WHATEVER THE INPUT: true; the input reads as it did. -/
def fixWrittenSpec : ChangeSpec := { name := "fixWritten", fn := fun _ => fun
  | [d] => { results := [.lit (.bool true)], args := [d] }
  | _ => none }
def fixWrittenRow : OpenClaim := { program := "ytdnepccjgclgiaa", sum := "f43c4ad0eee52b992290930daee0f14ceecb7c4a1b68e9029998560e01450bcc", func := "tourney/tourkeep1.FixWritten", spec := "fixWritten", recurses := true, apart := false }
def FixWrittenSaid : Prop := fixWrittenRow.holds Try.pinned (OpenSpec.ofChange fixWrittenSpec)

/-- ITS FALSE NEIGHBOUR: 'it returns false'. Refute it at one input. -/
def fixWrittenWrong : ChangeSpec := { name := "fixWritten", fn := fun _ => fun
  | [d] => { results := [.lit (.bool false)], args := [d] }
  | _ => none }
def FixWrittenWrongFalsely : Prop := fixWrittenRow.holds Try.pinned (OpenSpec.ofChange fixWrittenWrong)

/-- 'tourkeep1.FixRounds': WHATEVER THE INPUT: true; the input reads as it did. -/
def fixRoundsSpec : ChangeSpec := { name := "fixRounds", fn := fun _ => fun
  | [d1, d2] => { results := [.lit (.bool true)], args := [d1, d2] }
  | _ => none }
def fixRoundsRow : OpenClaim := { program := "ytdnepccjgclgiaa", sum := "f43c4ad0eee52b992290930daee0f14ceecb7c4a1b68e9029998560e01450bcc", func := "tourney/tourkeep1.FixRounds", spec := "fixRounds", named := ["math/bits.divideError", "math/bits.overflowError"], apart := false }
def FixRoundsSaid : Prop := fixRoundsRow.holds Try.pinned (OpenSpec.ofChange fixRoundsSpec)

/-- ITS FALSE NEIGHBOUR: 'it returns false'. Refute it at one input. -/
def fixRoundsWrong : ChangeSpec := { name := "fixRounds", fn := fun _ => fun
  | [d1, d2] => { results := [.lit (.bool false)], args := [d1, d2] }
  | _ => none }
def FixRoundsWrongFalsely : Prop := fixRoundsRow.holds Try.pinned (OpenSpec.ofChange fixRoundsWrong)

/-- 'tourkeep1.FixRoot': WHATEVER THE INPUT: true; the input reads as it did. -/
def fixRootSpec : ChangeSpec := { name := "fixRoot", fn := fun _ => fun
  | [d] => { results := [.lit (.bool true)], args := [d] }
  | _ => none }
def fixRootRow : OpenClaim := { program := "ytdnepccjgclgiaa", sum := "f43c4ad0eee52b992290930daee0f14ceecb7c4a1b68e9029998560e01450bcc", func := "tourney/tourkeep1.FixRoot", spec := "fixRoot", named := ["math/bits.divideError", "math/bits.overflowError"], apart := false }
def FixRootSaid : Prop := fixRootRow.holds Try.pinned (OpenSpec.ofChange fixRootSpec)

/-- ITS FALSE NEIGHBOUR: 'it returns false'. Refute it at one input. -/
def fixRootWrong : ChangeSpec := { name := "fixRoot", fn := fun _ => fun
  | [d] => { results := [.lit (.bool false)], args := [d] }
  | _ => none }
def FixRootWrongFalsely : Prop := fixRootRow.holds Try.pinned (OpenSpec.ofChange fixRootWrong)

/-- 'tourkeep1.FixOrders': WHATEVER THE INPUT: true; the input reads as it did. -/
def fixOrdersSpec : ChangeSpec := { name := "fixOrders", fn := fun _ => fun
  | [d1, d2, d3] => { results := [.lit (.bool true)], args := [d1, d2, d3] }
  | _ => none }
def fixOrdersRow : OpenClaim := { program := "ytdnepccjgclgiaa", sum := "f43c4ad0eee52b992290930daee0f14ceecb7c4a1b68e9029998560e01450bcc", func := "tourney/tourkeep1.FixOrders", spec := "fixOrders", unfollowed := true, recurses := true, named := ["math/bits.divideError", "math/bits.overflowError"], apart := false }
def FixOrdersSaid : Prop := fixOrdersRow.holds Try.pinned (OpenSpec.ofChange fixOrdersSpec)

/-- ITS FALSE NEIGHBOUR: 'it returns false'. Refute it at one input. -/
def fixOrdersWrong : ChangeSpec := { name := "fixOrders", fn := fun _ => fun
  | [d1, d2, d3] => { results := [.lit (.bool false)], args := [d1, d2, d3] }
  | _ => none }
def FixOrdersWrongFalsely : Prop := fixOrdersRow.holds Try.pinned (OpenSpec.ofChange fixOrdersWrong)

/-- 'tourkeep1.FixSigns': WHATEVER THE INPUT: true; the input reads as it did. -/
def fixSignsSpec : ChangeSpec := { name := "fixSigns", fn := fun _ => fun
  | [d1, d2] => { results := [.lit (.bool true)], args := [d1, d2] }
  | _ => none }
def fixSignsRow : OpenClaim := { program := "ytdnepccjgclgiaa", sum := "f43c4ad0eee52b992290930daee0f14ceecb7c4a1b68e9029998560e01450bcc", func := "tourney/tourkeep1.FixSigns", spec := "fixSigns", named := ["math/bits.divideError", "math/bits.overflowError"], apart := false }
def FixSignsSaid : Prop := fixSignsRow.holds Try.pinned (OpenSpec.ofChange fixSignsSpec)

/-- ITS FALSE NEIGHBOUR: 'it returns false'. Refute it at one input. -/
def fixSignsWrong : ChangeSpec := { name := "fixSigns", fn := fun _ => fun
  | [d1, d2] => { results := [.lit (.bool false)], args := [d1, d2] }
  | _ => none }
def FixSignsWrongFalsely : Prop := fixSignsRow.holds Try.pinned (OpenSpec.ofChange fixSignsWrong)

/-- 'tourkeep1.FixDivides': WHATEVER THE INPUT: true; the input reads as it did. -/
def fixDividesSpec : ChangeSpec := { name := "fixDivides", fn := fun _ => fun
  | [d1, d2] => { results := [.lit (.bool true)], args := [d1, d2] }
  | _ => none }
def fixDividesRow : OpenClaim := { program := "ytdnepccjgclgiaa", sum := "f43c4ad0eee52b992290930daee0f14ceecb7c4a1b68e9029998560e01450bcc", func := "tourney/tourkeep1.FixDivides", spec := "fixDivides", named := ["math/bits.divideError", "math/bits.overflowError"], apart := false }
def FixDividesSaid : Prop := fixDividesRow.holds Try.pinned (OpenSpec.ofChange fixDividesSpec)

/-- ITS FALSE NEIGHBOUR: 'it returns false'. Refute it at one input. -/
def fixDividesWrong : ChangeSpec := { name := "fixDivides", fn := fun _ => fun
  | [d1, d2] => { results := [.lit (.bool false)], args := [d1, d2] }
  | _ => none }
def FixDividesWrongFalsely : Prop := fixDividesRow.holds Try.pinned (OpenSpec.ofChange fixDividesWrong)

/-- 'tourkeep1.VecProducts': WHATEVER THE INPUT: true; the input reads as it did. -/
def vecProductsSpec : ChangeSpec := { name := "vecProducts", fn := fun _ => fun
  | [d1, d2, d3, d4] => { results := [.lit (.bool true)], args := [d1, d2, d3, d4] }
  | _ => none }
def vecProductsRow : OpenClaim := { program := "ytdnepccjgclgiaa", sum := "f43c4ad0eee52b992290930daee0f14ceecb7c4a1b68e9029998560e01450bcc", func := "tourney/tourkeep1.VecProducts", spec := "vecProducts", inPlace := ["math/bits.Add64"], named := ["math/bits.divideError", "math/bits.overflowError"], apart := false }
def VecProductsSaid : Prop := vecProductsRow.holds Try.pinned (OpenSpec.ofChange vecProductsSpec)

/-- ITS FALSE NEIGHBOUR: 'it returns false'. Refute it at one input. -/
def vecProductsWrong : ChangeSpec := { name := "vecProducts", fn := fun _ => fun
  | [d1, d2, d3, d4] => { results := [.lit (.bool false)], args := [d1, d2, d3, d4] }
  | _ => none }
def VecProductsWrongFalsely : Prop := vecProductsRow.holds Try.pinned (OpenSpec.ofChange vecProductsWrong)

/-- 'tourkeep1.TrigSums': WHATEVER THE INPUT: true; the input reads as it did. -/
def trigSumsSpec : ChangeSpec := { name := "trigSums", fn := fun _ => fun
  | [d1, d2] => { results := [.lit (.bool true)], args := [d1, d2] }
  | _ => none }
def trigSumsRow : OpenClaim := { program := "ytdnepccjgclgiaa", sum := "f43c4ad0eee52b992290930daee0f14ceecb7c4a1b68e9029998560e01450bcc", func := "tourney/tourkeep1.TrigSums", spec := "trigSums", named := ["math/bits.divideError", "math/bits.overflowError"], apart := false }
def TrigSumsSaid : Prop := trigSumsRow.holds Try.pinned (OpenSpec.ofChange trigSumsSpec)

/-- ITS FALSE NEIGHBOUR: 'it returns false'. Refute it at one input. -/
def trigSumsWrong : ChangeSpec := { name := "trigSums", fn := fun _ => fun
  | [d1, d2] => { results := [.lit (.bool false)], args := [d1, d2] }
  | _ => none }
def TrigSumsWrongFalsely : Prop := trigSumsRow.holds Try.pinned (OpenSpec.ofChange trigSumsWrong)

/-- 'tourkeep1.VecTurns': WHATEVER THE INPUT: true; the input reads as it did. -/
def vecTurnsSpec : ChangeSpec := { name := "vecTurns", fn := fun _ => fun
  | [d1, d2, d3] => { results := [.lit (.bool true)], args := [d1, d2, d3] }
  | _ => none }
def vecTurnsRow : OpenClaim := { program := "ytdnepccjgclgiaa", sum := "f43c4ad0eee52b992290930daee0f14ceecb7c4a1b68e9029998560e01450bcc", func := "tourney/tourkeep1.VecTurns", spec := "vecTurns", inPlace := ["math/bits.Add64"], named := ["math/bits.divideError", "math/bits.overflowError"], apart := false }
def VecTurnsSaid : Prop := vecTurnsRow.holds Try.pinned (OpenSpec.ofChange vecTurnsSpec)

/-- ITS FALSE NEIGHBOUR: 'it returns false'. Refute it at one input. -/
def vecTurnsWrong : ChangeSpec := { name := "vecTurns", fn := fun _ => fun
  | [d1, d2, d3] => { results := [.lit (.bool false)], args := [d1, d2, d3] }
  | _ => none }
def VecTurnsWrongFalsely : Prop := vecTurnsRow.holds Try.pinned (OpenSpec.ofChange vecTurnsWrong)

/-- 'tourkeep1.QuatUnits': WHATEVER THE INPUT: true; the input reads as it did. -/
def quatUnitsSpec : ChangeSpec := { name := "quatUnits", fn := fun _ => fun
  | [d1, d2] => { results := [.lit (.bool true)], args := [d1, d2] }
  | _ => none }
def quatUnitsRow : OpenClaim := { program := "ytdnepccjgclgiaa", sum := "f43c4ad0eee52b992290930daee0f14ceecb7c4a1b68e9029998560e01450bcc", func := "tourney/tourkeep1.QuatUnits", spec := "quatUnits", inPlace := ["math/bits.Add64"], unfollowed := true, recurses := true, named := ["math/bits.divideError", "math/bits.overflowError"], apart := false }
def QuatUnitsSaid : Prop := quatUnitsRow.holds Try.pinned (OpenSpec.ofChange quatUnitsSpec)

/-- ITS FALSE NEIGHBOUR: 'it returns false'. Refute it at one input. -/
def quatUnitsWrong : ChangeSpec := { name := "quatUnits", fn := fun _ => fun
  | [d1, d2] => { results := [.lit (.bool false)], args := [d1, d2] }
  | _ => none }
def QuatUnitsWrongFalsely : Prop := quatUnitsRow.holds Try.pinned (OpenSpec.ofChange quatUnitsWrong)

/-- 'tourkeep1.QuatKeeps': WHATEVER THE INPUT: true; the input reads as it did. -/
def quatKeepsSpec : ChangeSpec := { name := "quatKeeps", fn := fun _ => fun
  | [d1, d2, d3, d4] => { results := [.lit (.bool true)], args := [d1, d2, d3, d4] }
  | _ => none }
def quatKeepsRow : OpenClaim := { program := "ytdnepccjgclgiaa", sum := "f43c4ad0eee52b992290930daee0f14ceecb7c4a1b68e9029998560e01450bcc", func := "tourney/tourkeep1.QuatKeeps", spec := "quatKeeps", inPlace := ["math/bits.Add64"], unfollowed := true, recurses := true, named := ["math/bits.divideError", "math/bits.overflowError"], apart := false }
def QuatKeepsSaid : Prop := quatKeepsRow.holds Try.pinned (OpenSpec.ofChange quatKeepsSpec)

/-- ITS FALSE NEIGHBOUR: 'it returns false'. Refute it at one input. -/
def quatKeepsWrong : ChangeSpec := { name := "quatKeeps", fn := fun _ => fun
  | [d1, d2, d3, d4] => { results := [.lit (.bool false)], args := [d1, d2, d3, d4] }
  | _ => none }
def QuatKeepsWrongFalsely : Prop := quatKeepsRow.holds Try.pinned (OpenSpec.ofChange quatKeepsWrong)

/-- 'tourkeep1.QuatBlends': WHATEVER THE INPUT: true; the input reads as it did. -/
def quatBlendsSpec : ChangeSpec := { name := "quatBlends", fn := fun _ => fun
  | [d1, d2, d3] => { results := [.lit (.bool true)], args := [d1, d2, d3] }
  | _ => none }
def quatBlendsRow : OpenClaim := { program := "ytdnepccjgclgiaa", sum := "f43c4ad0eee52b992290930daee0f14ceecb7c4a1b68e9029998560e01450bcc", func := "tourney/tourkeep1.QuatBlends", spec := "quatBlends", inPlace := ["math/bits.Add64"], unfollowed := true, recurses := true, named := ["math/bits.divideError", "math/bits.overflowError"], apart := false }
def QuatBlendsSaid : Prop := quatBlendsRow.holds Try.pinned (OpenSpec.ofChange quatBlendsSpec)

/-- ITS FALSE NEIGHBOUR: 'it returns false'. Refute it at one input. -/
def quatBlendsWrong : ChangeSpec := { name := "quatBlends", fn := fun _ => fun
  | [d1, d2, d3] => { results := [.lit (.bool false)], args := [d1, d2, d3] }
  | _ => none }
def QuatBlendsWrongFalsely : Prop := quatBlendsRow.holds Try.pinned (OpenSpec.ofChange quatBlendsWrong)

/-- 'tourkeep1.QuatPlane': WHATEVER THE INPUT: true; the input reads as it did. -/
def quatPlaneSpec : ChangeSpec := { name := "quatPlane", fn := fun _ => fun
  | [d1, d2, d3] => { results := [.lit (.bool true)], args := [d1, d2, d3] }
  | _ => none }
def quatPlaneRow : OpenClaim := { program := "ytdnepccjgclgiaa", sum := "f43c4ad0eee52b992290930daee0f14ceecb7c4a1b68e9029998560e01450bcc", func := "tourney/tourkeep1.QuatPlane", spec := "quatPlane", inPlace := ["math/bits.Add64"], unfollowed := true, recurses := true, named := ["math/bits.divideError", "math/bits.overflowError"], apart := false }
def QuatPlaneSaid : Prop := quatPlaneRow.holds Try.pinned (OpenSpec.ofChange quatPlaneSpec)

/-- ITS FALSE NEIGHBOUR: 'it returns false'. Refute it at one input. -/
def quatPlaneWrong : ChangeSpec := { name := "quatPlane", fn := fun _ => fun
  | [d1, d2, d3] => { results := [.lit (.bool false)], args := [d1, d2, d3] }
  | _ => none }
def QuatPlaneWrongFalsely : Prop := quatPlaneRow.holds Try.pinned (OpenSpec.ofChange quatPlaneWrong)

/- THE SECOND FORM. 'bulk': how many values and letters a reading holds, each counted each time it is reached (what is shared counts as often as it is met; a slice's spare places count too). A statement '..UptoSaid' is the law's where the arguments, and the package variables that the reading takes, are together of bulk at most 1048576: NARROWER than '..Said'. Prove '..Said' where nothing that the law and all that it calls make is longer than what came in: it says more and counts as full. Else prove '..UptoSaid'. A law counts once. -/
mutual
def uptoBulk {H : Type} : DataW H → Nat
  | .lit (.string bytes) => bytes.length + 1
  | .lit _ => 1
  | .nil => 1
  | .ptr d => uptoBulk d + 1
  | .slice elems spare => uptoBulkAll elems + uptoBulkAll spare + 1
  | .agg parts => uptoBulkAll parts + 1
  | .iface _ d => uptoBulk d + 1
  | .map entries => uptoBulkEntries entries + 1
  | .held _ => 1
def uptoBulkAll {H : Type} : List (DataW H) → Nat
  | [] => 0
  | d :: r => uptoBulk d + uptoBulkAll r
def uptoBulkEntries {H : Type} : List (Lit × DataW H) → Nat
  | [] => 0
  | x :: r => uptoBulkEntry x + uptoBulkEntries r
def uptoBulkEntry {H : Type} : Lit × DataW H → Nat
  | (.string bytes, d) => bytes.length + uptoBulk d + 1
  | (_, d) => uptoBulk d + 1
 end
def uptoSmall : (H : Type) → List (DataW H) → Bool := fun _ ds => decide (uptoBulkAll ds ≤ 1048576)
def OpenSpec.upto (s : _root_.Go.ChangeSpec) : _root_.Go.OpenSpec := { _root_.Go.OpenSpec.ofChange s with cond := some uptoSmall }

/-- 'tourkeep1.VecTriangle', WHERE WHAT IT READS IS OF BULK AT MOST 1048576: true; the input reads as it did. -/
def vecTriangleUptoRow : OpenClaim := { program := "ytdnepccjgclgiaa", sum := "f43c4ad0eee52b992290930daee0f14ceecb7c4a1b68e9029998560e01450bcc", func := "tourney/tourkeep1.VecTriangle", spec := "vecTriangle", inPlace := ["math/bits.Add64"], apart := false, narrowed := true }
def VecTriangleUptoSaid : Prop := vecTriangleUptoRow.holds Try.pinned (OpenSpec.upto vecTriangleSpec)

/-- 'tourkeep1.TrigTurns', WHERE WHAT IT READS IS OF BULK AT MOST 1048576: true; the input reads as it did. -/
def trigTurnsUptoRow : OpenClaim := { program := "ytdnepccjgclgiaa", sum := "f43c4ad0eee52b992290930daee0f14ceecb7c4a1b68e9029998560e01450bcc", func := "tourney/tourkeep1.TrigTurns", spec := "trigTurns", apart := false, narrowed := true }
def TrigTurnsUptoSaid : Prop := trigTurnsUptoRow.holds Try.pinned (OpenSpec.upto trigTurnsSpec)

/-- 'tourkeep1.TrigCircle', WHERE WHAT IT READS IS OF BULK AT MOST 1048576: true; the input reads as it did. -/
def trigCircleUptoRow : OpenClaim := { program := "ytdnepccjgclgiaa", sum := "f43c4ad0eee52b992290930daee0f14ceecb7c4a1b68e9029998560e01450bcc", func := "tourney/tourkeep1.TrigCircle", spec := "trigCircle", apart := false, narrowed := true }
def TrigCircleUptoSaid : Prop := trigCircleUptoRow.holds Try.pinned (OpenSpec.upto trigCircleSpec)

/-- 'tourkeep1.TrigBack', WHERE WHAT IT READS IS OF BULK AT MOST 1048576: true; the input reads as it did. -/
def trigBackUptoRow : OpenClaim := { program := "ytdnepccjgclgiaa", sum := "f43c4ad0eee52b992290930daee0f14ceecb7c4a1b68e9029998560e01450bcc", func := "tourney/tourkeep1.TrigBack", spec := "trigBack", apart := false, narrowed := true }
def TrigBackUptoSaid : Prop := trigBackUptoRow.holds Try.pinned (OpenSpec.upto trigBackSpec)

/-- 'tourkeep1.TrigQuarters', WHERE WHAT IT READS IS OF BULK AT MOST 1048576: true; the input reads as it did. -/
def trigQuartersUptoRow : OpenClaim := { program := "ytdnepccjgclgiaa", sum := "f43c4ad0eee52b992290930daee0f14ceecb7c4a1b68e9029998560e01450bcc", func := "tourney/tourkeep1.TrigQuarters", spec := "trigQuarters", apart := false, narrowed := true }
def TrigQuartersUptoSaid : Prop := trigQuartersUptoRow.holds Try.pinned (OpenSpec.upto trigQuartersSpec)

/-- 'tourkeep1.VecUnits', WHERE WHAT IT READS IS OF BULK AT MOST 1048576: true; the input reads as it did. -/
def vecUnitsUptoRow : OpenClaim := { program := "ytdnepccjgclgiaa", sum := "f43c4ad0eee52b992290930daee0f14ceecb7c4a1b68e9029998560e01450bcc", func := "tourney/tourkeep1.VecUnits", spec := "vecUnits", inPlace := ["math/bits.Add64"], apart := false, narrowed := true }
def VecUnitsUptoSaid : Prop := vecUnitsUptoRow.holds Try.pinned (OpenSpec.upto vecUnitsSpec)

/-- 'tourkeep1.BorderBack', WHERE WHAT IT READS IS OF BULK AT MOST 1048576: true; the input reads as it did. -/
def borderBackUptoRow : OpenClaim := { program := "ytdnepccjgclgiaa", sum := "f43c4ad0eee52b992290930daee0f14ceecb7c4a1b68e9029998560e01450bcc", func := "tourney/tourkeep1.BorderBack", spec := "borderBack", inPlace := ["math.Float64frombits", "math.Float64bits", "math.archTrunc"], apart := false, narrowed := true }
def BorderBackUptoSaid : Prop := borderBackUptoRow.holds Try.pinned (OpenSpec.upto borderBackSpec)

/-- 'tourkeep1.BorderWhole', WHERE WHAT IT READS IS OF BULK AT MOST 1048576: true; the input reads as it did. -/
def borderWholeUptoRow : OpenClaim := { program := "ytdnepccjgclgiaa", sum := "f43c4ad0eee52b992290930daee0f14ceecb7c4a1b68e9029998560e01450bcc", func := "tourney/tourkeep1.BorderWhole", spec := "borderWhole", inPlace := ["math.Float64frombits", "math.Float64bits", "math.archTrunc"], apart := false, narrowed := true }
def BorderWholeUptoSaid : Prop := borderWholeUptoRow.holds Try.pinned (OpenSpec.upto borderWholeSpec)

/-- 'tourkeep1.FixWritten', WHERE WHAT IT READS IS OF BULK AT MOST 1048576: true; the input reads as it did. -/
def fixWrittenUptoRow : OpenClaim := { program := "ytdnepccjgclgiaa", sum := "f43c4ad0eee52b992290930daee0f14ceecb7c4a1b68e9029998560e01450bcc", func := "tourney/tourkeep1.FixWritten", spec := "fixWritten", recurses := true, apart := false, narrowed := true }
def FixWrittenUptoSaid : Prop := fixWrittenUptoRow.holds Try.pinned (OpenSpec.upto fixWrittenSpec)

/-- 'tourkeep1.FixRounds', WHERE WHAT IT READS IS OF BULK AT MOST 1048576: true; the input reads as it did. -/
def fixRoundsUptoRow : OpenClaim := { program := "ytdnepccjgclgiaa", sum := "f43c4ad0eee52b992290930daee0f14ceecb7c4a1b68e9029998560e01450bcc", func := "tourney/tourkeep1.FixRounds", spec := "fixRounds", named := ["math/bits.divideError", "math/bits.overflowError"], apart := false, narrowed := true }
def FixRoundsUptoSaid : Prop := fixRoundsUptoRow.holds Try.pinned (OpenSpec.upto fixRoundsSpec)

/-- 'tourkeep1.FixRoot', WHERE WHAT IT READS IS OF BULK AT MOST 1048576: true; the input reads as it did. -/
def fixRootUptoRow : OpenClaim := { program := "ytdnepccjgclgiaa", sum := "f43c4ad0eee52b992290930daee0f14ceecb7c4a1b68e9029998560e01450bcc", func := "tourney/tourkeep1.FixRoot", spec := "fixRoot", named := ["math/bits.divideError", "math/bits.overflowError"], apart := false, narrowed := true }
def FixRootUptoSaid : Prop := fixRootUptoRow.holds Try.pinned (OpenSpec.upto fixRootSpec)

/-- 'tourkeep1.FixOrders', WHERE WHAT IT READS IS OF BULK AT MOST 1048576: true; the input reads as it did. -/
def fixOrdersUptoRow : OpenClaim := { program := "ytdnepccjgclgiaa", sum := "f43c4ad0eee52b992290930daee0f14ceecb7c4a1b68e9029998560e01450bcc", func := "tourney/tourkeep1.FixOrders", spec := "fixOrders", unfollowed := true, recurses := true, named := ["math/bits.divideError", "math/bits.overflowError"], apart := false, narrowed := true }
def FixOrdersUptoSaid : Prop := fixOrdersUptoRow.holds Try.pinned (OpenSpec.upto fixOrdersSpec)

/-- 'tourkeep1.FixSigns', WHERE WHAT IT READS IS OF BULK AT MOST 1048576: true; the input reads as it did. -/
def fixSignsUptoRow : OpenClaim := { program := "ytdnepccjgclgiaa", sum := "f43c4ad0eee52b992290930daee0f14ceecb7c4a1b68e9029998560e01450bcc", func := "tourney/tourkeep1.FixSigns", spec := "fixSigns", named := ["math/bits.divideError", "math/bits.overflowError"], apart := false, narrowed := true }
def FixSignsUptoSaid : Prop := fixSignsUptoRow.holds Try.pinned (OpenSpec.upto fixSignsSpec)

/-- 'tourkeep1.FixDivides', WHERE WHAT IT READS IS OF BULK AT MOST 1048576: true; the input reads as it did. -/
def fixDividesUptoRow : OpenClaim := { program := "ytdnepccjgclgiaa", sum := "f43c4ad0eee52b992290930daee0f14ceecb7c4a1b68e9029998560e01450bcc", func := "tourney/tourkeep1.FixDivides", spec := "fixDivides", named := ["math/bits.divideError", "math/bits.overflowError"], apart := false, narrowed := true }
def FixDividesUptoSaid : Prop := fixDividesUptoRow.holds Try.pinned (OpenSpec.upto fixDividesSpec)

/-- 'tourkeep1.VecProducts', WHERE WHAT IT READS IS OF BULK AT MOST 1048576: true; the input reads as it did. -/
def vecProductsUptoRow : OpenClaim := { program := "ytdnepccjgclgiaa", sum := "f43c4ad0eee52b992290930daee0f14ceecb7c4a1b68e9029998560e01450bcc", func := "tourney/tourkeep1.VecProducts", spec := "vecProducts", inPlace := ["math/bits.Add64"], named := ["math/bits.divideError", "math/bits.overflowError"], apart := false, narrowed := true }
def VecProductsUptoSaid : Prop := vecProductsUptoRow.holds Try.pinned (OpenSpec.upto vecProductsSpec)

/-- 'tourkeep1.TrigSums', WHERE WHAT IT READS IS OF BULK AT MOST 1048576: true; the input reads as it did. -/
def trigSumsUptoRow : OpenClaim := { program := "ytdnepccjgclgiaa", sum := "f43c4ad0eee52b992290930daee0f14ceecb7c4a1b68e9029998560e01450bcc", func := "tourney/tourkeep1.TrigSums", spec := "trigSums", named := ["math/bits.divideError", "math/bits.overflowError"], apart := false, narrowed := true }
def TrigSumsUptoSaid : Prop := trigSumsUptoRow.holds Try.pinned (OpenSpec.upto trigSumsSpec)

/-- 'tourkeep1.VecTurns', WHERE WHAT IT READS IS OF BULK AT MOST 1048576: true; the input reads as it did. -/
def vecTurnsUptoRow : OpenClaim := { program := "ytdnepccjgclgiaa", sum := "f43c4ad0eee52b992290930daee0f14ceecb7c4a1b68e9029998560e01450bcc", func := "tourney/tourkeep1.VecTurns", spec := "vecTurns", inPlace := ["math/bits.Add64"], named := ["math/bits.divideError", "math/bits.overflowError"], apart := false, narrowed := true }
def VecTurnsUptoSaid : Prop := vecTurnsUptoRow.holds Try.pinned (OpenSpec.upto vecTurnsSpec)

/-- 'tourkeep1.QuatUnits', WHERE WHAT IT READS IS OF BULK AT MOST 1048576: true; the input reads as it did. -/
def quatUnitsUptoRow : OpenClaim := { program := "ytdnepccjgclgiaa", sum := "f43c4ad0eee52b992290930daee0f14ceecb7c4a1b68e9029998560e01450bcc", func := "tourney/tourkeep1.QuatUnits", spec := "quatUnits", inPlace := ["math/bits.Add64"], unfollowed := true, recurses := true, named := ["math/bits.divideError", "math/bits.overflowError"], apart := false, narrowed := true }
def QuatUnitsUptoSaid : Prop := quatUnitsUptoRow.holds Try.pinned (OpenSpec.upto quatUnitsSpec)

/-- 'tourkeep1.QuatKeeps', WHERE WHAT IT READS IS OF BULK AT MOST 1048576: true; the input reads as it did. -/
def quatKeepsUptoRow : OpenClaim := { program := "ytdnepccjgclgiaa", sum := "f43c4ad0eee52b992290930daee0f14ceecb7c4a1b68e9029998560e01450bcc", func := "tourney/tourkeep1.QuatKeeps", spec := "quatKeeps", inPlace := ["math/bits.Add64"], unfollowed := true, recurses := true, named := ["math/bits.divideError", "math/bits.overflowError"], apart := false, narrowed := true }
def QuatKeepsUptoSaid : Prop := quatKeepsUptoRow.holds Try.pinned (OpenSpec.upto quatKeepsSpec)

/-- 'tourkeep1.QuatBlends', WHERE WHAT IT READS IS OF BULK AT MOST 1048576: true; the input reads as it did. -/
def quatBlendsUptoRow : OpenClaim := { program := "ytdnepccjgclgiaa", sum := "f43c4ad0eee52b992290930daee0f14ceecb7c4a1b68e9029998560e01450bcc", func := "tourney/tourkeep1.QuatBlends", spec := "quatBlends", inPlace := ["math/bits.Add64"], unfollowed := true, recurses := true, named := ["math/bits.divideError", "math/bits.overflowError"], apart := false, narrowed := true }
def QuatBlendsUptoSaid : Prop := quatBlendsUptoRow.holds Try.pinned (OpenSpec.upto quatBlendsSpec)

/-- 'tourkeep1.QuatPlane', WHERE WHAT IT READS IS OF BULK AT MOST 1048576: true; the input reads as it did. -/
def quatPlaneUptoRow : OpenClaim := { program := "ytdnepccjgclgiaa", sum := "f43c4ad0eee52b992290930daee0f14ceecb7c4a1b68e9029998560e01450bcc", func := "tourney/tourkeep1.QuatPlane", spec := "quatPlane", inPlace := ["math/bits.Add64"], unfollowed := true, recurses := true, named := ["math/bits.divideError", "math/bits.overflowError"], apart := false, narrowed := true }
def QuatPlaneUptoSaid : Prop := quatPlaneUptoRow.holds Try.pinned (OpenSpec.upto quatPlaneSpec)

end Rows
end Go.Proofs.Ytdnepccjgclgiaa
