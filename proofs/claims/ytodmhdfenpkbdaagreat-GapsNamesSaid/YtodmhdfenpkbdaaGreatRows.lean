/-
  No cell of these rows narrows 'for every input' (looked for: loops, veiled, ifaces, maps, wideKeys, modest, calm, conditions, laid).
  DERIVED. THE GIVEN ROWS OF THIS SEAT. 20 by the template 'for every input the law returns true; each argument reads behind the call as it read before'; 0 by the template 'total and deterministic' (their statements: YtodmhdfenpkbdaaGreatTotals.lean).
  GIVEN WITH THE SEED: the statements are not yours to turn. If you find one false, say at which input.
  Laid BY PROGRAM, IN A SANDBOX (cutbox-rows.mjs): the forced cells as the released guide's own fill.sh prints them over the translation 53bb15843498dcb2… (all of the seat's roots in one cut). By AI agents, Wed Nov 11 2026. No macro, syntax, notation, axiom, sorry.
-/
import Derived.Test.YtodmhdfenpkbdaaGreatChecked
import GoSem.Claim
import GoSem.ClaimJoined
import GoSem.ClaimMapViews
import Derived.JoinedTies
import Derived.KernelRfl
namespace Go.Proofs.YtodmhdfenpkbdaaGreat
/- THE CELL 'sum', in the pinned program and in every row, IS THE sha256 OF THE DUMP (.gsa) THAT YtodmhdfenpkbdaaGreatProg.lean LOADS. Nothing in Lean hashes anything: it is a label: what it is worth is what the hold of that sum in a sandbox is worth. -/
noncomputable def Tryz.pinned : Pinned := { name := "ytodmhdfenpkbdaagreat", sum := "53bb15843498dcb2c1bbc73db37516df5409779e8b428583391d256b6155ba28", checked := Tryz.checked }
namespace Rows
def none {H : Type} : Left H := { results := [], args := [] }

/-- 'pelotonlaw09.ClockGoes': WHATEVER THE INPUT: true; the input reads as it did. -/
def clockGoesSpec : ChangeSpec := { name := "clockGoes", fn := fun _ => fun
  | [d1, d2, d3] => { results := [.lit (.bool true)], args := [d1, d2, d3] }
  | _ => none }
def clockGoesRow : OpenClaim := { program := "ytodmhdfenpkbdaagreat", sum := "53bb15843498dcb2c1bbc73db37516df5409779e8b428583391d256b6155ba28", func := "peloton/pelotonlaw09.ClockGoes", spec := "clockGoes", inPlace := ["math/bits.Add64"], unfollowed := true, recurses := true, plainKeys := false, apart := false }
def ClockGoesSaid : Prop := clockGoesRow.holds Tryz.pinned (OpenSpec.ofChange clockGoesSpec)

/-- ITS FALSE NEIGHBOUR: 'it returns false'. Refute it at one input. -/
def clockGoesWrong : ChangeSpec := { name := "clockGoes", fn := fun _ => fun
  | [d1, d2, d3] => { results := [.lit (.bool false)], args := [d1, d2, d3] }
  | _ => none }
def ClockGoesWrongFalsely : Prop := clockGoesRow.holds Tryz.pinned (OpenSpec.ofChange clockGoesWrong)

/-- 'pelotonlaw09.ClockKeeps': WHATEVER THE INPUT: true; the input reads as it did. -/
def clockKeepsSpec : ChangeSpec := { name := "clockKeeps", fn := fun _ => fun
  | [d1, d2, d3, d4, d5] => { results := [.lit (.bool true)], args := [d1, d2, d3, d4, d5] }
  | _ => none }
def clockKeepsRow : OpenClaim := { program := "ytodmhdfenpkbdaagreat", sum := "53bb15843498dcb2c1bbc73db37516df5409779e8b428583391d256b6155ba28", func := "peloton/pelotonlaw09.ClockKeeps", spec := "clockKeeps", inPlace := ["math/bits.Add64"], unfollowed := true, recurses := true, plainKeys := false, apart := false }
def ClockKeepsSaid : Prop := clockKeepsRow.holds Tryz.pinned (OpenSpec.ofChange clockKeepsSpec)

/-- ITS FALSE NEIGHBOUR: 'it returns false'. Refute it at one input. -/
def clockKeepsWrong : ChangeSpec := { name := "clockKeeps", fn := fun _ => fun
  | [d1, d2, d3, d4, d5] => { results := [.lit (.bool false)], args := [d1, d2, d3, d4, d5] }
  | _ => none }
def ClockKeepsWrongFalsely : Prop := clockKeepsRow.holds Tryz.pinned (OpenSpec.ofChange clockKeepsWrong)

/-- 'pelotonlaw09.ClockDue': WHATEVER THE INPUT: true; the input reads as it did. -/
def clockDueSpec : ChangeSpec := { name := "clockDue", fn := fun _ => fun
  | [d1, d2] => { results := [.lit (.bool true)], args := [d1, d2] }
  | _ => none }
def clockDueRow : OpenClaim := { program := "ytodmhdfenpkbdaagreat", sum := "53bb15843498dcb2c1bbc73db37516df5409779e8b428583391d256b6155ba28", func := "peloton/pelotonlaw09.ClockDue", spec := "clockDue", inPlace := ["math/bits.Add64"], unfollowed := true, recurses := true, plainKeys := false, apart := false }
def ClockDueSaid : Prop := clockDueRow.holds Tryz.pinned (OpenSpec.ofChange clockDueSpec)

/-- ITS FALSE NEIGHBOUR: 'it returns false'. Refute it at one input. -/
def clockDueWrong : ChangeSpec := { name := "clockDue", fn := fun _ => fun
  | [d1, d2] => { results := [.lit (.bool false)], args := [d1, d2] }
  | _ => none }
def ClockDueWrongFalsely : Prop := clockDueRow.holds Tryz.pinned (OpenSpec.ofChange clockDueWrong)

/-- 'pelotonlaw09.ClockEnds': WHATEVER THE INPUT: true; the input reads as it did. -/
def clockEndsSpec : ChangeSpec := { name := "clockEnds", fn := fun _ => fun
  | [d1, d2] => { results := [.lit (.bool true)], args := [d1, d2] }
  | _ => none }
def clockEndsRow : OpenClaim := { program := "ytodmhdfenpkbdaagreat", sum := "53bb15843498dcb2c1bbc73db37516df5409779e8b428583391d256b6155ba28", func := "peloton/pelotonlaw09.ClockEnds", spec := "clockEnds", inPlace := ["math/bits.Add64"], unfollowed := true, recurses := true, plainKeys := false, apart := false }
def ClockEndsSaid : Prop := clockEndsRow.holds Tryz.pinned (OpenSpec.ofChange clockEndsSpec)

/-- ITS FALSE NEIGHBOUR: 'it returns false'. Refute it at one input. -/
def clockEndsWrong : ChangeSpec := { name := "clockEnds", fn := fun _ => fun
  | [d1, d2] => { results := [.lit (.bool false)], args := [d1, d2] }
  | _ => none }
def ClockEndsWrongFalsely : Prop := clockEndsRow.holds Tryz.pinned (OpenSpec.ofChange clockEndsWrong)

/-- 'pelotonlaw09.ClockNames': WHATEVER THE INPUT: true; the input reads as it did. -/
def clockNamesSpec : ChangeSpec := { name := "clockNames", fn := fun _ => fun
  | [] => { results := [.lit (.bool true)], args := [] }
  | _ => none }
def clockNamesRow : OpenClaim := { program := "ytodmhdfenpkbdaagreat", sum := "53bb15843498dcb2c1bbc73db37516df5409779e8b428583391d256b6155ba28", func := "peloton/pelotonlaw09.ClockNames", spec := "clockNames", inPlace := ["math/bits.Add64"], unfollowed := true, recurses := true, plainKeys := false, apart := false }
def ClockNamesSaid : Prop := clockNamesRow.holds Tryz.pinned (OpenSpec.ofChange clockNamesSpec)

/-- ITS FALSE NEIGHBOUR: 'it returns false'. Refute it at one input. -/
def clockNamesWrong : ChangeSpec := { name := "clockNames", fn := fun _ => fun
  | [] => { results := [.lit (.bool false)], args := [] }
  | _ => none }
def ClockNamesWrongFalsely : Prop := clockNamesRow.holds Tryz.pinned (OpenSpec.ofChange clockNamesWrong)

/-- 'pelotonlaw09.ClockAlters': WHATEVER THE INPUT: true; the input reads as it did. -/
def clockAltersSpec : ChangeSpec := { name := "clockAlters", fn := fun _ => fun
  | [d1, d2, d3] => { results := [.lit (.bool true)], args := [d1, d2, d3] }
  | _ => none }
def clockAltersRow : OpenClaim := { program := "ytodmhdfenpkbdaagreat", sum := "53bb15843498dcb2c1bbc73db37516df5409779e8b428583391d256b6155ba28", func := "peloton/pelotonlaw09.ClockAlters", spec := "clockAlters", inPlace := ["math/bits.Add64"], unfollowed := true, recurses := true, plainKeys := false, apart := false }
def ClockAltersSaid : Prop := clockAltersRow.holds Tryz.pinned (OpenSpec.ofChange clockAltersSpec)

/-- ITS FALSE NEIGHBOUR: 'it returns false'. Refute it at one input. -/
def clockAltersWrong : ChangeSpec := { name := "clockAlters", fn := fun _ => fun
  | [d1, d2, d3] => { results := [.lit (.bool false)], args := [d1, d2, d3] }
  | _ => none }
def ClockAltersWrongFalsely : Prop := clockAltersRow.holds Tryz.pinned (OpenSpec.ofChange clockAltersWrong)

/-- 'pelotonlaw09.ClockHolds': WHATEVER THE INPUT: true; the input reads as it did. -/
def clockHoldsSpec : ChangeSpec := { name := "clockHolds", fn := fun _ => fun
  | [d1, d2] => { results := [.lit (.bool true)], args := [d1, d2] }
  | _ => none }
def clockHoldsRow : OpenClaim := { program := "ytodmhdfenpkbdaagreat", sum := "53bb15843498dcb2c1bbc73db37516df5409779e8b428583391d256b6155ba28", func := "peloton/pelotonlaw09.ClockHolds", spec := "clockHolds", inPlace := ["math/bits.Add64"], unfollowed := true, recurses := true, plainKeys := false, apart := false }
def ClockHoldsSaid : Prop := clockHoldsRow.holds Tryz.pinned (OpenSpec.ofChange clockHoldsSpec)

/-- ITS FALSE NEIGHBOUR: 'it returns false'. Refute it at one input. -/
def clockHoldsWrong : ChangeSpec := { name := "clockHolds", fn := fun _ => fun
  | [d1, d2] => { results := [.lit (.bool false)], args := [d1, d2] }
  | _ => none }
def ClockHoldsWrongFalsely : Prop := clockHoldsRow.holds Tryz.pinned (OpenSpec.ofChange clockHoldsWrong)

/-- 'pelotonlaw27.GapsFinds': WHATEVER THE INPUT: true; the input reads as it did. -/
def gapsFindsSpec : ChangeSpec := { name := "gapsFinds", fn := fun _ => fun
  | [d1, d2, d3] => { results := [.lit (.bool true)], args := [d1, d2, d3] }
  | _ => none }
def gapsFindsRow : OpenClaim := { program := "ytodmhdfenpkbdaagreat", sum := "53bb15843498dcb2c1bbc73db37516df5409779e8b428583391d256b6155ba28", func := "peloton/pelotonlaw27.GapsFinds", spec := "gapsFinds", inPlace := ["math/bits.Add64"], unfollowed := true, recurses := true, plainKeys := false, apart := false }
def GapsFindsSaid : Prop := gapsFindsRow.holds Tryz.pinned (OpenSpec.ofChange gapsFindsSpec)

/-- ITS FALSE NEIGHBOUR: 'it returns false'. Refute it at one input. -/
def gapsFindsWrong : ChangeSpec := { name := "gapsFinds", fn := fun _ => fun
  | [d1, d2, d3] => { results := [.lit (.bool false)], args := [d1, d2, d3] }
  | _ => none }
def GapsFindsWrongFalsely : Prop := gapsFindsRow.holds Tryz.pinned (OpenSpec.ofChange gapsFindsWrong)

/-- 'pelotonlaw31.SpanFinds': WHATEVER THE INPUT: true; the input reads as it did. -/
def spanFindsSpec : ChangeSpec := { name := "spanFinds", fn := fun _ => fun
  | [d1, d2, d3] => { results := [.lit (.bool true)], args := [d1, d2, d3] }
  | _ => none }
def spanFindsRow : OpenClaim := { program := "ytodmhdfenpkbdaagreat", sum := "53bb15843498dcb2c1bbc73db37516df5409779e8b428583391d256b6155ba28", func := "peloton/pelotonlaw31.SpanFinds", spec := "spanFinds", inPlace := ["math/bits.Add64", "math/bits.Sub64"], unfollowed := true, recurses := true, named := ["math/bits.divideError", "math/bits.overflowError"], plainKeys := false, apart := false }
def SpanFindsSaid : Prop := spanFindsRow.holds Tryz.pinned (OpenSpec.ofChange spanFindsSpec)

/-- ITS FALSE NEIGHBOUR: 'it returns false'. Refute it at one input. -/
def spanFindsWrong : ChangeSpec := { name := "spanFinds", fn := fun _ => fun
  | [d1, d2, d3] => { results := [.lit (.bool false)], args := [d1, d2, d3] }
  | _ => none }
def SpanFindsWrongFalsely : Prop := spanFindsRow.holds Tryz.pinned (OpenSpec.ofChange spanFindsWrong)

/-- 'pelotonlaw30.PickFinds': WHATEVER THE INPUT: true; the input reads as it did. -/
def pickFindsSpec : ChangeSpec := { name := "pickFinds", fn := fun _ => fun
  | [d1, d2, d3] => { results := [.lit (.bool true)], args := [d1, d2, d3] }
  | _ => none }
def pickFindsRow : OpenClaim := { program := "ytodmhdfenpkbdaagreat", sum := "53bb15843498dcb2c1bbc73db37516df5409779e8b428583391d256b6155ba28", func := "peloton/pelotonlaw30.PickFinds", spec := "pickFinds", inPlace := ["math/bits.Add64", "math/bits.Sub64"], unfollowed := true, recurses := true, named := ["math/bits.divideError", "math/bits.overflowError"], plainKeys := false, apart := false }
def PickFindsSaid : Prop := pickFindsRow.holds Tryz.pinned (OpenSpec.ofChange pickFindsSpec)

/-- ITS FALSE NEIGHBOUR: 'it returns false'. Refute it at one input. -/
def pickFindsWrong : ChangeSpec := { name := "pickFinds", fn := fun _ => fun
  | [d1, d2, d3] => { results := [.lit (.bool false)], args := [d1, d2, d3] }
  | _ => none }
def PickFindsWrongFalsely : Prop := pickFindsRow.holds Tryz.pinned (OpenSpec.ofChange pickFindsWrong)

/-- 'pelotonlaw27.GapsNames': WHATEVER THE INPUT: true; the input reads as it did. -/
def gapsNamesSpec : ChangeSpec := { name := "gapsNames", fn := fun _ => fun
  | [] => { results := [.lit (.bool true)], args := [] }
  | _ => none }
def gapsNamesRow : OpenClaim := { program := "ytodmhdfenpkbdaagreat", sum := "53bb15843498dcb2c1bbc73db37516df5409779e8b428583391d256b6155ba28", func := "peloton/pelotonlaw27.GapsNames", spec := "gapsNames", inPlace := ["math/bits.Add64", "math/bits.Sub64"], unfollowed := true, recurses := true, named := ["math/bits.divideError", "math/bits.overflowError"], plainKeys := false, apart := false }
def GapsNamesSaid : Prop := gapsNamesRow.holds Tryz.pinned (OpenSpec.ofChange gapsNamesSpec)

/-- ITS FALSE NEIGHBOUR: 'it returns false'. Refute it at one input. -/
def gapsNamesWrong : ChangeSpec := { name := "gapsNames", fn := fun _ => fun
  | [] => { results := [.lit (.bool false)], args := [] }
  | _ => none }
def GapsNamesWrongFalsely : Prop := gapsNamesRow.holds Tryz.pinned (OpenSpec.ofChange gapsNamesWrong)

/-- 'pelotonlaw27.GapsSums': WHATEVER THE INPUT: true; the input reads as it did. -/
def gapsSumsSpec : ChangeSpec := { name := "gapsSums", fn := fun _ => fun
  | [d1, d2, d3] => { results := [.lit (.bool true)], args := [d1, d2, d3] }
  | _ => none }
def gapsSumsRow : OpenClaim := { program := "ytodmhdfenpkbdaagreat", sum := "53bb15843498dcb2c1bbc73db37516df5409779e8b428583391d256b6155ba28", func := "peloton/pelotonlaw27.GapsSums", spec := "gapsSums", inPlace := ["math/bits.Add64", "math/bits.Sub64"], unfollowed := true, recurses := true, named := ["math/bits.divideError", "math/bits.overflowError"], plainKeys := false, apart := false }
def GapsSumsSaid : Prop := gapsSumsRow.holds Tryz.pinned (OpenSpec.ofChange gapsSumsSpec)

/-- ITS FALSE NEIGHBOUR: 'it returns false'. Refute it at one input. -/
def gapsSumsWrong : ChangeSpec := { name := "gapsSums", fn := fun _ => fun
  | [d1, d2, d3] => { results := [.lit (.bool false)], args := [d1, d2, d3] }
  | _ => none }
def GapsSumsWrongFalsely : Prop := gapsSumsRow.holds Tryz.pinned (OpenSpec.ofChange gapsSumsWrong)

/-- 'pelotonlaw31.SpanTells': WHATEVER THE INPUT: true; the input reads as it did. -/
def spanTellsSpec : ChangeSpec := { name := "spanTells", fn := fun _ => fun
  | [d1, d2, d3] => { results := [.lit (.bool true)], args := [d1, d2, d3] }
  | _ => none }
def spanTellsRow : OpenClaim := { program := "ytodmhdfenpkbdaagreat", sum := "53bb15843498dcb2c1bbc73db37516df5409779e8b428583391d256b6155ba28", func := "peloton/pelotonlaw31.SpanTells", spec := "spanTells", inPlace := ["math/bits.Add64", "math/bits.Sub64"], unfollowed := true, recurses := true, named := ["math/bits.divideError", "math/bits.overflowError"], plainKeys := false, apart := false }
def SpanTellsSaid : Prop := spanTellsRow.holds Tryz.pinned (OpenSpec.ofChange spanTellsSpec)

/-- ITS FALSE NEIGHBOUR: 'it returns false'. Refute it at one input. -/
def spanTellsWrong : ChangeSpec := { name := "spanTells", fn := fun _ => fun
  | [d1, d2, d3] => { results := [.lit (.bool false)], args := [d1, d2, d3] }
  | _ => none }
def SpanTellsWrongFalsely : Prop := spanTellsRow.holds Tryz.pinned (OpenSpec.ofChange spanTellsWrong)

/-- 'pelotonlaw31.SpanNext': WHATEVER THE INPUT: true; the input reads as it did. -/
def spanNextSpec : ChangeSpec := { name := "spanNext", fn := fun _ => fun
  | [d1, d2] => { results := [.lit (.bool true)], args := [d1, d2] }
  | _ => none }
def spanNextRow : OpenClaim := { program := "ytodmhdfenpkbdaagreat", sum := "53bb15843498dcb2c1bbc73db37516df5409779e8b428583391d256b6155ba28", func := "peloton/pelotonlaw31.SpanNext", spec := "spanNext", inPlace := ["math/bits.Add64", "math/bits.Sub64"], unfollowed := true, recurses := true, named := ["math/bits.divideError", "math/bits.overflowError"], plainKeys := false, apart := false }
def SpanNextSaid : Prop := spanNextRow.holds Tryz.pinned (OpenSpec.ofChange spanNextSpec)

/-- ITS FALSE NEIGHBOUR: 'it returns false'. Refute it at one input. -/
def spanNextWrong : ChangeSpec := { name := "spanNext", fn := fun _ => fun
  | [d1, d2] => { results := [.lit (.bool false)], args := [d1, d2] }
  | _ => none }
def SpanNextWrongFalsely : Prop := spanNextRow.holds Tryz.pinned (OpenSpec.ofChange spanNextWrong)

/-- 'pelotonlaw31.SpanHull': WHATEVER THE INPUT: true; the input reads as it did. -/
def spanHullSpec : ChangeSpec := { name := "spanHull", fn := fun _ => fun
  | [d1, d2, d3] => { results := [.lit (.bool true)], args := [d1, d2, d3] }
  | _ => none }
def spanHullRow : OpenClaim := { program := "ytodmhdfenpkbdaagreat", sum := "53bb15843498dcb2c1bbc73db37516df5409779e8b428583391d256b6155ba28", func := "peloton/pelotonlaw31.SpanHull", spec := "spanHull", inPlace := ["math/bits.Add64", "math/bits.Sub64"], unfollowed := true, recurses := true, named := ["math/bits.divideError", "math/bits.overflowError"], plainKeys := false, apart := false }
def SpanHullSaid : Prop := spanHullRow.holds Tryz.pinned (OpenSpec.ofChange spanHullSpec)

/-- ITS FALSE NEIGHBOUR: 'it returns false'. Refute it at one input. -/
def spanHullWrong : ChangeSpec := { name := "spanHull", fn := fun _ => fun
  | [d1, d2, d3] => { results := [.lit (.bool false)], args := [d1, d2, d3] }
  | _ => none }
def SpanHullWrongFalsely : Prop := spanHullRow.holds Tryz.pinned (OpenSpec.ofChange spanHullWrong)

/-- 'pelotonlaw31.SpanNames': WHATEVER THE INPUT: true; the input reads as it did. -/
def spanNamesSpec : ChangeSpec := { name := "spanNames", fn := fun _ => fun
  | [] => { results := [.lit (.bool true)], args := [] }
  | _ => none }
def spanNamesRow : OpenClaim := { program := "ytodmhdfenpkbdaagreat", sum := "53bb15843498dcb2c1bbc73db37516df5409779e8b428583391d256b6155ba28", func := "peloton/pelotonlaw31.SpanNames", spec := "spanNames", inPlace := ["math/bits.Add64", "math/bits.Sub64"], unfollowed := true, recurses := true, named := ["math/bits.divideError", "math/bits.overflowError"], plainKeys := false, apart := false }
def SpanNamesSaid : Prop := spanNamesRow.holds Tryz.pinned (OpenSpec.ofChange spanNamesSpec)

/-- ITS FALSE NEIGHBOUR: 'it returns false'. Refute it at one input. -/
def spanNamesWrong : ChangeSpec := { name := "spanNames", fn := fun _ => fun
  | [] => { results := [.lit (.bool false)], args := [] }
  | _ => none }
def SpanNamesWrongFalsely : Prop := spanNamesRow.holds Tryz.pinned (OpenSpec.ofChange spanNamesWrong)

/-- 'pelotonlaw31.SpanCounts': WHATEVER THE INPUT: true; the input reads as it did. -/
def spanCountsSpec : ChangeSpec := { name := "spanCounts", fn := fun _ => fun
  | [d1, d2, d3] => { results := [.lit (.bool true)], args := [d1, d2, d3] }
  | _ => none }
def spanCountsRow : OpenClaim := { program := "ytodmhdfenpkbdaagreat", sum := "53bb15843498dcb2c1bbc73db37516df5409779e8b428583391d256b6155ba28", func := "peloton/pelotonlaw31.SpanCounts", spec := "spanCounts", inPlace := ["math/bits.Add64", "math/bits.Sub64"], unfollowed := true, recurses := true, named := ["math/bits.divideError", "math/bits.overflowError"], plainKeys := false, apart := false }
def SpanCountsSaid : Prop := spanCountsRow.holds Tryz.pinned (OpenSpec.ofChange spanCountsSpec)

/-- ITS FALSE NEIGHBOUR: 'it returns false'. Refute it at one input. -/
def spanCountsWrong : ChangeSpec := { name := "spanCounts", fn := fun _ => fun
  | [d1, d2, d3] => { results := [.lit (.bool false)], args := [d1, d2, d3] }
  | _ => none }
def SpanCountsWrongFalsely : Prop := spanCountsRow.holds Tryz.pinned (OpenSpec.ofChange spanCountsWrong)

/-- 'pelotonlaw31.SpanWithin': WHATEVER THE INPUT: true; the input reads as it did. -/
def spanWithinSpec : ChangeSpec := { name := "spanWithin", fn := fun _ => fun
  | [d1, d2, d3, d4] => { results := [.lit (.bool true)], args := [d1, d2, d3, d4] }
  | _ => none }
def spanWithinRow : OpenClaim := { program := "ytodmhdfenpkbdaagreat", sum := "53bb15843498dcb2c1bbc73db37516df5409779e8b428583391d256b6155ba28", func := "peloton/pelotonlaw31.SpanWithin", spec := "spanWithin", inPlace := ["math/bits.Add64", "math/bits.Sub64"], unfollowed := true, recurses := true, named := ["math/bits.divideError", "math/bits.overflowError"], plainKeys := false, apart := false }
def SpanWithinSaid : Prop := spanWithinRow.holds Tryz.pinned (OpenSpec.ofChange spanWithinSpec)

/-- ITS FALSE NEIGHBOUR: 'it returns false'. Refute it at one input. -/
def spanWithinWrong : ChangeSpec := { name := "spanWithin", fn := fun _ => fun
  | [d1, d2, d3, d4] => { results := [.lit (.bool false)], args := [d1, d2, d3, d4] }
  | _ => none }
def SpanWithinWrongFalsely : Prop := spanWithinRow.holds Tryz.pinned (OpenSpec.ofChange spanWithinWrong)

/-- 'pelotonlaw27.GapsFirst': WHATEVER THE INPUT: true; the input reads as it did. -/
def gapsFirstSpec : ChangeSpec := { name := "gapsFirst", fn := fun _ => fun
  | [d] => { results := [.lit (.bool true)], args := [d] }
  | _ => none }
def gapsFirstRow : OpenClaim := { program := "ytodmhdfenpkbdaagreat", sum := "53bb15843498dcb2c1bbc73db37516df5409779e8b428583391d256b6155ba28", func := "peloton/pelotonlaw27.GapsFirst", spec := "gapsFirst", inPlace := ["math/bits.Add64", "math/bits.Sub64"], unfollowed := true, recurses := true, named := ["math/bits.divideError", "math/bits.overflowError"], plainKeys := false, apart := false }
def GapsFirstSaid : Prop := gapsFirstRow.holds Tryz.pinned (OpenSpec.ofChange gapsFirstSpec)

/-- ITS FALSE NEIGHBOUR: 'it returns false'. Refute it at one input. -/
def gapsFirstWrong : ChangeSpec := { name := "gapsFirst", fn := fun _ => fun
  | [d] => { results := [.lit (.bool false)], args := [d] }
  | _ => none }
def GapsFirstWrongFalsely : Prop := gapsFirstRow.holds Tryz.pinned (OpenSpec.ofChange gapsFirstWrong)

/-- 'pelotonlaw25.KlistMakes': WHATEVER THE INPUT: true; the input reads as it did. -/
def klistMakesSpec : ChangeSpec := { name := "klistMakes", fn := fun _ => fun
  | [d1, d2, d3, d4] => { results := [.lit (.bool true)], args := [d1, d2, d3, d4] }
  | _ => none }
def klistMakesRow : OpenClaim := { program := "ytodmhdfenpkbdaagreat", sum := "53bb15843498dcb2c1bbc73db37516df5409779e8b428583391d256b6155ba28", func := "peloton/pelotonlaw25.KlistMakes", spec := "klistMakes", inPlace := ["math/bits.Add64"], unfollowed := true, recurses := true, plainKeys := false, apart := false }
def KlistMakesSaid : Prop := klistMakesRow.holds Tryz.pinned (OpenSpec.ofChange klistMakesSpec)

/-- ITS FALSE NEIGHBOUR: 'it returns false'. Refute it at one input. -/
def klistMakesWrong : ChangeSpec := { name := "klistMakes", fn := fun _ => fun
  | [d1, d2, d3, d4] => { results := [.lit (.bool false)], args := [d1, d2, d3, d4] }
  | _ => none }
def KlistMakesWrongFalsely : Prop := klistMakesRow.holds Tryz.pinned (OpenSpec.ofChange klistMakesWrong)

/- THE SECOND FORM. 'bulk': how many values and letters a reading holds, each counted each time it is reached (what is shared counts as often as it is met; a slice's spare places count too). A statement '..UptoSaid' is the law's where the arguments, and the package variables that the reading takes, are together of bulk at most 1048576: NARROWER than '..Said'. Prove '..Said' where nothing that the law and all that it calls make is longer than what came in: it says more and counts as full. Else prove '..UptoSaid'. A law counts once. -/
mutual
def uptoBulk {H : Type} : DataW H → Nat
  | .lit (.string bytes) => bytes.length + 1
  | .lit _ => 1
  | .nil => 1
  | .ptr d => uptoBulk d + 1
  | .slice elems spare => uptoBulkAll elems + uptoBulkAll spare + 1
  | .agg parts => uptoBulkAll parts + 1
  | .iface _ d => uptoBulk d + 1
  | .map entries => uptoBulkEntries entries + 1
  | .held _ => 1
def uptoBulkAll {H : Type} : List (DataW H) → Nat
  | [] => 0
  | d :: r => uptoBulk d + uptoBulkAll r
def uptoBulkEntries {H : Type} : List (Lit × DataW H) → Nat
  | [] => 0
  | x :: r => uptoBulkEntry x + uptoBulkEntries r
def uptoBulkEntry {H : Type} : Lit × DataW H → Nat
  | (.string bytes, d) => bytes.length + uptoBulk d + 1
  | (_, d) => uptoBulk d + 1
 end
def uptoSmall : (H : Type) → List (DataW H) → Bool := fun _ ds => decide (uptoBulkAll ds ≤ 1048576)
def OpenSpec.upto (s : _root_.Go.ChangeSpec) : _root_.Go.OpenSpec := { _root_.Go.OpenSpec.ofChange s with cond := some uptoSmall }

/-- 'pelotonlaw09.ClockGoes', WHERE WHAT IT READS IS OF BULK AT MOST 1048576: true; the input reads as it did. -/
def clockGoesUptoRow : OpenClaim := { program := "ytodmhdfenpkbdaagreat", sum := "53bb15843498dcb2c1bbc73db37516df5409779e8b428583391d256b6155ba28", func := "peloton/pelotonlaw09.ClockGoes", spec := "clockGoes", inPlace := ["math/bits.Add64"], unfollowed := true, recurses := true, plainKeys := false, apart := false, narrowed := true }
def ClockGoesUptoSaid : Prop := clockGoesUptoRow.holds Tryz.pinned (OpenSpec.upto clockGoesSpec)

/-- 'pelotonlaw09.ClockKeeps', WHERE WHAT IT READS IS OF BULK AT MOST 1048576: true; the input reads as it did. -/
def clockKeepsUptoRow : OpenClaim := { program := "ytodmhdfenpkbdaagreat", sum := "53bb15843498dcb2c1bbc73db37516df5409779e8b428583391d256b6155ba28", func := "peloton/pelotonlaw09.ClockKeeps", spec := "clockKeeps", inPlace := ["math/bits.Add64"], unfollowed := true, recurses := true, plainKeys := false, apart := false, narrowed := true }
def ClockKeepsUptoSaid : Prop := clockKeepsUptoRow.holds Tryz.pinned (OpenSpec.upto clockKeepsSpec)

/-- 'pelotonlaw09.ClockDue', WHERE WHAT IT READS IS OF BULK AT MOST 1048576: true; the input reads as it did. -/
def clockDueUptoRow : OpenClaim := { program := "ytodmhdfenpkbdaagreat", sum := "53bb15843498dcb2c1bbc73db37516df5409779e8b428583391d256b6155ba28", func := "peloton/pelotonlaw09.ClockDue", spec := "clockDue", inPlace := ["math/bits.Add64"], unfollowed := true, recurses := true, plainKeys := false, apart := false, narrowed := true }
def ClockDueUptoSaid : Prop := clockDueUptoRow.holds Tryz.pinned (OpenSpec.upto clockDueSpec)

/-- 'pelotonlaw09.ClockEnds', WHERE WHAT IT READS IS OF BULK AT MOST 1048576: true; the input reads as it did. -/
def clockEndsUptoRow : OpenClaim := { program := "ytodmhdfenpkbdaagreat", sum := "53bb15843498dcb2c1bbc73db37516df5409779e8b428583391d256b6155ba28", func := "peloton/pelotonlaw09.ClockEnds", spec := "clockEnds", inPlace := ["math/bits.Add64"], unfollowed := true, recurses := true, plainKeys := false, apart := false, narrowed := true }
def ClockEndsUptoSaid : Prop := clockEndsUptoRow.holds Tryz.pinned (OpenSpec.upto clockEndsSpec)

/-- 'pelotonlaw09.ClockNames', WHERE WHAT IT READS IS OF BULK AT MOST 1048576: true; the input reads as it did. -/
def clockNamesUptoRow : OpenClaim := { program := "ytodmhdfenpkbdaagreat", sum := "53bb15843498dcb2c1bbc73db37516df5409779e8b428583391d256b6155ba28", func := "peloton/pelotonlaw09.ClockNames", spec := "clockNames", inPlace := ["math/bits.Add64"], unfollowed := true, recurses := true, plainKeys := false, apart := false, narrowed := true }
def ClockNamesUptoSaid : Prop := clockNamesUptoRow.holds Tryz.pinned (OpenSpec.upto clockNamesSpec)

/-- 'pelotonlaw09.ClockAlters', WHERE WHAT IT READS IS OF BULK AT MOST 1048576: true; the input reads as it did. -/
def clockAltersUptoRow : OpenClaim := { program := "ytodmhdfenpkbdaagreat", sum := "53bb15843498dcb2c1bbc73db37516df5409779e8b428583391d256b6155ba28", func := "peloton/pelotonlaw09.ClockAlters", spec := "clockAlters", inPlace := ["math/bits.Add64"], unfollowed := true, recurses := true, plainKeys := false, apart := false, narrowed := true }
def ClockAltersUptoSaid : Prop := clockAltersUptoRow.holds Tryz.pinned (OpenSpec.upto clockAltersSpec)

/-- 'pelotonlaw09.ClockHolds', WHERE WHAT IT READS IS OF BULK AT MOST 1048576: true; the input reads as it did. -/
def clockHoldsUptoRow : OpenClaim := { program := "ytodmhdfenpkbdaagreat", sum := "53bb15843498dcb2c1bbc73db37516df5409779e8b428583391d256b6155ba28", func := "peloton/pelotonlaw09.ClockHolds", spec := "clockHolds", inPlace := ["math/bits.Add64"], unfollowed := true, recurses := true, plainKeys := false, apart := false, narrowed := true }
def ClockHoldsUptoSaid : Prop := clockHoldsUptoRow.holds Tryz.pinned (OpenSpec.upto clockHoldsSpec)

/-- 'pelotonlaw27.GapsFinds', WHERE WHAT IT READS IS OF BULK AT MOST 1048576: true; the input reads as it did. -/
def gapsFindsUptoRow : OpenClaim := { program := "ytodmhdfenpkbdaagreat", sum := "53bb15843498dcb2c1bbc73db37516df5409779e8b428583391d256b6155ba28", func := "peloton/pelotonlaw27.GapsFinds", spec := "gapsFinds", inPlace := ["math/bits.Add64"], unfollowed := true, recurses := true, plainKeys := false, apart := false, narrowed := true }
def GapsFindsUptoSaid : Prop := gapsFindsUptoRow.holds Tryz.pinned (OpenSpec.upto gapsFindsSpec)

/-- 'pelotonlaw31.SpanFinds', WHERE WHAT IT READS IS OF BULK AT MOST 1048576: true; the input reads as it did. -/
def spanFindsUptoRow : OpenClaim := { program := "ytodmhdfenpkbdaagreat", sum := "53bb15843498dcb2c1bbc73db37516df5409779e8b428583391d256b6155ba28", func := "peloton/pelotonlaw31.SpanFinds", spec := "spanFinds", inPlace := ["math/bits.Add64", "math/bits.Sub64"], unfollowed := true, recurses := true, named := ["math/bits.divideError", "math/bits.overflowError"], plainKeys := false, apart := false, narrowed := true }
def SpanFindsUptoSaid : Prop := spanFindsUptoRow.holds Tryz.pinned (OpenSpec.upto spanFindsSpec)

/-- 'pelotonlaw30.PickFinds', WHERE WHAT IT READS IS OF BULK AT MOST 1048576: true; the input reads as it did. -/
def pickFindsUptoRow : OpenClaim := { program := "ytodmhdfenpkbdaagreat", sum := "53bb15843498dcb2c1bbc73db37516df5409779e8b428583391d256b6155ba28", func := "peloton/pelotonlaw30.PickFinds", spec := "pickFinds", inPlace := ["math/bits.Add64", "math/bits.Sub64"], unfollowed := true, recurses := true, named := ["math/bits.divideError", "math/bits.overflowError"], plainKeys := false, apart := false, narrowed := true }
def PickFindsUptoSaid : Prop := pickFindsUptoRow.holds Tryz.pinned (OpenSpec.upto pickFindsSpec)

/-- 'pelotonlaw27.GapsNames', WHERE WHAT IT READS IS OF BULK AT MOST 1048576: true; the input reads as it did. -/
def gapsNamesUptoRow : OpenClaim := { program := "ytodmhdfenpkbdaagreat", sum := "53bb15843498dcb2c1bbc73db37516df5409779e8b428583391d256b6155ba28", func := "peloton/pelotonlaw27.GapsNames", spec := "gapsNames", inPlace := ["math/bits.Add64", "math/bits.Sub64"], unfollowed := true, recurses := true, named := ["math/bits.divideError", "math/bits.overflowError"], plainKeys := false, apart := false, narrowed := true }
def GapsNamesUptoSaid : Prop := gapsNamesUptoRow.holds Tryz.pinned (OpenSpec.upto gapsNamesSpec)

/-- 'pelotonlaw27.GapsSums', WHERE WHAT IT READS IS OF BULK AT MOST 1048576: true; the input reads as it did. -/
def gapsSumsUptoRow : OpenClaim := { program := "ytodmhdfenpkbdaagreat", sum := "53bb15843498dcb2c1bbc73db37516df5409779e8b428583391d256b6155ba28", func := "peloton/pelotonlaw27.GapsSums", spec := "gapsSums", inPlace := ["math/bits.Add64", "math/bits.Sub64"], unfollowed := true, recurses := true, named := ["math/bits.divideError", "math/bits.overflowError"], plainKeys := false, apart := false, narrowed := true }
def GapsSumsUptoSaid : Prop := gapsSumsUptoRow.holds Tryz.pinned (OpenSpec.upto gapsSumsSpec)

/-- 'pelotonlaw31.SpanTells', WHERE WHAT IT READS IS OF BULK AT MOST 1048576: true; the input reads as it did. -/
def spanTellsUptoRow : OpenClaim := { program := "ytodmhdfenpkbdaagreat", sum := "53bb15843498dcb2c1bbc73db37516df5409779e8b428583391d256b6155ba28", func := "peloton/pelotonlaw31.SpanTells", spec := "spanTells", inPlace := ["math/bits.Add64", "math/bits.Sub64"], unfollowed := true, recurses := true, named := ["math/bits.divideError", "math/bits.overflowError"], plainKeys := false, apart := false, narrowed := true }
def SpanTellsUptoSaid : Prop := spanTellsUptoRow.holds Tryz.pinned (OpenSpec.upto spanTellsSpec)

/-- 'pelotonlaw31.SpanNext', WHERE WHAT IT READS IS OF BULK AT MOST 1048576: true; the input reads as it did. -/
def spanNextUptoRow : OpenClaim := { program := "ytodmhdfenpkbdaagreat", sum := "53bb15843498dcb2c1bbc73db37516df5409779e8b428583391d256b6155ba28", func := "peloton/pelotonlaw31.SpanNext", spec := "spanNext", inPlace := ["math/bits.Add64", "math/bits.Sub64"], unfollowed := true, recurses := true, named := ["math/bits.divideError", "math/bits.overflowError"], plainKeys := false, apart := false, narrowed := true }
def SpanNextUptoSaid : Prop := spanNextUptoRow.holds Tryz.pinned (OpenSpec.upto spanNextSpec)

/-- 'pelotonlaw31.SpanHull', WHERE WHAT IT READS IS OF BULK AT MOST 1048576: true; the input reads as it did. -/
def spanHullUptoRow : OpenClaim := { program := "ytodmhdfenpkbdaagreat", sum := "53bb15843498dcb2c1bbc73db37516df5409779e8b428583391d256b6155ba28", func := "peloton/pelotonlaw31.SpanHull", spec := "spanHull", inPlace := ["math/bits.Add64", "math/bits.Sub64"], unfollowed := true, recurses := true, named := ["math/bits.divideError", "math/bits.overflowError"], plainKeys := false, apart := false, narrowed := true }
def SpanHullUptoSaid : Prop := spanHullUptoRow.holds Tryz.pinned (OpenSpec.upto spanHullSpec)

/-- 'pelotonlaw31.SpanNames', WHERE WHAT IT READS IS OF BULK AT MOST 1048576: true; the input reads as it did. -/
def spanNamesUptoRow : OpenClaim := { program := "ytodmhdfenpkbdaagreat", sum := "53bb15843498dcb2c1bbc73db37516df5409779e8b428583391d256b6155ba28", func := "peloton/pelotonlaw31.SpanNames", spec := "spanNames", inPlace := ["math/bits.Add64", "math/bits.Sub64"], unfollowed := true, recurses := true, named := ["math/bits.divideError", "math/bits.overflowError"], plainKeys := false, apart := false, narrowed := true }
def SpanNamesUptoSaid : Prop := spanNamesUptoRow.holds Tryz.pinned (OpenSpec.upto spanNamesSpec)

/-- 'pelotonlaw31.SpanCounts', WHERE WHAT IT READS IS OF BULK AT MOST 1048576: true; the input reads as it did. -/
def spanCountsUptoRow : OpenClaim := { program := "ytodmhdfenpkbdaagreat", sum := "53bb15843498dcb2c1bbc73db37516df5409779e8b428583391d256b6155ba28", func := "peloton/pelotonlaw31.SpanCounts", spec := "spanCounts", inPlace := ["math/bits.Add64", "math/bits.Sub64"], unfollowed := true, recurses := true, named := ["math/bits.divideError", "math/bits.overflowError"], plainKeys := false, apart := false, narrowed := true }
def SpanCountsUptoSaid : Prop := spanCountsUptoRow.holds Tryz.pinned (OpenSpec.upto spanCountsSpec)

/-- 'pelotonlaw31.SpanWithin', WHERE WHAT IT READS IS OF BULK AT MOST 1048576: true; the input reads as it did. -/
def spanWithinUptoRow : OpenClaim := { program := "ytodmhdfenpkbdaagreat", sum := "53bb15843498dcb2c1bbc73db37516df5409779e8b428583391d256b6155ba28", func := "peloton/pelotonlaw31.SpanWithin", spec := "spanWithin", inPlace := ["math/bits.Add64", "math/bits.Sub64"], unfollowed := true, recurses := true, named := ["math/bits.divideError", "math/bits.overflowError"], plainKeys := false, apart := false, narrowed := true }
def SpanWithinUptoSaid : Prop := spanWithinUptoRow.holds Tryz.pinned (OpenSpec.upto spanWithinSpec)

/-- 'pelotonlaw27.GapsFirst', WHERE WHAT IT READS IS OF BULK AT MOST 1048576: true; the input reads as it did. -/
def gapsFirstUptoRow : OpenClaim := { program := "ytodmhdfenpkbdaagreat", sum := "53bb15843498dcb2c1bbc73db37516df5409779e8b428583391d256b6155ba28", func := "peloton/pelotonlaw27.GapsFirst", spec := "gapsFirst", inPlace := ["math/bits.Add64", "math/bits.Sub64"], unfollowed := true, recurses := true, named := ["math/bits.divideError", "math/bits.overflowError"], plainKeys := false, apart := false, narrowed := true }
def GapsFirstUptoSaid : Prop := gapsFirstUptoRow.holds Tryz.pinned (OpenSpec.upto gapsFirstSpec)

/-- 'pelotonlaw25.KlistMakes', WHERE WHAT IT READS IS OF BULK AT MOST 1048576: true; the input reads as it did. -/
def klistMakesUptoRow : OpenClaim := { program := "ytodmhdfenpkbdaagreat", sum := "53bb15843498dcb2c1bbc73db37516df5409779e8b428583391d256b6155ba28", func := "peloton/pelotonlaw25.KlistMakes", spec := "klistMakes", inPlace := ["math/bits.Add64"], unfollowed := true, recurses := true, plainKeys := false, apart := false, narrowed := true }
def KlistMakesUptoSaid : Prop := klistMakesUptoRow.holds Tryz.pinned (OpenSpec.upto klistMakesSpec)

end Rows
end Go.Proofs.YtodmhdfenpkbdaaGreat
