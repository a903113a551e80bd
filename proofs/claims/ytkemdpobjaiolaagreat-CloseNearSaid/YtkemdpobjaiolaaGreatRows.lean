/-
  No cell of these rows narrows 'for every input' (looked for: loops, veiled, ifaces, maps, wideKeys, modest, calm, conditions, laid).
  DERIVED. THE GIVEN ROWS OF THIS SEAT. 9 by the template 'for every input the law returns true; each argument reads behind the call as it read before'; 0 by the template 'total and deterministic' (their statements: YtkemdpobjaiolaaGreatTotals.lean).
  GIVEN WITH THE SEED: the statements are not yours to turn. If you find one false, say at which input.
  Laid BY PROGRAM, IN A SANDBOX (cutbox-rows.mjs): the forced cells as the released guide's own fill.sh prints them over the translation ac8da56570fedb10… (all of the seat's roots in one cut). By AI agents, Wed Nov 11 2026. No macro, syntax, notation, axiom, sorry.
-/
import Derived.Test.YtkemdpobjaiolaaGreatChecked
import GoSem.Claim
import GoSem.ClaimJoined
import GoSem.ClaimMapViews
import Derived.JoinedTies
import Derived.KernelRfl
namespace Go.Proofs.YtkemdpobjaiolaaGreat
/- THE CELL 'sum', in the pinned program and in every row, IS THE sha256 OF THE DUMP (.gsa) THAT YtkemdpobjaiolaaGreatProg.lean LOADS. Nothing in Lean hashes anything: it is a label: what it is worth is what the hold of that sum in a sandbox is worth. -/
noncomputable def Tryz.pinned : Pinned := { name := "ytkemdpobjaiolaagreat", sum := "ac8da56570fedb1009c5cbc0061f08325c732576defe35a7c0274d0f62b4c17e", checked := Tryz.checked }
namespace Rows
def none {H : Type} : Left H := { results := [], args := [] }

/-- 'pelotonlaw27.GapsFirst': WHATEVER THE INPUT: true; the input reads as it did. -/
def gapsFirstSpec : ChangeSpec := { name := "gapsFirst", fn := fun _ => fun
  | [d] => { results := [.lit (.bool true)], args := [d] }
  | _ => none }
def gapsFirstRow : OpenClaim := { program := "ytkemdpobjaiolaagreat", sum := "ac8da56570fedb1009c5cbc0061f08325c732576defe35a7c0274d0f62b4c17e", func := "peloton/pelotonlaw27.GapsFirst", spec := "gapsFirst", inPlace := ["math/bits.Add64", "math/bits.Sub64"], unfollowed := true, recurses := true, named := ["math/bits.divideError", "math/bits.overflowError"], plainKeys := false, apart := false }
def GapsFirstSaid : Prop := gapsFirstRow.holds Tryz.pinned (OpenSpec.ofChange gapsFirstSpec)

/-- ITS FALSE NEIGHBOUR: 'it returns false'. Refute it at one input. -/
def gapsFirstWrong : ChangeSpec := { name := "gapsFirst", fn := fun _ => fun
  | [d] => { results := [.lit (.bool false)], args := [d] }
  | _ => none }
def GapsFirstWrongFalsely : Prop := gapsFirstRow.holds Tryz.pinned (OpenSpec.ofChange gapsFirstWrong)

/-- 'pelotonlaw27.GapsNever': WHATEVER THE INPUT: true; the input reads as it did. -/
def gapsNeverSpec : ChangeSpec := { name := "gapsNever", fn := fun _ => fun
  | [d1, d2] => { results := [.lit (.bool true)], args := [d1, d2] }
  | _ => none }
def gapsNeverRow : OpenClaim := { program := "ytkemdpobjaiolaagreat", sum := "ac8da56570fedb1009c5cbc0061f08325c732576defe35a7c0274d0f62b4c17e", func := "peloton/pelotonlaw27.GapsNever", spec := "gapsNever", inPlace := ["math/bits.Add64", "math/bits.Sub64"], unfollowed := true, recurses := true, named := ["math/bits.divideError", "math/bits.overflowError"], plainKeys := false, apart := false }
def GapsNeverSaid : Prop := gapsNeverRow.holds Tryz.pinned (OpenSpec.ofChange gapsNeverSpec)

/-- ITS FALSE NEIGHBOUR: 'it returns false'. Refute it at one input. -/
def gapsNeverWrong : ChangeSpec := { name := "gapsNever", fn := fun _ => fun
  | [d1, d2] => { results := [.lit (.bool false)], args := [d1, d2] }
  | _ => none }
def GapsNeverWrongFalsely : Prop := gapsNeverRow.holds Tryz.pinned (OpenSpec.ofChange gapsNeverWrong)

/-- 'pelotonlaw28.CloseTells': WHATEVER THE INPUT: true; the input reads as it did. -/
def closeTellsSpec : ChangeSpec := { name := "closeTells", fn := fun _ => fun
  | [d1, d2, d3] => { results := [.lit (.bool true)], args := [d1, d2, d3] }
  | _ => none }
def closeTellsRow : OpenClaim := { program := "ytkemdpobjaiolaagreat", sum := "ac8da56570fedb1009c5cbc0061f08325c732576defe35a7c0274d0f62b4c17e", func := "peloton/pelotonlaw28.CloseTells", spec := "closeTells", inPlace := ["math/bits.Add64", "math/bits.Sub64"], unfollowed := true, recurses := true, named := ["math/bits.divideError", "math/bits.overflowError"], plainKeys := false, apart := false }
def CloseTellsSaid : Prop := closeTellsRow.holds Tryz.pinned (OpenSpec.ofChange closeTellsSpec)

/-- ITS FALSE NEIGHBOUR: 'it returns false'. Refute it at one input. -/
def closeTellsWrong : ChangeSpec := { name := "closeTells", fn := fun _ => fun
  | [d1, d2, d3] => { results := [.lit (.bool false)], args := [d1, d2, d3] }
  | _ => none }
def CloseTellsWrongFalsely : Prop := closeTellsRow.holds Tryz.pinned (OpenSpec.ofChange closeTellsWrong)

/-- 'pelotonlaw28.CloseLeast': WHATEVER THE INPUT: true; the input reads as it did. -/
def closeLeastSpec : ChangeSpec := { name := "closeLeast", fn := fun _ => fun
  | [d] => { results := [.lit (.bool true)], args := [d] }
  | _ => none }
def closeLeastRow : OpenClaim := { program := "ytkemdpobjaiolaagreat", sum := "ac8da56570fedb1009c5cbc0061f08325c732576defe35a7c0274d0f62b4c17e", func := "peloton/pelotonlaw28.CloseLeast", spec := "closeLeast", inPlace := ["math/bits.Add64", "math/bits.Sub64"], unfollowed := true, recurses := true, named := ["math/bits.divideError", "math/bits.overflowError"], plainKeys := false, apart := false }
def CloseLeastSaid : Prop := closeLeastRow.holds Tryz.pinned (OpenSpec.ofChange closeLeastSpec)

/-- ITS FALSE NEIGHBOUR: 'it returns false'. Refute it at one input. -/
def closeLeastWrong : ChangeSpec := { name := "closeLeast", fn := fun _ => fun
  | [d] => { results := [.lit (.bool false)], args := [d] }
  | _ => none }
def CloseLeastWrongFalsely : Prop := closeLeastRow.holds Tryz.pinned (OpenSpec.ofChange closeLeastWrong)

/-- 'pelotonlaw25.KlistGoes': WHATEVER THE INPUT: true; the input reads as it did. -/
def klistGoesSpec : ChangeSpec := { name := "klistGoes", fn := fun _ => fun
  | [d1, d2] => { results := [.lit (.bool true)], args := [d1, d2] }
  | _ => none }
def klistGoesRow : OpenClaim := { program := "ytkemdpobjaiolaagreat", sum := "ac8da56570fedb1009c5cbc0061f08325c732576defe35a7c0274d0f62b4c17e", func := "peloton/pelotonlaw25.KlistGoes", spec := "klistGoes", inPlace := ["math/bits.Add64"], unfollowed := true, recurses := true, plainKeys := false, apart := false }
def KlistGoesSaid : Prop := klistGoesRow.holds Tryz.pinned (OpenSpec.ofChange klistGoesSpec)

/-- ITS FALSE NEIGHBOUR: 'it returns false'. Refute it at one input. -/
def klistGoesWrong : ChangeSpec := { name := "klistGoes", fn := fun _ => fun
  | [d1, d2] => { results := [.lit (.bool false)], args := [d1, d2] }
  | _ => none }
def KlistGoesWrongFalsely : Prop := klistGoesRow.holds Tryz.pinned (OpenSpec.ofChange klistGoesWrong)

/-- 'pelotonlaw28.CloseNear': WHATEVER THE INPUT: true; the input reads as it did. -/
def closeNearSpec : ChangeSpec := { name := "closeNear", fn := fun _ => fun
  | [d1, d2] => { results := [.lit (.bool true)], args := [d1, d2] }
  | _ => none }
def closeNearRow : OpenClaim := { program := "ytkemdpobjaiolaagreat", sum := "ac8da56570fedb1009c5cbc0061f08325c732576defe35a7c0274d0f62b4c17e", func := "peloton/pelotonlaw28.CloseNear", spec := "closeNear", inPlace := ["math/bits.Add64", "math/bits.Sub64"], unfollowed := true, recurses := true, named := ["math/bits.divideError", "math/bits.overflowError"], plainKeys := false, apart := false }
def CloseNearSaid : Prop := closeNearRow.holds Tryz.pinned (OpenSpec.ofChange closeNearSpec)

/-- ITS FALSE NEIGHBOUR: 'it returns false'. Refute it at one input. -/
def closeNearWrong : ChangeSpec := { name := "closeNear", fn := fun _ => fun
  | [d1, d2] => { results := [.lit (.bool false)], args := [d1, d2] }
  | _ => none }
def CloseNearWrongFalsely : Prop := closeNearRow.holds Tryz.pinned (OpenSpec.ofChange closeNearWrong)

/-- 'pelotonlaw28.CloseNames': WHATEVER THE INPUT: true; the input reads as it did. -/
def closeNamesSpec : ChangeSpec := { name := "closeNames", fn := fun _ => fun
  | [] => { results := [.lit (.bool true)], args := [] }
  | _ => none }
def closeNamesRow : OpenClaim := { program := "ytkemdpobjaiolaagreat", sum := "ac8da56570fedb1009c5cbc0061f08325c732576defe35a7c0274d0f62b4c17e", func := "peloton/pelotonlaw28.CloseNames", spec := "closeNames", inPlace := ["math/bits.Add64", "math/bits.Sub64"], unfollowed := true, recurses := true, named := ["math/bits.divideError", "math/bits.overflowError"], plainKeys := false, apart := false }
def CloseNamesSaid : Prop := closeNamesRow.holds Tryz.pinned (OpenSpec.ofChange closeNamesSpec)

/-- ITS FALSE NEIGHBOUR: 'it returns false'. Refute it at one input. -/
def closeNamesWrong : ChangeSpec := { name := "closeNames", fn := fun _ => fun
  | [] => { results := [.lit (.bool false)], args := [] }
  | _ => none }
def CloseNamesWrongFalsely : Prop := closeNamesRow.holds Tryz.pinned (OpenSpec.ofChange closeNamesWrong)

/-- 'pelotonlaw28.CloseOrder': WHATEVER THE INPUT: true; the input reads as it did. -/
def closeOrderSpec : ChangeSpec := { name := "closeOrder", fn := fun _ => fun
  | [d1, d2] => { results := [.lit (.bool true)], args := [d1, d2] }
  | _ => none }
def closeOrderRow : OpenClaim := { program := "ytkemdpobjaiolaagreat", sum := "ac8da56570fedb1009c5cbc0061f08325c732576defe35a7c0274d0f62b4c17e", func := "peloton/pelotonlaw28.CloseOrder", spec := "closeOrder", inPlace := ["math/bits.Add64", "math/bits.Sub64"], unfollowed := true, recurses := true, named := ["math/bits.divideError", "math/bits.overflowError"], plainKeys := false, apart := false }
def CloseOrderSaid : Prop := closeOrderRow.holds Tryz.pinned (OpenSpec.ofChange closeOrderSpec)

/-- ITS FALSE NEIGHBOUR: 'it returns false'. Refute it at one input. -/
def closeOrderWrong : ChangeSpec := { name := "closeOrder", fn := fun _ => fun
  | [d1, d2] => { results := [.lit (.bool false)], args := [d1, d2] }
  | _ => none }
def CloseOrderWrongFalsely : Prop := closeOrderRow.holds Tryz.pinned (OpenSpec.ofChange closeOrderWrong)

/-- 'pelotonlaw25.KlistNames': WHATEVER THE INPUT: true; the input reads as it did. -/
def klistNamesSpec : ChangeSpec := { name := "klistNames", fn := fun _ => fun
  | [] => { results := [.lit (.bool true)], args := [] }
  | _ => none }
def klistNamesRow : OpenClaim := { program := "ytkemdpobjaiolaagreat", sum := "ac8da56570fedb1009c5cbc0061f08325c732576defe35a7c0274d0f62b4c17e", func := "peloton/pelotonlaw25.KlistNames", spec := "klistNames", inPlace := ["math/bits.Add64"], unfollowed := true, recurses := true, plainKeys := false, apart := false }
def KlistNamesSaid : Prop := klistNamesRow.holds Tryz.pinned (OpenSpec.ofChange klistNamesSpec)

/-- ITS FALSE NEIGHBOUR: 'it returns false'. Refute it at one input. -/
def klistNamesWrong : ChangeSpec := { name := "klistNames", fn := fun _ => fun
  | [] => { results := [.lit (.bool false)], args := [] }
  | _ => none }
def KlistNamesWrongFalsely : Prop := klistNamesRow.holds Tryz.pinned (OpenSpec.ofChange klistNamesWrong)

/- THE SECOND FORM. 'bulk': how many values and letters a reading holds, each counted each time it is reached (what is shared counts as often as it is met; a slice's spare places count too). A statement '..UptoSaid' is the law's where the arguments, and the package variables that the reading takes, are together of bulk at most 1048576: NARROWER than '..Said'. Prove '..Said' where nothing that the law and all that it calls make is longer than what came in: it says more and counts as full. Else prove '..UptoSaid'. A law counts once. -/
mutual
def uptoBulk {H : Type} : DataW H → Nat
  | .lit (.string bytes) => bytes.length + 1
  | .lit _ => 1
  | .nil => 1
  | .ptr d => uptoBulk d + 1
  | .slice elems spare => uptoBulkAll elems + uptoBulkAll spare + 1
  | .agg parts => uptoBulkAll parts + 1
  | .iface _ d => uptoBulk d + 1
  | .map entries => uptoBulkEntries entries + 1
  | .held _ => 1
def uptoBulkAll {H : Type} : List (DataW H) → Nat
  | [] => 0
  | d :: r => uptoBulk d + uptoBulkAll r
def uptoBulkEntries {H : Type} : List (Lit × DataW H) → Nat
  | [] => 0
  | x :: r => uptoBulkEntry x + uptoBulkEntries r
def uptoBulkEntry {H : Type} : Lit × DataW H → Nat
  | (.string bytes, d) => bytes.length + uptoBulk d + 1
  | (_, d) => uptoBulk d + 1
 end
def uptoSmall : (H : Type) → List (DataW H) → Bool := fun _ ds => decide (uptoBulkAll ds ≤ 1048576)
def OpenSpec.upto (s : _root_.Go.ChangeSpec) : _root_.Go.OpenSpec := { _root_.Go.OpenSpec.ofChange s with cond := some uptoSmall }

/-- 'pelotonlaw27.GapsFirst', WHERE WHAT IT READS IS OF BULK AT MOST 1048576: true; the input reads as it did. -/
def gapsFirstUptoRow : OpenClaim := { program := "ytkemdpobjaiolaagreat", sum := "ac8da56570fedb1009c5cbc0061f08325c732576defe35a7c0274d0f62b4c17e", func := "peloton/pelotonlaw27.GapsFirst", spec := "gapsFirst", inPlace := ["math/bits.Add64", "math/bits.Sub64"], unfollowed := true, recurses := true, named := ["math/bits.divideError", "math/bits.overflowError"], plainKeys := false, apart := false, narrowed := true }
def GapsFirstUptoSaid : Prop := gapsFirstUptoRow.holds Tryz.pinned (OpenSpec.upto gapsFirstSpec)

/-- 'pelotonlaw27.GapsNever', WHERE WHAT IT READS IS OF BULK AT MOST 1048576: true; the input reads as it did. -/
def gapsNeverUptoRow : OpenClaim := { program := "ytkemdpobjaiolaagreat", sum := "ac8da56570fedb1009c5cbc0061f08325c732576defe35a7c0274d0f62b4c17e", func := "peloton/pelotonlaw27.GapsNever", spec := "gapsNever", inPlace := ["math/bits.Add64", "math/bits.Sub64"], unfollowed := true, recurses := true, named := ["math/bits.divideError", "math/bits.overflowError"], plainKeys := false, apart := false, narrowed := true }
def GapsNeverUptoSaid : Prop := gapsNeverUptoRow.holds Tryz.pinned (OpenSpec.upto gapsNeverSpec)

/-- 'pelotonlaw28.CloseTells', WHERE WHAT IT READS IS OF BULK AT MOST 1048576: true; the input reads as it did. -/
def closeTellsUptoRow : OpenClaim := { program := "ytkemdpobjaiolaagreat", sum := "ac8da56570fedb1009c5cbc0061f08325c732576defe35a7c0274d0f62b4c17e", func := "peloton/pelotonlaw28.CloseTells", spec := "closeTells", inPlace := ["math/bits.Add64", "math/bits.Sub64"], unfollowed := true, recurses := true, named := ["math/bits.divideError", "math/bits.overflowError"], plainKeys := false, apart := false, narrowed := true }
def CloseTellsUptoSaid : Prop := closeTellsUptoRow.holds Tryz.pinned (OpenSpec.upto closeTellsSpec)

/-- 'pelotonlaw28.CloseLeast', WHERE WHAT IT READS IS OF BULK AT MOST 1048576: true; the input reads as it did. -/
def closeLeastUptoRow : OpenClaim := { program := "ytkemdpobjaiolaagreat", sum := "ac8da56570fedb1009c5cbc0061f08325c732576defe35a7c0274d0f62b4c17e", func := "peloton/pelotonlaw28.CloseLeast", spec := "closeLeast", inPlace := ["math/bits.Add64", "math/bits.Sub64"], unfollowed := true, recurses := true, named := ["math/bits.divideError", "math/bits.overflowError"], plainKeys := false, apart := false, narrowed := true }
def CloseLeastUptoSaid : Prop := closeLeastUptoRow.holds Tryz.pinned (OpenSpec.upto closeLeastSpec)

/-- 'pelotonlaw25.KlistGoes', WHERE WHAT IT READS IS OF BULK AT MOST 1048576: true; the input reads as it did. -/
def klistGoesUptoRow : OpenClaim := { program := "ytkemdpobjaiolaagreat", sum := "ac8da56570fedb1009c5cbc0061f08325c732576defe35a7c0274d0f62b4c17e", func := "peloton/pelotonlaw25.KlistGoes", spec := "klistGoes", inPlace := ["math/bits.Add64"], unfollowed := true, recurses := true, plainKeys := false, apart := false, narrowed := true }
def KlistGoesUptoSaid : Prop := klistGoesUptoRow.holds Tryz.pinned (OpenSpec.upto klistGoesSpec)

/-- 'pelotonlaw28.CloseNear', WHERE WHAT IT READS IS OF BULK AT MOST 1048576: true; the input reads as it did. -/
def closeNearUptoRow : OpenClaim := { program := "ytkemdpobjaiolaagreat", sum := "ac8da56570fedb1009c5cbc0061f08325c732576defe35a7c0274d0f62b4c17e", func := "peloton/pelotonlaw28.CloseNear", spec := "closeNear", inPlace := ["math/bits.Add64", "math/bits.Sub64"], unfollowed := true, recurses := true, named := ["math/bits.divideError", "math/bits.overflowError"], plainKeys := false, apart := false, narrowed := true }
def CloseNearUptoSaid : Prop := closeNearUptoRow.holds Tryz.pinned (OpenSpec.upto closeNearSpec)

/-- 'pelotonlaw28.CloseNames', WHERE WHAT IT READS IS OF BULK AT MOST 1048576: true; the input reads as it did. -/
def closeNamesUptoRow : OpenClaim := { program := "ytkemdpobjaiolaagreat", sum := "ac8da56570fedb1009c5cbc0061f08325c732576defe35a7c0274d0f62b4c17e", func := "peloton/pelotonlaw28.CloseNames", spec := "closeNames", inPlace := ["math/bits.Add64", "math/bits.Sub64"], unfollowed := true, recurses := true, named := ["math/bits.divideError", "math/bits.overflowError"], plainKeys := false, apart := false, narrowed := true }
def CloseNamesUptoSaid : Prop := closeNamesUptoRow.holds Tryz.pinned (OpenSpec.upto closeNamesSpec)

/-- 'pelotonlaw28.CloseOrder', WHERE WHAT IT READS IS OF BULK AT MOST 1048576: true; the input reads as it did. -/
def closeOrderUptoRow : OpenClaim := { program := "ytkemdpobjaiolaagreat", sum := "ac8da56570fedb1009c5cbc0061f08325c732576defe35a7c0274d0f62b4c17e", func := "peloton/pelotonlaw28.CloseOrder", spec := "closeOrder", inPlace := ["math/bits.Add64", "math/bits.Sub64"], unfollowed := true, recurses := true, named := ["math/bits.divideError", "math/bits.overflowError"], plainKeys := false, apart := false, narrowed := true }
def CloseOrderUptoSaid : Prop := closeOrderUptoRow.holds Tryz.pinned (OpenSpec.upto closeOrderSpec)

/-- 'pelotonlaw25.KlistNames', WHERE WHAT IT READS IS OF BULK AT MOST 1048576: true; the input reads as it did. -/
def klistNamesUptoRow : OpenClaim := { program := "ytkemdpobjaiolaagreat", sum := "ac8da56570fedb1009c5cbc0061f08325c732576defe35a7c0274d0f62b4c17e", func := "peloton/pelotonlaw25.KlistNames", spec := "klistNames", inPlace := ["math/bits.Add64"], unfollowed := true, recurses := true, plainKeys := false, apart := false, narrowed := true }
def KlistNamesUptoSaid : Prop := klistNamesUptoRow.holds Tryz.pinned (OpenSpec.upto klistNamesSpec)

end Rows
end Go.Proofs.YtkemdpobjaiolaaGreat
