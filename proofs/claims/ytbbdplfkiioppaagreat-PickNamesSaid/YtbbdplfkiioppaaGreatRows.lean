/-
  No cell of these rows narrows 'for every input' (looked for: loops, veiled, ifaces, maps, wideKeys, modest, calm, conditions, laid).
  DERIVED. THE GIVEN ROWS OF THIS SEAT. 5 by the template 'for every input the law returns true; each argument reads behind the call as it read before'; 0 by the template 'total and deterministic' (their statements: YtbbdplfkiioppaaGreatTotals.lean).
  GIVEN WITH THE SEED: the statements are not yours to turn. If you find one false, say at which input.
  Laid BY PROGRAM, IN A SANDBOX (cutbox-rows.mjs): the forced cells as the released guide's own fill.sh prints them over the translation 5568154090e4f674… (all of the seat's roots in one cut). By AI agents, Wed Nov 11 2026. No macro, syntax, notation, axiom, sorry.
-/
import Derived.Test.YtbbdplfkiioppaaGreatChecked
import GoSem.Claim
import GoSem.ClaimJoined
import GoSem.ClaimMapViews
import Derived.JoinedTies
import Derived.KernelRfl
namespace Go.Proofs.YtbbdplfkiioppaaGreat
/- THE CELL 'sum', in the pinned program and in every row, IS THE sha256 OF THE DUMP (.gsa) THAT YtbbdplfkiioppaaGreatProg.lean LOADS. Nothing in Lean hashes anything: it is a label: what it is worth is what the hold of that sum in a sandbox is worth. -/
noncomputable def Tryz.pinned : Pinned := { name := "ytbbdplfkiioppaagreat", sum := "5568154090e4f674b0e38f199808e0a063881266a244f4175eac66971c2c77c1", checked := Tryz.checked }
namespace Rows
def none {H : Type} : Left H := { results := [], args := [] }

/-- 'pelotonlaw30.PickReigns': WHATEVER THE INPUT: true; the input reads as it did. -/
def pickReignsSpec : ChangeSpec := { name := "pickReigns", fn := fun _ => fun
  | [d1, d2, d3, d4, d5] => { results := [.lit (.bool true)], args := [d1, d2, d3, d4, d5] }
  | _ => none }
def pickReignsRow : OpenClaim := { program := "ytbbdplfkiioppaagreat", sum := "5568154090e4f674b0e38f199808e0a063881266a244f4175eac66971c2c77c1", func := "peloton/pelotonlaw30.PickReigns", spec := "pickReigns", inPlace := ["math/bits.Add64"], unfollowed := true, recurses := true, plainKeys := false, apart := false }
def PickReignsSaid : Prop := pickReignsRow.holds Tryz.pinned (OpenSpec.ofChange pickReignsSpec)

/-- ITS FALSE NEIGHBOUR: 'it returns false'. Refute it at one input. -/
def pickReignsWrong : ChangeSpec := { name := "pickReigns", fn := fun _ => fun
  | [d1, d2, d3, d4, d5] => { results := [.lit (.bool false)], args := [d1, d2, d3, d4, d5] }
  | _ => none }
def PickReignsWrongFalsely : Prop := pickReignsRow.holds Tryz.pinned (OpenSpec.ofChange pickReignsWrong)

/-- 'pelotonlaw30.PickMedian': WHATEVER THE INPUT: true; the input reads as it did. -/
def pickMedianSpec : ChangeSpec := { name := "pickMedian", fn := fun _ => fun
  | [d] => { results := [.lit (.bool true)], args := [d] }
  | _ => none }
def pickMedianRow : OpenClaim := { program := "ytbbdplfkiioppaagreat", sum := "5568154090e4f674b0e38f199808e0a063881266a244f4175eac66971c2c77c1", func := "peloton/pelotonlaw30.PickMedian", spec := "pickMedian", inPlace := ["math/bits.Add64", "math/bits.Sub64"], unfollowed := true, recurses := true, named := ["math/bits.divideError", "math/bits.overflowError"], plainKeys := false, apart := false }
def PickMedianSaid : Prop := pickMedianRow.holds Tryz.pinned (OpenSpec.ofChange pickMedianSpec)

/-- ITS FALSE NEIGHBOUR: 'it returns false'. Refute it at one input. -/
def pickMedianWrong : ChangeSpec := { name := "pickMedian", fn := fun _ => fun
  | [d] => { results := [.lit (.bool false)], args := [d] }
  | _ => none }
def PickMedianWrongFalsely : Prop := pickMedianRow.holds Tryz.pinned (OpenSpec.ofChange pickMedianWrong)

/-- 'pelotonlaw30.PickAhead': WHATEVER THE INPUT: true; the input reads as it did. -/
def pickAheadSpec : ChangeSpec := { name := "pickAhead", fn := fun _ => fun
  | [d1, d2] => { results := [.lit (.bool true)], args := [d1, d2] }
  | _ => none }
def pickAheadRow : OpenClaim := { program := "ytbbdplfkiioppaagreat", sum := "5568154090e4f674b0e38f199808e0a063881266a244f4175eac66971c2c77c1", func := "peloton/pelotonlaw30.PickAhead", spec := "pickAhead", inPlace := ["math/bits.Add64", "math/bits.Sub64"], unfollowed := true, recurses := true, named := ["math/bits.divideError", "math/bits.overflowError"], plainKeys := false, apart := false }
def PickAheadSaid : Prop := pickAheadRow.holds Tryz.pinned (OpenSpec.ofChange pickAheadSpec)

/-- ITS FALSE NEIGHBOUR: 'it returns false'. Refute it at one input. -/
def pickAheadWrong : ChangeSpec := { name := "pickAhead", fn := fun _ => fun
  | [d1, d2] => { results := [.lit (.bool false)], args := [d1, d2] }
  | _ => none }
def PickAheadWrongFalsely : Prop := pickAheadRow.holds Tryz.pinned (OpenSpec.ofChange pickAheadWrong)

/-- 'pelotonlaw30.PickOnce': WHATEVER THE INPUT: true; the input reads as it did. -/
def pickOnceSpec : ChangeSpec := { name := "pickOnce", fn := fun _ => fun
  | [d1, d2, d3] => { results := [.lit (.bool true)], args := [d1, d2, d3] }
  | _ => none }
def pickOnceRow : OpenClaim := { program := "ytbbdplfkiioppaagreat", sum := "5568154090e4f674b0e38f199808e0a063881266a244f4175eac66971c2c77c1", func := "peloton/pelotonlaw30.PickOnce", spec := "pickOnce", inPlace := ["math/bits.Add64", "math/bits.Sub64"], unfollowed := true, recurses := true, named := ["math/bits.divideError", "math/bits.overflowError"], plainKeys := false, apart := false }
def PickOnceSaid : Prop := pickOnceRow.holds Tryz.pinned (OpenSpec.ofChange pickOnceSpec)

/-- ITS FALSE NEIGHBOUR: 'it returns false'. Refute it at one input. -/
def pickOnceWrong : ChangeSpec := { name := "pickOnce", fn := fun _ => fun
  | [d1, d2, d3] => { results := [.lit (.bool false)], args := [d1, d2, d3] }
  | _ => none }
def PickOnceWrongFalsely : Prop := pickOnceRow.holds Tryz.pinned (OpenSpec.ofChange pickOnceWrong)

/-- 'pelotonlaw30.PickNames': WHATEVER THE INPUT: true; the input reads as it did. -/
def pickNamesSpec : ChangeSpec := { name := "pickNames", fn := fun _ => fun
  | [] => { results := [.lit (.bool true)], args := [] }
  | _ => none }
def pickNamesRow : OpenClaim := { program := "ytbbdplfkiioppaagreat", sum := "5568154090e4f674b0e38f199808e0a063881266a244f4175eac66971c2c77c1", func := "peloton/pelotonlaw30.PickNames", spec := "pickNames", inPlace := ["math/bits.Add64", "math/bits.Sub64"], unfollowed := true, recurses := true, named := ["math/bits.divideError", "math/bits.overflowError"], plainKeys := false, apart := false }
def PickNamesSaid : Prop := pickNamesRow.holds Tryz.pinned (OpenSpec.ofChange pickNamesSpec)

/-- ITS FALSE NEIGHBOUR: 'it returns false'. Refute it at one input. -/
def pickNamesWrong : ChangeSpec := { name := "pickNames", fn := fun _ => fun
  | [] => { results := [.lit (.bool false)], args := [] }
  | _ => none }
def PickNamesWrongFalsely : Prop := pickNamesRow.holds Tryz.pinned (OpenSpec.ofChange pickNamesWrong)

/- THE SECOND FORM. 'bulk': how many values and letters a reading holds, each counted each time it is reached (what is shared counts as often as it is met; a slice's spare places count too). A statement '..UptoSaid' is the law's where the arguments, and the package variables that the reading takes, are together of bulk at most 1048576: NARROWER than '..Said'. Prove '..Said' where nothing that the law and all that it calls make is longer than what came in: it says more and counts as full. Else prove '..UptoSaid'. A law counts once. -/
mutual
def uptoBulk {H : Type} : DataW H → Nat
  | .lit (.string bytes) => bytes.length + 1
  | .lit _ => 1
  | .nil => 1
  | .ptr d => uptoBulk d + 1
  | .slice elems spare => uptoBulkAll elems + uptoBulkAll spare + 1
  | .agg parts => uptoBulkAll parts + 1
  | .iface _ d => uptoBulk d + 1
  | .map entries => uptoBulkEntries entries + 1
  | .held _ => 1
def uptoBulkAll {H : Type} : List (DataW H) → Nat
  | [] => 0
  | d :: r => uptoBulk d + uptoBulkAll r
def uptoBulkEntries {H : Type} : List (Lit × DataW H) → Nat
  | [] => 0
  | x :: r => uptoBulkEntry x + uptoBulkEntries r
def uptoBulkEntry {H : Type} : Lit × DataW H → Nat
  | (.string bytes, d) => bytes.length + uptoBulk d + 1
  | (_, d) => uptoBulk d + 1
 end
def uptoSmall : (H : Type) → List (DataW H) → Bool := fun _ ds => decide (uptoBulkAll ds ≤ 1048576)
def OpenSpec.upto (s : _root_.Go.ChangeSpec) : _root_.Go.OpenSpec := { _root_.Go.OpenSpec.ofChange s with cond := some uptoSmall }

/-- 'pelotonlaw30.PickReigns', WHERE WHAT IT READS IS OF BULK AT MOST 1048576: true; the input reads as it did. -/
def pickReignsUptoRow : OpenClaim := { program := "ytbbdplfkiioppaagreat", sum := "5568154090e4f674b0e38f199808e0a063881266a244f4175eac66971c2c77c1", func := "peloton/pelotonlaw30.PickReigns", spec := "pickReigns", inPlace := ["math/bits.Add64"], unfollowed := true, recurses := true, plainKeys := false, apart := false, narrowed := true }
def PickReignsUptoSaid : Prop := pickReignsUptoRow.holds Tryz.pinned (OpenSpec.upto pickReignsSpec)

/-- 'pelotonlaw30.PickMedian', WHERE WHAT IT READS IS OF BULK AT MOST 1048576: true; the input reads as it did. -/
def pickMedianUptoRow : OpenClaim := { program := "ytbbdplfkiioppaagreat", sum := "5568154090e4f674b0e38f199808e0a063881266a244f4175eac66971c2c77c1", func := "peloton/pelotonlaw30.PickMedian", spec := "pickMedian", inPlace := ["math/bits.Add64", "math/bits.Sub64"], unfollowed := true, recurses := true, named := ["math/bits.divideError", "math/bits.overflowError"], plainKeys := false, apart := false, narrowed := true }
def PickMedianUptoSaid : Prop := pickMedianUptoRow.holds Tryz.pinned (OpenSpec.upto pickMedianSpec)

/-- 'pelotonlaw30.PickAhead', WHERE WHAT IT READS IS OF BULK AT MOST 1048576: true; the input reads as it did. -/
def pickAheadUptoRow : OpenClaim := { program := "ytbbdplfkiioppaagreat", sum := "5568154090e4f674b0e38f199808e0a063881266a244f4175eac66971c2c77c1", func := "peloton/pelotonlaw30.PickAhead", spec := "pickAhead", inPlace := ["math/bits.Add64", "math/bits.Sub64"], unfollowed := true, recurses := true, named := ["math/bits.divideError", "math/bits.overflowError"], plainKeys := false, apart := false, narrowed := true }
def PickAheadUptoSaid : Prop := pickAheadUptoRow.holds Tryz.pinned (OpenSpec.upto pickAheadSpec)

/-- 'pelotonlaw30.PickOnce', WHERE WHAT IT READS IS OF BULK AT MOST 1048576: true; the input reads as it did. -/
def pickOnceUptoRow : OpenClaim := { program := "ytbbdplfkiioppaagreat", sum := "5568154090e4f674b0e38f199808e0a063881266a244f4175eac66971c2c77c1", func := "peloton/pelotonlaw30.PickOnce", spec := "pickOnce", inPlace := ["math/bits.Add64", "math/bits.Sub64"], unfollowed := true, recurses := true, named := ["math/bits.divideError", "math/bits.overflowError"], plainKeys := false, apart := false, narrowed := true }
def PickOnceUptoSaid : Prop := pickOnceUptoRow.holds Tryz.pinned (OpenSpec.upto pickOnceSpec)

/-- 'pelotonlaw30.PickNames', WHERE WHAT IT READS IS OF BULK AT MOST 1048576: true; the input reads as it did. -/
def pickNamesUptoRow : OpenClaim := { program := "ytbbdplfkiioppaagreat", sum := "5568154090e4f674b0e38f199808e0a063881266a244f4175eac66971c2c77c1", func := "peloton/pelotonlaw30.PickNames", spec := "pickNames", inPlace := ["math/bits.Add64", "math/bits.Sub64"], unfollowed := true, recurses := true, named := ["math/bits.divideError", "math/bits.overflowError"], plainKeys := false, apart := false, narrowed := true }
def PickNamesUptoSaid : Prop := pickNamesUptoRow.holds Tryz.pinned (OpenSpec.upto pickNamesSpec)

end Rows
end Go.Proofs.YtbbdplfkiioppaaGreat
