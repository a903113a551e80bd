/-
  No cell of these rows narrows 'for every input' (looked for: loops, veiled, ifaces, maps, wideKeys, modest, calm, conditions, laid).
  DERIVED. THE GIVEN ROWS OF THIS SEAT. 7 by the template 'for every input the law returns true; each argument reads behind the call as it read before'; 0 by the template 'total and deterministic' (their statements: YtjhbjjdipmpgjaaGreatTotals.lean).
  GIVEN WITH THE SEED: the statements are not yours to turn. If you find one false, say at which input.
  Laid BY PROGRAM, IN A SANDBOX (cutbox-rows.mjs): the forced cells as the released guide's own fill.sh prints them over the translation dbd5794629b05b05… (all of the seat's roots in one cut). By AI agents, Wed Nov 11 2026. No macro, syntax, notation, axiom, sorry.
-/
import Derived.Test.YtjhbjjdipmpgjaaGreatChecked
import GoSem.Claim
import GoSem.ClaimJoined
import GoSem.ClaimMapViews
import Derived.JoinedTies
import Derived.KernelRfl
namespace Go.Proofs.YtjhbjjdipmpgjaaGreat
/- THE CELL 'sum', in the pinned program and in every row, IS THE sha256 OF THE DUMP (.gsa) THAT YtjhbjjdipmpgjaaGreatProg.lean LOADS. Nothing in Lean hashes anything: it is a label: what it is worth is what the hold of that sum in a sandbox is worth. -/
noncomputable def Tryz.pinned : Pinned := { name := "ytjhbjjdipmpgjaagreat", sum := "dbd5794629b05b059cc4bca3cd91139e5580682cc92af3612f09bad0646dab2f", checked := Tryz.checked }
namespace Rows
def none {H : Type} : Left H := { results := [], args := [] }

/-- 'pelotonlaw26.LeditPuts': WHATEVER THE INPUT: true; the input reads as it did. -/
def leditPutsSpec : ChangeSpec := { name := "leditPuts", fn := fun _ => fun
  | [d1, d2] => { results := [.lit (.bool true)], args := [d1, d2] }
  | _ => none }
def leditPutsRow : OpenClaim := { program := "ytjhbjjdipmpgjaagreat", sum := "dbd5794629b05b059cc4bca3cd91139e5580682cc92af3612f09bad0646dab2f", func := "peloton/pelotonlaw26.LeditPuts", spec := "leditPuts", inPlace := ["math/bits.Add64", "slices.overlaps[peloton/api.Point]", "slices.overlaps[int]"], unfollowed := true, recurses := true, plainKeys := false, apart := false }
def LeditPutsSaid : Prop := leditPutsRow.holds Tryz.pinned (OpenSpec.ofChange leditPutsSpec)

/-- ITS FALSE NEIGHBOUR: 'it returns false'. Refute it at one input. -/
def leditPutsWrong : ChangeSpec := { name := "leditPuts", fn := fun _ => fun
  | [d1, d2] => { results := [.lit (.bool false)], args := [d1, d2] }
  | _ => none }
def LeditPutsWrongFalsely : Prop := leditPutsRow.holds Tryz.pinned (OpenSpec.ofChange leditPutsWrong)

/-- 'pelotonlaw26.LeditFew': WHATEVER THE INPUT: true; the input reads as it did. -/
def leditFewSpec : ChangeSpec := { name := "leditFew", fn := fun _ => fun
  | [d1, d2, d3] => { results := [.lit (.bool true)], args := [d1, d2, d3] }
  | _ => none }
def leditFewRow : OpenClaim := { program := "ytjhbjjdipmpgjaagreat", sum := "dbd5794629b05b059cc4bca3cd91139e5580682cc92af3612f09bad0646dab2f", func := "peloton/pelotonlaw26.LeditFew", spec := "leditFew", inPlace := ["math/bits.Add64", "slices.overlaps[peloton/api.Point]", "slices.overlaps[int]"], unfollowed := true, recurses := true, plainKeys := false, apart := false }
def LeditFewSaid : Prop := leditFewRow.holds Tryz.pinned (OpenSpec.ofChange leditFewSpec)

/-- ITS FALSE NEIGHBOUR: 'it returns false'. Refute it at one input. -/
def leditFewWrong : ChangeSpec := { name := "leditFew", fn := fun _ => fun
  | [d1, d2, d3] => { results := [.lit (.bool false)], args := [d1, d2, d3] }
  | _ => none }
def LeditFewWrongFalsely : Prop := leditFewRow.holds Tryz.pinned (OpenSpec.ofChange leditFewWrong)

/-- 'pelotonlaw26.LeditBack': WHATEVER THE INPUT: true; the input reads as it did. -/
def leditBackSpec : ChangeSpec := { name := "leditBack", fn := fun _ => fun
  | [d1, d2] => { results := [.lit (.bool true)], args := [d1, d2] }
  | _ => none }
def leditBackRow : OpenClaim := { program := "ytjhbjjdipmpgjaagreat", sum := "dbd5794629b05b059cc4bca3cd91139e5580682cc92af3612f09bad0646dab2f", func := "peloton/pelotonlaw26.LeditBack", spec := "leditBack", inPlace := ["math/bits.Add64", "slices.overlaps[peloton/api.Point]", "slices.overlaps[int]"], unfollowed := true, recurses := true, plainKeys := false, apart := false }
def LeditBackSaid : Prop := leditBackRow.holds Tryz.pinned (OpenSpec.ofChange leditBackSpec)

/-- ITS FALSE NEIGHBOUR: 'it returns false'. Refute it at one input. -/
def leditBackWrong : ChangeSpec := { name := "leditBack", fn := fun _ => fun
  | [d1, d2] => { results := [.lit (.bool false)], args := [d1, d2] }
  | _ => none }
def LeditBackWrongFalsely : Prop := leditBackRow.holds Tryz.pinned (OpenSpec.ofChange leditBackWrong)

/-- 'pelotonlaw26.LeditOrder': WHATEVER THE INPUT: true; the input reads as it did. -/
def leditOrderSpec : ChangeSpec := { name := "leditOrder", fn := fun _ => fun
  | [d1, d2] => { results := [.lit (.bool true)], args := [d1, d2] }
  | _ => none }
def leditOrderRow : OpenClaim := { program := "ytjhbjjdipmpgjaagreat", sum := "dbd5794629b05b059cc4bca3cd91139e5580682cc92af3612f09bad0646dab2f", func := "peloton/pelotonlaw26.LeditOrder", spec := "leditOrder", inPlace := ["math/bits.Add64", "slices.overlaps[peloton/api.Point]", "slices.overlaps[int]"], unfollowed := true, recurses := true, plainKeys := false, apart := false }
def LeditOrderSaid : Prop := leditOrderRow.holds Tryz.pinned (OpenSpec.ofChange leditOrderSpec)

/-- ITS FALSE NEIGHBOUR: 'it returns false'. Refute it at one input. -/
def leditOrderWrong : ChangeSpec := { name := "leditOrder", fn := fun _ => fun
  | [d1, d2] => { results := [.lit (.bool false)], args := [d1, d2] }
  | _ => none }
def LeditOrderWrongFalsely : Prop := leditOrderRow.holds Tryz.pinned (OpenSpec.ofChange leditOrderWrong)

/-- 'pelotonlaw26.LeditGoes': WHATEVER THE INPUT: true; the input reads as it did. -/
def leditGoesSpec : ChangeSpec := { name := "leditGoes", fn := fun _ => fun
  | [d1, d2, d3, d4] => { results := [.lit (.bool true)], args := [d1, d2, d3, d4] }
  | _ => none }
def leditGoesRow : OpenClaim := { program := "ytjhbjjdipmpgjaagreat", sum := "dbd5794629b05b059cc4bca3cd91139e5580682cc92af3612f09bad0646dab2f", func := "peloton/pelotonlaw26.LeditGoes", spec := "leditGoes", inPlace := ["math/bits.Add64", "slices.overlaps[peloton/api.Point]", "slices.overlaps[int]"], unfollowed := true, recurses := true, plainKeys := false, apart := false }
def LeditGoesSaid : Prop := leditGoesRow.holds Tryz.pinned (OpenSpec.ofChange leditGoesSpec)

/-- ITS FALSE NEIGHBOUR: 'it returns false'. Refute it at one input. -/
def leditGoesWrong : ChangeSpec := { name := "leditGoes", fn := fun _ => fun
  | [d1, d2, d3, d4] => { results := [.lit (.bool false)], args := [d1, d2, d3, d4] }
  | _ => none }
def LeditGoesWrongFalsely : Prop := leditGoesRow.holds Tryz.pinned (OpenSpec.ofChange leditGoesWrong)

/-- 'pelotonlaw26.LeditTakes': WHATEVER THE INPUT: true; the input reads as it did. -/
def leditTakesSpec : ChangeSpec := { name := "leditTakes", fn := fun _ => fun
  | [d1, d2, d3, d4, d5] => { results := [.lit (.bool true)], args := [d1, d2, d3, d4, d5] }
  | _ => none }
def leditTakesRow : OpenClaim := { program := "ytjhbjjdipmpgjaagreat", sum := "dbd5794629b05b059cc4bca3cd91139e5580682cc92af3612f09bad0646dab2f", func := "peloton/pelotonlaw26.LeditTakes", spec := "leditTakes", inPlace := ["math/bits.Add64", "slices.overlaps[peloton/api.Point]", "slices.overlaps[int]"], unfollowed := true, recurses := true, plainKeys := false, apart := false }
def LeditTakesSaid : Prop := leditTakesRow.holds Tryz.pinned (OpenSpec.ofChange leditTakesSpec)

/-- ITS FALSE NEIGHBOUR: 'it returns false'. Refute it at one input. -/
def leditTakesWrong : ChangeSpec := { name := "leditTakes", fn := fun _ => fun
  | [d1, d2, d3, d4, d5] => { results := [.lit (.bool false)], args := [d1, d2, d3, d4, d5] }
  | _ => none }
def LeditTakesWrongFalsely : Prop := leditTakesRow.holds Tryz.pinned (OpenSpec.ofChange leditTakesWrong)

/-- 'pelotonlaw26.LeditNames': WHATEVER THE INPUT: true; the input reads as it did. -/
def leditNamesSpec : ChangeSpec := { name := "leditNames", fn := fun _ => fun
  | [] => { results := [.lit (.bool true)], args := [] }
  | _ => none }
def leditNamesRow : OpenClaim := { program := "ytjhbjjdipmpgjaagreat", sum := "dbd5794629b05b059cc4bca3cd91139e5580682cc92af3612f09bad0646dab2f", func := "peloton/pelotonlaw26.LeditNames", spec := "leditNames", inPlace := ["math/bits.Add64", "slices.overlaps[peloton/api.Point]", "slices.overlaps[int]"], unfollowed := true, recurses := true, plainKeys := false, apart := false }
def LeditNamesSaid : Prop := leditNamesRow.holds Tryz.pinned (OpenSpec.ofChange leditNamesSpec)

/-- ITS FALSE NEIGHBOUR: 'it returns false'. Refute it at one input. -/
def leditNamesWrong : ChangeSpec := { name := "leditNames", fn := fun _ => fun
  | [] => { results := [.lit (.bool false)], args := [] }
  | _ => none }
def LeditNamesWrongFalsely : Prop := leditNamesRow.holds Tryz.pinned (OpenSpec.ofChange leditNamesWrong)

/- THE SECOND FORM. 'bulk': how many values and letters a reading holds, each counted each time it is reached (what is shared counts as often as it is met; a slice's spare places count too). A statement '..UptoSaid' is the law's where the arguments, and the package variables that the reading takes, are together of bulk at most 1048576: NARROWER than '..Said'. Prove '..Said' where nothing that the law and all that it calls make is longer than what came in: it says more and counts as full. Else prove '..UptoSaid'. A law counts once. -/
mutual
def uptoBulk {H : Type} : DataW H → Nat
  | .lit (.string bytes) => bytes.length + 1
  | .lit _ => 1
  | .nil => 1
  | .ptr d => uptoBulk d + 1
  | .slice elems spare => uptoBulkAll elems + uptoBulkAll spare + 1
  | .agg parts => uptoBulkAll parts + 1
  | .iface _ d => uptoBulk d + 1
  | .map entries => uptoBulkEntries entries + 1
  | .held _ => 1
def uptoBulkAll {H : Type} : List (DataW H) → Nat
  | [] => 0
  | d :: r => uptoBulk d + uptoBulkAll r
def uptoBulkEntries {H : Type} : List (Lit × DataW H) → Nat
  | [] => 0
  | x :: r => uptoBulkEntry x + uptoBulkEntries r
def uptoBulkEntry {H : Type} : Lit × DataW H → Nat
  | (.string bytes, d) => bytes.length + uptoBulk d + 1
  | (_, d) => uptoBulk d + 1
 end
def uptoSmall : (H : Type) → List (DataW H) → Bool := fun _ ds => decide (uptoBulkAll ds ≤ 1048576)
def OpenSpec.upto (s : _root_.Go.ChangeSpec) : _root_.Go.OpenSpec := { _root_.Go.OpenSpec.ofChange s with cond := some uptoSmall }

/-- 'pelotonlaw26.LeditPuts', WHERE WHAT IT READS IS OF BULK AT MOST 1048576: true; the input reads as it did. -/
def leditPutsUptoRow : OpenClaim := { program := "ytjhbjjdipmpgjaagreat", sum := "dbd5794629b05b059cc4bca3cd91139e5580682cc92af3612f09bad0646dab2f", func := "peloton/pelotonlaw26.LeditPuts", spec := "leditPuts", inPlace := ["math/bits.Add64", "slices.overlaps[peloton/api.Point]", "slices.overlaps[int]"], unfollowed := true, recurses := true, plainKeys := false, apart := false, narrowed := true }
def LeditPutsUptoSaid : Prop := leditPutsUptoRow.holds Tryz.pinned (OpenSpec.upto leditPutsSpec)

/-- 'pelotonlaw26.LeditFew', WHERE WHAT IT READS IS OF BULK AT MOST 1048576: true; the input reads as it did. -/
def leditFewUptoRow : OpenClaim := { program := "ytjhbjjdipmpgjaagreat", sum := "dbd5794629b05b059cc4bca3cd91139e5580682cc92af3612f09bad0646dab2f", func := "peloton/pelotonlaw26.LeditFew", spec := "leditFew", inPlace := ["math/bits.Add64", "slices.overlaps[peloton/api.Point]", "slices.overlaps[int]"], unfollowed := true, recurses := true, plainKeys := false, apart := false, narrowed := true }
def LeditFewUptoSaid : Prop := leditFewUptoRow.holds Tryz.pinned (OpenSpec.upto leditFewSpec)

/-- 'pelotonlaw26.LeditBack', WHERE WHAT IT READS IS OF BULK AT MOST 1048576: true; the input reads as it did. -/
def leditBackUptoRow : OpenClaim := { program := "ytjhbjjdipmpgjaagreat", sum := "dbd5794629b05b059cc4bca3cd91139e5580682cc92af3612f09bad0646dab2f", func := "peloton/pelotonlaw26.LeditBack", spec := "leditBack", inPlace := ["math/bits.Add64", "slices.overlaps[peloton/api.Point]", "slices.overlaps[int]"], unfollowed := true, recurses := true, plainKeys := false, apart := false, narrowed := true }
def LeditBackUptoSaid : Prop := leditBackUptoRow.holds Tryz.pinned (OpenSpec.upto leditBackSpec)

/-- 'pelotonlaw26.LeditOrder', WHERE WHAT IT READS IS OF BULK AT MOST 1048576: true; the input reads as it did. -/
def leditOrderUptoRow : OpenClaim := { program := "ytjhbjjdipmpgjaagreat", sum := "dbd5794629b05b059cc4bca3cd91139e5580682cc92af3612f09bad0646dab2f", func := "peloton/pelotonlaw26.LeditOrder", spec := "leditOrder", inPlace := ["math/bits.Add64", "slices.overlaps[peloton/api.Point]", "slices.overlaps[int]"], unfollowed := true, recurses := true, plainKeys := false, apart := false, narrowed := true }
def LeditOrderUptoSaid : Prop := leditOrderUptoRow.holds Tryz.pinned (OpenSpec.upto leditOrderSpec)

/-- 'pelotonlaw26.LeditGoes', WHERE WHAT IT READS IS OF BULK AT MOST 1048576: true; the input reads as it did. -/
def leditGoesUptoRow : OpenClaim := { program := "ytjhbjjdipmpgjaagreat", sum := "dbd5794629b05b059cc4bca3cd91139e5580682cc92af3612f09bad0646dab2f", func := "peloton/pelotonlaw26.LeditGoes", spec := "leditGoes", inPlace := ["math/bits.Add64", "slices.overlaps[peloton/api.Point]", "slices.overlaps[int]"], unfollowed := true, recurses := true, plainKeys := false, apart := false, narrowed := true }
def LeditGoesUptoSaid : Prop := leditGoesUptoRow.holds Tryz.pinned (OpenSpec.upto leditGoesSpec)

/-- 'pelotonlaw26.LeditTakes', WHERE WHAT IT READS IS OF BULK AT MOST 1048576: true; the input reads as it did. -/
def leditTakesUptoRow : OpenClaim := { program := "ytjhbjjdipmpgjaagreat", sum := "dbd5794629b05b059cc4bca3cd91139e5580682cc92af3612f09bad0646dab2f", func := "peloton/pelotonlaw26.LeditTakes", spec := "leditTakes", inPlace := ["math/bits.Add64", "slices.overlaps[peloton/api.Point]", "slices.overlaps[int]"], unfollowed := true, recurses := true, plainKeys := false, apart := false, narrowed := true }
def LeditTakesUptoSaid : Prop := leditTakesUptoRow.holds Tryz.pinned (OpenSpec.upto leditTakesSpec)

/-- 'pelotonlaw26.LeditNames', WHERE WHAT IT READS IS OF BULK AT MOST 1048576: true; the input reads as it did. -/
def leditNamesUptoRow : OpenClaim := { program := "ytjhbjjdipmpgjaagreat", sum := "dbd5794629b05b059cc4bca3cd91139e5580682cc92af3612f09bad0646dab2f", func := "peloton/pelotonlaw26.LeditNames", spec := "leditNames", inPlace := ["math/bits.Add64", "slices.overlaps[peloton/api.Point]", "slices.overlaps[int]"], unfollowed := true, recurses := true, plainKeys := false, apart := false, narrowed := true }
def LeditNamesUptoSaid : Prop := leditNamesUptoRow.holds Tryz.pinned (OpenSpec.upto leditNamesSpec)

end Rows
end Go.Proofs.YtjhbjjdipmpgjaaGreat
