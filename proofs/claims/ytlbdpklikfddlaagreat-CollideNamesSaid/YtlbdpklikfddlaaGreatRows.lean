/-
  No cell of these rows narrows 'for every input' (looked for: loops, veiled, ifaces, maps, wideKeys, modest, calm, conditions, laid).
  DERIVED. THE GIVEN ROWS OF THIS SEAT. 4 by the template 'for every input the law returns true; each argument reads behind the call as it read before'; 0 by the template 'total and deterministic' (their statements: YtlbdpklikfddlaaGreatTotals.lean).
  GIVEN WITH THE SEED: the statements are not yours to turn. If you find one false, say at which input.
  Laid BY PROGRAM, IN A SANDBOX (cutbox-rows.mjs): the forced cells as the released guide's own fill.sh prints them over the translation 41a3d8f32ef01429… (all of the seat's roots in one cut). By AI agents, Wed Nov 11 2026. No macro, syntax, notation, axiom, sorry.
-/
import Derived.Test.YtlbdpklikfddlaaGreatChecked
import GoSem.Claim
import GoSem.ClaimJoined
import GoSem.ClaimMapViews
import Derived.JoinedTies
import Derived.KernelRfl
namespace Go.Proofs.YtlbdpklikfddlaaGreat
/- THE CELL 'sum', in the pinned program and in every row, IS THE sha256 OF THE DUMP (.gsa) THAT YtlbdpklikfddlaaGreatProg.lean LOADS. Nothing in Lean hashes anything: it is a label: what it is worth is what the hold of that sum in a sandbox is worth. -/
noncomputable def Tryz.pinned : Pinned := { name := "ytlbdpklikfddlaagreat", sum := "41a3d8f32ef014298cdd318867dfddacaf6fde145ff3c59e205b4f7ba1df6728", checked := Tryz.checked }
namespace Rows
def none {H : Type} : Left H := { results := [], args := [] }

/-- 'pelotonlaw25.KlistOrder': WHATEVER THE INPUT: true; the input reads as it did. -/
def klistOrderSpec : ChangeSpec := { name := "klistOrder", fn := fun _ => fun
  | [d1, d2, d3] => { results := [.lit (.bool true)], args := [d1, d2, d3] }
  | _ => none }
def klistOrderRow : OpenClaim := { program := "ytlbdpklikfddlaagreat", sum := "41a3d8f32ef014298cdd318867dfddacaf6fde145ff3c59e205b4f7ba1df6728", func := "peloton/pelotonlaw25.KlistOrder", spec := "klistOrder", inPlace := ["math/bits.Add64"], unfollowed := true, recurses := true, plainKeys := false, apart := false }
def KlistOrderSaid : Prop := klistOrderRow.holds Tryz.pinned (OpenSpec.ofChange klistOrderSpec)

/-- ITS FALSE NEIGHBOUR: 'it returns false'. Refute it at one input. -/
def klistOrderWrong : ChangeSpec := { name := "klistOrder", fn := fun _ => fun
  | [d1, d2, d3] => { results := [.lit (.bool false)], args := [d1, d2, d3] }
  | _ => none }
def KlistOrderWrongFalsely : Prop := klistOrderRow.holds Tryz.pinned (OpenSpec.ofChange klistOrderWrong)

/-- 'pelotonlaw29.CollideLogs': WHATEVER THE INPUT: true; the input reads as it did. -/
def collideLogsSpec : ChangeSpec := { name := "collideLogs", fn := fun _ => fun
  | [d1, d2] => { results := [.lit (.bool true)], args := [d1, d2] }
  | _ => none }
def collideLogsRow : OpenClaim := { program := "ytlbdpklikfddlaagreat", sum := "41a3d8f32ef014298cdd318867dfddacaf6fde145ff3c59e205b4f7ba1df6728", func := "peloton/pelotonlaw29.CollideLogs", spec := "collideLogs", inPlace := ["math/bits.Add64"], unfollowed := true, recurses := true, plainKeys := false, apart := false }
def CollideLogsSaid : Prop := collideLogsRow.holds Tryz.pinned (OpenSpec.ofChange collideLogsSpec)

/-- ITS FALSE NEIGHBOUR: 'it returns false'. Refute it at one input. -/
def collideLogsWrong : ChangeSpec := { name := "collideLogs", fn := fun _ => fun
  | [d1, d2] => { results := [.lit (.bool false)], args := [d1, d2] }
  | _ => none }
def CollideLogsWrongFalsely : Prop := collideLogsRow.holds Tryz.pinned (OpenSpec.ofChange collideLogsWrong)

/-- 'pelotonlaw29.CollideNames': WHATEVER THE INPUT: true; the input reads as it did. -/
def collideNamesSpec : ChangeSpec := { name := "collideNames", fn := fun _ => fun
  | [] => { results := [.lit (.bool true)], args := [] }
  | _ => none }
def collideNamesRow : OpenClaim := { program := "ytlbdpklikfddlaagreat", sum := "41a3d8f32ef014298cdd318867dfddacaf6fde145ff3c59e205b4f7ba1df6728", func := "peloton/pelotonlaw29.CollideNames", spec := "collideNames", inPlace := ["math/bits.Add64"], unfollowed := true, recurses := true, plainKeys := false, apart := false }
def CollideNamesSaid : Prop := collideNamesRow.holds Tryz.pinned (OpenSpec.ofChange collideNamesSpec)

/-- ITS FALSE NEIGHBOUR: 'it returns false'. Refute it at one input. -/
def collideNamesWrong : ChangeSpec := { name := "collideNames", fn := fun _ => fun
  | [] => { results := [.lit (.bool false)], args := [] }
  | _ => none }
def CollideNamesWrongFalsely : Prop := collideNamesRow.holds Tryz.pinned (OpenSpec.ofChange collideNamesWrong)

/-- 'pelotonlaw29.CollideCounts': WHATEVER THE INPUT: true; the input reads as it did. -/
def collideCountsSpec : ChangeSpec := { name := "collideCounts", fn := fun _ => fun
  | [d] => { results := [.lit (.bool true)], args := [d] }
  | _ => none }
def collideCountsRow : OpenClaim := { program := "ytlbdpklikfddlaagreat", sum := "41a3d8f32ef014298cdd318867dfddacaf6fde145ff3c59e205b4f7ba1df6728", func := "peloton/pelotonlaw29.CollideCounts", spec := "collideCounts", inPlace := ["math/bits.Add64"], unfollowed := true, recurses := true, plainKeys := false, apart := false }
def CollideCountsSaid : Prop := collideCountsRow.holds Tryz.pinned (OpenSpec.ofChange collideCountsSpec)

/-- ITS FALSE NEIGHBOUR: 'it returns false'. Refute it at one input. -/
def collideCountsWrong : ChangeSpec := { name := "collideCounts", fn := fun _ => fun
  | [d] => { results := [.lit (.bool false)], args := [d] }
  | _ => none }
def CollideCountsWrongFalsely : Prop := collideCountsRow.holds Tryz.pinned (OpenSpec.ofChange collideCountsWrong)

/- THE SECOND FORM. 'bulk': how many values and letters a reading holds, each counted each time it is reached (what is shared counts as often as it is met; a slice's spare places count too). A statement '..UptoSaid' is the law's where the arguments, and the package variables that the reading takes, are together of bulk at most 1048576: NARROWER than '..Said'. Prove '..Said' where nothing that the law and all that it calls make is longer than what came in: it says more and counts as full. Else prove '..UptoSaid'. A law counts once. -/
mutual
def uptoBulk {H : Type} : DataW H → Nat
  | .lit (.string bytes) => bytes.length + 1
  | .lit _ => 1
  | .nil => 1
  | .ptr d => uptoBulk d + 1
  | .slice elems spare => uptoBulkAll elems + uptoBulkAll spare + 1
  | .agg parts => uptoBulkAll parts + 1
  | .iface _ d => uptoBulk d + 1
  | .map entries => uptoBulkEntries entries + 1
  | .held _ => 1
def uptoBulkAll {H : Type} : List (DataW H) → Nat
  | [] => 0
  | d :: r => uptoBulk d + uptoBulkAll r
def uptoBulkEntries {H : Type} : List (Lit × DataW H) → Nat
  | [] => 0
  | x :: r => uptoBulkEntry x + uptoBulkEntries r
def uptoBulkEntry {H : Type} : Lit × DataW H → Nat
  | (.string bytes, d) => bytes.length + uptoBulk d + 1
  | (_, d) => uptoBulk d + 1
 end
def uptoSmall : (H : Type) → List (DataW H) → Bool := fun _ ds => decide (uptoBulkAll ds ≤ 1048576)
def OpenSpec.upto (s : _root_.Go.ChangeSpec) : _root_.Go.OpenSpec := { _root_.Go.OpenSpec.ofChange s with cond := some uptoSmall }

/-- 'pelotonlaw25.KlistOrder', WHERE WHAT IT READS IS OF BULK AT MOST 1048576: true; the input reads as it did. -/
def klistOrderUptoRow : OpenClaim := { program := "ytlbdpklikfddlaagreat", sum := "41a3d8f32ef014298cdd318867dfddacaf6fde145ff3c59e205b4f7ba1df6728", func := "peloton/pelotonlaw25.KlistOrder", spec := "klistOrder", inPlace := ["math/bits.Add64"], unfollowed := true, recurses := true, plainKeys := false, apart := false, narrowed := true }
def KlistOrderUptoSaid : Prop := klistOrderUptoRow.holds Tryz.pinned (OpenSpec.upto klistOrderSpec)

/-- 'pelotonlaw29.CollideLogs', WHERE WHAT IT READS IS OF BULK AT MOST 1048576: true; the input reads as it did. -/
def collideLogsUptoRow : OpenClaim := { program := "ytlbdpklikfddlaagreat", sum := "41a3d8f32ef014298cdd318867dfddacaf6fde145ff3c59e205b4f7ba1df6728", func := "peloton/pelotonlaw29.CollideLogs", spec := "collideLogs", inPlace := ["math/bits.Add64"], unfollowed := true, recurses := true, plainKeys := false, apart := false, narrowed := true }
def CollideLogsUptoSaid : Prop := collideLogsUptoRow.holds Tryz.pinned (OpenSpec.upto collideLogsSpec)

/-- 'pelotonlaw29.CollideNames', WHERE WHAT IT READS IS OF BULK AT MOST 1048576: true; the input reads as it did. -/
def collideNamesUptoRow : OpenClaim := { program := "ytlbdpklikfddlaagreat", sum := "41a3d8f32ef014298cdd318867dfddacaf6fde145ff3c59e205b4f7ba1df6728", func := "peloton/pelotonlaw29.CollideNames", spec := "collideNames", inPlace := ["math/bits.Add64"], unfollowed := true, recurses := true, plainKeys := false, apart := false, narrowed := true }
def CollideNamesUptoSaid : Prop := collideNamesUptoRow.holds Tryz.pinned (OpenSpec.upto collideNamesSpec)

/-- 'pelotonlaw29.CollideCounts', WHERE WHAT IT READS IS OF BULK AT MOST 1048576: true; the input reads as it did. -/
def collideCountsUptoRow : OpenClaim := { program := "ytlbdpklikfddlaagreat", sum := "41a3d8f32ef014298cdd318867dfddacaf6fde145ff3c59e205b4f7ba1df6728", func := "peloton/pelotonlaw29.CollideCounts", spec := "collideCounts", inPlace := ["math/bits.Add64"], unfollowed := true, recurses := true, plainKeys := false, apart := false, narrowed := true }
def CollideCountsUptoSaid : Prop := collideCountsUptoRow.holds Tryz.pinned (OpenSpec.upto collideCountsSpec)

end Rows
end Go.Proofs.YtlbdpklikfddlaaGreat
