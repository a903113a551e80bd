/-
  No cell of these rows narrows 'for every input' (looked for: loops, veiled, ifaces, maps, wideKeys, modest, calm, conditions, laid).
  DERIVED. THE GIVEN ROWS OF THIS SEAT. 3 by the template 'for every input the law returns true; each argument reads behind the call as it read before'; 0 by the template 'total and deterministic' (their statements: YthmlkdflhnjhcaaTotals.lean).
  GIVEN WITH THE SEED: the statements are not yours to turn. If you find one false, say at which input.
  Laid BY PROGRAM, IN A SANDBOX (cutbox-rows.mjs): the forced cells as the released guide's own fill.sh prints them over the translation f18d71078a70a770… (all of the seat's roots in one cut). By AI agents, Wed Nov 11 2026. No macro, syntax, notation, axiom, sorry.
-/
import Derived.Test.YthmlkdflhnjhcaaChecked
import GoSem.Claim
import GoSem.ClaimJoined
import GoSem.ClaimMapViews
import Derived.JoinedTies
import Derived.KernelRfl
namespace Go.Proofs.Ythmlkdflhnjhcaa
/- THE CELL 'sum', in the pinned program and in every row, IS THE sha256 OF THE DUMP (.gsa) THAT YthmlkdflhnjhcaaProg.lean LOADS. Nothing in Lean hashes anything: it is a label: what it is worth is what the hold of that sum in a sandbox is worth. -/
noncomputable def Try.pinned : Pinned := { name := "ythmlkdflhnjhcaa", sum := "f18d71078a70a770eaff0baa174a1a80365419ce30968707d05fed689c7ce215", checked := Try.checked }
namespace Rows
def none {H : Type} : Left H := { results := [], args := [] }

/-- 'pelotonlaw29.CollideTells': WHATEVER THE INPUT: true; the input reads as it did. -/
def collideTellsSpec : ChangeSpec := { name := "collideTells", fn := fun _ => fun
  | [d1, d2, d3] => { results := [.lit (.bool true)], args := [d1, d2, d3] }
  | _ => none }
def collideTellsRow : OpenClaim := { program := "ythmlkdflhnjhcaa", sum := "f18d71078a70a770eaff0baa174a1a80365419ce30968707d05fed689c7ce215", func := "peloton/pelotonlaw29.CollideTells", spec := "collideTells", unfollowed := true, recurses := true, plainKeys := false, apart := false }
def CollideTellsSaid : Prop := collideTellsRow.holds Try.pinned (OpenSpec.ofChange collideTellsSpec)

/-- ITS FALSE NEIGHBOUR: 'it returns false'. Refute it at one input. -/
def collideTellsWrong : ChangeSpec := { name := "collideTells", fn := fun _ => fun
  | [d1, d2, d3] => { results := [.lit (.bool false)], args := [d1, d2, d3] }
  | _ => none }
def CollideTellsWrongFalsely : Prop := collideTellsRow.holds Try.pinned (OpenSpec.ofChange collideTellsWrong)

/-- 'pelotonlaw27.GapsTells': WHATEVER THE INPUT: true; the input reads as it did. -/
def gapsTellsSpec : ChangeSpec := { name := "gapsTells", fn := fun _ => fun
  | [d1, d2] => { results := [.lit (.bool true)], args := [d1, d2] }
  | _ => none }
def gapsTellsRow : OpenClaim := { program := "ythmlkdflhnjhcaa", sum := "f18d71078a70a770eaff0baa174a1a80365419ce30968707d05fed689c7ce215", func := "peloton/pelotonlaw27.GapsTells", spec := "gapsTells", inPlace := ["math/bits.Add64", "math/bits.Sub64"], named := ["math/bits.divideError", "math/bits.overflowError"], plainKeys := false, apart := false }
def GapsTellsSaid : Prop := gapsTellsRow.holds Try.pinned (OpenSpec.ofChange gapsTellsSpec)

/-- ITS FALSE NEIGHBOUR: 'it returns false'. Refute it at one input. -/
def gapsTellsWrong : ChangeSpec := { name := "gapsTells", fn := fun _ => fun
  | [d1, d2] => { results := [.lit (.bool false)], args := [d1, d2] }
  | _ => none }
def GapsTellsWrongFalsely : Prop := gapsTellsRow.holds Try.pinned (OpenSpec.ofChange gapsTellsWrong)

/-- 'pelotonlaw07.AgendaBack': WHATEVER THE INPUT: true; the input reads as it did. -/
def agendaBackSpec : ChangeSpec := { name := "agendaBack", fn := fun _ => fun
  | [d1, d2, d3, d4] => { results := [.lit (.bool true)], args := [d1, d2, d3, d4] }
  | _ => none }
def agendaBackRow : OpenClaim := { program := "ythmlkdflhnjhcaa", sum := "f18d71078a70a770eaff0baa174a1a80365419ce30968707d05fed689c7ce215", func := "peloton/pelotonlaw07.AgendaBack", spec := "agendaBack", unfollowed := true, recurses := true, plainKeys := false, apart := false }
def AgendaBackSaid : Prop := agendaBackRow.holds Try.pinned (OpenSpec.ofChange agendaBackSpec)

/-- ITS FALSE NEIGHBOUR: 'it returns false'. Refute it at one input. -/
def agendaBackWrong : ChangeSpec := { name := "agendaBack", fn := fun _ => fun
  | [d1, d2, d3, d4] => { results := [.lit (.bool false)], args := [d1, d2, d3, d4] }
  | _ => none }
def AgendaBackWrongFalsely : Prop := agendaBackRow.holds Try.pinned (OpenSpec.ofChange agendaBackWrong)

/- THE SECOND FORM. 'bulk': how many values and letters a reading holds, each counted each time it is reached (what is shared counts as often as it is met; a slice's spare places count too). A statement '..UptoSaid' is the law's where the arguments, and the package variables that the reading takes, are together of bulk at most 1048576: NARROWER than '..Said'. Prove '..Said' where nothing that the law and all that it calls make is longer than what came in: it says more and counts as full. Else prove '..UptoSaid'. A law counts once. -/
mutual
def uptoBulk {H : Type} : DataW H → Nat
  | .lit (.string bytes) => bytes.length + 1
  | .lit _ => 1
  | .nil => 1
  | .ptr d => uptoBulk d + 1
  | .slice elems spare => uptoBulkAll elems + uptoBulkAll spare + 1
  | .agg parts => uptoBulkAll parts + 1
  | .iface _ d => uptoBulk d + 1
  | .map entries => uptoBulkEntries entries + 1
  | .held _ => 1
def uptoBulkAll {H : Type} : List (DataW H) → Nat
  | [] => 0
  | d :: r => uptoBulk d + uptoBulkAll r
def uptoBulkEntries {H : Type} : List (Lit × DataW H) → Nat
  | [] => 0
  | x :: r => uptoBulkEntry x + uptoBulkEntries r
def uptoBulkEntry {H : Type} : Lit × DataW H → Nat
  | (.string bytes, d) => bytes.length + uptoBulk d + 1
  | (_, d) => uptoBulk d + 1
 end
def uptoSmall : (H : Type) → List (DataW H) → Bool := fun _ ds => decide (uptoBulkAll ds ≤ 1048576)
def OpenSpec.upto (s : _root_.Go.ChangeSpec) : _root_.Go.OpenSpec := { _root_.Go.OpenSpec.ofChange s with cond := some uptoSmall }

/-- 'pelotonlaw29.CollideTells', WHERE WHAT IT READS IS OF BULK AT MOST 1048576: true; the input reads as it did. -/
def collideTellsUptoRow : OpenClaim := { program := "ythmlkdflhnjhcaa", sum := "f18d71078a70a770eaff0baa174a1a80365419ce30968707d05fed689c7ce215", func := "peloton/pelotonlaw29.CollideTells", spec := "collideTells", unfollowed := true, recurses := true, plainKeys := false, apart := false, narrowed := true }
def CollideTellsUptoSaid : Prop := collideTellsUptoRow.holds Try.pinned (OpenSpec.upto collideTellsSpec)

/-- 'pelotonlaw27.GapsTells', WHERE WHAT IT READS IS OF BULK AT MOST 1048576: true; the input reads as it did. -/
def gapsTellsUptoRow : OpenClaim := { program := "ythmlkdflhnjhcaa", sum := "f18d71078a70a770eaff0baa174a1a80365419ce30968707d05fed689c7ce215", func := "peloton/pelotonlaw27.GapsTells", spec := "gapsTells", inPlace := ["math/bits.Add64", "math/bits.Sub64"], named := ["math/bits.divideError", "math/bits.overflowError"], plainKeys := false, apart := false, narrowed := true }
def GapsTellsUptoSaid : Prop := gapsTellsUptoRow.holds Try.pinned (OpenSpec.upto gapsTellsSpec)

/-- 'pelotonlaw07.AgendaBack', WHERE WHAT IT READS IS OF BULK AT MOST 1048576: true; the input reads as it did. -/
def agendaBackUptoRow : OpenClaim := { program := "ythmlkdflhnjhcaa", sum := "f18d71078a70a770eaff0baa174a1a80365419ce30968707d05fed689c7ce215", func := "peloton/pelotonlaw07.AgendaBack", spec := "agendaBack", unfollowed := true, recurses := true, plainKeys := false, apart := false, narrowed := true }
def AgendaBackUptoSaid : Prop := agendaBackUptoRow.holds Try.pinned (OpenSpec.upto agendaBackSpec)

end Rows
end Go.Proofs.Ythmlkdflhnjhcaa
