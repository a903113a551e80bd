/-
  No cell of these rows narrows 'for every input' (looked for: loops, veiled, ifaces, maps, wideKeys, modest, calm, conditions, laid).
  DERIVED. THE GIVEN ROWS OF THIS SEAT. 16 by the template 'for every input the law returns true; each argument reads behind the call as it read before'; 0 by the template 'total and deterministic' (their statements: YtmnbekffebdfmaaTotals.lean).
  GIVEN WITH THE SEED: the statements are not yours to turn. If you find one false, say at which input.
  Laid BY PROGRAM, IN A SANDBOX (cutbox-rows.mjs): the forced cells as the released guide's own fill.sh prints them over the translation 1999332f579a7816… (all of the seat's roots in one cut). By AI agents, Wed Nov 11 2026. No macro, syntax, notation, axiom, sorry.
-/
import Derived.Test.YtmnbekffebdfmaaChecked
import GoSem.Claim
import GoSem.ClaimJoined
import GoSem.ClaimMapViews
import Derived.JoinedTies
import Derived.KernelRfl
namespace Go.Proofs.Ytmnbekffebdfmaa
/- THE CELL 'sum', in the pinned program and in every row, IS THE sha256 OF THE DUMP (.gsa) THAT YtmnbekffebdfmaaProg.lean LOADS. Nothing in Lean hashes anything: it is a label: what it is worth is what the hold of that sum in a sandbox is worth. -/
noncomputable def Try.pinned : Pinned := { name := "ytmnbekffebdfmaa", sum := "1999332f579a7816e01830928a8b7ba26fd78d054df7fa1adf1153cfcf18c0d0", checked := Try.checked }
namespace Rows
def none {H : Type} : Left H := { results := [], args := [] }

/-- 'pelotonlaw06.SlotNames': WHATEVER THE INPUT: true; the input reads as it did. -/
def slotNamesSpec : ChangeSpec := { name := "slotNames", fn := fun _ => fun
  | [] => { results := [.lit (.bool true)], args := [] }
  | _ => none }
def slotNamesRow : OpenClaim := { program := "ytmnbekffebdfmaa", sum := "1999332f579a7816e01830928a8b7ba26fd78d054df7fa1adf1153cfcf18c0d0", func := "peloton/pelotonlaw06.SlotNames", spec := "slotNames", unfollowed := true, recurses := true, plainKeys := false, apart := false }
def SlotNamesSaid : Prop := slotNamesRow.holds Try.pinned (OpenSpec.ofChange slotNamesSpec)

/-- ITS FALSE NEIGHBOUR: 'it returns false'. Refute it at one input. -/
def slotNamesWrong : ChangeSpec := { name := "slotNames", fn := fun _ => fun
  | [] => { results := [.lit (.bool false)], args := [] }
  | _ => none }
def SlotNamesWrongFalsely : Prop := slotNamesRow.holds Try.pinned (OpenSpec.ofChange slotNamesWrong)

/-- 'pelotonlaw06.SlotDoes': WHATEVER THE INPUT: true; the input reads as it did. -/
def slotDoesSpec : ChangeSpec := { name := "slotDoes", fn := fun _ => fun
  | [d1, d2, d3] => { results := [.lit (.bool true)], args := [d1, d2, d3] }
  | _ => none }
def slotDoesRow : OpenClaim := { program := "ytmnbekffebdfmaa", sum := "1999332f579a7816e01830928a8b7ba26fd78d054df7fa1adf1153cfcf18c0d0", func := "peloton/pelotonlaw06.SlotDoes", spec := "slotDoes", unfollowed := true, recurses := true, plainKeys := false, apart := false }
def SlotDoesSaid : Prop := slotDoesRow.holds Try.pinned (OpenSpec.ofChange slotDoesSpec)

/-- ITS FALSE NEIGHBOUR: 'it returns false'. Refute it at one input. -/
def slotDoesWrong : ChangeSpec := { name := "slotDoes", fn := fun _ => fun
  | [d1, d2, d3] => { results := [.lit (.bool false)], args := [d1, d2, d3] }
  | _ => none }
def SlotDoesWrongFalsely : Prop := slotDoesRow.holds Try.pinned (OpenSpec.ofChange slotDoesWrong)

/-- 'pelotonlaw06.SlotFinds': WHATEVER THE INPUT: true; the input reads as it did. -/
def slotFindsSpec : ChangeSpec := { name := "slotFinds", fn := fun _ => fun
  | [d1, d2] => { results := [.lit (.bool true)], args := [d1, d2] }
  | _ => none }
def slotFindsRow : OpenClaim := { program := "ytmnbekffebdfmaa", sum := "1999332f579a7816e01830928a8b7ba26fd78d054df7fa1adf1153cfcf18c0d0", func := "peloton/pelotonlaw06.SlotFinds", spec := "slotFinds", unfollowed := true, recurses := true, plainKeys := false, apart := false }
def SlotFindsSaid : Prop := slotFindsRow.holds Try.pinned (OpenSpec.ofChange slotFindsSpec)

/-- ITS FALSE NEIGHBOUR: 'it returns false'. Refute it at one input. -/
def slotFindsWrong : ChangeSpec := { name := "slotFinds", fn := fun _ => fun
  | [d1, d2] => { results := [.lit (.bool false)], args := [d1, d2] }
  | _ => none }
def SlotFindsWrongFalsely : Prop := slotFindsRow.holds Try.pinned (OpenSpec.ofChange slotFindsWrong)

/-- 'pelotonlaw06.SlotBack': WHATEVER THE INPUT: true; the input reads as it did. -/
def slotBackSpec : ChangeSpec := { name := "slotBack", fn := fun _ => fun
  | [d1, d2, d3] => { results := [.lit (.bool true)], args := [d1, d2, d3] }
  | _ => none }
def slotBackRow : OpenClaim := { program := "ytmnbekffebdfmaa", sum := "1999332f579a7816e01830928a8b7ba26fd78d054df7fa1adf1153cfcf18c0d0", func := "peloton/pelotonlaw06.SlotBack", spec := "slotBack", unfollowed := true, recurses := true, plainKeys := false, apart := false }
def SlotBackSaid : Prop := slotBackRow.holds Try.pinned (OpenSpec.ofChange slotBackSpec)

/-- ITS FALSE NEIGHBOUR: 'it returns false'. Refute it at one input. -/
def slotBackWrong : ChangeSpec := { name := "slotBack", fn := fun _ => fun
  | [d1, d2, d3] => { results := [.lit (.bool false)], args := [d1, d2, d3] }
  | _ => none }
def SlotBackWrongFalsely : Prop := slotBackRow.holds Try.pinned (OpenSpec.ofChange slotBackWrong)

/-- 'pelotonlaw06.SlotFull': WHATEVER THE INPUT: true; the input reads as it did. -/
def slotFullSpec : ChangeSpec := { name := "slotFull", fn := fun _ => fun
  | [d] => { results := [.lit (.bool true)], args := [d] }
  | _ => none }
def slotFullRow : OpenClaim := { program := "ytmnbekffebdfmaa", sum := "1999332f579a7816e01830928a8b7ba26fd78d054df7fa1adf1153cfcf18c0d0", func := "peloton/pelotonlaw06.SlotFull", spec := "slotFull", unfollowed := true, recurses := true, plainKeys := false, apart := false }
def SlotFullSaid : Prop := slotFullRow.holds Try.pinned (OpenSpec.ofChange slotFullSpec)

/-- ITS FALSE NEIGHBOUR: 'it returns false'. Refute it at one input. -/
def slotFullWrong : ChangeSpec := { name := "slotFull", fn := fun _ => fun
  | [d] => { results := [.lit (.bool false)], args := [d] }
  | _ => none }
def SlotFullWrongFalsely : Prop := slotFullRow.holds Try.pinned (OpenSpec.ofChange slotFullWrong)

/-- 'pelotonlaw08.CertKeeps': WHATEVER THE INPUT: true; the input reads as it did. -/
def certKeepsSpec : ChangeSpec := { name := "certKeeps", fn := fun _ => fun
  | [d1, d2, d3, d4] => { results := [.lit (.bool true)], args := [d1, d2, d3, d4] }
  | _ => none }
def certKeepsRow : OpenClaim := { program := "ytmnbekffebdfmaa", sum := "1999332f579a7816e01830928a8b7ba26fd78d054df7fa1adf1153cfcf18c0d0", func := "peloton/pelotonlaw08.CertKeeps", spec := "certKeeps", unfollowed := true, recurses := true, plainKeys := false, apart := false }
def CertKeepsSaid : Prop := certKeepsRow.holds Try.pinned (OpenSpec.ofChange certKeepsSpec)

/-- ITS FALSE NEIGHBOUR: 'it returns false'. Refute it at one input. -/
def certKeepsWrong : ChangeSpec := { name := "certKeeps", fn := fun _ => fun
  | [d1, d2, d3, d4] => { results := [.lit (.bool false)], args := [d1, d2, d3, d4] }
  | _ => none }
def CertKeepsWrongFalsely : Prop := certKeepsRow.holds Try.pinned (OpenSpec.ofChange certKeepsWrong)

/-- 'pelotonlaw08.CertTrue': WHATEVER THE INPUT: true; the input reads as it did. -/
def certTrueSpec : ChangeSpec := { name := "certTrue", fn := fun _ => fun
  | [d1, d2, d3] => { results := [.lit (.bool true)], args := [d1, d2, d3] }
  | _ => none }
def certTrueRow : OpenClaim := { program := "ytmnbekffebdfmaa", sum := "1999332f579a7816e01830928a8b7ba26fd78d054df7fa1adf1153cfcf18c0d0", func := "peloton/pelotonlaw08.CertTrue", spec := "certTrue", inPlace := ["math/bits.Add64"], unfollowed := true, recurses := true, plainKeys := false, apart := false }
def CertTrueSaid : Prop := certTrueRow.holds Try.pinned (OpenSpec.ofChange certTrueSpec)

/-- ITS FALSE NEIGHBOUR: 'it returns false'. Refute it at one input. -/
def certTrueWrong : ChangeSpec := { name := "certTrue", fn := fun _ => fun
  | [d1, d2, d3] => { results := [.lit (.bool false)], args := [d1, d2, d3] }
  | _ => none }
def CertTrueWrongFalsely : Prop := certTrueRow.holds Try.pinned (OpenSpec.ofChange certTrueWrong)

/-- 'pelotonlaw08.CertOne': WHATEVER THE INPUT: true; the input reads as it did. -/
def certOneSpec : ChangeSpec := { name := "certOne", fn := fun _ => fun
  | [d1, d2, d3, d4] => { results := [.lit (.bool true)], args := [d1, d2, d3, d4] }
  | _ => none }
def certOneRow : OpenClaim := { program := "ytmnbekffebdfmaa", sum := "1999332f579a7816e01830928a8b7ba26fd78d054df7fa1adf1153cfcf18c0d0", func := "peloton/pelotonlaw08.CertOne", spec := "certOne", inPlace := ["math/bits.Add64"], unfollowed := true, recurses := true, plainKeys := false, apart := false }
def CertOneSaid : Prop := certOneRow.holds Try.pinned (OpenSpec.ofChange certOneSpec)

/-- ITS FALSE NEIGHBOUR: 'it returns false'. Refute it at one input. -/
def certOneWrong : ChangeSpec := { name := "certOne", fn := fun _ => fun
  | [d1, d2, d3, d4] => { results := [.lit (.bool false)], args := [d1, d2, d3, d4] }
  | _ => none }
def CertOneWrongFalsely : Prop := certOneRow.holds Try.pinned (OpenSpec.ofChange certOneWrong)

/-- 'pelotonlaw07.AgendaRemoves': WHATEVER THE INPUT: true; the input reads as it did. -/
def agendaRemovesSpec : ChangeSpec := { name := "agendaRemoves", fn := fun _ => fun
  | [d1, d2, d3] => { results := [.lit (.bool true)], args := [d1, d2, d3] }
  | _ => none }
def agendaRemovesRow : OpenClaim := { program := "ytmnbekffebdfmaa", sum := "1999332f579a7816e01830928a8b7ba26fd78d054df7fa1adf1153cfcf18c0d0", func := "peloton/pelotonlaw07.AgendaRemoves", spec := "agendaRemoves", unfollowed := true, recurses := true, plainKeys := false, apart := false }
def AgendaRemovesSaid : Prop := agendaRemovesRow.holds Try.pinned (OpenSpec.ofChange agendaRemovesSpec)

/-- ITS FALSE NEIGHBOUR: 'it returns false'. Refute it at one input. -/
def agendaRemovesWrong : ChangeSpec := { name := "agendaRemoves", fn := fun _ => fun
  | [d1, d2, d3] => { results := [.lit (.bool false)], args := [d1, d2, d3] }
  | _ => none }
def AgendaRemovesWrongFalsely : Prop := agendaRemovesRow.holds Try.pinned (OpenSpec.ofChange agendaRemovesWrong)

/-- 'pelotonlaw08.CertLists': WHATEVER THE INPUT: true; the input reads as it did. -/
def certListsSpec : ChangeSpec := { name := "certLists", fn := fun _ => fun
  | [d1, d2] => { results := [.lit (.bool true)], args := [d1, d2] }
  | _ => none }
def certListsRow : OpenClaim := { program := "ytmnbekffebdfmaa", sum := "1999332f579a7816e01830928a8b7ba26fd78d054df7fa1adf1153cfcf18c0d0", func := "peloton/pelotonlaw08.CertLists", spec := "certLists", inPlace := ["math/bits.Add64"], unfollowed := true, recurses := true, plainKeys := false, apart := false }
def CertListsSaid : Prop := certListsRow.holds Try.pinned (OpenSpec.ofChange certListsSpec)

/-- ITS FALSE NEIGHBOUR: 'it returns false'. Refute it at one input. -/
def certListsWrong : ChangeSpec := { name := "certLists", fn := fun _ => fun
  | [d1, d2] => { results := [.lit (.bool false)], args := [d1, d2] }
  | _ => none }
def CertListsWrongFalsely : Prop := certListsRow.holds Try.pinned (OpenSpec.ofChange certListsWrong)

/-- 'pelotonlaw08.CertBack': WHATEVER THE INPUT: true; the input reads as it did. -/
def certBackSpec : ChangeSpec := { name := "certBack", fn := fun _ => fun
  | [d1, d2, d3] => { results := [.lit (.bool true)], args := [d1, d2, d3] }
  | _ => none }
def certBackRow : OpenClaim := { program := "ytmnbekffebdfmaa", sum := "1999332f579a7816e01830928a8b7ba26fd78d054df7fa1adf1153cfcf18c0d0", func := "peloton/pelotonlaw08.CertBack", spec := "certBack", inPlace := ["math/bits.Add64"], unfollowed := true, recurses := true, plainKeys := false, apart := false }
def CertBackSaid : Prop := certBackRow.holds Try.pinned (OpenSpec.ofChange certBackSpec)

/-- ITS FALSE NEIGHBOUR: 'it returns false'. Refute it at one input. -/
def certBackWrong : ChangeSpec := { name := "certBack", fn := fun _ => fun
  | [d1, d2, d3] => { results := [.lit (.bool false)], args := [d1, d2, d3] }
  | _ => none }
def CertBackWrongFalsely : Prop := certBackRow.holds Try.pinned (OpenSpec.ofChange certBackWrong)

/-- 'pelotonlaw08.CertNames': WHATEVER THE INPUT: true; the input reads as it did. -/
def certNamesSpec : ChangeSpec := { name := "certNames", fn := fun _ => fun
  | [] => { results := [.lit (.bool true)], args := [] }
  | _ => none }
def certNamesRow : OpenClaim := { program := "ytmnbekffebdfmaa", sum := "1999332f579a7816e01830928a8b7ba26fd78d054df7fa1adf1153cfcf18c0d0", func := "peloton/pelotonlaw08.CertNames", spec := "certNames", inPlace := ["math/bits.Add64"], unfollowed := true, recurses := true, plainKeys := false, apart := false }
def CertNamesSaid : Prop := certNamesRow.holds Try.pinned (OpenSpec.ofChange certNamesSpec)

/-- ITS FALSE NEIGHBOUR: 'it returns false'. Refute it at one input. -/
def certNamesWrong : ChangeSpec := { name := "certNames", fn := fun _ => fun
  | [] => { results := [.lit (.bool false)], args := [] }
  | _ => none }
def CertNamesWrongFalsely : Prop := certNamesRow.holds Try.pinned (OpenSpec.ofChange certNamesWrong)

/-- 'pelotonlaw07.AgendaPushes': WHATEVER THE INPUT: true; the input reads as it did. -/
def agendaPushesSpec : ChangeSpec := { name := "agendaPushes", fn := fun _ => fun
  | [d1, d2, d3, d4, d5] => { results := [.lit (.bool true)], args := [d1, d2, d3, d4, d5] }
  | _ => none }
def agendaPushesRow : OpenClaim := { program := "ytmnbekffebdfmaa", sum := "1999332f579a7816e01830928a8b7ba26fd78d054df7fa1adf1153cfcf18c0d0", func := "peloton/pelotonlaw07.AgendaPushes", spec := "agendaPushes", unfollowed := true, recurses := true, plainKeys := false, apart := false }
def AgendaPushesSaid : Prop := agendaPushesRow.holds Try.pinned (OpenSpec.ofChange agendaPushesSpec)

/-- ITS FALSE NEIGHBOUR: 'it returns false'. Refute it at one input. -/
def agendaPushesWrong : ChangeSpec := { name := "agendaPushes", fn := fun _ => fun
  | [d1, d2, d3, d4, d5] => { results := [.lit (.bool false)], args := [d1, d2, d3, d4, d5] }
  | _ => none }
def AgendaPushesWrongFalsely : Prop := agendaPushesRow.holds Try.pinned (OpenSpec.ofChange agendaPushesWrong)

/-- 'pelotonlaw07.AgendaOrder': WHATEVER THE INPUT: true; the input reads as it did. -/
def agendaOrderSpec : ChangeSpec := { name := "agendaOrder", fn := fun _ => fun
  | [d] => { results := [.lit (.bool true)], args := [d] }
  | _ => none }
def agendaOrderRow : OpenClaim := { program := "ytmnbekffebdfmaa", sum := "1999332f579a7816e01830928a8b7ba26fd78d054df7fa1adf1153cfcf18c0d0", func := "peloton/pelotonlaw07.AgendaOrder", spec := "agendaOrder", unfollowed := true, recurses := true, plainKeys := false, apart := false }
def AgendaOrderSaid : Prop := agendaOrderRow.holds Try.pinned (OpenSpec.ofChange agendaOrderSpec)

/-- ITS FALSE NEIGHBOUR: 'it returns false'. Refute it at one input. -/
def agendaOrderWrong : ChangeSpec := { name := "agendaOrder", fn := fun _ => fun
  | [d] => { results := [.lit (.bool false)], args := [d] }
  | _ => none }
def AgendaOrderWrongFalsely : Prop := agendaOrderRow.holds Try.pinned (OpenSpec.ofChange agendaOrderWrong)

/-- 'pelotonlaw07.AgendaNames': WHATEVER THE INPUT: true; the input reads as it did. -/
def agendaNamesSpec : ChangeSpec := { name := "agendaNames", fn := fun _ => fun
  | [] => { results := [.lit (.bool true)], args := [] }
  | _ => none }
def agendaNamesRow : OpenClaim := { program := "ytmnbekffebdfmaa", sum := "1999332f579a7816e01830928a8b7ba26fd78d054df7fa1adf1153cfcf18c0d0", func := "peloton/pelotonlaw07.AgendaNames", spec := "agendaNames", unfollowed := true, recurses := true, plainKeys := false, apart := false }
def AgendaNamesSaid : Prop := agendaNamesRow.holds Try.pinned (OpenSpec.ofChange agendaNamesSpec)

/-- ITS FALSE NEIGHBOUR: 'it returns false'. Refute it at one input. -/
def agendaNamesWrong : ChangeSpec := { name := "agendaNames", fn := fun _ => fun
  | [] => { results := [.lit (.bool false)], args := [] }
  | _ => none }
def AgendaNamesWrongFalsely : Prop := agendaNamesRow.holds Try.pinned (OpenSpec.ofChange agendaNamesWrong)

/-- 'pelotonlaw07.AgendaHandles': WHATEVER THE INPUT: true; the input reads as it did. -/
def agendaHandlesSpec : ChangeSpec := { name := "agendaHandles", fn := fun _ => fun
  | [d1, d2, d3] => { results := [.lit (.bool true)], args := [d1, d2, d3] }
  | _ => none }
def agendaHandlesRow : OpenClaim := { program := "ytmnbekffebdfmaa", sum := "1999332f579a7816e01830928a8b7ba26fd78d054df7fa1adf1153cfcf18c0d0", func := "peloton/pelotonlaw07.AgendaHandles", spec := "agendaHandles", unfollowed := true, recurses := true, plainKeys := false, apart := false }
def AgendaHandlesSaid : Prop := agendaHandlesRow.holds Try.pinned (OpenSpec.ofChange agendaHandlesSpec)

/-- ITS FALSE NEIGHBOUR: 'it returns false'. Refute it at one input. -/
def agendaHandlesWrong : ChangeSpec := { name := "agendaHandles", fn := fun _ => fun
  | [d1, d2, d3] => { results := [.lit (.bool false)], args := [d1, d2, d3] }
  | _ => none }
def AgendaHandlesWrongFalsely : Prop := agendaHandlesRow.holds Try.pinned (OpenSpec.ofChange agendaHandlesWrong)

/- THE SECOND FORM. 'bulk': how many values and letters a reading holds, each counted each time it is reached (what is shared counts as often as it is met; a slice's spare places count too). A statement '..UptoSaid' is the law's where the arguments, and the package variables that the reading takes, are together of bulk at most 1048576: NARROWER than '..Said'. Prove '..Said' where nothing that the law and all that it calls make is longer than what came in: it says more and counts as full. Else prove '..UptoSaid'. A law counts once. -/
mutual
def uptoBulk {H : Type} : DataW H → Nat
  | .lit (.string bytes) => bytes.length + 1
  | .lit _ => 1
  | .nil => 1
  | .ptr d => uptoBulk d + 1
  | .slice elems spare => uptoBulkAll elems + uptoBulkAll spare + 1
  | .agg parts => uptoBulkAll parts + 1
  | .iface _ d => uptoBulk d + 1
  | .map entries => uptoBulkEntries entries + 1
  | .held _ => 1
def uptoBulkAll {H : Type} : List (DataW H) → Nat
  | [] => 0
  | d :: r => uptoBulk d + uptoBulkAll r
def uptoBulkEntries {H : Type} : List (Lit × DataW H) → Nat
  | [] => 0
  | x :: r => uptoBulkEntry x + uptoBulkEntries r
def uptoBulkEntry {H : Type} : Lit × DataW H → Nat
  | (.string bytes, d) => bytes.length + uptoBulk d + 1
  | (_, d) => uptoBulk d + 1
 end
def uptoSmall : (H : Type) → List (DataW H) → Bool := fun _ ds => decide (uptoBulkAll ds ≤ 1048576)
def OpenSpec.upto (s : _root_.Go.ChangeSpec) : _root_.Go.OpenSpec := { _root_.Go.OpenSpec.ofChange s with cond := some uptoSmall }

/-- 'pelotonlaw06.SlotNames', WHERE WHAT IT READS IS OF BULK AT MOST 1048576: true; the input reads as it did. -/
def slotNamesUptoRow : OpenClaim := { program := "ytmnbekffebdfmaa", sum := "1999332f579a7816e01830928a8b7ba26fd78d054df7fa1adf1153cfcf18c0d0", func := "peloton/pelotonlaw06.SlotNames", spec := "slotNames", unfollowed := true, recurses := true, plainKeys := false, apart := false, narrowed := true }
def SlotNamesUptoSaid : Prop := slotNamesUptoRow.holds Try.pinned (OpenSpec.upto slotNamesSpec)

/-- 'pelotonlaw06.SlotDoes', WHERE WHAT IT READS IS OF BULK AT MOST 1048576: true; the input reads as it did. -/
def slotDoesUptoRow : OpenClaim := { program := "ytmnbekffebdfmaa", sum := "1999332f579a7816e01830928a8b7ba26fd78d054df7fa1adf1153cfcf18c0d0", func := "peloton/pelotonlaw06.SlotDoes", spec := "slotDoes", unfollowed := true, recurses := true, plainKeys := false, apart := false, narrowed := true }
def SlotDoesUptoSaid : Prop := slotDoesUptoRow.holds Try.pinned (OpenSpec.upto slotDoesSpec)

/-- 'pelotonlaw06.SlotFinds', WHERE WHAT IT READS IS OF BULK AT MOST 1048576: true; the input reads as it did. -/
def slotFindsUptoRow : OpenClaim := { program := "ytmnbekffebdfmaa", sum := "1999332f579a7816e01830928a8b7ba26fd78d054df7fa1adf1153cfcf18c0d0", func := "peloton/pelotonlaw06.SlotFinds", spec := "slotFinds", unfollowed := true, recurses := true, plainKeys := false, apart := false, narrowed := true }
def SlotFindsUptoSaid : Prop := slotFindsUptoRow.holds Try.pinned (OpenSpec.upto slotFindsSpec)

/-- 'pelotonlaw06.SlotBack', WHERE WHAT IT READS IS OF BULK AT MOST 1048576: true; the input reads as it did. -/
def slotBackUptoRow : OpenClaim := { program := "ytmnbekffebdfmaa", sum := "1999332f579a7816e01830928a8b7ba26fd78d054df7fa1adf1153cfcf18c0d0", func := "peloton/pelotonlaw06.SlotBack", spec := "slotBack", unfollowed := true, recurses := true, plainKeys := false, apart := false, narrowed := true }
def SlotBackUptoSaid : Prop := slotBackUptoRow.holds Try.pinned (OpenSpec.upto slotBackSpec)

/-- 'pelotonlaw06.SlotFull', WHERE WHAT IT READS IS OF BULK AT MOST 1048576: true; the input reads as it did. -/
def slotFullUptoRow : OpenClaim := { program := "ytmnbekffebdfmaa", sum := "1999332f579a7816e01830928a8b7ba26fd78d054df7fa1adf1153cfcf18c0d0", func := "peloton/pelotonlaw06.SlotFull", spec := "slotFull", unfollowed := true, recurses := true, plainKeys := false, apart := false, narrowed := true }
def SlotFullUptoSaid : Prop := slotFullUptoRow.holds Try.pinned (OpenSpec.upto slotFullSpec)

/-- 'pelotonlaw08.CertKeeps', WHERE WHAT IT READS IS OF BULK AT MOST 1048576: true; the input reads as it did. -/
def certKeepsUptoRow : OpenClaim := { program := "ytmnbekffebdfmaa", sum := "1999332f579a7816e01830928a8b7ba26fd78d054df7fa1adf1153cfcf18c0d0", func := "peloton/pelotonlaw08.CertKeeps", spec := "certKeeps", unfollowed := true, recurses := true, plainKeys := false, apart := false, narrowed := true }
def CertKeepsUptoSaid : Prop := certKeepsUptoRow.holds Try.pinned (OpenSpec.upto certKeepsSpec)

/-- 'pelotonlaw08.CertTrue', WHERE WHAT IT READS IS OF BULK AT MOST 1048576: true; the input reads as it did. -/
def certTrueUptoRow : OpenClaim := { program := "ytmnbekffebdfmaa", sum := "1999332f579a7816e01830928a8b7ba26fd78d054df7fa1adf1153cfcf18c0d0", func := "peloton/pelotonlaw08.CertTrue", spec := "certTrue", inPlace := ["math/bits.Add64"], unfollowed := true, recurses := true, plainKeys := false, apart := false, narrowed := true }
def CertTrueUptoSaid : Prop := certTrueUptoRow.holds Try.pinned (OpenSpec.upto certTrueSpec)

/-- 'pelotonlaw08.CertOne', WHERE WHAT IT READS IS OF BULK AT MOST 1048576: true; the input reads as it did. -/
def certOneUptoRow : OpenClaim := { program := "ytmnbekffebdfmaa", sum := "1999332f579a7816e01830928a8b7ba26fd78d054df7fa1adf1153cfcf18c0d0", func := "peloton/pelotonlaw08.CertOne", spec := "certOne", inPlace := ["math/bits.Add64"], unfollowed := true, recurses := true, plainKeys := false, apart := false, narrowed := true }
def CertOneUptoSaid : Prop := certOneUptoRow.holds Try.pinned (OpenSpec.upto certOneSpec)

/-- 'pelotonlaw07.AgendaRemoves', WHERE WHAT IT READS IS OF BULK AT MOST 1048576: true; the input reads as it did. -/
def agendaRemovesUptoRow : OpenClaim := { program := "ytmnbekffebdfmaa", sum := "1999332f579a7816e01830928a8b7ba26fd78d054df7fa1adf1153cfcf18c0d0", func := "peloton/pelotonlaw07.AgendaRemoves", spec := "agendaRemoves", unfollowed := true, recurses := true, plainKeys := false, apart := false, narrowed := true }
def AgendaRemovesUptoSaid : Prop := agendaRemovesUptoRow.holds Try.pinned (OpenSpec.upto agendaRemovesSpec)

/-- 'pelotonlaw08.CertLists', WHERE WHAT IT READS IS OF BULK AT MOST 1048576: true; the input reads as it did. -/
def certListsUptoRow : OpenClaim := { program := "ytmnbekffebdfmaa", sum := "1999332f579a7816e01830928a8b7ba26fd78d054df7fa1adf1153cfcf18c0d0", func := "peloton/pelotonlaw08.CertLists", spec := "certLists", inPlace := ["math/bits.Add64"], unfollowed := true, recurses := true, plainKeys := false, apart := false, narrowed := true }
def CertListsUptoSaid : Prop := certListsUptoRow.holds Try.pinned (OpenSpec.upto certListsSpec)

/-- 'pelotonlaw08.CertBack', WHERE WHAT IT READS IS OF BULK AT MOST 1048576: true; the input reads as it did. -/
def certBackUptoRow : OpenClaim := { program := "ytmnbekffebdfmaa", sum := "1999332f579a7816e01830928a8b7ba26fd78d054df7fa1adf1153cfcf18c0d0", func := "peloton/pelotonlaw08.CertBack", spec := "certBack", inPlace := ["math/bits.Add64"], unfollowed := true, recurses := true, plainKeys := false, apart := false, narrowed := true }
def CertBackUptoSaid : Prop := certBackUptoRow.holds Try.pinned (OpenSpec.upto certBackSpec)

/-- 'pelotonlaw08.CertNames', WHERE WHAT IT READS IS OF BULK AT MOST 1048576: true; the input reads as it did. -/
def certNamesUptoRow : OpenClaim := { program := "ytmnbekffebdfmaa", sum := "1999332f579a7816e01830928a8b7ba26fd78d054df7fa1adf1153cfcf18c0d0", func := "peloton/pelotonlaw08.CertNames", spec := "certNames", inPlace := ["math/bits.Add64"], unfollowed := true, recurses := true, plainKeys := false, apart := false, narrowed := true }
def CertNamesUptoSaid : Prop := certNamesUptoRow.holds Try.pinned (OpenSpec.upto certNamesSpec)

/-- 'pelotonlaw07.AgendaPushes', WHERE WHAT IT READS IS OF BULK AT MOST 1048576: true; the input reads as it did. -/
def agendaPushesUptoRow : OpenClaim := { program := "ytmnbekffebdfmaa", sum := "1999332f579a7816e01830928a8b7ba26fd78d054df7fa1adf1153cfcf18c0d0", func := "peloton/pelotonlaw07.AgendaPushes", spec := "agendaPushes", unfollowed := true, recurses := true, plainKeys := false, apart := false, narrowed := true }
def AgendaPushesUptoSaid : Prop := agendaPushesUptoRow.holds Try.pinned (OpenSpec.upto agendaPushesSpec)

/-- 'pelotonlaw07.AgendaOrder', WHERE WHAT IT READS IS OF BULK AT MOST 1048576: true; the input reads as it did. -/
def agendaOrderUptoRow : OpenClaim := { program := "ytmnbekffebdfmaa", sum := "1999332f579a7816e01830928a8b7ba26fd78d054df7fa1adf1153cfcf18c0d0", func := "peloton/pelotonlaw07.AgendaOrder", spec := "agendaOrder", unfollowed := true, recurses := true, plainKeys := false, apart := false, narrowed := true }
def AgendaOrderUptoSaid : Prop := agendaOrderUptoRow.holds Try.pinned (OpenSpec.upto agendaOrderSpec)

/-- 'pelotonlaw07.AgendaNames', WHERE WHAT IT READS IS OF BULK AT MOST 1048576: true; the input reads as it did. -/
def agendaNamesUptoRow : OpenClaim := { program := "ytmnbekffebdfmaa", sum := "1999332f579a7816e01830928a8b7ba26fd78d054df7fa1adf1153cfcf18c0d0", func := "peloton/pelotonlaw07.AgendaNames", spec := "agendaNames", unfollowed := true, recurses := true, plainKeys := false, apart := false, narrowed := true }
def AgendaNamesUptoSaid : Prop := agendaNamesUptoRow.holds Try.pinned (OpenSpec.upto agendaNamesSpec)

/-- 'pelotonlaw07.AgendaHandles', WHERE WHAT IT READS IS OF BULK AT MOST 1048576: true; the input reads as it did. -/
def agendaHandlesUptoRow : OpenClaim := { program := "ytmnbekffebdfmaa", sum := "1999332f579a7816e01830928a8b7ba26fd78d054df7fa1adf1153cfcf18c0d0", func := "peloton/pelotonlaw07.AgendaHandles", spec := "agendaHandles", unfollowed := true, recurses := true, plainKeys := false, apart := false, narrowed := true }
def AgendaHandlesUptoSaid : Prop := agendaHandlesUptoRow.holds Try.pinned (OpenSpec.upto agendaHandlesSpec)

end Rows
end Go.Proofs.Ytmnbekffebdfmaa
