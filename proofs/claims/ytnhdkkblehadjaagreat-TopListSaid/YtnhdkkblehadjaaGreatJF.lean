/- Closed facts of the loaded program that all rows share. Conditions: none. -/
import Derived.Test.YtnhdkkblehadjaaGreatRows
import Derived.Test.YtnhdkkblehadjaaGreatChecked
import Derived.JoinedOf
import Derived.ProofKit
import Derived.KernelRfl
set_option linter.unusedVariables false
set_option maxRecDepth 100000
open Go Go.Proofs
namespace Go.Proofs.YtnhdkkblehadjaaGreat
theorem y7l:ownKnob Tryz.prog.godebug=none:=by kernel_rfl
theorem y7i:laidOutB Tryz.prog=true:=by kernel_rfl
theorem y7m:mapsRowed Tryz.prog=true:=by kernel_rfl
theorem y7g:Tryz.prog.stopsHeard=true:=by kernel_rfl
theorem y7f:Tryz.prog.mayEnter=true:=by kernel_rfl
theorem y7h:(Rows.topListRow.plainKeys==Tryz.prog.plainKeys)=true:=by kernel_rfl
theorem y7j:(Rows.topListRow.lifted==Tryz.prog.liftsFinal)=true:=by kernel_rfl
theorem y7k:(Tryz.prog.make==some Rows.topListRow.make)=true:=by kernel_rfl
theorem y7e{a b:Bool}(h:a=true)(g:b=true):(a&&b)=true:=by rw[h,g];rfl
