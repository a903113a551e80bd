/- Closed facts of the loaded program that all rows share. Conditions: none. -/
import Derived.Test.YtnhdkkblehadjabGreatRows
import Derived.Test.YtnhdkkblehadjabGreatChecked
import Derived.JoinedOf
import Derived.ProofKit
import Derived.KernelRfl
set_option linter.unusedVariables false
set_option maxRecDepth 100000
open Go Go.Proofs
namespace Go.Proofs.YtnhdkkblehadjabGreat
theorem y5c:ownKnob Tryz.prog.godebug=none:=by kernel_rfl
theorem y59:laidOutB Tryz.prog=true:=by kernel_rfl
theorem y5d:mapsRowed Tryz.prog=true:=by kernel_rfl
theorem y57:Tryz.prog.stopsHeard=true:=by kernel_rfl
theorem y56:Tryz.prog.mayEnter=true:=by kernel_rfl
theorem y58:(Rows.topClientsRow.plainKeys==Tryz.prog.plainKeys)=true:=by kernel_rfl
theorem y5a:(Rows.topClientsRow.lifted==Tryz.prog.liftsFinal)=true:=by kernel_rfl
theorem y5b:(Tryz.prog.make==some Rows.topClientsRow.make)=true:=by kernel_rfl
theorem y55{a b:Bool}(h:a=true)(g:b=true):(a&&b)=true:=by rw[h,g];rfl
end Go.Proofs.YtnhdkkblehadjabGreat
