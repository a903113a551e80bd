/- Closed facts of the loaded program that all rows share. Conditions: none. -/
import Derived.Test.YtlbdpklikfddlaaGreatRows
import Derived.Test.YtlbdpklikfddlaaGreatChecked
import Derived.JoinedOf
import Derived.ProofKit
import Derived.KernelRfl
set_option linter.unusedVariables false
set_option maxRecDepth 100000
open Go Go.Proofs
namespace Go.Proofs.YtlbdpklikfddlaaGreat
theorem jOwn:ownKnob Tryz.prog.godebug=none:=by kernel_rfl
theorem jLaid:laidOutB Tryz.prog=true:=by kernel_rfl
theorem jRowed:mapsRowed Tryz.prog=true:=by kernel_rfl
theorem jHeard:Tryz.prog.stopsHeard=true:=by kernel_rfl
theorem jEnter:Tryz.prog.mayEnter=true:=by kernel_rfl
theorem jKeys:(Rows.klistOrderRow.plainKeys==Tryz.prog.plainKeys)=true:=by kernel_rfl
theorem jLift:(Rows.klistOrderRow.lifted==Tryz.prog.liftsFinal)=true:=by kernel_rfl
theorem jMake:(Tryz.prog.make==some Rows.klistOrderRow.make)=true:=by kernel_rfl
theorem jAnd {a b:Bool} (h:a=true) (g:b=true):(a&&b)=true:=by rw [h,g]; rfl
end Go.Proofs.YtlbdpklikfddlaaGreat
