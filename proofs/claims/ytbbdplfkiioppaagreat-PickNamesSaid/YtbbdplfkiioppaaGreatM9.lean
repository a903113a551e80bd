/- The law GapsNames. Conditions: none. -/
import Derived.Test.YtbbdplfkiioppaaGreatPM4
set_option linter.unusedVariables false
set_option maxRecDepth 100000
open Go Go.Eng Go.Proofs
namespace Go.Proofs.YtbbdplfkiioppaaGreat

def g0:Gp:=⟨0,0,0,0⟩
theorem fitZg:fitL .zero:=fitL_of (l:=.zero) fit00g (by kernel_rfl) (fun y hy=>by cases hy)
theorem gx3:sumM exLs (-1) 1=(⟨0,0,0,0⟩,2):=by kernel_rfl
end Go.Proofs.YtbbdplfkiioppaaGreat
