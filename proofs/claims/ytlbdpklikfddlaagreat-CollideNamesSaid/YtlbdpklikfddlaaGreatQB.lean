/- The law PickFinds. Conditions: none. -/
import Derived.Test.YtlbdpklikfddlaaGreatPQ1
import Derived.Test.YtlbdpklikfddlaaGreatPN2
set_option linter.unusedVariables false
set_option maxRecDepth 100000
open Go Go.Eng Go.Proofs
namespace Go.Proofs.YtlbdpklikfddlaaGreat

end Go.Proofs.YtlbdpklikfddlaaGreat
