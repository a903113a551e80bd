/- Contracts of functions out of their conditions. Conditions: none. -/
import Derived.Test.YtlbdpklikfddlaaGreatFs
set_option linter.unusedVariables false
set_option maxRecDepth 30000
open Go Go.Eng Go.Proofs
namespace Go.Proofs.YtlbdpklikfddlaaGreat
end Go.Proofs.YtlbdpklikfddlaaGreat
