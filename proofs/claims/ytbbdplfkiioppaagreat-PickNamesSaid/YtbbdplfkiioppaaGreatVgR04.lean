/- Contracts of functions out of their conditions. Conditions: none. -/
import Derived.Test.YtbbdplfkiioppaaGreatFs
set_option linter.unusedVariables false
set_option maxRecDepth 30000
open Go Go.Eng Go.Proofs
namespace Go.Proofs.YtbbdplfkiioppaaGreat
end Go.Proofs.YtbbdplfkiioppaaGreat
