/- The law PickAhead. Conditions: none. -/
import Derived.Test.YtbbdplfkiioppaaGreatPXC
import Derived.Test.YtbbdplfkiioppaaGreatVgLPickAhead
import Derived.Test.YtbbdplfkiioppaaGreatFs
set_option linter.unusedVariables false
set_option maxRecDepth 100000
open Go Go.Eng Go.Proofs
namespace Go.Proofs.YtbbdplfkiioppaaGreat

end Go.Proofs.YtbbdplfkiioppaaGreat
