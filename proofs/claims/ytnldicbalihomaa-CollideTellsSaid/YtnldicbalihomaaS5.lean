/- The law SlotNames. Conditions: none. -/
import Derived.Test.YtnldicbalihomaaS4
import Derived.Test.YtnldicbalihomaaE4
set_option linter.unusedVariables false
set_option maxRecDepth 100000
open Go Go.Eng Go.Proofs
namespace Go.Proofs.Ytnldicbalihomaa

end Go.Proofs.Ytnldicbalihomaa
