/- Contracts of slot.Check and what it calls. Conditions: none. -/
import Derived.Test.YtnldicbalihomaaD
import Derived.Test.YtnldicbalihomaaE4
set_option linter.unusedVariables false
open Go Go.Eng Go.Proofs
namespace Go.Proofs.Ytnldicbalihomaa

end Go.Proofs.Ytnldicbalihomaa
