/- The law SlotDoes, and the chapter's examples. Conditions: none. -/
import Derived.Test.YtnldicbalihomaaS2
import Derived.Test.YtnldicbalihomaaE4
set_option linter.unusedVariables false
open Go Go.Eng Go.Proofs
namespace Go.Proofs.Ytnldicbalihomaa

end Go.Proofs.Ytnldicbalihomaa
