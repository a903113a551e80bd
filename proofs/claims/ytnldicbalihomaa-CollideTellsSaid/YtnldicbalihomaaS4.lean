/- The laws SlotFinds, SlotBack, SlotFull. Conditions: none. -/
import Derived.Test.YtnldicbalihomaaS3
import Derived.Test.YtnldicbalihomaaE4
set_option linter.unusedVariables false
open Go Go.Eng Go.Proofs
namespace Go.Proofs.Ytnldicbalihomaa

end Go.Proofs.Ytnldicbalihomaa
