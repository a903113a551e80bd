/- Contracts of slot.twin and pelotonref06.Twin, Same. Conditions: none. -/
import Derived.Test.YtnldicbalihomaaB
import Derived.Test.YtnldicbalihomaaE4
set_option linter.unusedVariables false
open Go Go.Eng Go.Proofs
namespace Go.Proofs.Ytnldicbalihomaa

end Go.Proofs.Ytnldicbalihomaa
