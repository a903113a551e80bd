/- pelotonref06.Check. Conditions: none. -/
import Derived.Test.YtnldicbalihomaaC
set_option linter.unusedVariables false
open Go Go.Eng Go.Proofs
namespace Go.Proofs.Ytnldicbalihomaa

end Go.Proofs.Ytnldicbalihomaa
