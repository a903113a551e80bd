/- Contracts of slot.New, Has, Take, Give, Room and of the same ones of pelotonref06. Conditions: none. -/
import Derived.Test.YtnldicbalihomaaS1
set_option linter.unusedVariables false
open Go Go.Eng Go.Proofs
namespace Go.Proofs.Ytnldicbalihomaa

end Go.Proofs.Ytnldicbalihomaa
