/- Contracts of cert and pelotonref08, third part. Conditions: none. -/
import Derived.Test.YtnldicbalihomaaC2
set_option linter.unusedVariables false
open Go Go.Eng Go.Proofs
namespace Go.Proofs.Ytnldicbalihomaa

end Go.Proofs.Ytnldicbalihomaa
