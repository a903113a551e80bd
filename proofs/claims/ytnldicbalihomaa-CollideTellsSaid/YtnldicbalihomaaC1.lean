/- Contracts of cert and pelotonref08, first part. Conditions: none. -/
import Derived.Test.YtnldicbalihomaaS5
import Derived.Test.YtnldicbalihomaaE5
set_option linter.unusedVariables false
open Go Go.Eng Go.Proofs
namespace Go.Proofs.Ytnldicbalihomaa

end Go.Proofs.Ytnldicbalihomaa
