/- The law CertKeeps. Conditions: none. -/
import Derived.Test.YtodmhdfenpkbdaaGreatP3
set_option linter.unusedVariables false
set_option maxRecDepth 100000
open Go Go.Eng Go.Proofs
namespace Go.Proofs.YtodmhdfenpkbdaaGreat
end Go.Proofs.YtodmhdfenpkbdaaGreat
