/- Fractions: Mul. Conditions: none. -/
import Derived.Test.YtodmhdfenpkbdaaGreatK2
import Derived.Test.YtodmhdfenpkbdaaGreatP4
import Derived.Test.YtodmhdfenpkbdaaGreatVgBase
import Derived.Test.YtodmhdfenpkbdaaGreatFs
set_option linter.unusedVariables false
set_option maxRecDepth 100000
open Go Go.Eng Go.Proofs
namespace Go.Proofs.YtodmhdfenpkbdaaGreat

end Go.Proofs.YtodmhdfenpkbdaaGreat
