/- Gaps: what is asked of a gap and a time. Conditions: none. -/
import Derived.Test.YtodmhdfenpkbdaaGreatK3
import Derived.Test.YtodmhdfenpkbdaaGreatVgGaps
import Derived.Test.YtodmhdfenpkbdaaGreatFs
set_option linter.unusedVariables false
set_option maxRecDepth 100000
open Go Go.Eng Go.Proofs
namespace Go.Proofs.YtodmhdfenpkbdaaGreat

end Go.Proofs.YtodmhdfenpkbdaaGreat
