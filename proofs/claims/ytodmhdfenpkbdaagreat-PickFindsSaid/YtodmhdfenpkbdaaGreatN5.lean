/- The law SpanFinds. Conditions: none. -/
import Derived.Test.YtodmhdfenpkbdaaGreatPN1
import Derived.Test.YtodmhdfenpkbdaaGreatVgKlist
import Derived.Test.YtodmhdfenpkbdaaGreatVgLSpanFinds
import Derived.Test.YtodmhdfenpkbdaaGreatFs
set_option linter.unusedVariables false
set_option maxRecDepth 100000
open Go Go.Eng Go.Proofs
namespace Go.Proofs.YtodmhdfenpkbdaaGreat
end Go.Proofs.YtodmhdfenpkbdaaGreat
