/- The engine, parts M7, M8, put together. Conditions: none. -/
import Derived.Test.YtkemdpobjaiolaaGreatPL7
import Derived.Test.YtkemdpobjaiolaaGreatVgH27
import Derived.Test.YtkemdpobjaiolaaGreatFs
set_option linter.unusedVariables false
section
/- The gaps' law's own helpers. Conditions: none. -/
set_option maxRecDepth 100000
open Go Go.Eng Go.Proofs
namespace Go.Proofs.YtkemdpobjaiolaaGreat

end Go.Proofs.YtkemdpobjaiolaaGreat
end
section
/- The law GapsSums. Conditions: none. -/
set_option maxRecDepth 100000
open Go Go.Eng Go.Proofs
namespace Go.Proofs.YtkemdpobjaiolaaGreat

end Go.Proofs.YtkemdpobjaiolaaGreat
end
