/- The engine, parts M7, M8, GQ, put together. Conditions: none. -/
import Derived.Test.YtkemdpobjaiolaaGreatPL7
import Derived.Test.YtkemdpobjaiolaaGreatVgH27
import Derived.Test.YtkemdpobjaiolaaGreatFs
import Derived.Test.YtkemdpobjaiolaaGreatPN2
set_option linter.unusedVariables false
section
/- The gaps' law's own helpers. Conditions: none. -/
set_option maxRecDepth 100000
open Go Go.Eng Go.Proofs
namespace Go.Proofs.YtkemdpobjaiolaaGreat



/-! ### As many places as things -/
/-! ### The first of the gaps -/
/-! ### Gaps and certificates -/
end Go.Proofs.YtkemdpobjaiolaaGreat
end
