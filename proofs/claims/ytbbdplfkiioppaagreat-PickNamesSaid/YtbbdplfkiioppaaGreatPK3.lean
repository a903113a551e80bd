/- The engine, parts KA5, KN6, KN7, put together. Conditions: none. -/
import Derived.Test.YtbbdplfkiioppaaGreatPS1
import Derived.Test.YtbbdplfkiioppaaGreatPM4
import Derived.Test.YtbbdplfkiioppaaGreatVgKlist
import Derived.Test.YtbbdplfkiioppaaGreatFs
set_option linter.unusedVariables false
section
/- The lists' law's own helpers. Conditions: none. -/
set_option maxRecDepth 100000
open Go Go.Eng Go.Proofs
namespace Go.Proofs.YtbbdplfkiioppaaGreat

theorem exB:buildL exF (0,1)=(exLs,0):=Prod.ext rfl (by kernel_rfl)


end Go.Proofs.YtbbdplfkiioppaaGreat
end
