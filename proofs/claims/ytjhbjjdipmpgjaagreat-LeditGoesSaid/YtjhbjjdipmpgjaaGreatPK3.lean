/- The engine, parts KA5, KN6, KN7, put together. Conditions: none. -/
import Derived.Test.YtjhbjjdipmpgjaaGreatPS1
import Derived.Test.YtjhbjjdipmpgjaaGreatPM4
import Derived.Test.YtjhbjjdipmpgjaaGreatVgKlist
import Derived.Test.YtjhbjjdipmpgjaaGreatFs
set_option linter.unusedVariables false
section
/- The lists' law's own helpers. Conditions: none. -/
set_option maxRecDepth 100000
open Go Go.Eng Go.Proofs
namespace Go.Proofs.YtjhbjjdipmpgjaaGreat

theorem exB:buildL exF (0,1)=(exLs,0):=Prod.ext rfl (by kernel_rfl)


end Go.Proofs.YtjhbjjdipmpgjaaGreat
end
