/- The engine, parts HB, HC, HD, HE, put together. Conditions: none. -/
import Derived.Test.YtjhbjjdipmpgjaaGreatPH2
import Derived.Test.YtjhbjjdipmpgjaaGreatVgBase
import Derived.Test.YtjhbjjdipmpgjaaGreatVgLedit
import Derived.Test.YtjhbjjdipmpgjaaGreatFs
set_option linter.unusedVariables false
section
/- The reference's Put, Without; opened, shut. Conditions: none. -/
set_option maxRecDepth 100000
open Go Go.Eng Go.Proofs
namespace Go.Proofs.YtjhbjjdipmpgjaaGreat




end Go.Proofs.YtjhbjjdipmpgjaaGreat
end
