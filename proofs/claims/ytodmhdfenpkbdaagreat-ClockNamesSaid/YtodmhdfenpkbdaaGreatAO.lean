/- Agendas that came in. Conditions: none. -/
import Derived.Test.YtodmhdfenpkbdaaGreatCO
import Derived.Test.YtodmhdfenpkbdaaGreatG9
set_option linter.unusedVariables false
set_option maxRecDepth 100000
open Go Go.Eng Go.Proofs
open Go.ChangeShapes Go.WideShapes Go.Deep Go.RowKit
namespace Go.Proofs.YtodmhdfenpkbdaaGreat
section
variable {H : Type} {enc : TypeId × Value → H} {w : World} {base : Nat} {spare : Nat → Bool} {held : Bool} {r : Reach} {b0 : Nat} {v c : Value} {d : DataW H} {p : List MemPlace}
end
end Go.Proofs.YtodmhdfenpkbdaaGreat
