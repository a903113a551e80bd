/- The engine, parts M6, LN, LO, put together. Conditions: none. -/
import Derived.Test.YtkemdpobjaiolaaGreatPM2
import Derived.Test.YtkemdpobjaiolaaGreatPL4
import Derived.Test.YtkemdpobjaiolaaGreatVgKlist
import Derived.Test.YtkemdpobjaiolaaGreatFs
import Derived.Test.YtkemdpobjaiolaaGreatVgClock
set_option linter.unusedVariables false
section
/- Building a list, by the reference. Conditions: none. -/
set_option maxRecDepth 100000
open Go Go.Eng Go.Proofs
namespace Go.Proofs.YtkemdpobjaiolaaGreat

def zlu : Lu := ⟨zu, zs, zs⟩
theorem RdL.zero {H : Hp} : RdL H zlu .zero := ⟨RdK.zero, (Rd.nil : Rd 1 fI H ⟨none, 0, 0⟩ []), (Rd.nil : Rd 1 fI H ⟨none, 0, 0⟩ [])⟩


theorem New.none {H : Hp} : New H zs := fun p hp => by cases hp

end Go.Proofs.YtkemdpobjaiolaaGreat
end
