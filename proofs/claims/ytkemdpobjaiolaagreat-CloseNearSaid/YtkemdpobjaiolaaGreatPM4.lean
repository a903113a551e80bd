/- The engine, parts M7, M8, GQ, put together. Conditions: none. -/
import Derived.Test.YtkemdpobjaiolaaGreatPL7
import Derived.Test.YtkemdpobjaiolaaGreatVgH27
import Derived.Test.YtkemdpobjaiolaaGreatFs
import Derived.Test.YtkemdpobjaiolaaGreatPN2
set_option linter.unusedVariables false
section
/- The gaps' law's own helpers. Conditions: none. -/
set_option maxRecDepth 100000
open Go Go.Eng Go.Proofs
namespace Go.Proofs.YtkemdpobjaiolaaGreat

def exF : List Pt := [(1, 0, 2), (2, 6, -1), (5, 0, 0)]
def exLs : Ls := (buildL exF (0, 1)).1
theorem exOk : okLs exLs := chkLs_zero.1 (by kernel_rfl)
theorem fit01 : fitR (0, 1) := ⟨by show inI 0; unfold inI; omega, by show inI 1; unfold inI; omega⟩



/-! ### As many places as things -/
/-! ### The first of the gaps -/
/-! ### Gaps and certificates -/
end Go.Proofs.YtkemdpobjaiolaaGreat
end
