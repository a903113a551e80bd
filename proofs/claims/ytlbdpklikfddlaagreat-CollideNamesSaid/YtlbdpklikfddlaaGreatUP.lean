/- The builtin copy on rows; slices.overlaps on slices of different blocks; slices.Insert. Conditions: none. -/
import Derived.Test.YtlbdpklikfddlaaGreatE5
import Derived.Laws.Externs
set_option linter.unusedVariables false
namespace Go.Eng

/-! ### Parts of a row overwritten -/
end Go.Eng

/-! ### slices.Insert of one element,into a slice of one's own -/
namespace Go.Eng
section
variable {α:Type} {k:Nat} {f:α→List Value} {P:Program} {t t3 ty ty1 e bytes:Nat} {cs:Array Bool} {H0 H:Hp} {s:Slc} {xs:List α} {i:Int}

end
end Go.Eng
