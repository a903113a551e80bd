/- The numbers of functions that the model stands in for. Conditions: none. -/
import Derived.Test.YtkemdpobjaiolaaGreatFs
set_option linter.unusedVariables false
open Go Go.Proofs
namespace Go.Proofs.YtkemdpobjaiolaaGreat
namespace F
abbrev math_bits_Add64 : Nat := 151
end F
theorem func_Add64 : Tryz.prog.funcs[F.math_bits_Add64]? = some Tryz.f151 := Tryz.func151
end Go.Proofs.YtkemdpobjaiolaaGreat
