/- The numbers of functions that the model stands in for. Conditions: none. -/
import Derived.Test.YtmnbekffebdfmaaFs
set_option linter.unusedVariables false
open Go Go.Proofs
namespace Go.Proofs.Ytmnbekffebdfmaa
namespace F
abbrev math_bits_Add64 : Nat := 174
end F
theorem func_Add64 : Try.prog.funcs[F.math_bits_Add64]? = some Try.f174 := Try.func174
end Go.Proofs.Ytmnbekffebdfmaa
