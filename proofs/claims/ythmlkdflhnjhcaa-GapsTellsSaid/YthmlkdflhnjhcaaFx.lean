/- The numbers of functions that the model stands in for. Conditions: none. -/
import Derived.Test.YthmlkdflhnjhcaaFs
set_option linter.unusedVariables false
open Go Go.Proofs
namespace Go.Proofs.Ythmlkdflhnjhcaa
namespace F
abbrev math_bits_Add64 : Nat := 104
abbrev math_bits_Sub64 : Nat := 105
end F
theorem func_Add64 : Try.prog.funcs[F.math_bits_Add64]? = some Try.f104 := Try.func104
theorem func_Sub64 : Try.prog.funcs[F.math_bits_Sub64]? = some Try.f105 := Try.func105
end Go.Proofs.Ythmlkdflhnjhcaa
