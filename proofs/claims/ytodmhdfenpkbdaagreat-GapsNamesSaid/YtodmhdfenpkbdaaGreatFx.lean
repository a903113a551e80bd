/- The numbers of functions that the model stands in for. Conditions: none. -/
import Derived.Test.YtodmhdfenpkbdaaGreatFs
set_option linter.unusedVariables false
open Go Go.Proofs
namespace Go.Proofs.YtodmhdfenpkbdaaGreat
namespace F
abbrev math_bits_Add64 : Nat := 264
abbrev math_bits_Sub64 : Nat := 189
end F
theorem func_Add64 : Tryz.prog.funcs[F.math_bits_Add64]? = some Tryz.f264 := Tryz.func264
theorem func_Sub64 : Tryz.prog.funcs[F.math_bits_Sub64]? = some Tryz.f189 := Tryz.func189
end Go.Proofs.YtodmhdfenpkbdaaGreat
