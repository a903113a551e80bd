/- The numbers of functions that the model stands in for. Conditions: none. -/
import Derived.Test.YtkemdpobjaiolaaGreatFs
set_option linter.unusedVariables false
open Go Go.Proofs
namespace Go.Proofs.YtkemdpobjaiolaaGreat
namespace F
abbrev math_bits_Add64 : Nat := 151
abbrev math_bits_Sub64 : Nat := 90
end F
theorem func_Add64 : Tryz.prog.funcs[F.math_bits_Add64]? = some Tryz.f151 := Tryz.func151
theorem func_Sub64 : Tryz.prog.funcs[F.math_bits_Sub64]? = some Tryz.f90 := Tryz.func90
end Go.Proofs.YtkemdpobjaiolaaGreat
