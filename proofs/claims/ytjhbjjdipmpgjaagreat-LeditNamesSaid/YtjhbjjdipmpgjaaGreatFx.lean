/- The numbers of functions that the model stands in for. Conditions: none. -/
import Derived.Test.YtjhbjjdipmpgjaaGreatFs
set_option linter.unusedVariables false
open Go Go.Proofs
namespace Go.Proofs.YtjhbjjdipmpgjaaGreat
namespace F
abbrev math_bits_Add64:Nat:=244
abbrev overlapsPt:Nat:=121
abbrev overlapsInt:Nat:=138
end F
theorem func_Add64:Tryz.prog.funcs[F.math_bits_Add64]?=some Tryz.f244:=Tryz.func244
theorem func_overlapsPt:Tryz.prog.funcs[F.overlapsPt]?=some Tryz.f121:=Tryz.func121
theorem func_overlapsInt:Tryz.prog.funcs[F.overlapsInt]?=some Tryz.f138:=Tryz.func138
end Go.Proofs.YtjhbjjdipmpgjaaGreat
