/- The numbers of functions that the model stands in for. Conditions: none. -/
import Derived.Test.YtjhbjjdipmpgjaaGreatFs
set_option linter.unusedVariables false
open Go Go.Proofs
namespace Go.Proofs.YtjhbjjdipmpgjaaGreat
namespace F
abbrev f244:Nat:=244
abbrev f121:Nat:=121
abbrev f138:Nat:=138
end F
theorem zvw:Tryz.prog.funcs[F.f244]?=some Tryz.f244:=Tryz.func244
theorem zvy:Tryz.prog.funcs[F.f121]?=some Tryz.f121:=Tryz.func121
theorem zvx:Tryz.prog.funcs[F.f138]?=some Tryz.f138:=Tryz.func138
end Go.Proofs.YtjhbjjdipmpgjaaGreat
