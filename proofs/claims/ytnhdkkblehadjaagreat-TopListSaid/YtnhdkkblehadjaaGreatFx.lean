/- The numbers of functions that the model stands in for. Conditions: none. -/
import Derived.Test.YtnhdkkblehadjaaGreatFs
set_option linter.unusedVariables false
open Go Go.Proofs
namespace Go.Proofs.YtnhdkkblehadjaaGreat
namespace F
abbrev f201:Nat:=201
abbrev f202:Nat:=202
abbrev f207:Nat:=207
abbrev f249:Nat:=249
end F
theorem y12:Tryz.prog.funcs[F.f201]?=some Tryz.f201:=Tryz.func201
theorem y13:Tryz.prog.funcs[F.f202]?=some Tryz.f202:=Tryz.func202
theorem y14:Tryz.prog.funcs[F.f207]?=some Tryz.f207:=Tryz.func207
theorem y15:Tryz.prog.funcs[F.f249]?=some Tryz.f249:=Tryz.func249
