/- The numbers of functions that the model stands in for. Conditions: none. -/
import Derived.Test.YtnhdkkblehadjabGreatFs
set_option linter.unusedVariables false
open Go Go.Proofs
namespace Go.Proofs.YtnhdkkblehadjabGreat
namespace F
abbrev f159:Nat:=159
abbrev f101:Nat:=101
abbrev f240:Nat:=240
end F
theorem zyv:Tryz.prog.funcs[F.f159]?=some Tryz.f159:=Tryz.func159
theorem zyw:Tryz.prog.funcs[F.f101]?=some Tryz.f101:=Tryz.func101
theorem zyx:Tryz.prog.funcs[F.f240]?=some Tryz.f240:=Tryz.func240
end Go.Proofs.YtnhdkkblehadjabGreat
