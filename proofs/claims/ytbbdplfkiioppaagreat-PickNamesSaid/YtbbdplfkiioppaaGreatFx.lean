/- The numbers of functions that the model stands in for. Conditions: none. -/
import Derived.Test.YtbbdplfkiioppaaGreatFs
set_option linter.unusedVariables false
open Go Go.Proofs
namespace Go.Proofs.YtbbdplfkiioppaaGreat
namespace F
abbrev math_bits_Add64:Nat:=99
abbrev math_bits_Sub64:Nat:=55
end F
theorem func_Add64:Tryz.prog.funcs[F.math_bits_Add64]?=some Tryz.f99:=Tryz.func99
theorem func_Sub64:Tryz.prog.funcs[F.math_bits_Sub64]?=some Tryz.f55:=Tryz.func55
end Go.Proofs.YtbbdplfkiioppaaGreat
