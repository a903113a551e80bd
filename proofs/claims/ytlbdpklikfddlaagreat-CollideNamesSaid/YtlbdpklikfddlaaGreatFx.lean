/- The numbers of functions that the model stands in for. Conditions: none. -/
import Derived.Test.YtlbdpklikfddlaaGreatFs
set_option linter.unusedVariables false
open Go Go.Proofs
namespace Go.Proofs.YtlbdpklikfddlaaGreat
namespace F
abbrev math_bits_Add64:Nat:=234
end F
theorem func_Add64:Tryz.prog.funcs[F.math_bits_Add64]?=some Tryz.f234:=Tryz.func234
end Go.Proofs.YtlbdpklikfddlaaGreat
