/- Contracts of the small functions. Conditions: none. -/
import Derived.Test.YtnldicbalihomaaE4
import Derived.Test.YtnldicbalihomaaVgStd
import Derived.Test.YtnldicbalihomaaFs
set_option linter.unusedVariables false
open Go Go.Eng Go.Proofs
namespace Go.Proofs.Ytnldicbalihomaa

theorem clone_int {H:Hp} {s:Slc} {xs:List Int} (hs:RdI H s xs) (hl:xs.length≤1000000000) :
  Go.Eng.Fn Try.prog F.slices_Clone_int_int #[s.v] H fun v H'=>∃ u:Slc,v=u.v∧Hp.le H H'∧Mine 1 fI 3 H H' u xs :=
 slices_Clone_int_int_vc (clone_vc (k:=1) (f:=fI) (bytes:=8) (by kernel_rfl) (by decide) (fun _=>rfl) hs (by omega) (by omega))

end Go.Proofs.Ytnldicbalihomaa
