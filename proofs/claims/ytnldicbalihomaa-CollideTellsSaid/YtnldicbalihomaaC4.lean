/- Contracts of cert and pelotonref08, fourth part. Conditions: none. -/
import Derived.Test.YtnldicbalihomaaC3
set_option linter.unusedVariables false
set_option maxRecDepth 100000
open Go Go.Eng Go.Proofs
namespace Go.Proofs.Ytnldicbalihomaa

theorem Hp.le.chg {H H':Hp} {v:Slc} (h:Hp.le H H'):Chg H H' v:=fun b hb _=>by
 obtain ⟨o,ho⟩:=Option.ne_none_iff_exists'.1 hb
 rw [ho]; exact h b o ho

theorem Old.zs {H:Hp}:Old H zs:=fun p hp=>by unfold Go.Eng.zs at hp; cases hp

end Go.Proofs.Ytnldicbalihomaa
