/- The bridge: arguments as they are read, opened into views; a contract over a whole heap as a walk. Conditions: none. -/
import Derived.Test.YtlbdpklikfddlaaGreatE4
import Derived.WalkKit
import Derived.ProofKit
import Derived.OpenShut
import Derived.ShutString
import Derived.ChangeOld
import Derived.Below
import Derived.Deep.Slices
import Derived.Deep.Fields
import Derived.ChangeSame
set_option linter.unusedVariables false
namespace Go.Eng
open Go.ChangeShapes Go.WideShapes Go.Deep Go.RowKit

def HW (W:World):Hp:=fun b=>W.heap[b]?
theorem HW.view (W:World):View W (HW W):=fun _ _ h=>h
theorem HW.at {W:World} {a:Addr} {v:Value} (h:W.cell? a=some v):(HW W).at a=some v:=by
 unfold Hp.at HW
 unfold World.cell? at h
 exact h

theorem Qf.below {P:Program} {f:FuncId} {args:Array Value} {W:World} {v:Value} (h:Qf P f args (HW W) v):Calls P f args W fun e W'=>e=.returned v∧Below W.heap.size W W':=by
 refine (h W (HW.view W)).mono fun e W' ⟨v',H',he,ht,hv,hle⟩=>?_
 subst hv
 refine ⟨he,ht.os,ht.tape,ht.output,ht.size,fun k hk=>?_⟩
 have ho:W.heap[k]?=some W.heap[k]:=by simp [hk]
 rw [ho]; exact ht.view k _ (hle k _ ho)

section
variable {H:Type} {enc:TypeId × Value→H} {P:Program} {w:World} {base:Nat} {spare:Nat→Bool} {held:Bool}

end
end Go.Eng
