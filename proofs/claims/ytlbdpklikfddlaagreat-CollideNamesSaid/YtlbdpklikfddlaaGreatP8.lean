/- The engine, parts SO, CO, G9, AO, CKO, MO, YO, put together. Conditions: none. -/
import Derived.Test.YtlbdpklikfddlaaGreatP1
import Derived.Test.YtlbdpklikfddlaaGreatBri
import Derived.Test.YtlbdpklikfddlaaGreatP3
import Derived.Test.YtlbdpklikfddlaaGreatP6
import Derived.Test.YtlbdpklikfddlaaGreatPL1
import Derived.Test.YtlbdpklikfddlaaGreatPM2
import Derived.Test.YtlbdpklikfddlaaGreatPWA
set_option linter.unusedVariables false
section
/- Tables and handles that came in. Conditions: none. -/
set_option maxRecDepth 100000
open Go Go.Eng Go.Proofs
open Go.ChangeShapes Go.WideShapes Go.Deep Go.RowKit
namespace Go.Proofs.YtlbdpklikfddlaaGreat
section
variable {H:Type} {enc:TypeId × Value→H} {w:World} {base:Nat} {spare:Nat→Bool} {held:Bool} {r:Reach} {b0:Nat} {v c:Value} {d:DataW H} {p:List MemPlace}

end
end Go.Proofs.YtlbdpklikfddlaaGreat
end
section
/- Certificates,fields,times and agendas that came in. Conditions: none. -/
set_option maxRecDepth 100000
open Go Go.Eng Go.Proofs
open Go.ChangeShapes Go.WideShapes Go.Deep Go.RowKit
namespace Go.Proofs.YtlbdpklikfddlaaGreat
section
variable {H:Type} {enc:TypeId × Value→H} {w:World} {base:Nat} {spare:Nat→Bool} {held:Bool} {r:Reach} {b0:Nat} {v c:Value} {d:DataW H} {p:List MemPlace}

end
theorem _root_.Go.Eng.Rd.chg2 {α:Type} {k:Nat} {f:α→List Value} {H H':Hp} {u v v':Slc} {xs:List α} (h:Rd k f H u xs) (hc:Chg2 H H' v v') (h1:Sep u v) (h2:Sep u v'):Rd k f H' u xs:=by
 refine ⟨h.len,h.cap,h.isS,fun i x hx j w hw=>?_⟩
 have hi:u.a.isSome=true:=h.isS fun e=>by subst e; simp at hx
 cases ha:u.a with
 | none=>simp [ha] at hi
 | some p =>
  have hcl:=h.cell i x hx j w hw
  rw [ha] at hcl
  rw [Hp.at_eq (H:=H)]
  ·exact hcl
  ·refine hc _ (fun hn=>?_) (fun q hq e=>h1 p q ha hq (by rw [e]; exact (eaddr_block rfl).symm)) fun q hq e=>h2 p q ha hq (by rw [e]; exact (eaddr_block rfl).symm)
   unfold Hp.at at hcl; rw [hn] at hcl; cases hcl

end Go.Proofs.YtlbdpklikfddlaaGreat
end
section
/- Agendas that came in. Conditions: none. -/
set_option maxRecDepth 100000
open Go Go.Eng Go.Proofs
open Go.ChangeShapes Go.WideShapes Go.Deep Go.RowKit
namespace Go.Proofs.YtlbdpklikfddlaaGreat
section
variable {H:Type} {enc:TypeId × Value→H} {w:World} {base:Nat} {spare:Nat→Bool} {held:Bool} {r:Reach} {b0:Nat} {v c:Value} {d:DataW H} {p:List MemPlace}
end
end Go.Proofs.YtlbdpklikfddlaaGreat
end
section
/- Clocks that came in. Conditions: none. -/
set_option maxRecDepth 100000
open Go Go.Eng Go.Proofs
open Go.ChangeShapes Go.WideShapes Go.Deep Go.RowKit
namespace Go.Proofs.YtlbdpklikfddlaaGreat
section
variable {H:Type} {enc:TypeId × Value→H} {w:World} {base:Nat} {spare:Nat→Bool} {held:Bool} {r:Reach} {b0:Nat} {v c:Value} {d:DataW H} {p:List MemPlace}
end
end Go.Proofs.YtlbdpklikfddlaaGreat
end
section
/- Lists that came in. Conditions: none. -/
set_option maxRecDepth 100000
open Go Go.Eng Go.Proofs
open Go.ChangeShapes Go.WideShapes Go.Deep Go.RowKit
namespace Go.Proofs.YtlbdpklikfddlaaGreat
section
variable {H:Type} {enc:TypeId × Value→H} {w:World} {base:Nat} {spare:Nat→Bool} {held:Bool} {r:Reach} {b0:Nat} {v c:Value} {d:DataW H} {p:List MemPlace}
end
end Go.Proofs.YtlbdpklikfddlaaGreat
end
section
/- Logs that came in. Conditions: none. -/
set_option maxRecDepth 100000
open Go Go.Eng Go.Proofs
open Go.ChangeShapes Go.WideShapes Go.Deep Go.RowKit
namespace Go.Proofs.YtlbdpklikfddlaaGreat
section
variable {H:Type} {enc:TypeId × Value→H} {w:World} {base:Nat} {spare:Nat→Bool} {held:Bool} {r:Reach} {b0:Nat} {v c:Value} {d:DataW H} {p:List MemPlace}
end
end Go.Proofs.YtlbdpklikfddlaaGreat
end
