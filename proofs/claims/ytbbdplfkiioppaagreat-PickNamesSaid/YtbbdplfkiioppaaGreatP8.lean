/- The engine, parts SO, CO, G9, AO, CKO, MO, XO, put together. Conditions: none. -/
import Derived.Test.YtbbdplfkiioppaaGreatP1
import Derived.Test.YtbbdplfkiioppaaGreatBri
import Derived.Test.YtbbdplfkiioppaaGreatP3
import Derived.Test.YtbbdplfkiioppaaGreatP6
import Derived.Test.YtbbdplfkiioppaaGreatPL1
import Derived.Test.YtbbdplfkiioppaaGreatPM2
import Derived.Test.YtbbdplfkiioppaaGreatPXA
set_option linter.unusedVariables false
section
/- Tables and handles that came in. Conditions: none. -/
set_option maxRecDepth 100000
open Go Go.Eng Go.Proofs
open Go.ChangeShapes Go.WideShapes Go.Deep Go.RowKit
namespace Go.Proofs.YtbbdplfkiioppaaGreat
section
variable {H:Type} {enc:TypeId × Value→H} {w:World} {base:Nat} {spare:Nat→Bool} {held:Bool} {r:Reach} {b0:Nat} {v c:Value} {d:DataW H} {p:List MemPlace}

end
end Go.Proofs.YtbbdplfkiioppaaGreat
end
section
/- Certificates,fields,times and agendas that came in. Conditions: none. -/
set_option maxRecDepth 100000
open Go Go.Eng Go.Proofs
open Go.ChangeShapes Go.WideShapes Go.Deep Go.RowKit
namespace Go.Proofs.YtbbdplfkiioppaaGreat
section
variable {H:Type} {enc:TypeId × Value→H} {w:World} {base:Nat} {spare:Nat→Bool} {held:Bool} {r:Reach} {b0:Nat} {v c:Value} {d:DataW H} {p:List MemPlace}

end
theorem _root_.Go.Eng.Rd.chg2 {α:Type} {k:Nat} {f:α→List Value} {H H':Hp} {u v v':Slc} {xs:List α} (h:Rd k f H u xs) (hc:Chg2 H H' v v') (h1:Sep u v) (h2:Sep u v'):Rd k f H' u xs:=by
 refine ⟨h.len,h.cap,h.isS,fun i x hx j w hw=>?_⟩
 have hi:u.a.isSome=true:=h.isS fun e=>by subst e; simp at hx
 cases ha:u.a with
 | none=>simp [ha] at hi
 | some p =>
  have hcl:=h.cell i x hx j w hw
  rw [ha] at hcl
  rw [Hp.at_eq (H:=H)]
  ·exact hcl
  ·refine hc _ (fun hn=>?_) (fun q hq e=>h1 p q ha hq (by rw [e]; exact (eaddr_block rfl).symm)) fun q hq e=>h2 p q ha hq (by rw [e]; exact (eaddr_block rfl).symm)
   unfold Hp.at at hcl; rw [hn] at hcl; cases hcl

theorem NewA.keep {H0 H H':Hp} {v1 v2 v3 v4 v5 u w:Slc} {a:Ag} (n:NewA H0 H v1 v2 v3 v4 v5 a) (c:Chg2 H H' u w) (hu:Old H0 u) (hw:Old H0 w):RdA H' v1 v2 v3 v4 v5 a:=by
 have r:=n.rd
 have s:∀ {x:Slc},New H0 x→Sep x u∧Sep x w:=fun hx=>⟨(Sep.of hu hx).symm,(Sep.of hw hx).symm⟩
 have s1:=s n.tb.uses.isNew
 have s2:=s n.tb.used.isNew
 have s3:=s n.tb.free.isNew
 have s4:=s n.heap.isNew
 have s5:=s n.wh.isNew
 exact ⟨⟨Rd.chg2 r.tb.uses c s1.1 s1.2,Rd.chg2 r.tb.used c s2.1 s2.2,Rd.chg2 r.tb.free c s3.1 s3.2⟩,Rd.chg2 r.heap c s4.1 s4.2,Rd.chg2 r.wh c s5.1 s5.2⟩

end Go.Proofs.YtbbdplfkiioppaaGreat
end
section
/- Agendas that came in. Conditions: none. -/
set_option maxRecDepth 100000
open Go Go.Eng Go.Proofs
open Go.ChangeShapes Go.WideShapes Go.Deep Go.RowKit
namespace Go.Proofs.YtbbdplfkiioppaaGreat
section
variable {H:Type} {enc:TypeId × Value→H} {w:World} {base:Nat} {spare:Nat→Bool} {held:Bool} {r:Reach} {b0:Nat} {v c:Value} {d:DataW H} {p:List MemPlace}
end
end Go.Proofs.YtbbdplfkiioppaaGreat
end
section
/- Clocks that came in. Conditions: none. -/
set_option maxRecDepth 100000
open Go Go.Eng Go.Proofs
open Go.ChangeShapes Go.WideShapes Go.Deep Go.RowKit
namespace Go.Proofs.YtbbdplfkiioppaaGreat
section
variable {H:Type} {enc:TypeId × Value→H} {w:World} {base:Nat} {spare:Nat→Bool} {held:Bool} {r:Reach} {b0:Nat} {v c:Value} {d:DataW H} {p:List MemPlace}
end
end Go.Proofs.YtbbdplfkiioppaaGreat
end
section
/- Lists that came in. Conditions: none. -/
set_option maxRecDepth 100000
open Go Go.Eng Go.Proofs
open Go.ChangeShapes Go.WideShapes Go.Deep Go.RowKit
namespace Go.Proofs.YtbbdplfkiioppaaGreat
section
variable {H:Type} {enc:TypeId × Value→H} {w:World} {base:Nat} {spare:Nat→Bool} {held:Bool} {r:Reach} {b0:Nat} {v c:Value} {d:DataW H} {p:List MemPlace}
end
end Go.Proofs.YtbbdplfkiioppaaGreat
end
section
/- Reigns that came in. Conditions: none. -/
set_option maxRecDepth 100000
open Go Go.Eng Go.Proofs
open Go.ChangeShapes Go.WideShapes Go.Deep Go.RowKit
namespace Go.Proofs.YtbbdplfkiioppaaGreat
section
variable {H:Type} {enc:TypeId × Value→H} {w:World} {base:Nat} {spare:Nat→Bool} {held:Bool} {r:Reach} {b0:Nat} {v c:Value} {d:DataW H} {p:List MemPlace}
end
end Go.Proofs.YtbbdplfkiioppaaGreat
end
