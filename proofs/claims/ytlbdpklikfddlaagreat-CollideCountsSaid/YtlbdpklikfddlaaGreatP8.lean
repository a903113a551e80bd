/- The engine, parts SO, CO, G9, AO, CKO, MO, YO, put together. Conditions: none. -/
import Derived.Test.YtlbdpklikfddlaaGreatP1
import Derived.Test.YtlbdpklikfddlaaGreatBri
import Derived.Test.YtlbdpklikfddlaaGreatP3
import Derived.Test.YtlbdpklikfddlaaGreatP6
import Derived.Test.YtlbdpklikfddlaaGreatPL1
import Derived.Test.YtlbdpklikfddlaaGreatPM2
import Derived.Test.YtlbdpklikfddlaaGreatPWA
set_option linter.unusedVariables false
section
/- Tables and handles that came in. Conditions: none. -/
set_option maxRecDepth 100000
open Go Go.Eng Go.Proofs
open Go.ChangeShapes Go.WideShapes Go.Deep Go.RowKit
namespace Go.Proofs.YtlbdpklikfddlaaGreat
section
variable {H:Type} {enc:TypeId × Value→H} {w:World} {base:Nat} {spare:Nat→Bool} {held:Bool} {r:Reach} {b0:Nat} {v c:Value} {d:DataW H} {p:List MemPlace}

end
end Go.Proofs.YtlbdpklikfddlaaGreat
end
section
/- Certificates,fields,times and agendas that came in. Conditions: none. -/
set_option maxRecDepth 100000
open Go Go.Eng Go.Proofs
open Go.ChangeShapes Go.WideShapes Go.Deep Go.RowKit
namespace Go.Proofs.YtlbdpklikfddlaaGreat
section
variable {H:Type} {enc:TypeId × Value→H} {w:World} {base:Nat} {spare:Nat→Bool} {held:Bool} {r:Reach} {b0:Nat} {v c:Value} {d:DataW H} {p:List MemPlace}

end
theorem _root_.Go.Eng.Rd.chg2 {α:Type} {k:Nat} {f:α→List Value} {H H':Hp} {u v v':Slc} {xs:List α} (h:Rd k f H u xs) (hc:Chg2 H H' v v') (h1:Sep u v) (h2:Sep u v'):Rd k f H' u xs:=by
 refine ⟨h.len,h.cap,h.isS,fun i x hx j w hw=>?_⟩
 have hi:u.a.isSome=true:=h.isS fun e=>by subst e; simp at hx
 cases ha:u.a with
 | none=>simp [ha] at hi
 | some p =>
  have hcl:=h.cell i x hx j w hw
  rw [ha] at hcl
  rw [Hp.at_eq (H:=H)]
  ·exact hcl
  ·refine hc _ (fun hn=>?_) (fun q hq e=>h1 p q ha hq (by rw [e]; exact (eaddr_block rfl).symm)) fun q hq e=>h2 p q ha hq (by rw [e]; exact (eaddr_block rfl).symm)
   unfold Hp.at at hcl; rw [hn] at hcl; cases hcl

end Go.Proofs.YtlbdpklikfddlaaGreat
end
section
/- Agendas that came in. Conditions: none. -/
set_option maxRecDepth 100000
open Go Go.Eng Go.Proofs
open Go.ChangeShapes Go.WideShapes Go.Deep Go.RowKit
namespace Go.Proofs.YtlbdpklikfddlaaGreat
section
variable {H:Type} {enc:TypeId × Value→H} {w:World} {base:Nat} {spare:Nat→Bool} {held:Bool} {r:Reach} {b0:Nat} {v c:Value} {d:DataW H} {p:List MemPlace}
end
end Go.Proofs.YtlbdpklikfddlaaGreat
end
section
/- Clocks that came in. Conditions: none. -/
set_option maxRecDepth 100000
open Go Go.Eng Go.Proofs
open Go.ChangeShapes Go.WideShapes Go.Deep Go.RowKit
namespace Go.Proofs.YtlbdpklikfddlaaGreat
section
variable {H:Type} {enc:TypeId × Value→H} {w:World} {base:Nat} {spare:Nat→Bool} {held:Bool} {r:Reach} {b0:Nat} {v c:Value} {d:DataW H} {p:List MemPlace}
end
end Go.Proofs.YtlbdpklikfddlaaGreat
end
section
/- Lists that came in. Conditions: none. -/
set_option maxRecDepth 100000
open Go Go.Eng Go.Proofs
open Go.ChangeShapes Go.WideShapes Go.Deep Go.RowKit
namespace Go.Proofs.YtlbdpklikfddlaaGreat
section
variable {H:Type} {enc:TypeId × Value→H} {w:World} {base:Nat} {spare:Nat→Bool} {held:Bool} {r:Reach} {b0:Nat} {v c:Value} {d:DataW H} {p:List MemPlace}
end
end Go.Proofs.YtlbdpklikfddlaaGreat
end
section
/- Logs that came in. Conditions: none. -/
set_option maxRecDepth 100000
open Go Go.Eng Go.Proofs
open Go.ChangeShapes Go.WideShapes Go.Deep Go.RowKit
namespace Go.Proofs.YtlbdpklikfddlaaGreat
theorem ftMg:flatT Tryz.prog 9 T.api_Meeting=[2,2,3,3]:=by kernel_rfl
section
variable {H:Type} {enc:TypeId × Value→H} {w:World} {base:Nat} {spare:Nat→Bool} {held:Bool} {r:Reach} {b0:Nat} {v c:Value} {d:DataW H} {p:List MemPlace}
theorem flatMg {cs:List Value} (h:All2 (Lf enc Tryz.prog w base spare held) (flatT Tryz.prog 9 T.api_Meeting) cs):∃ x:Mg,cs=fG x∧fitR x.1:=by
 have a0:=h; rw [ftMg] at a0
 obtain ⟨c1,cs1,rfl,h1,a1⟩:=a0.c
 obtain ⟨n,rfl,hn⟩:=h1.i64 Tryz.underlying2
 obtain ⟨c2,cs2,rfl,h2,a2⟩:=a1.c
 obtain ⟨m,rfl,hm⟩:=h2.i64 Tryz.underlying2
 obtain ⟨c3,cs3,rfl,h3,a3⟩:=a2.c
 obtain ⟨k,rfl,hk⟩:=h3.i64 Tryz.underlying3
 obtain ⟨c4,cs4,rfl,h4,a4⟩:=a3.c
 obtain ⟨l,rfl,hl⟩:=h4.i64 Tryz.underlying3
 have e:=a4.n; subst e
 exact ⟨((n,m),k,l),rfl,hn,hm⟩
theorem openLog (hv:Value.okWide Tryz.prog w r b0 T.s_api_Meeting v) (h:DataW.Trod enc Tryz.prog w base spare held T.s_api_Meeting v d p):∃ (u:Slc) (xs:List Mg),v=u.v∧Rd 4 fG (HW w) u xs∧(∀ x∈xs,fitR x.1)∧xs.length≤9223372036854775807:=by
 obtain ⟨a,n,c,rfl⟩:=okWide_slice Tryz.underlying62 hv
 obtain ⟨m,hm⟩:=h
 exact Lf.slice (k:=4) (f:=fG) Tryz.underlying62 (by kernel_rfl) (by kernel_rfl) (fun _=>flatMg) (⟨m,(d,p),by simpa [Value.cells] using hm⟩:Lf enc Tryz.prog w base spare held T.s_api_Meeting _)
end
end Go.Proofs.YtlbdpklikfddlaaGreat
end
