/- The engine, parts SO, CO, G9, AO, CKO, MO, put together. Conditions: none. -/
import Derived.Test.YtlbdpklikfddlaaGreatP1
import Derived.Test.YtlbdpklikfddlaaGreatBri
import Derived.Test.YtlbdpklikfddlaaGreatP3
import Derived.Test.YtlbdpklikfddlaaGreatP6
import Derived.Test.YtlbdpklikfddlaaGreatPL1
import Derived.Test.YtlbdpklikfddlaaGreatPM2
set_option linter.unusedVariables false
section
/- Tables and handles that came in. Conditions: none. -/
set_option maxRecDepth 100000
open Go Go.Eng Go.Proofs
open Go.ChangeShapes Go.WideShapes Go.Deep Go.RowKit
namespace Go.Proofs.YtlbdpklikfddlaaGreat
section
variable {H:Type} {enc:TypeId × Value→H} {w:World} {base:Nat} {spare:Nat→Bool} {held:Bool} {r:Reach} {b0:Nat} {v c:Value} {d:DataW H} {p:List MemPlace}

end
end Go.Proofs.YtlbdpklikfddlaaGreat
end
section
/- Certificates,fields,times and agendas that came in. Conditions: none. -/
set_option maxRecDepth 100000
open Go Go.Eng Go.Proofs
open Go.ChangeShapes Go.WideShapes Go.Deep Go.RowKit
namespace Go.Proofs.YtlbdpklikfddlaaGreat
theorem ftRatio:flatT Tryz.prog 9 T.api_Ratio=[2,2]:=by kernel_rfl
theorem ftPoint:flatT Tryz.prog 9 T.api_Point=[3,2,2]:=by kernel_rfl
theorem ftField:flatT Tryz.prog 9 T.api_Field=[22]:=by kernel_rfl
section
variable {H:Type} {enc:TypeId × Value→H} {w:World} {base:Nat} {spare:Nat→Bool} {held:Bool} {r:Reach} {b0:Nat} {v c:Value} {d:DataW H} {p:List MemPlace}

theorem flatP {cs:List Value} (h:All2 (Lf enc Tryz.prog w base spare held) (flatT Tryz.prog 9 T.api_Point) cs):∃ x:Int × Int × Int,cs=fD x∧(inI x.1∧inI x.2.1∧inI x.2.2):=by
 have a0:=h; rw [ftPoint] at a0
 obtain ⟨c1,cs1,rfl,h1,a1⟩:=a0.c
 obtain ⟨n,rfl,hn⟩:=h1.i64 Tryz.underlying3
 obtain ⟨c2,cs2,rfl,h2,a2⟩:=a1.c
 obtain ⟨m,rfl,hm⟩:=h2.i64 Tryz.underlying2
 obtain ⟨c3,cs3,rfl,h3,a3⟩:=a2.c
 obtain ⟨l,rfl,hl⟩:=h3.i64 Tryz.underlying2
 have e:=a3.n; subst e
 exact ⟨(n,m,l),rfl,hn,hm,hl⟩
theorem lfPoints (h:Lf enc Tryz.prog w base spare held T.s_api_Point c):∃ (u:Slc) (xs:List (Int × Int × Int)),c=u.v∧Rd 3 fD (HW w) u xs∧(∀ x∈xs,inI x.1∧inI x.2.1∧inI x.2.2)∧xs.length≤9223372036854775807 :=
 h.slice (k:=3) (f:=fD) Tryz.underlying22 (by kernel_rfl) (by kernel_rfl) fun _=>flatP
theorem openRatio (hv:Value.okWide Tryz.prog w r b0 T.api_Ratio v) (h:DataW.Trod enc Tryz.prog w base spare held T.api_Ratio v d p):∃ x:Int × Int,v=.agg #[.int .i64 x.1,.int .i64 x.2]∧fitR x:=by
 obtain ⟨cs,rfl,a0⟩:=open_flat Tryz.underlying26 (by kernel_rfl) hv h
 rw [ftRatio] at a0
 obtain ⟨c1,cs1,rfl,h1,a1⟩:=a0.c
 obtain ⟨n,rfl,hn⟩:=h1.i64 Tryz.underlying2
 obtain ⟨c2,cs2,rfl,h2,a2⟩:=a1.c
 obtain ⟨m,rfl,hm⟩:=h2.i64 Tryz.underlying2
 have e:=a2.n; subst e
 exact ⟨(n,m),rfl,hn,hm⟩
def fitF (f:List (Int × Int × Int)):Prop:=(∀ x∈f,inI x.1∧inI x.2.1∧inI x.2.2)∧f.length≤9223372036854775807
theorem openField (hv:Value.okWide Tryz.prog w r b0 T.api_Field v) (h:DataW.Trod enc Tryz.prog w base spare held T.api_Field v d p):∃ (u:Slc) (f:List (Int × Int × Int)),v=.agg #[u.v]∧Rd 3 fD (HW w) u f∧fitF f:=by
 obtain ⟨cs,rfl,a0⟩:=open_flat Tryz.underlying24 (by kernel_rfl) hv h
 rw [ftField] at a0
 obtain ⟨c1,cs1,rfl,h1,a1⟩:=a0.c
 obtain ⟨u,xs,rfl,hr,hx,hl⟩:=lfPoints h1
 have e:=a1.n; subst e
 exact ⟨u,xs,rfl,hr,hx,hl⟩
end
theorem _root_.Go.Eng.Rd.chg2 {α:Type} {k:Nat} {f:α→List Value} {H H':Hp} {u v v':Slc} {xs:List α} (h:Rd k f H u xs) (hc:Chg2 H H' v v') (h1:Sep u v) (h2:Sep u v'):Rd k f H' u xs:=by
 refine ⟨h.len,h.cap,h.isS,fun i x hx j w hw=>?_⟩
 have hi:u.a.isSome=true:=h.isS fun e=>by subst e; simp at hx
 cases ha:u.a with
 | none=>simp [ha] at hi
 | some p =>
  have hcl:=h.cell i x hx j w hw
  rw [ha] at hcl
  rw [Hp.at_eq (H:=H)]
  ·exact hcl
  ·refine hc _ (fun hn=>?_) (fun q hq e=>h1 p q ha hq (by rw [e]; exact (eaddr_block rfl).symm)) fun q hq e=>h2 p q ha hq (by rw [e]; exact (eaddr_block rfl).symm)
   unfold Hp.at at hcl; rw [hn] at hcl; cases hcl

end Go.Proofs.YtlbdpklikfddlaaGreat
end
section
/- Agendas that came in. Conditions: none. -/
set_option maxRecDepth 100000
open Go Go.Eng Go.Proofs
open Go.ChangeShapes Go.WideShapes Go.Deep Go.RowKit
namespace Go.Proofs.YtlbdpklikfddlaaGreat
section
variable {H:Type} {enc:TypeId × Value→H} {w:World} {base:Nat} {spare:Nat→Bool} {held:Bool} {r:Reach} {b0:Nat} {v c:Value} {d:DataW H} {p:List MemPlace}
end
end Go.Proofs.YtlbdpklikfddlaaGreat
end
section
/- Clocks that came in. Conditions: none. -/
set_option maxRecDepth 100000
open Go Go.Eng Go.Proofs
open Go.ChangeShapes Go.WideShapes Go.Deep Go.RowKit
namespace Go.Proofs.YtlbdpklikfddlaaGreat
section
variable {H:Type} {enc:TypeId × Value→H} {w:World} {base:Nat} {spare:Nat→Bool} {held:Bool} {r:Reach} {b0:Nat} {v c:Value} {d:DataW H} {p:List MemPlace}
end
end Go.Proofs.YtlbdpklikfddlaaGreat
end
section
/- Lists that came in. Conditions: none. -/
set_option maxRecDepth 100000
open Go Go.Eng Go.Proofs
open Go.ChangeShapes Go.WideShapes Go.Deep Go.RowKit
namespace Go.Proofs.YtlbdpklikfddlaaGreat
section
variable {H:Type} {enc:TypeId × Value→H} {w:World} {base:Nat} {spare:Nat→Bool} {held:Bool} {r:Reach} {b0:Nat} {v c:Value} {d:DataW H} {p:List MemPlace}
end
end Go.Proofs.YtlbdpklikfddlaaGreat
end
