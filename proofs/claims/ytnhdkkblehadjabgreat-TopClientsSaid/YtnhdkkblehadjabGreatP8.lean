/- The engine, parts SO, CO, G9, AO, CKO, MO, put together. Conditions: none. -/
import Derived.Test.YtnhdkkblehadjabGreatP1
import Derived.Test.YtnhdkkblehadjabGreatBri
import Derived.Test.YtnhdkkblehadjabGreatP3
import Derived.Test.YtnhdkkblehadjabGreatP6
import Derived.Test.YtnhdkkblehadjabGreatPL1
import Derived.Test.YtnhdkkblehadjabGreatPM2
set_option linter.unusedVariables false
section
/- Tables and handles that came in. Conditions: none. -/
set_option maxRecDepth 100000
open Go Go.Eng Go.Proofs
open Go.ChangeShapes Go.WideShapes Go.Deep Go.RowKit
namespace Go.Proofs.YtnhdkkblehadjabGreat
section
variable {H:Type} {enc:TypeId×Value->H} {w:World} {base:Nat} {spare:Nat->Bool} {held:Bool} {r:Reach} {b0:Nat} {v c:Value} {d:DataW H} {p:List MemPlace}

end
end Go.Proofs.YtnhdkkblehadjabGreat
end
section
/- Certificates,fields,times and agendas that came in. Conditions: none. -/
set_option maxRecDepth 100000
open Go Go.Eng Go.Proofs
open Go.ChangeShapes Go.WideShapes Go.Deep Go.RowKit
namespace Go.Proofs.YtnhdkkblehadjabGreat
theorem zyq:zy5 Tryz.prog 9 T.api_Ratio=[2,2]:=by kernel_rfl
theorem zyp:zy5 Tryz.prog 9 T.api_Point=[3,2,2]:=by kernel_rfl
theorem zyk:zy5 Tryz.prog 9 T.api_Field=[22]:=by kernel_rfl
section
variable {H:Type} {enc:TypeId×Value->H} {w:World} {base:Nat} {spare:Nat->Bool} {held:Bool} {r:Reach} {b0:Nat} {v c:Value} {d:DataW H} {p:List MemPlace}

theorem zy3{cs:List Value}(h:z06 (Lf enc Tryz.prog w base spare held) (zy5 Tryz.prog 9 T.api_Point) cs):∃x:Int×Int×Int,cs=fD x/\(inI x.1/\inI x.2.1/\inI x.2.2):=by
 have a0:=h;rw[zyp] at a0
 obtain⟨c1,cs1,rfl,h1,a1⟩:=a0.c
 obtain⟨n,rfl,hn⟩:=h1.i64 Tryz.underlying3
 obtain⟨c2,cs2,rfl,h2,a2⟩:=a1.c
 obtain⟨m,rfl,hm⟩:=h2.i64 Tryz.underlying2
 obtain⟨c3,cs3,rfl,h3,a3⟩:=a2.c
 obtain⟨l,rfl,hl⟩:=h3.i64 Tryz.underlying2
 have e:=a3.n;subst e
 exact⟨(n,m,l),rfl,hn,hm,hl⟩
theorem y7t(h:Lf enc Tryz.prog w base spare held T.s_api_Point c):∃(u:Slc)(xs:List (Int×Int×Int)),c=u.v/\Rd 3 fD (HW w) u xs/\(∀x∈xs,inI x.1/\inI x.2.1/\inI x.2.2)/\xs.length<=9223372036854775807 :=
 h.slice (k:=3) (f:=fD) Tryz.underlying22 (by kernel_rfl) (by kernel_rfl) λ_=>zy3
theorem yhy(hv:Value.okWide Tryz.prog w r b0 T.api_Ratio v)(h:DataW.Trod enc Tryz.prog w base spare held T.api_Ratio v d p):∃x:Int×Int,v=.agg #[.int .i64 x.1,.int .i64 x.2]/\zxh x:=by
 obtain⟨cs,rfl,a0⟩:=yi1 Tryz.underlying26 (by kernel_rfl) hv h
 rw[zyq] at a0
 obtain⟨c1,cs1,rfl,h1,a1⟩:=a0.c
 obtain⟨n,rfl,hn⟩:=h1.i64 Tryz.underlying2
 obtain⟨c2,cs2,rfl,h2,a2⟩:=a1.c
 obtain⟨m,rfl,hm⟩:=h2.i64 Tryz.underlying2
 have e:=a2.n;subst e
 exact⟨(n,m),rfl,hn,hm⟩
def zx8(f:List (Int×Int×Int)):Prop:=(∀x∈f,inI x.1/\inI x.2.1/\inI x.2.2)/\f.length<=9223372036854775807
theorem yhp(hv:Value.okWide Tryz.prog w r b0 T.api_Field v)(h:DataW.Trod enc Tryz.prog w base spare held T.api_Field v d p):∃(u:Slc)(f:List (Int×Int×Int)),v=.agg #[u.v]/\Rd 3 fD (HW w) u f/\zx8 f:=by
 obtain⟨cs,rfl,a0⟩:=yi1 Tryz.underlying24 (by kernel_rfl) hv h
 rw[zyk] at a0
 obtain⟨c1,cs1,rfl,h1,a1⟩:=a0.c
 obtain⟨u,xs,rfl,hr,hx,hl⟩:=y7t h1
 have e:=a1.n;subst e
 exact⟨u,xs,rfl,hr,hx,hl⟩
end
theorem _root_.Go.Eng.Rd.chg2{α:Type}{k:Nat}{f:α->List Value}{H H':Hp}{u v v':Slc}{xs:List α}(h:Rd k f H u xs)(hc:z0k H H' v v')(h1:Sep u v)(h2:Sep u v'):Rd k f H' u xs:=by
 refine⟨h.len,h.cap,h.isS,λi x hx j w hw=>?_⟩
 have hi:u.a.isSome=true:=h.isS λe=>by subst e;simp at hx
 cases ha:u.a with
 | none=>simp[ha] at hi
 | some p =>
  have hcl:=h.cell i x hx j w hw
  rw[ha] at hcl
  rw[Hp.at_eq (H:=H)]
  ·exact hcl
  ·refine hc _ (λhn=>?_) (λq hq e=>h1 p q ha hq (by rw[e];exact(zrs rfl).symm)) λq hq e=>h2 p q ha hq (by rw[e];exact(zrs rfl).symm)
   unfold Hp.at at hcl;rw[hn] at hcl;cases hcl

end Go.Proofs.YtnhdkkblehadjabGreat
end
section
/- Agendas that came in. Conditions: none. -/
set_option maxRecDepth 100000
open Go Go.Eng Go.Proofs
open Go.ChangeShapes Go.WideShapes Go.Deep Go.RowKit
namespace Go.Proofs.YtnhdkkblehadjabGreat
section
variable {H:Type} {enc:TypeId×Value->H} {w:World} {base:Nat} {spare:Nat->Bool} {held:Bool} {r:Reach} {b0:Nat} {v c:Value} {d:DataW H} {p:List MemPlace}
end
end Go.Proofs.YtnhdkkblehadjabGreat
end
section
/- Clocks that came in. Conditions: none. -/
set_option maxRecDepth 100000
open Go Go.Eng Go.Proofs
open Go.ChangeShapes Go.WideShapes Go.Deep Go.RowKit
namespace Go.Proofs.YtnhdkkblehadjabGreat
section
variable {H:Type} {enc:TypeId×Value->H} {w:World} {base:Nat} {spare:Nat->Bool} {held:Bool} {r:Reach} {b0:Nat} {v c:Value} {d:DataW H} {p:List MemPlace}
end
end Go.Proofs.YtnhdkkblehadjabGreat
end
section
/- Lists that came in. Conditions: none. -/
set_option maxRecDepth 100000
open Go Go.Eng Go.Proofs
open Go.ChangeShapes Go.WideShapes Go.Deep Go.RowKit
namespace Go.Proofs.YtnhdkkblehadjabGreat
section
variable {H:Type} {enc:TypeId×Value->H} {w:World} {base:Nat} {spare:Nat->Bool} {held:Bool} {r:Reach} {b0:Nat} {v c:Value} {d:DataW H} {p:List MemPlace}
end
end Go.Proofs.YtnhdkkblehadjabGreat
end
