/- The engine, parts SO, CO, OP, G9, AO, CKO, MO, put together. Conditions: none. -/
import Derived.Test.YtnhdkkblehadjaaGreatBri
import Derived.Test.YtnhdkkblehadjaaGreatPM2
set_option linter.unusedVariables false
section
set_option maxRecDepth 100000
open Go Go.Eng Go.Proofs
open Go.ChangeShapes Go.WideShapes Go.Deep Go.RowKit
namespace Go.Proofs.YtnhdkkblehadjaaGreat
section
variable{H:Type}{enc:TypeId×Value->H}{w:World}{base:Nat}{spare:Nat->Bool}{held:Bool}{r:Reach}{b0:Nat}{v c:Value}{d:DataW H}{p:List MemPlace}
end
end Go.Proofs.YtnhdkkblehadjaaGreat
end
section
set_option maxRecDepth 100000
open Go Go.Eng Go.Proofs
open Go.ChangeShapes Go.WideShapes Go.Deep Go.RowKit
namespace Go.Proofs.YtnhdkkblehadjaaGreat
theorem y0x:y0b Tryz.prog 9 T.api_Ratio=[2,2]:=by kernel_rfl
theorem y0w:y0b Tryz.prog 9 T.api_Point=[3,2,2]:=by kernel_rfl
theorem y0q:y0b Tryz.prog 9 T.api_Field=[22]:=by kernel_rfl
section
variable{H:Type}{enc:TypeId×Value->H}{w:World}{base:Nat}{spare:Nat->Bool}{held:Bool}{r:Reach}{b0:Nat}{v c:Value}{d:DataW H}{p:List MemPlace}
theorem y09{cs:List Value}(h:z06 (Lf enc Tryz.prog w base spare held) (y0b Tryz.prog 9 T.api_Point) cs):∃x:Int×Int×Int,cs=fD x/\(inI x.1/\inI x.2.1/\inI x.2.2):=by
 have a0:=h;rw[y0w] at a0;obtain⟨c1,cs1,rfl,h1,a1⟩:=a0.c;obtain⟨n,rfl,hn⟩:=h1.i64 Tryz.underlying3;obtain⟨c2,cs2,rfl,h2,a2⟩:=a1.c;obtain⟨m,rfl,hm⟩:=h2.i64 Tryz.underlying2;obtain⟨c3,cs3,rfl,h3,a3⟩:=a2.c;obtain⟨l,rfl,hl⟩:=h3.i64 Tryz.underlying2;have e:=a3.n;subst e;exact⟨(n,m,l),rfl,hn,hm,hl⟩
theorem yav(h:Lf enc Tryz.prog w base spare held T.s_api_Point c):∃(u:Slc)(xs:List (Int×Int×Int)),c=u.v/\Rd 3 fD (HW w) u xs/\(∀x∈xs,inI x.1/\inI x.2.1/\inI x.2.2)/\xs.length<=9223372036854775807 :=
 h.slice (k:=3) (f:=fD) Tryz.underlying22 (by kernel_rfl) (by kernel_rfl) λ_=>y09
theorem yl2(hv:Value.okWide Tryz.prog w r b0 T.api_Ratio v)(h:DataW.Trod enc Tryz.prog w base spare held T.api_Ratio v d p):∃x:Int×Int,v=.agg #[vi x.1,vi x.2]/\zzn x:=by
 obtain⟨cs,rfl,a0⟩:=yl5 Tryz.underlying26 (by kernel_rfl) hv h;rw[y0x] at a0;obtain⟨c1,cs1,rfl,h1,a1⟩:=a0.c;obtain⟨n,rfl,hn⟩:=h1.i64 Tryz.underlying2;obtain⟨c2,cs2,rfl,h2,a2⟩:=a1.c;obtain⟨m,rfl,hm⟩:=h2.i64 Tryz.underlying2;have e:=a2.n;subst e;exact⟨(n,m),rfl,hn,hm⟩
def zzd(f:List (Int×Int×Int)):Prop:=(∀x∈f,inI x.1/\inI x.2.1/\inI x.2.2)/\f.length<=9223372036854775807
theorem yks(hv:Value.okWide Tryz.prog w r b0 T.api_Field v)(h:DataW.Trod enc Tryz.prog w base spare held T.api_Field v d p):∃(u:Slc)(f:List (Int×Int×Int)),v=.agg #[u.v]/\Rd 3 fD (HW w) u f/\zzd f:=by
 obtain⟨cs,rfl,a0⟩:=yl5 Tryz.underlying24 (by kernel_rfl) hv h;rw[y0q] at a0;obtain⟨c1,cs1,rfl,h1,a1⟩:=a0.c;obtain⟨u,xs,rfl,hr,hx,hl⟩:=yav h1;have e:=a1.n;subst e;exact⟨u,xs,rfl,hr,hx,hl⟩
end
end Go.Proofs.YtnhdkkblehadjaaGreat
end
section
set_option maxRecDepth 100000
open Go Go.Eng Go.Proofs
open Go.ChangeShapes Go.WideShapes Go.Deep Go.RowKit
namespace Go.Proofs.YtnhdkkblehadjaaGreat
variable{H':Hp}{u:Slc}
section
variable{H:Type}{enc:TypeId×Value->H}{w:World}{base:Nat}{spare:Nat->Bool}{held:Bool}{r:Reach}{b0:Nat}{v c:Value}{d:DataW H}{p:List MemPlace}
theorem yl0(hv:Value.okWide Tryz.prog w r b0 T.api_Point v)(h:DataW.Trod enc Tryz.prog w base spare held T.api_Point v d p):∃x:Pt,v=.agg #[vi x.1,vi x.2.1,vi x.2.2]/\(inI x.1/\inI x.2.1/\inI x.2.2):=by
 obtain⟨cs,rfl,a0⟩:=yl5 Tryz.underlying28 (by kernel_rfl) hv h;obtain⟨x,rfl,hx⟩:=y09 a0;exact⟨x,rfl,hx⟩
end
theorem _root_.Go.Eng.Rd.chg2{α:Type}{k:Nat}{f:α->List Value}{H:Hp}{v v':Slc}{xs:List α}(h:Rd k f H u xs)(hc:z0i H H' v v')(h1:Sep u v)(h2:Sep u v'):Rd k f H' u xs:=by
 refine⟨h.len,h.cap,h.isS,λi x hx j w hw=>?_⟩;have hi:u.a.isSome=true:=h.isS λe=>by subst e;simp at hx
 cases ha:u.a with
 | none=>simp[ha] at hi
 | some p =>
  have hcl:=h.cell i x hx j w hw;rw[ha] at hcl;rw[Hp.at_eq (H:=H)]
  ·exact hcl
  ·refine hc _ (λhn=>?_) (λq hq e=>h1 p q ha hq (by rw[e];exact(zu5 rfl).symm)) λq hq e=>h2 p q ha hq (by rw[e];exact(zu5 rfl).symm)
   unfold Hp.at at hcl;rw[hn] at hcl;cases hcl
theorem z1c.keep{H0 H:Hp}{v1 v2 v3 v4 v5 w:Slc}{a:Ag}(n:z1c H0 H v1 v2 v3 v4 v5 a)(c:z0i H H' u w)(hu:Old H0 u)(hw:Old H0 w):RdA H' v1 v2 v3 v4 v5 a:=by
 have r:=n.rd;have s:∀{x:Slc},New H0 x->Sep x u/\Sep x w:=λhx=>⟨(Sep.of hu hx).symm,(Sep.of hw hx).symm⟩
 have s1:=s n.tb.uses.isNew;have s2:=s n.tb.used.isNew;have s3:=s n.tb.free.isNew;have s4:=s n.heap.isNew;have s5:=s n.wh.isNew;exact⟨⟨Rd.chg2 r.tb.uses c s1.1 s1.2,Rd.chg2 r.tb.used c s2.1 s2.2,Rd.chg2 r.tb.free c s3.1 s3.2⟩,Rd.chg2 r.heap c s4.1 s4.2,Rd.chg2 r.wh c s5.1 s5.2⟩
end Go.Proofs.YtnhdkkblehadjaaGreat
end
section
set_option maxRecDepth 100000
open Go Go.Eng Go.Proofs
open Go.ChangeShapes Go.WideShapes Go.Deep Go.RowKit
namespace Go.Proofs.YtnhdkkblehadjaaGreat
section
variable{H:Type}{enc:TypeId×Value->H}{w:World}{base:Nat}{spare:Nat->Bool}{held:Bool}{r:Reach}{b0:Nat}{v c:Value}{d:DataW H}{p:List MemPlace}
end
end Go.Proofs.YtnhdkkblehadjaaGreat
end
section
set_option maxRecDepth 100000
open Go Go.Eng Go.Proofs
open Go.ChangeShapes Go.WideShapes Go.Deep Go.RowKit
namespace Go.Proofs.YtnhdkkblehadjaaGreat
section
variable{H:Type}{enc:TypeId×Value->H}{w:World}{base:Nat}{spare:Nat->Bool}{held:Bool}{r:Reach}{b0:Nat}{v c:Value}{d:DataW H}{p:List MemPlace}
end
end Go.Proofs.YtnhdkkblehadjaaGreat
end
section
set_option maxRecDepth 100000
open Go Go.Eng Go.Proofs
open Go.ChangeShapes Go.WideShapes Go.Deep Go.RowKit
namespace Go.Proofs.YtnhdkkblehadjaaGreat
section
variable{H:Type}{enc:TypeId×Value->H}{w:World}{base:Nat}{spare:Nat->Bool}{held:Bool}{r:Reach}{b0:Nat}{v c:Value}{d:DataW H}{p:List MemPlace}
end
