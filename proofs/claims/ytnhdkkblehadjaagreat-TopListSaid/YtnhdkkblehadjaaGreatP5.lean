/- The engine, parts C5, C6, C7, C8, put together. Conditions: none. -/
import Derived.Test.YtnhdkkblehadjaaGreatP4
open Bool renaming not_eq_true'->Qa,eq_iff_iff->Qb
open Int renaming toNat_natCast->Qc,neg_mul->Qd
open List renaming getElem?_eq_some_iff->Qe,getD_eq_getElem?_getD->Qg,all_eq_true->Qh
set_option linter.unusedVariables false
section
set_option maxRecDepth 100000
open Go Go.Eng Go.Proofs
namespace Go.Proofs.YtnhdkkblehadjaaGreat
variable{c:Ct}{f:List Pt}{H:Hp}{x:Int×Int×Int}
def y8l(c:Ct)(f:List Pt):Bool:=c.list.all λh=>!(decide (yr5 f h.2.1<0))&&!(decide (yr5 f h.2.2<0))
theorem yra{id:Int}(h:0<=yr5 f id):yr5 f id<f.length/\f[(yr5 f id).toNat]?=some (gP f (yr5 f id))/\(gP f (yr5 f id)).1=id:=by
 unfold yr5 at *
 unfold idx at *
 split at h
 ·rename_i ha;rw[Zp ha];have hl:f.findIdx (λp=>p.1==id)<f.length:=by rw[List.findIdx_lt_length];simpa using ha
  refine⟨by omega,y3h (by omega) (by omega),?_⟩;have:=List.findIdx_getElem (xs:=f) (p:=λp:Pt=>p.1==id) (w:=hl);unfold gP;rw[Qc,Qg,List.getElem?_eq_getElem hl];simpa using this
 ·omega
theorem yw1{u w:Slc}(h:Rd 3 fD H u c.list)(hf:Rd 3 fD H w f)(hl:c.list.length<=1000000000)(hlf:f.length<=1000000000) :
    qF F.f89 #[.agg #[vi c.next,u.v],.agg #[w.v]] H (.bool (y8l c f)):=by
  have lu:=h.len;refine vc89 (upto (N:=c.list.length) (J:=λi=>∀y∈c.list.take i.toNat,(!(decide (yr5 f y.2.1<0))&&!(decide (yr5 f y.2.2<0)))=true) (by omega) (by simp) λi i0 i1 i2=>⟨λhn=>?_,λhn=>⟨?_,Hp.le_refl _⟩⟩)
  · have hn:i<c.list.length:=by have:i<u.n:=by simpa using hn
                                omega
    have hg:=y3h (d:=((0:Int),(0:Int),(0:Int))) i0 hn;have h2:=h.gD2 i0 hn;generalize c.list.getD i.toNat (0,0,0)=x at hg h2;refine⟨h.inS i0 hn,_,by rw[add_zero'];exact h2.1,_,yvu hf hlf,λ_=>h.inS i0 hn,_,λ_=>by rw[add_zero'];exact h2.2,_,λ_=>yvu hf hlf,λhb=>⟨?_,Hp.le_refl _⟩,λhb=>upto.nx i0 hn (by omega) ?_⟩
    · have:y8l c f=false:=by
        unfold y8l;rw[List.all_eq_false];refine⟨x,List.mem_of_getElem? hg,?_⟩;simp at hb ⊢;intro h1;rcases hb with hb|hb <;> omega
      rw[this]
    · rw[show (i+1).toNat=i.toNat+1 by omega,x88 hg]
      intro y hy;rcases List.mem_append.1 hy with hy|hy
      · exact i2 y hy
      · simp only[List.mem_singleton] at hy;subst hy
        simp at hb ⊢;exact hb
  · have:i=c.list.length:=by have:¬ i<u.n:=by simpa using hn
                             omega
    subst this;rw[Qc,List.take_length] at i2;have:y8l c f=true:=Qh.2 i2;rw[this]
theorem y8n(h:y8l c f=true)(hx:x∈c.list):0<=yr5 f x.2.1/\0<=yr5 f x.2.2:=by
 have:=Qh.1 h x hx;simp at this;exact this
theorem yvc{H':Hp}{b:Nat}{xs:List Int}{cs:Array Value}{n:Nat}{e:TypeId}(h:H'=H.put b (.cells cs e (0,0)))(hc:cs=(xs.flatMap fI).toArray)(hn:n=xs.length):RdI H' ⟨some ⟨b,0,none⟩,n,n⟩ xs :=
 yva (k:=1) (f:=fI) (λ_=>rfl) h hc hn
theorem y2o(ok:okC c){i:Nat}(hx:c.list[i]?=some x):atC c x.1=i/\y2n c x.1=(x.2,0):=by
 have hlt:i<c.list.length:=(Qe.1 hx).1;have e:atC c x.1=i:=by
  refine y5s hx (by simp) λy hy=>?_
  obtain⟨j,hj,ey⟩:=List.mem_take_iff_getElem.1 hy;have hij:j<i:=by omega
  have:=List.pairwise_iff_getElem.1 ok.ok.inc j i (by omega) hlt hij;rw[(Qe.1 hx).2,ey] at this;rw[beq_eq_false_iff_ne];omega
 refine⟨e,?_⟩;unfold y2n;rw[Zp ok,Zn (by omega),e];have:y2r c.list (i:Int)=x:=by unfold y2r;rw[Qc,Qg,hx];try rfl
 rw[this]
theorem okL.up{nx:Int}{l:List (Int×Int×Int)}(h:okL nx l):okL (nx+1) l:=⟨λx hx=>by have:=h.each x hx;exact⟨this.1,this.2.1,by omega⟩,h.inc,h.dist⟩
theorem yjz{x:Int×Int}(ok:okC c)(hx:xb5 x=true)(hh:y44 c x=false)(h1:c.list.length<200)(h2:c.next<1000000):okC ⟨c.next+1,c.list++[(c.next,x)]⟩:=by
 have:=ok.n0;refine⟨by simp;omega,by show 0<=c.next+1;omega,by show c.next+1<=1000000;omega,okL.snoc.2 ⟨okL.up ok.ok,hx,this,by show c.next<c.next+1;omega,λy hy=>(ok.ok.each y hy).2.2,λhm=>?_⟩⟩;obtain⟨y,hy,e⟩:=List.mem_map.1 hm;have:y44 c x=true:=List.any_eq_true.2 ⟨y,hy,by rw[beq_iff_eq];exact e⟩;rw[hh] at this;cases this
theorem yk0(ok:okC c)(n:Int):okC (xce c n):=by
 have hs:(xce c n).list.Sublist c.list:=List.filter_sublist;have:=hs.length_le;have:=ok.len;exact⟨by omega,ok.n0,ok.n1,λx hx=>ok.ok.each x (hs.subset hx),ok.ok.inc.sublist hs,ok.ok.dist.sublist (hs.map _)⟩
theorem xcg{n:Int}(h:(y2n c n).2=0):((xce c n).list.length:Int)=c.list.length-1:=by
 obtain⟨ok,g0,g1,gn,ge⟩:=y2q h;have hg:=y3h (d:=((0:Int),(0:Int),(0:Int))) g0 g1;have hw:=zyd ok.ok.inc hg;have e:(xce c n).list=c.list.take (atC c n).toNat++c.list.drop ((atC c n).toNat+1):=by
  rw[hw];unfold xce;simp only;congr 1;funext y;have:(c.list.getD (atC c n).toNat (0,0,0)).1=n:=gn;rw[this]
 rw[e];simp;omega
theorem z3h{x:Int×Int}(h:(z3e c x).2.2=0):okC c/\xb5 x=true/\y44 c x=false/\c.list.length<200/\c.next<1000000/\z3e c x=(⟨c.next+1,c.list++[(c.next,x)]⟩,c.next,0):=by
 unfold z3e at *
 split at h
 ·rename_i h1;rw[Zp h1];split at h
  ·cases h
  ·rename_i h2;rw[Zn h2];split at h
   ·cases h
   ·rename_i h3;rw[Zn h3];have:=h1.1.len;have:=h1.1.n1;exact⟨h1.1,h1.2,by simpa using h2,by omega,by omega,rfl⟩
 ·cases h
theorem zxi(p q:Pt)(t:Int×Int):zxg q p t = - zxg p q t:=by
 unfold zxg;have e1:(q.2.1-p.2.1)*t.2 = -((p.2.1-q.2.1)*t.2):=by rw[← Qd];congr 1;omega
 have e2:(q.2.2-p.2.2)*t.1 = -((p.2.2-q.2.2)*t.1):=by rw[← Qd];congr 1;omega
 rw[e1,e2];omega
theorem y9q{p q:Pt}(t:Int×Int)(h:p.1≠q.1):leads q p t = !leads p q t:=by
 unfold leads;rw[zxi p q t];by_cases h1:zxg p q t=0
 ·rw[Zn (show ¬ (-zxg p q t≠0) by omega),Zn (show ¬ (zxg p q t≠0) by omega)];by_cases h2:p.2.2=q.2.2
  ·rw[Zn (show ¬ (q.2.2≠p.2.2) by omega),Zn (show ¬ (p.2.2≠q.2.2) by omega),Qb,Qa,Zq,Zt];omega
  ·rw[Zp (show q.2.2≠p.2.2 by omega),Zp (show p.2.2≠q.2.2 by omega),Qb,Qa,Zq,Zt];omega
 ·rw[Zp (show -zxg p q t≠0 by omega),Zp h1,Qb,Qa,Zq,Zt];omega
