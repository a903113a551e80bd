/- The engine, parts C1, C2, C3, C4, put together. Conditions: none. -/
import Derived.Test.YtnhdkkblehadjaaGreatP1
import Derived.Test.YtnhdkkblehadjaaGreatE5
import Derived.Test.YtnhdkkblehadjaaGreatVgCert
import Derived.Test.YtnhdkkblehadjaaGreatVgBase
open Bool renaming and_eq_true->Qa,eq_iff_iff->Qb,or_eq_true->Qc,or_eq_false_iff->Qd,not_eq_false'->Qe,not_eq_true'->Qg
open Int renaming toNat_natCast->Qh,le_refl->Qi,toNat_of_nonneg->Qj,toNat->Ql
open List renaming getElem?_eq_some_iff->Qm,take_length->Qn,mem_singleton->Qo,mem_append->Qp,pairwise_iff_getElem->Qq,mem_map->Qr,map_cons->Qs
set_option linter.unusedVariables false
section
open Go Go.Eng Go.Proofs
namespace Go.Proofs.YtnhdkkblehadjaaGreat
variable{H:Hp}{x:Int}{u:Slc}{c:Ct}
theorem y78:qF F.f226 #[vi x] H (.bool false):=vc226 ⟨by simp,Hp.le_refl _⟩
theorem zrk{y:Int}:qF F.f178 #[vi x,vi y] H (vi (zoo x y)):=by
 refine vc178 ⟨_,y78,_,y78,λh=>(by cases h),λ_=>⟨λh=>(by cases h),λ_=>⟨λh=>⟨?_,Hp.le_refl _⟩,λh=>⟨λh'=>⟨?_,Hp.le_refl _⟩,λh'=>⟨?_,Hp.le_refl _⟩⟩⟩⟩⟩
 ·have:x<y:=by simpa using h
  unfold zoo;rw[Zp this]
 ·have h1:¬ x<y:=by simpa using h
  have h2:x>y:=by simpa using h'
  unfold zoo;rw[Zn h1,Zp h2]
 ·have h1:¬ x<y:=by simpa using h
  have h2:¬ x>y:=by simpa using h'
  unfold zoo;rw[Zn h1,Zn h2]
theorem zcu{x:Int×Int}:qF F.f173 #[.agg #[vi x.1,vi x.2]] H (.bool (xb5 x)):=by
 refine vc173 ⟨?_,Hp.le_refl _⟩;congr 1;rw[Qb];simp only[xb5,Qa,Zq,bne_iff_ne];split <;> split <;> omega
theorem yvp{x:Int×Int}:qF F.f143 #[.agg #[vi x.1,vi x.2]] H (.bool (xb5 x)):=by
 refine vc143 ⟨?_,Hp.le_refl _⟩;congr 1
theorem znv{s:Slc}{xs:List (Int×Int×Int)}(hs:Rd 3 fD H s xs)(hl:xs.length<=1000000000) :
  fN F.f129 #[s.v] H λv H'=>∃u:Slc,v=u.v/\Hp.le H H'/\Mine 3 fD T.api_Held H H' u xs :=
 vc129 (zo0 (k:=3) (f:=fD) (bytes:=24) (by kernel_rfl) (by decide) (λ_=>rfl) hs (by omega) (by omega))
theorem zcb(h:Rd 3 fD H u c.list):qF F.f126 #[.agg #[vi c.next,u.v]] H (vi (zla c)):=by
  have lu:=h.len;have K:KL Tryz.prog T.api_Cert (λx:Int×Int=>Value.agg #[vi x.1,vi x.2]):=KL.pair (t:=T.int) Tryz.underlying112 rfl rfl Tryz.underlying3 rfl rfl (by decide) (by decide) (by kernel_rfl) (by kernel_rfl);refine vc126 ⟨λhc=>⟨?_,Hp.le_refl _⟩,λhc b1 H2 hb1 hH2=>?_⟩
  · rw[zlb]
    intro ok;have:=ok.len;have:=ok.n0;have:=ok.n1;simp at hc;omega
  · simp at hc
    have le2:Hp.le H H2:=Hp.le_new (Hp.le_refl _) hb1 hH2;refine⟨λlast n H'=>0<=n/\n<=c.list.length/\Hp.le H H'/\okL c.next (c.list.take n.toNat)/\(∀y∈c.list.take n.toNat,y.1<=last)/\(last = -1\/∃y∈c.list.take n.toNat,y.1=last) /\
        z16 (λx:Int×Int=>Value.agg #[vi x.1,vi x.2]) H' b1 ((c.list.take n.toNat).map λy=>(y.2,Value.bool true)),
      λ_ n _=>(c.list.length-n).toNat,⟨by omega,by omega,le2,okL.nil _,by simp,.inl rfl,z16.new hH2⟩,λlast n H' ⟨i0,i1,i2,i3,i4,i5,i6⟩=>⟨λhn=>?_,λhn=>⟨?_,i2⟩⟩⟩
    · have hn:n<c.list.length:=by have:n<u.n:=by simpa using hn
                                  omega
      have hg:=y3h (d:=((0:Int),(0:Int),(0:Int))) i0 hn;refine(h.le i2).ldD i0 hn ?_;generalize c.list.getD n.toNat (0,0,0)=x at hg ⊢;have e1:(n+1).toNat=n.toNat+1:=by omega
      have hts:=x88 hg;have hget:∀y:Int×Int,y37 ((c.list.take n.toNat).map λy=>(y.2,Value.bool true)) y=if y∈(c.list.take n.toNat).map (·.2) then some (Value.bool true) else none:=λy=>by
        generalize c.list.take n.toNat=l;unfold y37;induction l with
        | nil=>rfl
        | cons p l ih =>
          rw[Qs,List.find?_cons];by_cases e:p.2=y
          · simp[e]
          · have e':¬ y=p.2:=λh=>e h.symm
            simp only[e,decide_false,Qs,List.mem_cons,e',false_or];exact ih
      refine⟨_,zcu (x:=x.2),decide (x.2∈(c.list.take n.toNat).map (·.2)),λ_=>?_,λhb=>⟨?_,i2⟩,λhb=>?_⟩
      · have:=K.look (t:=T.map_api_Cert_bool) (e:=T.bool) (x:=x.2) (z:=.bool false) Tryz.underlying288 (by kernel_rfl) i6
        rw[hget] at this;by_cases e:x.2∈(c.list.take n.toNat).map (·.2)
        · rw[Zp e] at this;rw[Zu e];exact this
        · rw[Zn e] at this;rw[Zv e];exact this
      · rw[zlb]
        intro ok;have hp:=ok.ok.take (n.toNat+1);rw[hts,okL.snoc] at hp;obtain⟨p1,p2,p3,p4,p5,p6⟩:=hp;simp only[Qc,Qg,Zq] at hb;rcases hb with((hb|hb)|hb)|hb
        · rw[p2] at hb;cases hb
        · exact p6 hb
        · rcases i5 with i5|⟨y,hy,i5⟩
          · omega
          · have:=p5 y hy;omega
        · omega
      · simp only[Qd,Qe,Zt] at hb
        obtain⟨⟨⟨q1,q2⟩,q3⟩,q4⟩:=hb;have hadd:=K.add (t:=T.map_api_Cert_bool) (e:=T.bool) (x:=x.2) (v:=.bool true) Tryz.underlying288 i6 (by rw[hget,Zn q2]);refine hadd.mono λv H14 ⟨o,hH,hm⟩=>⟨v,rfl,by unfold inI;omega,⟨by omega,by omega,by subst hH;exact Hp.le_put i2 hb1,?_,λy hy=>?_,.inr ⟨x,?_,rfl⟩,?_⟩,?_⟩
        · rw[e1,hts,okL.snoc]
          refine⟨i3,q1,?_,by omega,λy hy=>by have:=i4 y hy;omega,q2⟩;rcases i5 with i5|⟨y,hy,i5⟩
          · omega
          · have:=(i3.each y hy).2.1;omega
        · rw[e1,hts] at hy
          rcases Qp.1 hy with hy|hy
          · have:=i4 y hy;omega
          · simp only[Qo] at hy;subst hy;exact Qi _
        · rw[e1,hts];simp
        · rw[e1,hts,List.map_append];exact hm
        · show ((c.list.length:Int)-(n+1)).toNat<((c.list.length:Int)-n).toNat
          omega
    · have:n=c.list.length:=by have:¬ n<u.n:=by simpa using hn
                               omega
      subst this;rw[Qh,Qn] at i3;rw[zlc ⟨by omega,by omega,by omega,i3⟩]
theorem yvq(h:Rd 3 fD H u c.list):qF F.f88 #[.agg #[vi c.next,u.v]] H (vi (zla c)):=by
  have lu:=h.len;refine vc88 ⟨λhc=>⟨?_,Hp.le_refl _⟩,λhc=>?_⟩
  · rw[zlb]
    intro ok;have:=ok.len;have:=ok.n0;have:=ok.n1;simp at hc;omega
  · simp at hc
    refine upto (N:=c.list.length) (J:=λn=>okL c.next (c.list.take n.toNat)) (by omega) (okL.nil _) λn i0 i1 i3=>⟨λhn=>?_,λhn=>⟨?_,Hp.le_refl _⟩⟩
    · have hn:n<c.list.length:=by have:n<u.n:=by simpa using hn
                                  omega
      have hg:=y3h (d:=((0:Int),(0:Int),(0:Int))) i0 hn;refine h.ldD i0 hn ?_;generalize c.list.getD n.toNat (0,0,0)=x at hg ⊢;have e1:(n+1).toNat=n.toNat+1:=by omega
      have hts:=x88 hg;have hprev:0<n->(c.list.getD (n-1).toNat (0,0,0))∈c.list.take n.toNat/\∀y∈c.list.take n.toNat,y.1<=(c.list.getD (n-1).toNat (0,0,0)).1:=λhp=>by
        have hg':=y3h (d:=((0:Int),(0:Int),(0:Int))) (i:=n-1) (by omega) (by omega:n-1<c.list.length);have hts':=x88 hg';rw[show (n-1).toNat+1=n.toNat by omega] at hts';refine⟨by rw[hts'];simp,λy hy=>?_⟩;rw[hts',okL.snoc] at i3;rw[hts'] at hy;rcases Qp.1 hy with hy|hy
        · have:=i3.2.2.2.2.1 y hy;omega
        · simp only[Qo] at hy;rw[hy];exact Qi _
      refine⟨_,yvp (x:=x.2),λ_=>by unfold inI;omega,λhb=>h.inS (by simp at hb;omega) (by omega),(c.list.getD (n-1).toNat (0,0,0)).1,λhb=>(h.gD (by simp at hb;omega) (by omega)).1,λhb=>⟨?_,Hp.le_refl _⟩,λhb=>?_⟩
      · rw[zlb]
        intro ok;have hp:=ok.ok.take (n.toNat+1);rw[hts,okL.snoc] at hp;obtain⟨p1,p2,p3,p4,p5,p6⟩:=hp;simp only[Qc,Qa,Qg,Zq] at hb;rcases hb with((hb|hb)|hb)|hb
        · rw[p2] at hb;cases hb
        · omega
        · omega
        · have:=p5 _ (hprev (by omega)).1;omega
      · simp only[Qd,Qe,Zt,Bool.and_eq_false_imp,Zq] at hb
        obtain⟨⟨⟨q1,q2⟩,q3⟩,q4⟩:=hb;refine upto (N:=n) (J:=λm=>∀y∈c.list.take m.toNat,y.2≠x.2) i0 (by simp) λm j0 j1 j2=>⟨λhm=>?_,λhm=>upto.nx i0 hn (by omega) ?_⟩
        · have hm:m<n:=by simpa using hm
          have hg2:=y3h (d:=((0:Int),(0:Int),(0:Int))) j0 (by omega:m<c.list.length);have h2:=h.gD2 j0 (by omega:m<c.list.length);generalize c.list.getD m.toNat (0,0,0)=y at hg2 h2;refine⟨h.inS j0 (by omega),_,_,h2,λhb=>⟨?_,Hp.le_refl _⟩,λhb=>upto.nx j0 hm (by omega) ?_⟩
          · rw[zlb]
            intro ok;have hp:=ok.ok.take (n.toNat+1);rw[hts,okL.snoc] at hp;refine hp.2.2.2.2.2 (Qr.2 ⟨y,?_,?_⟩)
            · exact List.mem_take_iff_getElem.2 ⟨m.toNat,by omega,(Qm.1 hg2).2⟩
            · simp only[Qa,beq_iff_eq] at hb;exact Prod.ext hb.1 hb.2
          · rw[show (m+1).toNat=m.toNat+1 by omega,x88 hg2]
            intro z hz;rcases Qp.1 hz with hz|hz
            · exact j2 z hz
            · simp only[Qo] at hz;subst hz
              intro e;rw[e] at hb;simp at hb
        · have hm:m=n:=by have:¬ m<n:=by simpa using hm
                          omega
          subst hm;rw[e1,hts,okL.snoc];refine⟨i3,q1,by omega,by omega,λy hy=>?_,λhmem=>?_⟩
          · have hp0:0<m:=by
              rcases Int.lt_or_le 0 m with h'|h'
              · exact h'
              · have:m.toNat=0:=by omega
                rw[this] at hy;simp at hy
            have:=(hprev hp0).2 y hy;have:=q4 hp0;omega
          · obtain⟨y,hy,e⟩:=Qr.1 hmem
            exact j2 y hy e
    · have:n=c.list.length:=by have:¬ n<u.n:=by simpa using hn
                               omega
      subst this;rw[Qh,Qn] at i3;rw[zlc ⟨by omega,by omega,by omega,i3⟩]
end Go.Proofs.YtnhdkkblehadjaaGreat
end
section
open Go Go.Eng Go.Proofs
namespace Go.Proofs.YtnhdkkblehadjaaGreat
variable{H H':Hp}{c:Ct}{u a b s:Slc}{x:Int×Int}{n:Int}{xs:List (Int×Int×Int)}{fv:Value}{p:Int×Int×Int->Bool}
theorem yzj{xs ys:List Int}(ha:RdI H a xs)(hb:RdI H b ys)(h63:xs.length<=1000000000):qF F.f16 #[a.v,b.v] H (.bool (xs==ys)):=by
 have la:=ha.len;have lb:=hb.len;refine vc16 ⟨λh=>⟨?_,Hp.le_refl H⟩,λh=>?_⟩
 ·have hl:(a.n:Int)≠b.n:=by simpa using h
  have:(xs==ys)=false:=by
   rw[beq_eq_false_iff_ne];intro e;subst e;omega
  rw[this]
 ·have hl:(a.n:Int)=b.n:=by simpa using h
  refine upto (N:=xs.length) (J:=λn=>xs.take n.toNat=ys.take n.toNat) (by omega) (by simp) λn h0 h1 h2=>⟨λhn=>?_,λhn=>⟨?_,Hp.le_refl _⟩⟩
  ·have hn:n<a.n:=by simpa using hn
   have gx:=y36 (xs:=xs) h0 (by omega);have gy:=y36 (xs:=ys) h0 (by omega);refine⟨ha.inN h0 hn,_,ha.get h0 (by omega),hb.inN h0 (by omega),_,hb.get h0 (by omega),λhne=>⟨?_,Hp.le_refl _⟩,λhe=>upto.nx h0 (by omega) (by omega) ?_⟩
   ·have:(xs==ys)=false:=by
     rw[beq_eq_false_iff_ne];intro e;subst e;simp at hne
    rw[this]
   ·have e:(n+1).toNat=n.toNat+1:=by omega
    rw[e];exact(x89 gx gy h2).2 (by simpa using he)
  ·have hn:n=xs.length:=by
    have:¬ n<a.n:=by simpa using hn
    omega
   subst hn;have:xs=ys:=by
    have e1:xs.take xs.length=xs:=Qn;have e2:ys.take xs.length=ys:=by
     have:xs.length=ys.length:=by omega
     rw[this];exact Qn
    rw[Qh] at h2;rw[← e1,h2,e2]
   subst this;simp
theorem yu1{d:Ct}(ha:Rd 3 fD H a c.list)(hb:Rd 3 fD H b d.list)(h63:c.list.length<=1000000000) :
  qF F.f86 #[.agg #[vi c.next,a.v],.agg #[vi d.next,b.v]] H (.bool (c==d)):=by
 have la:=ha.len;have lb:=hb.len;have hcd:(c==d)=(c.next==d.next&&c.list==d.list):=by
  rw[Qb,Qa,beq_iff_eq,beq_iff_eq,beq_iff_eq];exact⟨λe=>by subst e;exact⟨rfl,rfl⟩,λ⟨e1,e2⟩=>by cases c;cases d;simp_all⟩
 rw[hcd];refine vc86 ⟨λh=>⟨?_,Hp.le_refl H⟩,λh=>?_⟩
 ·have:(c.next==d.next&&c.list==d.list)=false:=by
   rw[Bool.and_eq_false_iff,beq_eq_false_iff_ne,beq_eq_false_iff_ne];simp only[Qc,bne_iff_ne] at h;rcases h with h|h
   ·exact .inl h
   ·exact .inr λe=>by rw[e] at la;omega
  rw[this]
 ·simp only[Qd,bne_eq_false_iff_eq] at h;obtain⟨h1,h2⟩:=h;rw[h1,beq_self_eq_true,Bool.true_and];refine upto (N:=c.list.length) (J:=λn=>c.list.take n.toNat=d.list.take n.toNat) (by omega) (by simp) λn i0 i1 i2=>⟨λhn=>?_,λhn=>⟨?_,Hp.le_refl _⟩⟩
  ·have hn:n<a.n:=by simpa using hn
   have gx:=y3h (d:=((0:Int),(0:Int),(0:Int))) i0 (by omega:n<c.list.length);have gy:=y3h (d:=((0:Int),(0:Int),(0:Int))) i0 (by omega:n<d.list.length);refine ha.ldD i0 (by omega) (hb.ldD i0 (by omega) ?_);generalize c.list.getD n.toNat (0,0,0)=x at gx ⊢;generalize d.list.getD n.toNat (0,0,0)=y at gy ⊢;refine⟨λhne=>⟨?_,Hp.le_refl _⟩,λhe=>upto.nx i0 (by omega) (by omega) ?_⟩
   ·have:(c.list==d.list)=false:=by
     rw[beq_eq_false_iff_ne];intro e;rw[e,gy] at gx;cases gx;simp at hne
    rw[this]
   ·have e:(n+1).toNat=n.toNat+1:=by omega
    rw[e];refine(x89 gx gy i2).2 ?_;simp only[Qe,Qa,beq_iff_eq] at he;obtain⟨⟨q1,q2⟩,q3⟩:=he;exact Prod.ext q1 (Prod.ext q2 q3)
  ·have hn:n=c.list.length:=by
    have:¬ n<a.n:=by simpa using hn
    omega
   subst hn;have:c.list=d.list:=by
    have e2:d.list.take c.list.length=d.list:=by
     have:c.list.length=d.list.length:=by omega
     rw[this];exact Qn
    rw[Qh,Qn,e2] at i2;exact i2
   rw[this,beq_self_eq_true]
structure z1d(H0 H:Hp)(u:Slc)(c:Ct):Prop where
 le:Hp.le H0 H
 list:Mine 3 fD T.api_Held H0 H u c.list
theorem z1d.rd{H0:Hp}(h:z1d H0 H u c):Rd 3 fD H u c.list:=h.list.rdD
theorem z1d.zero{H H':Hp}(h:Hp.le H H'):z1d H H' zs .zero:=⟨h,.inl ⟨rfl,rfl⟩⟩
theorem z1d.up{H'':Hp}(h:z1d H H' u c)(hl:Hp.le H' H''):z1d H H'' u c:=⟨Hp.le_trans h.le hl,h.list.le hl⟩
theorem z1d.low{H0 H H':Hp}{u:Slc}{c:Ct}(h:z1d H H' u c)(hl:Hp.le H0 H):z1d H0 H' u c:=⟨Hp.le_trans hl h.le,h.list.low hl⟩
theorem yu0(h:Rd 3 fD H u c.list)(hl:c.list.length<=1000000000):qF F.f45 #[.agg #[vi c.next,u.v],vi n] H (vi (atC c n)):=by
  have lu:=h.len;refine vc45 (upto (N:=c.list.length) (J:=λi=>∀y∈c.list.take i.toNat,(y.1==n)=false) (by omega) (by simp) λi i0 i1 i2=>⟨λhn=>?_,λhn=>⟨?_,Hp.le_refl _⟩⟩)
  · have hn:i<c.list.length:=by have:i<u.n:=by simpa using hn
                                omega
    have hg:=y3h (d:=((0:Int),(0:Int),(0:Int))) i0 hn;have h2:=(h.gD i0 hn).1;generalize c.list.getD i.toNat (0,0,0)=x at hg h2;refine⟨h.inS i0 hn,_,h2,λhb=>⟨?_,Hp.le_refl _⟩,λhb=>upto.nx i0 hn (by omega) ?_⟩
    · unfold atC;rw[y5s hg hb i2,Qj i0]
    · rw[show (i+1).toNat=i.toNat+1 by omega,x88 hg]
      intro y hy;rcases Qp.1 hy with hy|hy
      · exact i2 y hy
      · simp only[Qo] at hy;subst hy;exact hb
  · have:i=c.list.length:=by have:¬ i<u.n:=by simpa using hn
                             omega
    subst this;rw[Qh,Qn] at i2;unfold atC;rw[y5u i2]
theorem y67(h:Rd 3 fD H s xs)(hl:xs.length<=1000000000)
    (hf:∀x,QfV Tryz.prog fv [.agg #[vi x.1,vi x.2.1,vi x.2.2]] H (.bool (p x))):qF F.f225 #[s.v,fv] H (vi (idx p xs)):=by
  have ls:=h.len;refine vc225 (upto (N:=xs.length) (J:=λn=>∀y∈xs.take n.toNat,p y=false) (by omega) (by simp) λn h0 h1 hJ=>⟨λhn=>?_,λhn=>⟨?_,Hp.le_refl _⟩⟩)
  · have hn:n<xs.length:=by have:n<s.n:=by simpa using hn
                            omega
    have hg:=y3h (d:=((0:Int),(0:Int),(0:Int))) h0 hn;refine h.ldD h0 hn ⟨_,hf (xs.getD n.toNat (0,0,0)),?_⟩;generalize xs.getD n.toNat (0,0,0)=x at hg ⊢;refine⟨λhb=>⟨?_,Hp.le_refl _⟩,λhb=>upto.nx h0 hn (by omega) ?_⟩
    · rw[y5s hg hb hJ,Qj h0]
    · rw[show (n+1).toNat=n.toNat+1 by omega,x88 hg]
      intro y hy;rcases Qp.1 hy with hy|hy
      · exact hJ y hy
      · simp only[Qo] at hy;subst hy;exact hb
  · have:n=xs.length:=by have:¬ n<s.n:=by simpa using hn
                         omega
    subst this;rw[Qh,Qn] at hJ;rw[y5u hJ]
theorem zrn(h:Rd 3 fD H s xs)(hl:xs.length<=1000000000)
  (hf:∀x,QfV Tryz.prog fv [.agg #[vi x.1,vi x.2.1,vi x.2.2]] H (.bool (p x))):qF F.f174 #[s.v,fv] H (.bool (xs.any p)) :=
 vc174 ⟨_,y67 h hl hf,by rw[← y5r],Hp.le_refl _⟩
theorem zca{b:Nat}{h:Int×Int}{T:TypeId}(hv:H.at ((Addr.mk b 0 none).add 0)=some (vi x.1)/\H.at ((Addr.mk b 0 none).add 1)=some (vi x.2)) :
  QfV Tryz.prog (.func (.func F.f175) #[] #[.pointer (some ⟨b,0,none⟩)]) [.agg #[vi n,vi h.1,vi h.2]] H (.bool (h==x)):=by
 refine⟨F.f175,#[],_,rfl,cb175,?_⟩;exact vc175 (a3:=⟨b,0,none⟩) ⟨_,_,hv,rfl,Hp.le_refl _⟩
theorem ynf{b:Nat}{x y:Value}{T:TypeId}(h:H'=H.put b (.cells #[x,y] T (0,0))):H'.at ((Addr.mk b 0 none).add 0)=some x/\H'.at ((Addr.mk b 0 none).add 1)=some y:=by
 subst h;constructor
 ·rw[add_zero',Cel.at Cel.put];try rfl
 ·rw[Addr.add_lit,Cel.at Cel.put];try rfl
theorem z3f(h:zla c≠0):z3e c x=(.zero,0,8):=by
 unfold z3e;rw[Zn];intro ⟨h1,_⟩;exact h (zlc h1)
theorem zc9(h:Rd 3 fD H u c.list) :
  fN F.f116 #[.agg #[vi c.next,u.v],.agg #[vi x.1,vi x.2]] H λv H'=>∃a:Slc,v=.tuple #[.agg #[vi (z3e c x).1.next,a.v],vi (z3e c x).2.1,vi (z3e c x).2.2]/\z1d H H' a (z3e c x).1:=by
 have lu:=h.len;refine vc116 λb1 H2 hb1 hH2=>?_
 have le2:Hp.le H H2:=Hp.le_new (Hp.le_refl _) hb1 hH2;refine⟨_,zcb (h.le le2),λhc=>?_,λhc=>?_⟩
 ·have hc:zla c≠0:=by simpa using hc
  rw[z3f hc];have h8:zla c=8:=by unfold zla at *;split at hc <;> simp_all
  rw[h8];exact⟨zs,rfl,z1d.zero le2⟩
 have hc:zla c=0:=by simpa using hc
 have ok:=zld.1 hc;have:=ok.len;refine⟨_,_,ynf hH2,_,zcu (x:=x),λhv=>?_,λhv=>?_⟩
 ·have hv:xb5 x=false:=by simpa using hv
  have:z3e c x=(.zero,0,8):=by unfold z3e;rw[Zn (λhh=>by rw[hv] at hh;exact absurd hh.2 (by simp))]
  rw[this];exact⟨zs,rfl,z1d.zero le2⟩
 have hv:xb5 x=true:=by simpa using hv
 have e:z3e c x=(if y44 c x then (.zero,0,14) else if c.list.length=200\/c.next=1000000 then (.zero,0,18) else (⟨c.next+1,c.list++[(c.next,x)]⟩,c.next,0)):=by unfold z3e;rw[Zp ⟨ok,hv⟩]
 rw[e];refine⟨_,zrn (p:=λh=>h.2==x) (h.le le2) (by omega) (λy=>zca (T:=0) (h:=y.2) (ynf hH2)),λhb=>?_,λhb=>?_⟩
 ·rw[Zp (show y44 c x=true from hb)];exact⟨zs,rfl,z1d.zero le2⟩
 rw[Zn (by show ¬ y44 c x=true;unfold y44;rw[hb];simp)];refine⟨λhf=>?_,λhf=>?_⟩
 ·rw[Zp (by simp at hf;omega)];exact⟨zs,rfl,z1d.zero le2⟩
 rw[Zn (by simp at hf;omega)];refine⟨_,_,ynf hH2,(znv (h.le le2) (by omega)).mono λv H11 ⟨a,hv,l11,m⟩=>⟨l11,a,hv,λb13 H14 hb13 hH14=>?_⟩⟩;refine(z7b (k:=3) (f:=fD) (bytes:=24) (x:=(c.next,x)) (by kernel_rfl) (by decide) (λ_=>rfl) (λx v hv=>by simp[fD] at hv;rcases hv with rfl|rfl|rfl <;> rfl) (Hp.le_trans le2 l11) (m.low le2) hb13 hH14 rfl (by omega) (by omega)).mono λv H16 ⟨w,hw,l16,mw,_,_⟩=>?_
 have:=ok.n1;have:=ok.n0;exact⟨w,hw,by unfold inI;omega,w,rfl,l16,mw⟩
end Go.Proofs.YtnhdkkblehadjaaGreat
end
section
open Go Go.Eng Go.Proofs
namespace Go.Proofs.YtnhdkkblehadjaaGreat
variable{H:Hp}{n i t x:Int}{c:Ct}{u s:Slc}{l:List Int}{m:Nat}{xs:List (Int×Int×Int)}
theorem yf0{j:Int}(h0:0<=i)(h1:i<j)(hj:j<=1000000000):IntKind.i64.wrap ((xcl (i+j)).fdiv (2 ^ Min.min (Ql 1) IntKind.u64.bits))=(i+j)/2:=by
 have e1:xcl (i+j)=i+j:=by unfold xcl;omega
 have e2:(2:Int) ^ Min.min (Ql 1) IntKind.u64.bits=2:=by decide
 rw[e1,e2,Int.fdiv_eq_ediv_of_nonneg _ (by omega)];exact xco (by unfold inI;omega)
theorem zb1(hs:l.Pairwise (·<·))(hx:l[m]?=some x)(h:x<t):∀i y,i<m+1->l[i]?=some y->y<t:=by
 intro i y hi hy;rcases Nat.lt_or_ge i m with h'|h'
 ·have:=Qq.1 hs i m (Qm.1 hy).1 (Qm.1 hx).1 h';rw[(Qm.1 hy).2,(Qm.1 hx).2] at this;omega
 ·have:i=m:=by omega
  subst this;rw[hx] at hy;cases hy;exact h
theorem zb0(hs:l.Pairwise (·<·))(hx:l[m]?=some x)(h:t<=x):∀i y,m<=i->l[i]?=some y->t<=y:=by
 intro i y hi hy;rcases Nat.lt_or_ge m i with h'|h'
 ·have:=Qq.1 hs m i (Qm.1 hx).1 (Qm.1 hy).1 h';rw[(Qm.1 hy).2,(Qm.1 hx).2] at this;omega
 ·have:i=m:=by omega
  subst this;rw[hx] at hy;cases hy;exact h
theorem zcd{x:Int×Int×Int}:QfV Tryz.prog (.func (.func F.f189) #[] #[]) [.agg #[vi x.1,vi x.2.1,vi x.2.2],vi n] H (vi (zoo x.1 n)) :=
 ⟨F.f189,#[],_,rfl,cb189,vc189 ⟨_,zrk,rfl,Hp.le_refl _⟩⟩
theorem zb6(h:Rd 3 fD H s xs)(hs:(xs.map (·.1)).Pairwise (·<·))(hl:xs.length<=100000000) :
  qF F.f188 #[s.v,vi n,.func (.func F.f189) #[] #[]] H
   (.tuple #[vi (yrl (xs.map (·.1)) n),.bool (decide (yrl (xs.map (·.1)) n<xs.length)&&(y2r xs (yrl (xs.map (·.1)) n)).1==n)]):=by
 have ls:=h.len;have hml:(xs.map (·.1)).length=xs.length:=by simp
 refine vc188 ⟨λi j H'=>H'=H/\0<=i/\i<=j/\j<=xs.length/\(∀k y,k<i.toNat->(xs.map (·.1))[k]?=some y->y<n)/\(∀k y,j.toNat<=k->(xs.map (·.1))[k]?=some y->n<=y),
  λi j _=>(j-i).toNat,⟨rfl,Qi _,by omega,by omega,λk y hk=>by simp at hk,λk y hk hy=>?_⟩,λi j H' ⟨e,i0,i1,i2,i3,i4⟩=>?_⟩
 ·have:=(Qm.1 hy).1;omega
 subst e;refine⟨λhc=>?_,λhc=>?_⟩
 ·have hc:i<j:=by simpa using hc
  rw[yf0 i0 hc (by omega)];have m0:0<=(i+j)/2:=by omega
  have m1:(i+j)/2<xs.length:=by omega
  have hg:=y3h (d:=((0:Int),(0:Int),(0:Int))) m0 m1;refine⟨by unfold inI;omega,by unfold nn;omega,h.ldD m0 m1 ⟨_,zcd (x:=xs.getD ((i+j)/2).toNat (0,0,0)),?_⟩⟩;generalize xs.getD ((i+j)/2).toNat (0,0,0)=x at hg ⊢;have hm:(xs.map (·.1))[((i+j)/2).toNat]?=some x.1:=by rw[List.getElem?_map,hg];try rfl
  refine⟨λhlt=>?_,λhge=>?_⟩
  ·have hlt:x.1<n:=zos.1 (by simpa using hlt);refine⟨by unfold inI;omega,⟨rfl,by omega,by omega,i2,?_,i4⟩,?_⟩
   ·rw[show ((i+j)/2+1).toNat=((i+j)/2).toNat+1 by omega];exact zb1 hs hm hlt
   ·show (j-((i+j)/2+1)).toNat<(j-i).toNat;omega
  ·have hge:n<=x.1:=by
    have:¬ zoo x.1 n<0:=by simpa using hge
    rw[zos] at this;omega
   refine⟨⟨rfl,i0,by omega,by omega,i3,zb0 hs hm hge⟩,?_⟩;show ((i+j)/2-i).toNat<(j-i).toNat;omega
 ·have hc:i=j:=by have:¬ i<j:=by simpa using hc
                  omega
  subst hc;have hp:i.toNat=yrl (xs.map (·.1)) n:=yrm hs (by omega) i3 i4;have hpi:(yrl (xs.map (·.1)) n:Int)=i:=by omega
  rw[hpi];have key:(decide (i<(s.n:Int))=true)->i<xs.length:=λhh=>by
   have:i<s.n:=by simpa using hh
   omega
  refine⟨λhh=>h.inS i0 (key hh),_,_,_,λhh=>h.gD i0 (key hh),_,λhh=>zcd (x:=xs.getD i.toNat (0,0,0)),?_,Hp.le_refl _⟩;congr 3;have e1:decide (i<(s.n:Int))=decide (yrl (xs.map (·.1)) n<xs.length):=by
   rw[Qb,Zq,Zq];omega
  rw[e1];congr 2;congr 1;unfold y2r;rw[Qb,beq_iff_eq,beq_iff_eq,zop]
theorem zcc(h:Rd 3 fD H u c.list) :
  qF F.f128 #[.agg #[vi c.next,u.v],vi n] H (.tuple #[vi (if (y2n c n).2=0 then atC c n else 0),vi (y2n c n).2]):=by
 refine vc128 ⟨_,zcb h,λhc=>?_,λhc=>?_⟩
 ·have hc:zla c≠0:=by simpa using hc
  have h8:zla c=8:=by unfold zla at *;split at hc <;> simp_all
  have:y2n c n=((0,0),8):=by unfold y2n;rw[Zn λok=>hc (zlc ok)]
  rw[this,h8];exact⟨rfl,Hp.le_refl _⟩
 have hc:zla c=0:=by simpa using hc
 have ok:=zld.1 hc;have:=ok.len;refine⟨_,_,zb6 h ok.ok.nums (by omega),λhb=>?_,λhb=>?_⟩
 ·rcases z8j ok.ok n with⟨h1,h2⟩|⟨h1,h2⟩
  ·rw[h1] at hb;cases hb
  ·have:y2n c n=((0,0),6):=by unfold y2n;rw[Zp ok,Zp (by show idx _ _<0;rw[h2];omega)]
   rw[this];exact⟨rfl,Hp.le_refl _⟩
 ·rcases z8j ok.ok n with⟨h1,h2⟩|⟨h1,h2⟩
  ·have e:atC c n=yrl (c.list.map (·.1)) n:=h2;have:(y2n c n).2=0:=by unfold y2n;rw[Zp ok,Zn (by rw[e];omega)]
   rw[this,Zp rfl,e];exact⟨rfl,Hp.le_refl _⟩
  ·rw[h1] at hb;simp at hb
theorem y2q(h:(y2n c n).2=0):okC c/\0<=atC c n/\atC c n<c.list.length/\(y2r c.list (atC c n)).1=n/\y2n c n=((y2r c.list (atC c n)).2,0):=by
 unfold y2n at h ⊢;split at h
 ·rename_i ok;rw[Zp ok];split at h
  ·cases h
  ·rename_i h0;rw[Zn h0];obtain⟨a,x,hx,e⟩:=z88 (c:=c) (n:=n) (by omega);refine⟨ok,by omega,a,?_,rfl⟩;unfold y2r;rw[List.getD_eq_getElem?_getD,hx];exact e
 ·cases h
theorem zce(h:Rd 3 fD H u c.list) :
  qF F.f74 #[.agg #[vi c.next,u.v],vi n] H (.tuple #[.agg #[vi (y2n c n).1.1,vi (y2n c n).1.2],vi (y2n c n).2]):=by
 refine vc74 ⟨_,_,zcc (n:=n) h,λhc=>?_,λhc=>?_⟩
 ·have:(y2n c n).1=(0,0):=by
   have hc:(y2n c n).2≠0:=by simpa using hc
   unfold y2n at hc ⊢;split
   ·split
    ·rfl
    ·rename_i h1 h2;rw[Zp h1,Zn h2] at hc;exact absurd rfl hc
   ·rfl
  rw[this];exact⟨rfl,Hp.le_refl _⟩
 ·have hc:(y2n c n).2=0:=by simpa using hc
  obtain⟨_,g0,g1,_,ge⟩:=y2q hc;rw[hc,Zp rfl];refine⟨h.inS g0 g1,_,_,h.gD2 g0 g1,?_,Hp.le_refl _⟩;rw[ge];try rfl
theorem Hp.le.chg{H':Hp}{v:Slc}(h:Hp.le H H'):Chg H H' v:=λb hb _=>by
 obtain⟨o,ho⟩:=Option.ne_none_iff_exists'.1 hb;rw[ho];exact h b o ho
theorem Old.zs{H:Hp}:Old H zs:=λp hp=>by unfold Go.Eng.zs at hp;cases hp
theorem zsy{H0:Hp}(hl:Hp.le H0 H)(h:Mine 3 fD T.api_Held H0 H s xs)(h0:0<=i)(h1:i<xs.length) :
  fN F.f234 #[s.v,vi i,vi (i+1)] H λv H'=>∃u:Slc,v=u.v/\Hp.le H0 H'/\Mine 3 fD T.api_Held H0 H' u (xs.take i.toNat++xs.drop (i.toNat+1)):=by
 refine vc234 (zsz (k:=3) (f:=fD) (bytes:=24) (j:=i+1) (Zw:=λv H'=>∃u:Slc,v=u.v/\Hp.le H0 H'/\Mine 3 fD T.api_Held H0 H' u (xs.take i.toNat++xs.drop (i.toNat+1))) (by kernel_rfl) (by kernel_rfl) (by decide) (λ_=>rfl) (λx v hv=>by simp[fD] at hv;rcases hv with rfl|rfl|rfl <;> rfl) (by kernel_rfl) hl h h0 (by omega) (by omega) λu H' g1 g2 _ _=>⟨u,rfl,g1,?_⟩);rw[show i.toNat+1=(i+1).toNat by omega];exact g2
theorem zcr(h:Rd 3 fD H u c.list) :
  fN F.f190 #[.agg #[vi c.next,u.v],vi n] H λv H'=>∃a:Slc,v=.tuple #[.agg #[vi (yxi c n).1.next,a.v],.agg #[vi (yxi c n).2.1.1,vi (yxi c n).2.1.2],vi (yxi c n).2.2]/\z1d H H' a (yxi c n).1:=by
 refine vc190 ⟨_,_,zcc (n:=n) h,λhc=>?_,λhc=>?_⟩
 ·have hc:(y2n c n).2≠0:=by simpa using hc
  have:yxi c n=(.zero,(0,0),(y2n c n).2):=by unfold yxi;rw[Zn hc]
  rw[this];exact⟨zs,rfl,z1d.zero (Hp.le_refl _)⟩
 have hc:(y2n c n).2=0:=by simpa using hc
 obtain⟨ok,g0,g1,gn,ge⟩:=y2q hc;have:=ok.len;have hr:yxi c n=(xce c n,(y2n c n).1,0):=by unfold yxi;rw[Zp hc]
 rw[hr,hc,Zp rfl];have hg:=y3h (d:=((0:Int),(0:Int),(0:Int))) g0 g1;have hw:(xce c n).list=c.list.take (atC c n).toNat++c.list.drop ((atC c n).toNat+1):=by
  rw[zyd ok.ok.inc hg];unfold xce;simp only;congr 1;funext y;have:(c.list.getD (atC c n).toNat (0,0,0)).1=n:=gn;rw[this]
 have fin:∀{H6 H9:Hp}{a:Slc},Hp.le H H9->Mine 3 fD T.api_Held H H9 a (c.list.take (atC c n).toNat++c.list.drop ((atC c n).toNat+1))->z1d H H9 a (xce c n):=λhl hm=>⟨hl,by rw[hw];exact hm⟩
 have hv:∀a:Slc,(Value.tuple #[.agg #[vi c.next,a.v],.agg #[vi (c.list.getD (atC c n).toNat (0,0,0)).2.1,vi (c.list.getD (atC c n).toNat (0,0,0)).2.2],vi 0])=.tuple #[.agg #[vi (xce c n).next,a.v],.agg #[vi (y2n c n).1.1,vi (y2n c n).1.2],vi 0]:=λa=>by
  rw[ge];try rfl
 refine⟨by unfold inI;omega,h.inS g0 g1,⟨_,_,h.gD2 g0 g1,?_⟩,?_⟩
 ·refine(znv h (by omega)).mono λv H6 ⟨a,hva,l6,m⟩=>⟨l6,a,hva,(zsy l6 m g0 g1).mono λv H9 ⟨b,hvb,l9,m9⟩=>⟨b,hvb,b,hv b,fin (H6:=H6) l9 m9⟩⟩
 ·refine(znv h (by omega)).mono λv H6 ⟨a,hva,l6,m⟩=>⟨l6,a,hva,⟨_,_,(h.le l6).gD2 g0 g1,(zsy l6 m g0 g1).mono λv H9 ⟨b,hvb,l9,m9⟩=>⟨b,hvb,b,hv b,fin (H6:=H6) l9 m9⟩⟩,?_⟩
  exact(zsy l6 m g0 g1).mono λv H9 ⟨b,hvb,l9,m9⟩=>⟨b,hvb,_,_,(h.le l9).gD2 g0 g1,b,hv b,fin (H6:=H6) l9 m9⟩
