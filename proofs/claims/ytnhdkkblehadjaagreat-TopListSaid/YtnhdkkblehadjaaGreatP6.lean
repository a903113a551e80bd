/- The engine, parts G1, G2, G3, G4, G5, G6, G7, G8, put together. Conditions: none. -/
import Derived.Test.YtnhdkkblehadjaaGreatP4
import Derived.Test.YtnhdkkblehadjaaGreatE6
import Derived.Test.YtnhdkkblehadjaaGreatVgAgenda
open Bool renaming or_eq_false_iff->Qa,and_eq_true->Qb,or_eq_true->Qc,not_eq_false'->Qd,false_or->Qe
open Go.Eng.Hp renaming le_refl->Qg,le->Qh,le_trans->Qi,le_new->Qj,le_chg->Ql,put_same->Qm,put_put->Qn
open Int renaming toNat_natCast->Qo,lt_or_le->Qp,toNat_of_nonneg->Qq,toNat->Qr
open List renaming replicate->Qs,mem_singleton->Qt,mem_append->Qu,map_append->Qv,length_set->Qw,length_replicate->Qx,getElem?_eq_some_iff->Qy,take_length->Qz,take_sublist->Q1,set_comm->Q2,mem_take_iff_getElem->Q3,mem_map->Q4,map_cons->Q5,getElem?_toArray->Q6,getElem?_replicate->Q7
open Nat renaming le_refl->Q8,zero_add->Q9,mul_one->Xa,min_def->Xb
open Go.Result renaming andThen_ok->Xc
open Go.Sem renaming run_bind->Xd
open Go.Value renaming int->Xe,bool->Xf
set_option linter.unusedVariables false
section
set_option maxRecDepth 100000
open Go Go.Eng Go.Proofs
namespace Go.Proofs.YtnhdkkblehadjaaGreat
variable{H H0 H' H1 H2:Hp}{u4 u5 u1 u2 u3 u v s v1 v2 v3 v4 v5:Slc}{a:Ag}{h t:Int×Int}{x y:Ev}{n:Int}{xs:List Ev}{j k b:Nat}{e:TypeId}{fv:Value}{p:Ev->Bool}
structure RdA(H:Hp)(u1 u2 u3 u4 u5:Slc)(a:Ag):Prop where
 tb:RdT H u1 u2 u3 a.tb
 heap:Rd 5 fE H u4 a.heap
 wh:RdI H u5 a.wh
theorem RdA.le{H H':Hp}{u1 u2 u3 u4 u5:Slc}{a:Ag}(h:RdA H u1 u2 u3 u4 u5 a)(hl:Qh H H'):RdA H' u1 u2 u3 u4 u5 a:=⟨h.tb.le hl,h.heap.le hl,h.wh.le hl⟩
structure fitG(a:Ag):Prop where
 tb:a.tb.small
 hl:a.heap.length<=1000000
 wl:a.wh.length<=1000000
 fit:∀x∈a.heap,zzn x.at_
theorem okA.fitG{a:Ag}(ok:okA a):fitG a:=by
 have:=ok.wl;have:=ok.hl;have:=ok.tb.top;exact⟨ok.tb.small,by omega,by omega,λx hx=>(ok.each x hx).1.fit⟩
theorem fitG.zero:fitG .zero:=⟨by simp[Ag.zero,Tb.zero,Tb.small],by simp[Ag.zero],by simp[Ag.zero],λx hx=>by simp[Ag.zero] at hx⟩
abbrev evV(x:Ev):Value:=.agg #[vi x.at_.1,vi x.at_.2,vi x.no,vi x.h.1,vi x.h.2]
section
variable{H:Hp}{u:Slc}{xs:List Ev}{i:Int}
theorem _root_.Go.Eng.Rd.gEx(h:Rd 5 fE H u xs)(h0:0<=i)(h1:i<xs.length){v:Value}(hv:(fE (hp xs i.toNat))[j]?=some v):H.at ((zu4 u.a 5 i).add j)=some v :=
 h.atj h0 (y55 (by omega)) hv
theorem _root_.Go.Eng.Rd.gE(h:Rd 5 fE H u xs)(h0:0<=i)(h1:i<xs.length):H.at (zu4 u.a 5 i)=some (vi (hp xs i.toNat).at_.1)/\H.at ((zu4 u.a 5 i).add 1)=some (vi (hp xs i.toNat).at_.2)/\H.at ((zu4 u.a 5 i).add 2)=some (vi (hp xs i.toNat).no)/\H.at ((zu4 u.a 5 i).add 3)=some (vi (hp xs i.toNat).h.1)/\H.at ((zu4 u.a 5 i).add 4)=some (vi (hp xs i.toNat).h.2) :=
 ⟨h.at0 h0 (y55 (by omega)) rfl,Rd.gEx h h0 h1 rfl,Rd.gEx h h0 h1 rfl,Rd.gEx h h0 h1 rfl,Rd.gEx h h0 h1 rfl⟩
theorem _root_.Go.Eng.Rd.gEh(h:Rd 5 fE H u xs)(h0:0<=i)(h1:i<xs.length):H.at (((zu4 u.a 5 i).add 3).add 0)=some (vi (hp xs i.toNat).h.1)/\H.at (((zu4 u.a 5 i).add 3).add 1)=some (vi (hp xs i.toNat).h.2):=by
 obtain⟨_,_,_,d,e⟩:=Rd.gE h h0 h1;rw[add_zero',z3z];exact⟨d,e⟩
theorem _root_.Go.Eng.Rd.gEn(h:Rd 5 fE H u xs)(h0:0<=i)(h1:i<xs.length):H.at (((zu4 u.a 5 i).add 2).add 0)=some (vi (hp xs i.toNat).no):=by
 rw[add_zero'];exact(Rd.gE h h0 h1).2.2.1
theorem _root_.Go.Eng.Mine.rdE(h:Mine 5 fE e H0 H u xs):Rd 5 fE H u xs:=Mine.rd (k:=5) (f:=fE) (λ_=>rfl) h
end
theorem ynk(h:0<n):(n-1).tdiv 2=(par n.toNat:Nat):=by
 rw[Int.tdiv_eq_ediv_of_nonneg (by omega)];unfold par;omega
def zom(x y:Ev):Int:=if (cmpM x.at_ y.at_).1≠0 then (cmpM x.at_ y.at_).1 else zoo x.no y.no
theorem zon(hx:okR x.at_)(hy:okR y.at_):decide (zom x y<0)=yaj x y:=by
 have e:(cmpM x.at_ y.at_).1=zp5 x.at_ y.at_:=by unfold cmpM;rw[Zp ⟨hx,hy⟩]
 unfold zom yaj;rw[e,Bool.eq_iff_iff];simp only[Zq,Qc,Qb,beq_iff_eq];split
 ·omega
 ·rename_i h;rw[zos];omega
theorem z4s(hx:zzn x.at_)(hy:zzn y.at_):qF F.f187 #[evV x,evV y] H (vi (zom x y)):=by
 refine vc187 ⟨_,_,yuj hx hy,_,zrk,λb4 H5 hb4 hH5=>⟨_,yld (u:=⟨some ⟨b4,0,none⟩,2,2⟩) (yvb hH5),?_,Qj (Qg _) hb4 hH5⟩⟩;rfl
theorem yvt(hx:okR x.at_)(hy:okR y.at_):qF F.f146 #[evV x,evV y] H (.bool (yaj x y)):=by
 refine vc146 ⟨_,yvs hx hy,?_,Qg _⟩;rfl
theorem y3a{α κ:Type}[DecidableEq κ](k:α->κ)(v:Value)(x:κ):∀l:List α,y37 (l.map λy=>(k y,v)) x=if x∈l.map k then some v else none
 | []=>rfl
 | p :: l=>by
  have ih:=y3a k v x l;unfold y37 at ih ⊢;rw[Q5,List.find?_cons];by_cases e:k p=x
  ·simp[e]
  ·have e':¬ x=k p:=λh=>e h.symm
   simp only[e,decide_false,Q5,List.mem_cons,e',false_or];exact ih
theorem yix{l:List Int}{x:Int}:(l++[x]).Nodup↔l.Nodup/\x∉l:=by
 rw[List.nodup_append];constructor
 ·intro ⟨a,_,c⟩;exact⟨a,λh=>c x h x (by simp) rfl⟩
 ·intro ⟨a,b⟩;exact⟨a,by simp,λy hy z hz e=>by simp only[Qt] at hz;subst hz;subst e;exact b hy⟩
theorem z4r(h:RdA H u1 u2 u3 u4 u5 a)(f:fitG a) :
    qF F.f127 #[.agg #[u1.v,u2.v,u3.v,u4.v,u5.v]] H (vi (zl6 a)):=by
  have l1:=h.tb.uses.len;have l2:=h.tb.used.len;have l3:=h.tb.free.len;have l4:=h.heap.len;have l5:=h.wh.len;obtain⟨⟨f1,f2,f3⟩,f4,f5,f6⟩:=f;refine vc127 ⟨_,x3k h.tb ⟨f1,f2,f3⟩,λ_=>by unfold inI;omega,λhc=>⟨?_,Qg _⟩,λhc=>?_⟩
  · rw[zl7]
    intro ok;have:=ok.wl;have:=ok.hl;have:=ok.tb.len;rw[zmb ok.tb] at hc;simp at hc;omega
  simp only[Qa,bne_eq_false_iff_eq] at hc;obtain⟨⟨hc1,hc2⟩,hc3⟩:=hc;have tok:=zmc.1 hc1;have:=tok.len;have:=tok.top;refine upto (N:=a.wh.length) (J:=λn=>(∀i:Nat,i<n->a.tb.used.getD i false=false->a.wh.getD i 0 = -1)/\∀i:Nat,i<n->a.tb.used.getD i false=true->0<=a.wh.getD i 0/\a.wh.getD i 0<a.heap.length/\(hp a.heap (a.wh.getD i 0).toNat).h=((i:Int),a.tb.uses.getD i 0))
    (by omega) ⟨λi hi=>by omega,λi hi=>by omega⟩ λn h0 h1 ⟨j1,j2⟩=>⟨λhn=>?_,λhn=>?_⟩
  · have hn:n<a.wh.length:=by have:n<u5.n:=by simpa using hn
                              omega
    have en:((n.toNat:Nat):Int)=n:=Qq h0;refine h.wh.ldI h0 hn (h.tb.used.ldB h0 (by omega) ⟨λhu=>⟨λhw=>⟨?_,Qg _⟩,λhw=>upto.nx h0 hn (by omega) ⟨λi hi hu'=>?_,λi hi hu'=>?_⟩⟩,λhu=>?_⟩)
    · have hu:a.tb.used.getD n.toNat false=false:=by simpa using hu
      rw[zl7];intro ok;have:=ok.free n.toNat (by omega) hu;rw[this] at hw;simp at hw
    · have hw:a.wh.getD n.toNat 0 = -1:=by simpa using hw
      rcases Qp i n with h'|h'
      · exact j1 i h' hu'
      · have:i=n.toNat:=by omega
        subst this;exact hw
    · have hu:a.tb.used.getD n.toNat false=false:=by simpa using hu
      rcases Qp i n with h'|h'
      · exact j2 i h' hu'
      · have:i=n.toNat:=by omega
        subst this;rw[hu] at hu';cases hu'
    · have hu:a.tb.used.getD n.toNat false=true:=by simpa using hu
      generalize hw:a.wh.getD n.toNat 0=w;have hr:(!(decide (w<0)||decide (w>=(u4.n:Int))))=true->0<=w/\w<a.heap.length:=λhh=>by
        simp at hh;omega
      refine⟨λhh=>h.heap.inS (hr hh).1 (hr hh).2,_,_,λhh=>Rd.gEh h.heap (hr hh).1 (hr hh).2,λhh=>h.tb.uses.inS h0 (by omega),_,λhh=>h.tb.uses.gI h0 (by omega),λhb=>⟨?_,Qg _⟩,λhb=>upto.nx h0 hn (by omega) ⟨λi hi hu'=>?_,λi hi hu'=>?_⟩⟩
      · rw[zl7]
        intro ok;obtain⟨k1,k2,k3⟩:=ok.used n.toNat (by omega) hu;rw[hw] at k1 k2 k3;rw[k3] at hb;simp at hb;omega
      · rcases Qp i n with h'|h'
        · exact j1 i h' hu'
        · have:i=n.toNat:=by omega
          subst this;rw[hu] at hu';cases hu'
      · rcases Qp i n with h'|h'
        · exact j2 i h' hu'
        · have e:i=n.toNat:=by omega
          subst e;simp only[Qa,Zt,Qd,Qb,beq_iff_eq] at hb;obtain⟨⟨b1,b2⟩,b3,b4⟩:=hb;rw[hw];exact⟨by omega,by omega,Prod.ext (by rw[b3];exact en.symm) b4⟩
  have:n=a.wh.length:=by have:¬ n<u5.n:=by simpa using hn
                         omega
  subst this;intro b11 H12 hb11 hH12;have le12:Qh H H12:=Qj (Qg _) hb11 hH12;have K:KL Tryz.prog T.int (λx:Int=>vi x):=KL.int Tryz.underlying3;refine xb0 (N:=a.heap.length) (J:=λn H'=>Qh H H'/\z16 (λx:Int=>vi x) H' b11 ((a.heap.take n.toNat).map λy=>(y.no,Xf true))/\(∀x∈a.heap.take n.toNat,okR x.at_/\0<=x.no/\x.no<=1000000)/\((a.heap.take n.toNat).map (·.no)).Nodup /\
      ∀i:Nat,1<=i->(i:Int)<n->yaj (hp a.heap i) (hp a.heap (par i))=false) (by omega) ⟨le12,z16.new hH12,by simp,by simp,λi _ hi=>by omega⟩ λn H' h0 h1 ⟨le',jm,je,jn,jo⟩=>⟨λhn=>?_,λhn=>⟨?_,le'⟩⟩
  · have hn:n<a.heap.length:=by have:n<u4.n:=by simpa using hn
                                omega
    have hg:=y55 (h:=a.heap) (i:=n.toNat) (by omega);have hmem:=y57 (h:=a.heap) (i:=n.toNat) (by omega);have hrd:=h.heap.le le';have hts:=x88 hg;have e1:(n+1).toNat=n.toNat+1:=by omega
    have hlook:=K.look (t:=T.map_int_bool) (e:=T.bool) (x:=(hp a.heap n.toNat).no) (z:=.bool false) Tryz.underlying290 (by kernel_rfl) jm;rw[y3a (λy:Ev=>y.no)] at hlook;refine⟨hrd.inS h0 hn,_,_,_,_,_,Rd.gE hrd h0 hn,_,yui (f6 _ hmem),decide ((hp a.heap n.toNat).no∈(a.heap.take n.toNat).map (·.no)),λ_=>?_,λhb=>⟨?_,le'⟩,λhb=>?_⟩
    · by_cases e:(hp a.heap n.toNat).no∈(a.heap.take n.toNat).map (·.no)
      · rw[Zp e] at hlook;rw[Zu e];exact hlook
      · rw[Zn e] at hlook;rw[Zv e];exact hlook
    · rw[zl7]
      intro ok;obtain⟨k1,k2,k3⟩:=ok.each _ hmem;rw[zm8 k1] at hb;simp only[bne_self_eq_false,Qe,Qc,Zq] at hb;rcases hb with(hb|hb)|hb
      · omega
      · omega
      · have:=(ok.nos).sublist ((Q1 (n.toNat+1) a.heap).map (·.no))
        rw[hts,Qv] at this;exact(yix.1 this).2 hb
    · simp only[Qa,bne_eq_false_iff_eq,Zt] at hb
      obtain⟨⟨⟨b1,b2⟩,b3⟩,b4⟩:=hb;have okn:=zm9.1 b1;refine(K.add (t:=T.map_int_bool) (e:=T.bool) (x:=(hp a.heap n.toNat).no) (v:=.bool true) Tryz.underlying290 jm (by rw[y3a (λy:Ev=>y.no),Zn b4])).mono λv H25 ⟨o,hH,hm⟩=>⟨v,rfl,?_⟩
      have le25:Qh H H25:=by subst hH;exact Hp.le_put le' hb11
      have hrd25:=h.heap.le le25;have hpar:(decide (n>0))=true->(n-1).tdiv 2=(par n.toNat:Nat)/\(par n.toNat)<a.heap.length/\par n.toNat<n.toNat/\0<n:=λhp'=>by
        have hp':0<n:=by simpa using hp'
        have:=ynl (i:=n.toNat) (by omega);exact⟨ynk hp',by omega,this,hp'⟩
      refine⟨λ_=>by unfold inI;omega,λhp'=>⟨by unfold nz;omega,by obtain⟨e,_⟩:=hpar hp';rw[e];unfold inI;omega⟩,λhp'=>by obtain⟨e,q,_⟩:=hpar hp';rw[e];exact hrd25.inS (by omega) (by omega),_,_,_,_,_,λhp'=>by
        obtain⟨e,q,_⟩:=hpar hp';rw[e];exact Rd.gE hrd25 (i:=(par n.toNat:Nat)) (by omega) (by omega),_,λhp'=>by
        obtain⟨e,q,_⟩:=hpar hp';exact z4s (x:=hp a.heap n.toNat) (y:=hp a.heap ((par n.toNat:Nat):Int).toNat) (f6 _ hmem) (f6 _ (y57 (by omega))),λhb=>⟨?_,le25⟩,λhb=>xb0.nx h0 hn (by omega) ⟨le25,?_,λx hx=>?_,?_,λi hi1 hi2=>?_⟩⟩
      · rw[zl7]
        intro ok;simp only[Qb] at hb;obtain⟨e,q,q2,q3⟩:=hpar hb.1;have:=ok.ord n.toNat (by omega) (by omega);rw[Qo,zon okn (ok.each _ (y57 q)).1,this] at hb;exact absurd hb.2 (by simp)
      · rw[e1,hts,Qv];exact hm
      · rw[e1,hts] at hx
        rcases Qu.1 hx with hx|hx
        · exact je x hx
        · simp only[Qt] at hx;subst hx;exact⟨okn,by omega,by omega⟩
      · rw[e1,hts,Qv];exact yix.2 ⟨jn,b4⟩
      · rcases Qp i n with h'|h'
        · exact jo i hi1 h'
        · have e:i=n.toNat:=by omega
          subst e;have hp':decide (n>0)=true:=by simp;omega
          obtain⟨e,q,q2,q3⟩:=hpar hp';rw[hp',Bool.true_and,Qo] at hb;have hpm:hp a.heap (par n.toNat)∈a.heap.take n.toNat:=Q3.2 ⟨par n.toNat,by omega,(Qy.1 (y55 q)).2⟩;rw[zon okn (je _ hpm).1] at hb;exact hb
  · have:n=a.heap.length:=by have:¬ n<u4.n:=by simpa using hn
                             omega
    subst this;rw[Qo,Qz] at je jn;rw[zl8 ⟨tok,by omega,by omega,λi hi hu=>j1 i (by omega) hu,λi hi hu=>j2 i (by omega) hu,je,jn,λi h1 h2=>jo i h1 (by omega)⟩]
def z0i(H H':Hp)(u v:Slc):Prop:=∀b,H b≠none->(∀p,u.a=some p->p.block≠b)->(∀p,v.a=some p->p.block≠b)->H' b=H b
theorem z0i.refl:z0i H H u v:=λ_ _ _ _=>rfl
theorem z0i.of(a:Chg H H1 u)(b:Chg H1 H2 v):z0i H H2 u v:=λc hc hu hv=>by
 have:=a c hc hu;rw[b c (by rw[this];exact hc) hv,this]
theorem z0i.trans(a:z0i H H1 u v)(b:z0i H1 H2 u v):z0i H H2 u v:=λc hc hu hv=>by
 have:=a c hc hu hv;rw[b c (by rw[this];exact hc) hu hv,this]
theorem z0i.mine{α:Type}{f:α->List Value}{w:Slc}{xs:List α}(c:z0i H H' v w)(h:Mine k f e H0 H u xs)(h1:Sep u v)(h2:Sep u w):Mine k f e H0 H' u xs:=by
 rcases h with h|⟨b,hb,h⟩
 ·exact .inl h
 ·obtain⟨g1,g2,g3,cs,g4,g5⟩:=h;exact .inr ⟨b,hb,g1,g2,g3,cs,by rw[c b (by rw[g4];simp) (λp hp e=>h1 _ p g3 hp e.symm) λp hp e=>h2 _ p g3 hp e.symm];exact g4,g5⟩
theorem z0i.le{H0 H H':Hp}{u v:Slc}(c:z0i H H' u v)(hl:Qh H0 H)(hu:New H0 u)(hv:New H0 v):Qh H0 H':=λb o hb=>by
 rw[c b (by rw[hl b o hb];simp) (λp hp e=>by have:=hu p hp;rw[e,hb] at this;cases this) λp hp e=>by have:=hv p hp;rw[e,hb] at this;cases this];exact hl b o hb
structure MyA(H0 H:Hp)(u4 u5:Slc)(s:Hw):Prop where
 le:Qh H0 H
 heap:Mine 5 fE T.api_Event H0 H u4 s.1
 wh:Mine 1 fI T.int H0 H u5 s.2
 sep:Sep u4 u5
abbrev agV(u1 u2 u3 u4 u5:Slc):Value:=.agg #[u1.v,u2.v,u3.v,u4.v,u5.v]
theorem z52{s:Hw}{i:Nat}(m:MyA H0 H u4 u5 s)(hi:i<s.1.length)(x0:0<=x.h.1)(x1:x.h.1<s.2.length) :
  fN F.f230 #[agV u1 u2 u3 u4 u5,vi (i:Int),evV x] H λv H'=>v=.tuple #[]/\MyA H0 H' u4 u5 (s.1.set i x,s.2.set x.h.1.toNat i)/\z0i H H' u4 u5:=by
 obtain⟨m1,m2,m3,m4⟩:=m;refine vc230 ⟨m2.rdE.inS (by omega) (by omega),?_⟩;refine Mine.setE (k:=5) (f:=fE) (vs:=fE x) (y:=x) (λ_=>rfl) m2 (i:=(i:Int)) (by omega) (by rw[Qo];exact y55 hi) (by simp[fE]) (by simp[fE]) λH1 n1 c1=>?_
 rw[Qo] at n1;have w1:=m3.chg c1 m4.symm;refine⟨w1.rdI.inS x0 x1,Mine.setI w1 x0 x1 i λH2 n2 c2=>⟨rfl,⟨?_,n1.chg c2 m4,n2,m4⟩,z0i.of c1 c2⟩⟩;exact Ql (Ql m1 c1 m2.isNew) c2 m3.isNew
def x8t(h:List Ev):Prop:=∀x∈h,okR x.at_
theorem x8t.at{h:List Ev}(t:x8t h){i:Nat}(hi:i<h.length):okR (hp h i).at_:=t _ (y57 hi)
theorem x8t.perm{h h':List Ev}(t:x8t h)(e:h'.Perm h):x8t h':=λx hx=>t x (e.mem_iff.1 hx)
theorem x0b{w:List Int}{a:Nat}{x y z:Int}:((w.set a x).set b y).set a z=(w.set b y).set a z:=by
 by_cases h:a=b
 ·subst h;simp
 ·rw[Q2 _ _ h];simp
theorem y54{s:Hw}(hj:j<s.1.length)(hk:k<s.1.length)(hne:k≠j) :
  ((s.1.set j (hp s.1 k)).set k x,(s.2.set (hp s.1 k).h.1.toNat j).set x.h.1.toNat k)=x6u (s.1.set j x,s.2.set x.h.1.toNat j) j k:=by
 have e1:hp (s.1.set j x) k=hp s.1 k:=by rw[y59 hj,Zn (λe=>hne e.symm)]
 have e2:hp (s.1.set j x) j=x:=by rw[y59 hj,Zp rfl]
 unfold x6u;simp only[e1,e2];rw[List.set_set,x0b]
theorem z54{s:Hw}{i:Nat}(m:MyA H0 H u4 u5 s)(hi:i<s.1.length)(hx1:x.h.1<s.2.length)(hx0:0<=x.h.1)(pl:plA (s.1.set i x,s.2.set x.h.1.toNat i))(ht:x8t (s.1.set i x))(hl:s.1.length<=1000000) :
  fN F.f184 #[agV u1 u2 u3 u4 u5,vi (i:Int),evV x] H λv H'=>v=.tuple #[]/\MyA H0 H' u4 u5 (yfe (s.1.set i x,s.2.set x.h.1.toNat i) i)/\z0i H H' u4 u5:=by
 generalize hs0:(s.1.set i x,s.2.set x.h.1.toNat i)=s0 at *
 have l0:s0.1.length=s.1.length:=by rw[← hs0];simp
 have ht0:x8t s0.1:=by rw[← hs0];exact ht
 have w0:s0.2.length=s.2.length:=by rw[← hs0];simp
 have htx:okR x.at_:=by
  have:hp s0.1 i=x:=by rw[← hs0];exact(y59 hi).trans (Zp rfl)
  rw[← this];exact ht0.at (by omega)
 let Fl:Hw->Nat->Hw:=λt j=>(t.1.set j x,t.2.set x.h.1.toNat j)
 have flx:∀(t:Hw)(j:Nat),j<t.1.length->hp (Fl t j).1 j=x:=λt j hj=>(y59 hj).trans (Zp rfl)
 have flo:∀(t:Hw)(j k:Nat),j<t.1.length->k≠j->hp (Fl t j).1 k=hp t.1 k:=λt j k hj hk=>(y59 hj).trans (Zn λe=>hk e.symm)
 refine vc184 ⟨λn H'=>∃(t:Hw)(j:Nat),n=j/\MyA H0 H' u4 u5 t/\z0z s0 (Fl t j)/\j<t.1.length/\t.1.length=s.1.length/\t.2.length=s.2.length/\upA j (Fl t j) j=upA i s0 i/\z0i H H' u4 u5,λn _=>n.toNat,
  ⟨s,i,rfl,m,by show z0z s0 (s.1.set i x,s.2.set x.h.1.toNat i);rw[hs0];exact z0z.refl pl,hi,rfl,rfl,by show upA i (s.1.set i x,s.2.set x.h.1.toNat i) i=_;rw[hs0],z0i.refl⟩,λn H' ⟨t,j,hn,mt,kt,hj,tl,tw,he,hc⟩=>?_⟩
 subst hn;have r:=mt.heap.rdE;have tt:=ht0.perm kt.perm;have fll:(Fl t j).1.length=t.1.length:=Qw ..;have gk:∀k:Nat,k<t.1.length->H'.at (zu4 u4.a 5 (k:Int))=some (vi (hp t.1 k).at_.1)/\H'.at ((zu4 u4.a 5 (k:Int)).add 1)=some (vi (hp t.1 k).at_.2)/\H'.at ((zu4 u4.a 5 (k:Int)).add 2)=some (vi (hp t.1 k).no)/\H'.at ((zu4 u4.a 5 (k:Int)).add 3)=some (vi (hp t.1 k).h.1)/\H'.at ((zu4 u4.a 5 (k:Int)).add 4)=some (vi (hp t.1 k).h.2):=λk hk=>by
  have:=Rd.gE r (i:=(k:Int)) (by omega) (by omega);rw[Qo] at this;exact this
 have hpar:decide ((j:Int)>0)=true->((j:Int)-1).tdiv 2=(par j:Nat)/\par j<j/\0<j:=λhh=>by
  have:0<j:=by simpa using hh
  have e:=ynk (n:=(j:Int)) (by omega);rw[Qo] at e;exact⟨e,ynl this,this⟩
 have okp:∀k:Nat,k<t.1.length->k≠j->okR (hp t.1 k).at_:=λk hk hne=>by
  rw[← flo t j k hj hne];exact tt.at (by rw[fll];exact hk)
 refine⟨λ_=>by unfold inI;omega,λhh=>⟨by unfold nz;omega,by rw[(hpar hh).1];have:=(hpar hh).2.1;unfold inI;omega⟩,λhh=>by rw[(hpar hh).1];have:=(hpar hh).2.1;exact r.inS (by omega) (by omega),_,_,_,_,_,λhh=>by
  rw[(hpar hh).1];have:=(hpar hh).2.1;exact gk (par j) (by omega),zom x (hp t.1 (par j)),λhh=>by
  have:=(hpar hh).2.1;exact z4s htx.fit (okp (par j) (by omega) (by omega)).fit,λhb=>?_,λhb=>?_⟩
 ·simp only[Qb] at hb;obtain⟨e,q1,q2⟩:=hpar hb.1;have hb2:=hb.2;rw[zon htx (okp (par j) (by omega) (by omega))] at hb2;rw[e];have pl':=kt.pl;have hpj:=pl' (par j) (by rw[fll];omega);rw[flo t j (par j) hj (by omega)] at hpj;have hst:=y54 (s:=t) (j:=j) (k:=par j) (x:=x) hj (by omega) (by omega);refine⟨by unfold inI;omega,⟨by unfold nz;omega,by unfold inI;omega⟩,r.inS (by omega) (by omega),_,_,_,_,_,gk (par j) (by omega),(z52 mt hj hpj.1 (by have:=hpj.2.1;rw[show (Fl t j).2.length=t.2.length from Qw ..] at this;exact this)).mono λv H17 ⟨hv,m17,c17⟩=>⟨hv,by unfold inI;omega,⟨by unfold nz;omega,by unfold inI;omega⟩,⟨_,par j,rfl,m17,?_,by simp;omega,by simpa using tl,by simpa using tw,?_,hc.trans c17⟩,?_⟩⟩
  ·show z0z s0 ((t.1.set j (hp t.1 (par j))).set (par j) x,(t.2.set (hp t.1 (par j)).h.1.toNat j).set x.h.1.toNat (par j));rw[hst];exact kt.trans (z0z.swap kt.pl (by rw[fll];exact hj) (by rw[fll];omega))
  ·show upA (par j) ((t.1.set j (hp t.1 (par j))).set (par j) x,(t.2.set (hp t.1 (par j)).h.1.toNat j).set x.h.1.toNat (par j)) (par j)=_;rw[hst,← he,xap (f:=j) (s:=Fl t j) (Q8 _) q2 (by rw[flx t j hj,flo t j (par j) hj (by omega)];exact hb2)];exact xam _ _ _ _ (Q8 _) (by omega)
  ·show ((par j:Nat):Int).toNat<(j:Int).toNat;omega
 ·have hstop:upA j (Fl t j) j=(Fl t j,j):=xaq λ⟨a,b⟩=>by
   have:=ynl (i:=j) a;rw[flx t j hj,flo t j (par j) hj (by omega),← zon htx (okp (par j) (by omega) (by omega))] at b;rw[b] at hb;simp at hb;omega
  rw[hstop] at he;have hmv:yfe s0 i=zta s0.1.length (Fl t j) j:=by
   unfold yfe;simp only[← he]
  rw[hmv];refine⟨by unfold inI;omega,by unfold inI;omega,?_⟩;refine⟨λn k H''=>∃(t':Hw)(j':Nat),n=j'/\k=2*(j':Int)+1/\MyA H0 H'' u4 u5 t'/\z0z s0 (Fl t' j')/\j'<t'.1.length/\t'.1.length=s.1.length/\t'.2.length=s.2.length/\zta s0.1.length (Fl t' j') j'=zta s0.1.length (Fl t j) j/\z0i H H'' u4 u5,λn _ _=>(s.1.length-n).toNat,
   ⟨t,j,rfl,rfl,mt,kt,hj,tl,tw,rfl,hc⟩,λn k H'' ⟨t',j',hn,hk,mt',kt',hj',tl',tw',he',hc'⟩=>?_⟩
  subst hn;subst hk;clear r tt gk hpar okp hb hstop he hmv fll;have r:=mt'.heap.rdE;have lu:=r.len;have tt:=ht0.perm kt'.perm;have fll:(Fl t' j').1.length=t'.1.length:=Qw ..;have gk:∀k:Nat,k<t'.1.length->H''.at (zu4 u4.a 5 (k:Int))=some (vi (hp t'.1 k).at_.1)/\H''.at ((zu4 u4.a 5 (k:Int)).add 1)=some (vi (hp t'.1 k).at_.2)/\H''.at ((zu4 u4.a 5 (k:Int)).add 2)=some (vi (hp t'.1 k).no)/\H''.at ((zu4 u4.a 5 (k:Int)).add 3)=some (vi (hp t'.1 k).h.1)/\H''.at ((zu4 u4.a 5 (k:Int)).add 4)=some (vi (hp t'.1 k).h.2):=λk hk=>by
   have:=Rd.gE r (i:=(k:Int)) (by omega) (by omega);rw[Qo] at this;exact this
  have ins:∀k:Nat,k<t'.1.length->y63 u4.a u4.n (k:Int):=λk hk=>r.inS (by omega) (by omega)
  have okp:∀k:Nat,k<t'.1.length->k≠j'->okR (hp t'.1 k).at_:=λk hk hne=>by
   rw[← flo t' j' k hj' hne];exact tt.at (by rw[fll];exact hk)
  have e2:(2*(j':Int)+1+1)=((2*j'+2:Nat):Int):=by omega
  have e1:(2*(j':Int)+1)=((2*j'+1:Nat):Int):=by omega
  have fin:zta s0.1.length (Fl t' j') j'=Fl t' j'->fN F.f230 #[agV u1 u2 u3 u4 u5,vi (j':Int),evV x] H'' λv H3=>v=.tuple #[]/\(Value.tuple #[]=.tuple #[]/\MyA H0 H3 u4 u5 (zta s0.1.length (Fl t j) j)/\z0i H H3 u4 u5):=λhd=>by
   refine(z52 mt' hj' hx0 (by omega)).mono λv H3 ⟨hv,m3,c3⟩=>⟨hv,rfl,?_,hc'.trans c3⟩
   rw[← he',hd];exact m3
  have hlast:¬ 2*j'+1<t'.1.length->zta s0.1.length (Fl t' j') j'=Fl t' j':=λhh=>ztf λ⟨a,_⟩=>by rw[fll] at a;exact hh a
  refine⟨λhb=>?_,λhb=>fin (hlast (by simp at hb;omega))⟩;have hk1:2*j'+1<t'.1.length:=by simp at hb;omega
  have hlt:decide (((2*j'+2:Nat):Int)<(u4.n:Int))=true->2*j'+2<t'.1.length:=λhh=>by simp at hh;omega
  have go:∀k:Nat,k=kid (Fl t' j').1 j'->k<t'.1.length->(zom (hp t'.1 k) x>=0->zta s0.1.length (Fl t' j') j'=Fl t' j') /\
    (¬ zom (hp t'.1 k) x>=0->fN F.f230 #[agV u1 u2 u3 u4 u5,vi (j':Int),evV (hp t'.1 k)] H'' λv H3=>v=.tuple #[]/\inI (2*(k:Int))/\inI (2*(k:Int)+1)/\(∃(t'':Hw)(j'':Nat),(k:Int)=j''/\2*(k:Int)+1=2*(j'':Int)+1/\MyA H0 H3 u4 u5 t''/\z0z s0 (Fl t'' j'')/\j''<t''.1.length/\t''.1.length=s.1.length/\t''.2.length=s.2.length/\zta s0.1.length (Fl t'' j'') j''=zta s0.1.length (Fl t j) j/\z0i H H3 u4 u5)/\(s.1.length-(k:Int)).toNat<(s.1.length-(j':Int)).toNat):=λk hk hkl=>by
   have hgt:=(y82 (Fl t' j').1 j').1;rw[← hk] at hgt;have hokk:=okp k hkl (by omega);have hle:=zon hokk htx;refine⟨λhb=>?_,λhb=>?_⟩
   ·refine ztf λ⟨_,b⟩=>?_
    rw[← hk,flx t' j' hj',flo t' j' k hj' (by omega),← hle] at b;simp at b;omega
   ·have hless:yaj (hp t'.1 k) x=true:=by rw[← hle];simp;omega
    have hpk:=kt'.pl k (by rw[fll];exact hkl);rw[flo t' j' k hj' (by omega)] at hpk;have hst:=y54 (s:=t') (j:=j') (k:=k) (x:=x) hj' hkl (by omega);refine(z52 mt' hj' hpk.1 (by have:=hpk.2.1;rw[show (Fl t' j').2.length=t'.2.length from Qw ..] at this;exact this)).mono λv H3 ⟨hv,m3,c3⟩=>⟨hv,by unfold inI;omega,by unfold inI;omega,⟨_,k,rfl,rfl,m3,?_,by simpa using hkl,by simpa using tl',by simpa using tw',?_,hc'.trans c3⟩,by omega⟩
    ·show z0z s0 ((t'.1.set j' (hp t'.1 k)).set k x,(t'.2.set (hp t'.1 k).h.1.toNat j').set x.h.1.toNat k);rw[hst];exact kt'.trans (z0z.swap kt'.pl (by rw[fll];exact hj') (by rw[fll];exact hkl))
    ·show zta s0.1.length ((t'.1.set j' (hp t'.1 k)).set k x,(t'.2.set (hp t'.1 k).h.1.toNat j').set x.h.1.toNat k) k=_;rw[hst,← he',zte (f:=s0.1.length) (s:=Fl t' j') (by rw[fll];omega) (by rw[fll];exact hk1) (by rw[← hk,flx t' j' hj',flo t' j' k hj' (by omega)];exact hless),← hk]
  rw[e2,e1];have k2:kid (Fl t' j').1 j'=if 2*j'+2<t'.1.length/\yaj (hp t'.1 (2*j'+2)) (hp t'.1 (2*j'+1))=true then 2*j'+2 else 2*j'+1:=by
   unfold kid;rw[fll,flo t' j' _ hj' (by omega),flo t' j' _ hj' (by omega)]
  refine⟨by unfold inI;omega,λ_=>by unfold inI;omega,λhh=>ins _ (hlt hh),_,_,_,_,_,λhh=>gk _ (hlt hh),λhh=>ins _ hk1,_,_,_,_,_,λhh=>gk _ hk1,zom (hp t'.1 (2*j'+2)) (hp t'.1 (2*j'+1)),λhh=>z4s (okp _ (hlt hh) (by omega)).fit (okp _ hk1 (by omega)).fit,λhb=>?_,λhb=>?_⟩
  ·simp only[Qb] at hb;have h2:=hlt hb.1;have hb2:=hb.2;rw[zon (okp _ h2 (by omega)) (okp _ hk1 (by omega))] at hb2;rw[Zp ⟨h2,hb2⟩] at k2;obtain⟨g1,g2⟩:=go (2*j'+2) k2.symm h2;exact⟨by unfold inI;omega,ins _ h2,_,_,_,_,_,gk _ h2,_,z4s (okp _ h2 (by omega)).fit htx.fit,λhx=>fin (g1 (by simpa using hx)),λhx=>⟨ins _ h2,_,_,_,_,_,gk _ h2,g2 (by simpa using hx)⟩⟩
  ·have hb2:¬ (2*j'+2<t'.1.length/\yaj (hp t'.1 (2*j'+2)) (hp t'.1 (2*j'+1))=true):=λ⟨a,b⟩=>by
    rw[← zon (okp _ a (by omega)) (okp _ hk1 (by omega))] at b;rw[b] at hb;simp at hb;omega
   rw[Zn hb2] at k2;obtain⟨g1,g2⟩:=go (2*j'+1) k2.symm hk1;exact⟨ins _ hk1,_,_,_,_,_,gk _ hk1,_,z4s (okp _ hk1 (by omega)).fit htx.fit,λhx=>fin (g1 (by simpa using hx)),λhx=>⟨ins _ hk1,_,_,_,_,_,gk _ hk1,g2 (by simpa using hx)⟩⟩
structure z1c(H0 H:Hp)(u1 u2 u3 u4 u5:Slc)(a:Ag):Prop where
 tb:z1f H0 H u1 u2 u3 a.tb
 heap:Mine 5 fE T.api_Event H0 H u4 a.heap
 wh:Mine 1 fI T.int H0 H u5 a.wh
 s45:Sep u4 u5
 s4:z26 u1 u2 u3 u4
 s5:z26 u1 u2 u3 u5
theorem z1c.le{H0 H:Hp}{u1 u2 u3 u4 u5:Slc}{a:Ag}(h:z1c H0 H u1 u2 u3 u4 u5 a):Qh H0 H:=h.tb.le
theorem z1c.rd{H0 H:Hp}{u1 u2 u3 u4 u5:Slc}{a:Ag}(h:z1c H0 H u1 u2 u3 u4 u5 a):RdA H u1 u2 u3 u4 u5 a:=⟨h.tb.rd,h.heap.rdE,h.wh.rdI⟩
theorem z1c.up{H0 H H':Hp}{u1 u2 u3 u4 u5:Slc}{a:Ag}(h:z1c H0 H u1 u2 u3 u4 u5 a)(hl:Qh H H'):z1c H0 H' u1 u2 u3 u4 u5 a:=⟨h.tb.up hl,h.heap.le hl,h.wh.le hl,h.s45,h.s4,h.s5⟩
theorem z1c.low{H0 H1 H:Hp}{u1 u2 u3 u4 u5:Slc}{a:Ag}(h:z1c H1 H u1 u2 u3 u4 u5 a)(hl:Qh H0 H1):z1c H0 H u1 u2 u3 u4 u5 a:=⟨h.tb.low hl,h.heap.low hl,h.wh.low hl,h.s45,h.s4,h.s5⟩
theorem z1c.zero{H H':Hp}(h:Qh H H'):z1c H H' zs zs zs zs zs .zero:=⟨z1f.zero h,.inl ⟨rfl,rfl⟩,.inl ⟨rfl,rfl⟩,Sep.nil,⟨Sep.nil,Sep.nil,Sep.nil⟩,⟨Sep.nil,Sep.nil,Sep.nil⟩⟩
theorem z1c.my(h:z1c H0 H u1 u2 u3 u4 u5 a):MyA H0 H u4 u5 (a.heap,a.wh):=⟨h.le,h.heap,h.wh,h.s45⟩
theorem z1f.chg2{a b c:Slc}{t:Tb}(h:z1f H0 H a b c t)(hc:z0i H H' u v)(h1:z26 a b c u)(h2:z26 a b c v)(hu:New H0 u)(hv:New H0 v):z1f H0 H' a b c t :=
 ⟨hc.le h.le hu hv,hc.mine h.uses h1.1 h2.1,hc.mine h.used h1.2.1 h2.2.1,hc.mine h.free h1.2.2 h2.2.2,h.s12,h.s13,h.s23⟩
theorem znu(hs:Rd 5 fE H s xs)(hl:xs.length<=1000000000) :
  fN F.f131 #[s.v] H λv H'=>∃u:Slc,v=u.v/\Qh H H'/\Mine 5 fE T.api_Event H H' u xs :=
 vc131 (zo0 (k:=5) (f:=fE) (bytes:=40) (by kernel_rfl) (by decide) (λ_=>rfl) hs (by omega) (by omega))
theorem z57(h:RdA H u1 u2 u3 u4 u5 a)(hl:a.heap.length<=1000000)(hw:a.wh.length<=1000000) :
  fN F.f183 #[agV u1 u2 u3 u4 u5] H λv H'=>∃b c:Slc,v=agV u1 u2 u3 b c/\MyA H H' b c (a.heap,a.wh):=by
 refine vc183 ((znu h.heap (by omega)).mono λv H2 ⟨b,hv,l2,m2⟩=>⟨l2,b,hv,(znw (h.wh.le l2) (by omega)).mono λv H5 ⟨c,hv,l5,m5⟩=>⟨l5,c,hv,b,c,rfl,?_⟩⟩);exact⟨Qi l2 l5,m2.le l5,m5.low l2,Sep.of m2.isOld m5.isNew⟩
theorem y66(h:Rd 5 fE H s xs)(hl:xs.length<=1000000000)
    (hf:∀x:Ev,QfV Tryz.prog fv [evV x] H (.bool (p x))):qF F.f227 #[s.v,fv] H (vi (idx p xs)):=by
  have ls:=h.len;refine vc227 (upto (N:=xs.length) (J:=λn=>∀y∈xs.take n.toNat,p y=false) (by omega) (by simp) λn h0 h1 hJ=>⟨λhn=>?_,λhn=>⟨?_,Qg _⟩⟩)
  · have hn:n<xs.length:=by have:n<s.n:=by simpa using hn
                            omega
    have hg:=y55 (h:=xs) (i:=n.toNat) (by omega);refine⟨h.inS h0 hn,_,_,_,_,_,Rd.gE h h0 hn,_,hf (hp xs n.toNat),λhb=>⟨?_,Qg _⟩,λhb=>upto.nx h0 hn (by omega) ?_⟩
    · rw[y5s hg hb hJ,Qq h0]
    · rw[show (n+1).toNat=n.toNat+1 by omega,x88 hg]
      intro y hy;rcases Qu.1 hy with hy|hy
      · exact hJ y hy
      · simp only[Qt] at hy;subst hy;exact hb
  · have:n=xs.length:=by have:¬ n<s.n:=by simpa using hn
                         omega
    subst this;rw[Qo,Qz] at hJ;rw[y5u hJ]
theorem zrm(h:Rd 5 fE H s xs)(hl:xs.length<=1000000000)
  (hf:∀x:Ev,QfV Tryz.prog fv [evV x] H (.bool (p x))):qF F.f180 #[s.v,fv] H (.bool (xs.any p)) :=
 vc180 ⟨_,y66 h hl hf,by rw[← y5r],Qg _⟩
def yqt(a:Ag):Prop:=a.wh.length=a.tb.uses.length/\a.heap.length+a.tb.free.length=a.tb.uses.length/\(∀i:Nat,i<a.tb.uses.length->a.tb.used.getD i false=false->a.wh.getD i 0 = -1) /\
 ∀i:Nat,i<a.tb.uses.length->a.tb.used.getD i false=true->0<=a.wh.getD i 0/\a.wh.getD i 0<a.heap.length/\(hp a.heap (a.wh.getD i 0).toNat).h=((i:Int),a.tb.uses.getD i 0)
noncomputable instance (a:Ag):Decidable (yqt a):=Classical.propDecidable _
theorem ywo(h:RdA H u1 u2 u3 u4 u5 a)(f:fitG a)(tok:okT a.tb) :
    qF F.f145 #[agV u1 u2 u3 u4 u5] H (.bool (decide (yqt a))):=by
  have l1:=h.tb.uses.len;have l2:=h.tb.used.len;have l3:=h.tb.free.len;have l4:=h.heap.len;have l5:=h.wh.len;obtain⟨⟨f1,f2,f3⟩,f4,f5,f6⟩:=f;have:=tok.len;have:=tok.top;have no:¬ yqt a->Xf false=.bool (decide (yqt a)):=λhp=>by rw[Zv hp]
  refine vc145 ⟨λ_=>by unfold inI;omega,λhc=>⟨no λp=>?_,Qg _⟩,λhc=>?_⟩
  · obtain⟨p1,p2,_⟩:=p
    simp only[Qc,bne_iff_ne,ne_eq] at hc;omega
  simp only[Qa,bne_eq_false_iff_eq] at hc;obtain⟨hc1,hc2⟩:=hc;refine upto (N:=a.wh.length) (J:=λn=>(∀i:Nat,i<n->a.tb.used.getD i false=false->a.wh.getD i 0 = -1)/\∀i:Nat,i<n->a.tb.used.getD i false=true->0<=a.wh.getD i 0/\a.wh.getD i 0<a.heap.length/\(hp a.heap (a.wh.getD i 0).toNat).h=((i:Int),a.tb.uses.getD i 0))
    (by omega) ⟨λi hi=>by omega,λi hi=>by omega⟩ λn h0 h1 ⟨j1,j2⟩=>⟨λhn=>?_,λhn=>?_⟩
  · have hn:n<a.wh.length:=by have:n<u1.n:=by simpa using hn
                              omega
    have en:((n.toNat:Nat):Int)=n:=Qq h0;refine h.tb.used.ldB h0 (by omega) ⟨λhu=>h.wh.ldI h0 hn ⟨λhw=>⟨no λp=>?_,Qg _⟩,λhw=>upto.nx h0 hn (by omega) ⟨λi hi hu'=>?_,λi hi hu'=>?_⟩⟩,λhu=>h.wh.ldI h0 hn ?_⟩
    · have hu:a.tb.used.getD n.toNat false=false:=by simpa using hu
      have:=p.2.2.1 n.toNat (by omega) hu;rw[this] at hw;simp at hw
    · have hw:a.wh.getD n.toNat 0 = -1:=by simpa using hw
      rcases Qp i n with h'|h'
      · exact j1 i h' hu'
      · have:i=n.toNat:=by omega
        subst this;exact hw
    · have hu:a.tb.used.getD n.toNat false=false:=by simpa using hu
      rcases Qp i n with h'|h'
      · exact j2 i h' hu'
      · have:i=n.toNat:=by omega
        subst this;rw[hu] at hu';cases hu'
    · have hu:a.tb.used.getD n.toNat false=true:=by simpa using hu
      generalize hw:a.wh.getD n.toNat 0=w;have hr:(!(decide (w<0)||decide (w>=(u4.n:Int))))=true->0<=w/\w<a.heap.length:=λhh=>by
        simp at hh;omega
      have hr2:∀{b:Bool},(!(decide (w<0)||decide (w>=(u4.n:Int))||b))=true->0<=w/\w<a.heap.length:=λhh=>by
        simp at hh;omega
      refine⟨λhh=>h.heap.inS (hr hh).1 (hr hh).2,_,λhh=>by rw[add_zero'];exact(Rd.gEh h.heap (hr hh).1 (hr hh).2).1,λhh=>h.heap.inS (hr2 hh).1 (hr2 hh).2,_,_,λhh=>Rd.gEh h.heap (hr2 hh).1 (hr2 hh).2,_,λhh=>ywb h.tb tok,λhb=>⟨no λp=>?_,Qg _⟩,λhb=>upto.nx h0 hn (by omega) ⟨λi hi hu'=>?_,λi hi hu'=>?_⟩⟩
      · obtain⟨k1,k2,k3⟩:=p.2.2.2 n.toNat (by omega) hu
        rw[hw] at k1 k2 k3;have lv:a.tb.live (hp a.heap w.toNat).h.1 (hp a.heap w.toNat).h.2=true:=by
          rw[k3,yb7];exact⟨by show (0:Int)<=(n.toNat:Int);omega,by show (n.toNat:Int)<_;omega,by show a.tb.used.getD ((n.toNat:Int)).toNat false=true;rw[Qo];exact hu,by show a.tb.uses.getD ((n.toNat:Int)).toNat 0=_;rw[Qo]⟩
        rw[lv,k3] at hb;simp at hb;omega
      · rcases Qp i n with h'|h'
        · exact j1 i h' hu'
        · have:i=n.toNat:=by omega
          subst this;rw[hu] at hu';cases hu'
      · rcases Qp i n with h'|h'
        · exact j2 i h' hu'
        · have e:i=n.toNat:=by omega
          subst e;simp only[Qa,Zt,bne_eq_false_iff_eq,Qd] at hb;obtain⟨⟨⟨b1,b2⟩,b3⟩,b4⟩:=hb;obtain⟨v1,v2,v3,v4⟩:=yb7.1 b4;rw[hw];refine⟨by omega,by omega,Prod.ext (by rw[b3];exact en.symm) ?_⟩;rw[b3] at v4;exact v4.symm
  · have:n=a.wh.length:=by have:¬ n<u1.n:=by simpa using hn
                           omega
    subst this;have hp':yqt a:=⟨by omega,by omega,λi hi hu=>j1 i (by omega) hu,λi hi hu=>j2 i (by omega) hu⟩;exact⟨by rw[Zu hp'],Qg _⟩
theorem yjy:okA a↔okT a.tb/\yqt a/\(∀x∈a.heap,okR x.at_/\0<=x.no/\x.no<=1000000)/\(a.heap.map (·.no)).Nodup/\(∀i:Nat,1<=i->i<a.heap.length->yaj (hp a.heap i) (hp a.heap (par i))=false) :=
 ⟨λok=>⟨ok.tb,⟨ok.wl,ok.hl,ok.free,ok.used⟩,ok.each,ok.nos,ok.ord⟩,λ⟨a1,⟨a2,a3,a4,a5⟩,a6,a7,a8⟩=>⟨a1,a2,a3,a4,a5,a6,a7,a8⟩⟩
theorem yvk(h:RdA H u1 u2 u3 u4 u5 a)(f:fitG a) :
    qF F.f90 #[agV u1 u2 u3 u4 u5] H (vi (zl6 a)):=by
  have l4:=h.heap.len;have f4:=f.hl;have f6:=f.fit;have bad:¬ okA a->vi 8=vi (zl6 a):=λhk=>by rw[zl7 hk]
  refine vc90 ⟨_,yv8 h.tb f.tb,decide (yqt a),λhc=>ywo h f (zmc.1 (by simpa using hc)),λhc=>⟨bad λok=>?_,Qg _⟩,λhc=>?_⟩
  · have:=yjy.1 ok
    rw[zmb this.1,Zu this.2.1] at hc;simp at hc
  simp only[Qa,bne_eq_false_iff_eq,Qd,Zq] at hc;have tok:=zmc.1 hc.1;have plc:=hc.2;refine upto (N:=a.heap.length) (J:=λn=>(∀x∈a.heap.take n.toNat,okR x.at_/\0<=x.no/\x.no<=1000000)/\((a.heap.take n.toNat).map (·.no)).Nodup) (by omega) ⟨by simp,by simp⟩ λn h0 h1 ⟨je,jn⟩=>⟨λhn=>?_,λhn=>?_⟩
  · have hn:n<a.heap.length:=by have:n<u4.n:=by simpa using hn
                                omega
    have hg:=y55 (h:=a.heap) (i:=n.toNat) (by omega);have hmem:=y57 (h:=a.heap) (i:=n.toNat) (by omega);have hts:=x88 hg;have e1:(n+1).toNat=n.toNat+1:=by omega
    refine⟨h.heap.inS h0 hn,_,_,_,_,_,Rd.gE h.heap h0 hn,_,yws (f6 _ hmem),λhb=>⟨bad λok=>?_,Qg _⟩,λhb=>?_⟩
    · obtain⟨k1,k2,k3⟩:=ok.each _ hmem
      rw[zm8 k1] at hb;simp only[bne_self_eq_false,Qe,Qc,Zq] at hb;omega
    simp only[Qa,bne_eq_false_iff_eq,Zt] at hb;obtain⟨⟨b1,b2⟩,b3⟩:=hb;have okn:=zm9.1 b1;refine upto (N:=n) (J:=λk=>∀y∈a.heap.take k.toNat,y.no≠(hp a.heap n.toNat).no) h0 (by simp) λk k0 k1 k2=>⟨λhk=>?_,λhk=>?_⟩
    · have hk:k<n:=by simpa using hk
      have hgk:=y55 (h:=a.heap) (i:=k.toNat) (by omega);refine⟨h.heap.inS k0 (by omega),_,Rd.gEn h.heap k0 (by omega),λhb=>⟨bad λok=>?_,Qg _⟩,λhb=>upto.nx k0 hk (by omega) ?_⟩
      · have hb:(hp a.heap k.toNat).no=(hp a.heap n.toNat).no:=by simpa using hb
        have:=(ok.nos).sublist ((Q1 (n.toNat+1) a.heap).map (·.no));rw[hts,Qv] at this;refine(yix.1 this).2 ?_;exact Q4.2 ⟨_,Q3.2 ⟨k.toNat,by omega,(Qy.1 hgk).2⟩,hb⟩
      · rw[show (k+1).toNat=k.toNat+1 by omega,x88 hgk]
        intro y hy;rcases Qu.1 hy with hy|hy
        · exact k2 y hy
        · simp only[Qt] at hy;subst hy;simpa using hb
    · have:k=n:=by have:¬ k<n:=by simpa using hk
                   omega
      subst this;refine upto.nx h0 hn (by omega) ⟨λx hx=>?_,?_⟩
      · rw[e1,hts] at hx
        rcases Qu.1 hx with hx|hx
        · exact je x hx
        · simp only[Qt] at hx;subst hx;exact⟨okn,by omega,by omega⟩
      · rw[e1,hts,Qv]
        refine yix.2 ⟨jn,λhm=>?_⟩;obtain⟨y,hy,e⟩:=Q4.1 hm;exact k2 y hy e
  · have:n=a.heap.length:=by have:¬ n<u4.n:=by simpa using hn
                             omega
    subst this;rw[Qo,Qz] at je jn;refine⟨λm H'=>H'=H/\1<=m/\∀i:Nat,1<=i->(i:Int)<m->i<a.heap.length->yaj (hp a.heap i) (hp a.heap (par i))=false,λm _=>(a.heap.length-m).toNat,⟨rfl,Int.le_refl _,λi hi1 hi2=>by omega⟩,λm H' ⟨e,m1,jo⟩=>?_⟩;subst e;refine⟨λhm=>?_,λhm=>?_⟩
    · have hm:m<a.heap.length:=by have:m<u4.n:=by simpa using hm
                                  omega
      have pl:=ynl (i:=m.toNat) (by omega);have ep:=ynk (n:=m) (by omega);have gp:=Rd.gE h.heap (i:=((par m.toNat:Nat):Int)) (by omega) (by omega);rw[Qo] at gp;rw[ep];refine⟨h.heap.inS (by omega) hm,_,_,_,_,_,Rd.gE h.heap (by omega) hm,by unfold inI;omega,⟨by unfold nz;omega,by unfold inI;omega⟩,h.heap.inS (by omega) (by omega),_,_,_,_,_,gp,_,yvt (je _ (y57 (by omega))).1 (je _ (y57 (by omega))).1,λhb=>⟨bad λok=>?_,Qg _⟩,λhb=>⟨by unfold inI;omega,⟨rfl,by omega,λi i1 i2 i3=>?_⟩,by show ((a.heap.length:Int)-(m+1)).toNat<((a.heap.length:Int)-m).toNat;omega⟩⟩
      · rw[ok.ord m.toNat (by omega) (by omega)] at hb;cases hb
      · rcases Qp i m with h'|h'
        · exact jo i i1 h' i3
        · have e:i=m.toNat:=by omega
          subst e;exact hb
    · have hm:¬ m<u4.n:=by simpa using hm
      exact⟨by rw[zl8 (yjy.2 ⟨tok,plc,je,jn,λi i1 i2=>jo i i1 (by omega) i2⟩)],Qg _⟩
theorem z4u(r:RdA H u1 u2 u3 u4 u5 a)(f:fitG a) :
  qF F.f211 #[agV u1 u2 u3 u4 u5,.agg #[vi h.1,vi h.2]] H (.tuple #[vi (if (zym a h).2=0 then (atA a h:Int) else 0),vi (zym a h).2]):=by
 refine vc211 ⟨_,z4r r f,λhc=>?_,λhc=>?_⟩
 ·have hk:¬ okA a:=λok=>by rw[zl8 ok] at hc;simp at hc
  rw[zym,Zn hk,zl7 hk];exact⟨rfl,Qg _⟩
 ·have ok:okA a:=zl9.1 (by simpa using hc);rw[zym,Zp ok];refine⟨_,_,x3n r.tb f.tb,λhb=>?_,λhb=>?_⟩
  ·rw[y45,Zp ok.tb] at hb;have hl:a.tb.live h.1 h.2≠true:=by simpa using hb
   rw[Zn hl];exact⟨rfl,Qg _⟩
  ·rw[y45,Zp ok.tb] at hb;have hl:a.tb.live h.1 h.2=true:=by simpa using hb
   rw[Zp hl];obtain⟨v1,v2,v3,v4⟩:=yb7.1 hl;have:=ok.wl;have so:=ok.slotOf hl;refine r.wh.ldI v1 (by omega) ⟨?_,Qg _⟩;rw[Zp rfl];unfold atA;rw[Qq so.1]
theorem z56(r:RdA H u1 u2 u3 u4 u5 a)(f:fitG a) :
  qF F.f75 #[agV u1 u2 u3 u4 u5] H (.tuple #[evV (x9i a).1,vi (x9i a).2]):=by
 have l4:=r.heap.len;refine vc75 ⟨_,z4r r f,λhc=>?_,λhc=>?_⟩
 ·have hk:¬ okA a:=λok=>by rw[zl8 ok] at hc;simp at hc
  rw[x9i,Zn hk,zl7 hk];exact⟨rfl,Qg _⟩
 ·have ok:okA a:=zl9.1 (by simpa using hc);rw[x9i,Zp ok];refine⟨λhb=>?_,λhb=>?_⟩
  ·have hb:u4.n=0:=by simpa using hb
   rw[Zp (by omega)];exact⟨rfl,Qg _⟩
  ·have hb:¬ u4.n=0:=by simpa using hb
   rw[Zn (by omega)];exact⟨r.heap.inS (by omega) (by omega),_,_,_,_,_,Rd.gE r.heap (i:=0) (by omega) (by omega),rfl,Qg _⟩
theorem yvl(r:RdA H u1 u2 u3 u4 u5 a)(f:fitG a) :
  qF F.f92 #[agV u1 u2 u3 u4 u5,.agg #[vi h.1,vi h.2]] H (.tuple #[evV (zym a h).1,vi (zym a h).2]):=by
 refine vc92 ⟨_,yvk r f,λhc=>?_,λhc=>?_⟩
 ·have hk:¬ okA a:=λok=>by rw[zl8 ok] at hc;simp at hc
  rw[zym,Zn hk];exact⟨rfl,Qg _⟩
 ·have ok:okA a:=zl9.1 (by simpa using hc);rw[zym,Zp ok];refine⟨_,ywb r.tb ok.tb,λhb=>?_,λhb=>?_⟩
  ·have hl:a.tb.live h.1 h.2≠true:=by simpa using hb
   rw[Zn hl];exact⟨rfl,Qg _⟩
  ·have hl:a.tb.live h.1 h.2=true:=by simpa using hb
   rw[Zp hl];obtain⟨v1,v2,v3,v4⟩:=yb7.1 hl;have:=ok.wl;have so:=ok.slotOf hl;refine r.wh.ldI v1 (by omega) ?_;have g:=Rd.gE r.heap (i:=a.wh.getD h.1.toNat 0) so.1 so.2.1;exact⟨r.heap.inS so.1 so.2.1,_,_,_,_,_,g,rfl,Qg _⟩
theorem _root_.Go.Eng.Chg.two(c:Chg H H' u):z0i H H' u v:=λb hb h1 _=>c b hb h1
theorem ztg{f:Nat}{s:Hw}{i:Nat}(o:ylk s.1):zta f s i=s :=
 ztf λ⟨a,b⟩=>by
  obtain⟨k1,k2,k3⟩:=y82 s.1 i;have:=o (kid s.1 i) (by omega) (k2 a);rw[k3] at this;rw[this] at b;cases b
theorem zwt(x:Ev):∀v∈fE x,v.oneCell'=true:=λv hv=>by simp[fE] at hv;rcases hv with rfl|rfl|rfl|rfl|rfl <;> rfl
theorem z4w(h:H.at ((Addr.mk b 0 none).add 0)=some (vi n)) :
  QfV Tryz.prog (.func (.func F.f181) #[] #[.pointer (some ⟨b,0,none⟩)]) [evV x] H (.bool (x.no==n)):=by
 refine⟨F.f181,#[],_,rfl,cb181,?_⟩;exact vc181 (a5:=⟨b,0,none⟩) ⟨_,h,rfl,Qg _⟩
theorem yco(h:¬ (okA a/\okR t)):(if zm6 t>zl6 a then zm6 t else zl6 a)=8:=by
 by_cases o1:okA a
 ·have o2:¬ okR t:=λo2=>h ⟨o1,o2⟩
  rw[zl8 o1,zm7 o2];try rfl
 ·rw[zl7 o1];by_cases o2:okR t
  ·rw[zm8 o2];try rfl
  ·rw[zm7 o2];try rfl
theorem MyA.new{H9 H17:Hp}{s1 s2 s3:Slc}{tb:Tb}{s:Hw}(nt:z1f H0 H17 s1 s2 s3 tb)(m:MyA H0 H u4 u5 s)(c:z0i H17 H u4 u5)(h4:z26 s1 s2 s3 u4)(h5:z26 s1 s2 s3 u5):z1c H0 H s1 s2 s3 u4 u5 ⟨tb,s.1,s.2⟩ :=
 ⟨z1f.chg2 nt c h4 h5 m.heap.isNew m.wh.isNew,m.heap,m.wh,m.sep,h4,h5⟩
theorem z4v(r:RdA H u1 u2 u3 u4 u5 a)(f:fitG a)(ft:zzn t) :
  fN F.f119 #[agV u1 u2 u3 u4 u5,.agg #[vi t.1,vi t.2],vi n] H λv H'=>∃v1 v2 v3 v4 v5:Slc,
   v=.tuple #[agV v1 v2 v3 v4 v5,.agg #[vi (ysu a t n).2.1.1,vi (ysu a t n).2.1.2],vi (ysu a t n).2.2]/\z1c H H' v1 v2 v3 v4 v5 (ysu a t n).1:=by
 have fh:=f.hl;have fw:=f.wl;refine vc119 λb1 H2 hb1 hH2=>?_
 have le2:Qh H H2:=Qj (Qg _) hb1 hH2;have r2:=r.le le2;have va:=Var.new hH2;have e1:=va.at;refine⟨_,z4r r2 f,_,yui ft,λhc=>?_,λhc=>?_⟩
 ·have hbad:¬ (okA a/\okR t):=λ⟨o1,o2⟩=>by rw[zl8 o1,zm8 o2] at hc;simp at hc
  rw[yco hbad,ysu,Zn hbad];exact⟨zs,zs,zs,zs,zs,rfl,z1c.zero le2⟩
 have ok:okA a/\okR t:=by
  by_cases h:okA a/\okR t
  ·exact h
  ·rw[yco h] at hc;simp at hc
 rw[ysu,Zp ok];refine⟨_,e1,_,λ_=>e1,λhb=>?_,λhb=>?_⟩
 ·rw[Zp (by simpa using hb)];exact⟨zs,zs,zs,zs,zs,rfl,z1c.zero le2⟩
 rw[Zn (show ¬ (n<0\/1000000<n) by simpa using hb)];refine⟨_,zrm r2.heap (by omega) (λx=>z4w e1),λhb=>?_,λhb=>?_⟩
 ·rw[Zp (show y43 a n=true from hb)];exact⟨zs,zs,zs,zs,zs,rfl,z1c.zero le2⟩
 rw[Zn (show ¬ y43 a n=true from by rw[show y43 a n=false from hb];simp)];refine(x3p r2.tb f.tb).mono λv H9 ⟨s1,s2,s3,hv,nt⟩=>⟨s1,s2,s3,_,_,_,hv,?_⟩
 rw[x7q,Zp ok.1.tb] at nt ⊢;by_cases hct:a.tb.canTake=true
 ·rw[Zp hct] at nt ⊢;rw[Zp hct];refine⟨λhe=>by simp at he,λ_=>?_⟩;have le9:=Qi le2 nt.le;refine(z57 (r.le le9) fh fw).mono λv H17 ⟨b,c,hv,m⟩=>⟨_,_,_,b,c,hv,n,?_,λb24 H25 hb24 hH25=>?_⟩
  ·exact(va.le (Qi nt.le m.le)).at
  have le17:=Qi le9 m.le;have hmb:=m.heap.low le9;have hmc:=m.wh.low le9;have o:=nt.old;refine(z7b (k:=5) (f:=fE) (bytes:=40) (x:=(Ev.mk t n (yh1 a))) (e:=T.api_Event) (by kernel_rfl) (by decide) (λ_=>rfl) zwt le17 hmb hb24 hH25 rfl (by show a.heap.length<=_;omega) (by omega)).mono λv H27 ⟨w,hw,l27,mw,cw,ew⟩=>⟨w,hw,?_⟩
  have lw:=mw.rdE.len;have lw:w.n=a.heap.length+1:=by rw[lw];simp
  have mc:=hmc.chg cw m.sep.symm;have my:MyA H H27 w c (a.heap++[(Ev.mk t n (yh1 a))],a.wh):=⟨l27,mw,mc,m.sep.ext m.wh.isOld ew⟩;have nt17:=(nt.low le2).up m.le;have sb:z26 s1 s2 s3 b:=⟨Sep.of o.1 m.heap.isNew,Sep.of o.2.1 m.heap.isNew,Sep.of o.2.2 m.heap.isNew⟩;have sc:z26 s1 s2 s3 c:=⟨Sep.of o.1 m.wh.isNew,Sep.of o.2.1 m.wh.isNew,Sep.of o.2.2 m.wh.isNew⟩;have nt27:=z1f.chg2 nt17 (cw.two (v:=c)) sb sc hmb.isNew hmc.isNew;have sw:z26 s1 s2 s3 w:=sb.ext (o.le m.le) ew;have en:((w.n:Int)-1)=(a.heap.length:Nat):=by omega
  obtain⟨p1,p2,p3,p4⟩:=ysy (n:=n) ok.1 ok.2 hct;obtain⟨hf,hu⟩:=zbx.1 hct;obtain⟨tm,t0,t1⟩:=ok.1.tb.topR hf;have hwl:=ok.1.wl;have es:((a.heap++[(Ev.mk t n (yh1 a))]).set a.heap.length (Ev.mk t n (yh1 a)),a.wh.set (yh1 a).1.toNat (a.heap.length:Nat))=ysx a t n:=by
   unfold ysx;rw[List.set_append_right _ _ (Q8 _)];simp[yh1]
  refine⟨by unfold inI;omega,?_⟩;rw[en];have hset:=z54 (u1:=s1) (u2:=s2) (u3:=s3) (i:=a.heap.length) (x:=(Ev.mk t n (yh1 a))) my (by simp) (by show x9q a.tb.free<a.wh.length;omega) (by exact t0) (by show plA (_,_);rw[show (a.wh.set (yh1 a).1.toNat (a.heap.length:Nat))=a.wh.set (yh1 a).1.toNat (a.heap.length:Nat) from rfl,es];exact p1)
   (λx hx=>by
    rw[show ((a.heap++[(Ev.mk t n (yh1 a))]).set a.heap.length (Ev.mk t n (yh1 a)))=(ysx a t n).1 from congrArg Prod.fst es] at hx;rcases Qu.1 hx with hx|hx
    ·exact(ok.1.each x hx).1
    ·simp only[Qt] at hx;subst hx;exact ok.2) (by have:=ok.1.hl;have:=ok.1.tb.top;simp;omega)
  refine hset.mono λv H30 ⟨hv,m30,c30⟩=>⟨hv,s1,s2,s3,w,c,rfl,?_⟩
  have hk:=yt0 (n:=n) ok.1 ok.2 hct;have em:yfe (ysx a t n) a.heap.length=(upA a.heap.length (ysx a t n) a.heap.length).1:=by
   unfold yfe;exact ztg hk.2
  have m30:MyA H H30 w c (upA a.heap.length (ysx a t n) a.heap.length).1:=by
   rw[← em,← es];exact m30
  exact MyA.new (H9:=H) nt27 m30 c30 sw sc
 ·rw[Zn hct] at nt ⊢;rw[Zn hct];exact⟨λ_=>⟨zs,zs,zs,zs,zs,rfl,z1c.zero (Qi le2 nt.le)⟩,λhe=>by simp at he⟩
theorem MyA.up{s:Hw}(m:MyA H0 H u4 u5 s)(hl:Qh H H'):MyA H0 H' u4 u5 s:=⟨Qi m.le hl,m.heap.le hl,m.wh.le hl,m.sep⟩
theorem MyA.low{H0 H1 H:Hp}{u4 u5:Slc}{s:Hw}(m:MyA H1 H u4 u5 s)(hl:Qh H0 H1):MyA H0 H u4 u5 s:=⟨Qi hl m.le,m.heap.low hl,m.wh.low hl,m.sep⟩
theorem MyA.cut{H0 H:Hp}{u4 u5:Slc}{s:Hw}(m:MyA H0 H u4 u5 s){n:Nat}(hn:n<=s.1.length):MyA H0 H ⟨u4.a,n,u4.c⟩ u5 (s.1.take n,s.2) :=
 ⟨m.le,Mine.cut (k:=5) (f:=fE) (λ_=>rfl) m.heap hn,m.wh,λp q hp hq=>m.sep p q hp hq⟩
theorem MyA.put{s:Hw}(m:MyA H0 H u4 u5 s){i y:Int}(h0:0<=i)(h1:i<s.2.length){Q:Hp->Prop}
  (q:∀H',MyA H0 H' u4 u5 (s.1,s.2.set i.toNat y)->z0i H H' u4 u5->Q H') :
  H.canStore (zu4 u5.a 1 i) 0 [vi y]/\∀H',H'=H.store (zu4 u5.a 1 i) 0 [vi y]->Q H' :=
 Mine.setI m.wh h0 h1 y λH' m' c'=>q H' ⟨Ql m.le c' m.wh.isNew,m.heap.chg c' m.sep,m',m.sep⟩ λb hb _ h2=>c' b hb h2
theorem yxc(ok:okA a)(hl:a.tb.live h.1 h.2=true)(hne:atA a h≠a.heap.length-1):x8t (yxb a h).1:=λx hx=>by
 have:=(yxn ok hl hne).2.mem_iff.1 (List.mem_cons_of_mem _ hx);exact(ok.each x this).1
theorem yxd(ok:okA a)(hl:a.tb.live h.1 h.2=true)(hne:atA a h≠a.heap.length-1):h.1.toNat≠(hp a.heap (a.heap.length-1)).h.1.toNat:=λe=>by
 obtain⟨m1,m2,m3⟩:=zys ok hl;have:=(ok.pl (a.heap.length-1) (by show a.heap.length-1<a.heap.length;omega)).2.2;have this:a.wh.getD (hp a.heap (a.heap.length-1)).h.1.toNat 0=((a.heap.length-1:Nat):Int):=this;rw[← e] at this;apply hne;unfold atA;rw[this,Qo]
theorem z4z(r:RdA H u1 u2 u3 u4 u5 a)(ok:okA a)(hl:a.tb.live h.1 h.2=true) :
  fN F.f212 #[agV u1 u2 u3 u4 u5,vi (atA a h:Int)] H λv H'=>∃v1 v2 v3 v4 v5:Slc,
   v=.tuple #[agV v1 v2 v3 v4 v5,evV (hp a.heap (atA a h)),vi 0]/\z1c H H' v1 v2 v3 v4 v5 (yxk a h):=by
 have f:=okA.fitG ok;have fh:=f.hl;have fw:=f.wl;obtain⟨m1,m2,m3⟩:=zys ok hl;obtain⟨l1,l2,l3,l4⟩:=yb7.1 hl;have hwl:=ok.wl;have g:=Rd.gE r.heap (i:=(atA a h:Int)) (by omega) (by omega);rw[Qo] at g;refine vc212 ⟨r.heap.inS (by omega) (by omega),_,_,_,_,_,g,?_⟩;rw[m2];refine(x3m r.tb f.tb).mono λv H7 ⟨s1,s2,s3,hv,nt⟩=>⟨s1,s2,s3,_,hv,?_⟩
 rw[y3i,Zp ok.tb,Zp hl] at nt ⊢;refine⟨λhe=>by simp at he,λ_=>?_⟩;refine(z57 (r.le nt.le) fh fw).mono λv H13 ⟨b,c,hv,m⟩=>⟨_,_,_,b,c,hv,?_⟩
 have lb:b.n=a.heap.length:=m.heap.rdE.len;have cb:=m.heap.rdE.cap;have gl:=Rd.gE m.heap.rdE (i:=((a.heap.length-1:Nat):Int)) (by omega) (by show _<(a.heap.length:Int);omega);rw[Qo] at gl;have en:(b.n:Int)-1=((a.heap.length-1:Nat):Int):=by omega
 have o:=nt.old;have sb:z26 s1 s2 s3 b:=⟨Sep.of o.1 m.heap.isNew,Sep.of o.2.1 m.heap.isNew,Sep.of o.2.2 m.heap.isNew⟩;have sc:z26 s1 s2 s3 c:=⟨Sep.of o.1 m.wh.isNew,Sep.of o.2.1 m.wh.isNew,Sep.of o.2.2 m.wh.isNew⟩;have sb':z26 s1 s2 s3 ⟨b.a,a.heap.length-1,b.c⟩:=⟨λp q hp hq=>sb.1 p q hp hq,λp q hp hq=>sb.2.1 p q hp hq,λp q hp hq=>sb.2.2 p q hp hq⟩;rw[en,x0z,Qo];refine⟨by unfold inI;omega,m.heap.rdE.inS (by omega) (by show _<(a.heap.length:Int);omega),_,_,_,_,_,gl,⟨by omega,by omega,by omega,by omega⟩,m.wh.rdI.inS l1 (by show _<(a.wh.length:Int);omega),?_⟩;have m0:=(m.low nt.le).cut (n:=a.heap.length-1) (by show _<=a.heap.length;omega);refine m0.put l1 (by show _<(a.wh.length:Int);omega) λH24 m24 c24=>⟨λhlt=>?_,λhge=>?_⟩
 ·have hlt:(atA a h:Int)<((a.heap.length-1:Nat):Int):=by simpa using hlt
  have hne:atA a h≠a.heap.length-1:=by omega
  obtain⟨p1,p2,p3,p4⟩:=yxe ok hl hne;obtain⟨q1,q2,q3⟩:=ok.pl (a.heap.length-1) (by show a.heap.length-1<a.heap.length;omega);have es:((a.heap.take (a.heap.length-1)).set (atA a h) (hp a.heap (a.heap.length-1)),(a.wh.set h.1.toNat (-1)).set (hp a.heap (a.heap.length-1)).h.1.toNat (atA a h:Nat))=yxb a h:=by
   unfold yxb;rw[List.take_set,Q2 _ _ (yxd ok hl hne)]
  have hset:=z54 (u1:=s1) (u2:=s2) (u3:=s3) (i:=atA a h) (x:=hp a.heap (a.heap.length-1)) m24 (by show _<(a.heap.take _).length;simp;omega) (by show _<((a.wh.set _ _).length:Int);rw[Qw];exact q2) q1
   (by show plA ((a.heap.take (a.heap.length-1)).set (atA a h) (hp a.heap (a.heap.length-1)),(a.wh.set h.1.toNat (-1)).set (hp a.heap (a.heap.length-1)).h.1.toNat (atA a h:Nat));rw[es];exact p1)
   (by show x8t ((a.heap.take (a.heap.length-1)).set (atA a h) (hp a.heap (a.heap.length-1)));rw[show (a.heap.take (a.heap.length-1)).set (atA a h) (hp a.heap (a.heap.length-1))=(yxb a h).1 from congrArg Prod.fst es];exact yxc ok hl hne)
   (by show (a.heap.take _).length<=_;simp;omega)
  refine hset.mono λv H26 ⟨hv,m26,c26⟩=>⟨hv,s1,s2,s3,⟨b.a,a.heap.length-1,b.c⟩,c,by unfold evV;rw[m2],?_⟩
  rw[yxk,Zn hne];have m26:MyA H H26 ⟨b.a,a.heap.length-1,b.c⟩ c (yfe (yxb a h) (atA a h)):=by rw[← es];exact m26
  exact MyA.new (H9:=H) (nt.up m.le) m26 (c24.trans c26) sb' sc
 ·have hge:¬ (atA a h:Int)<((a.heap.length-1:Nat):Int):=by simpa using hge
  refine⟨s1,s2,s3,⟨b.a,a.heap.length-1,b.c⟩,c,by unfold evV;rw[m2],?_⟩;rw[yxk,Zp (by omega)];exact MyA.new (H9:=H) (nt.up m.le) m24 c24 sb' sc
theorem z4y(r:RdA H u1 u2 u3 u4 u5 a)(f:fitG a) :
  fN F.f166 #[agV u1 u2 u3 u4 u5,.agg #[vi h.1,vi h.2]] H λv H'=>∃v1 v2 v3 v4 v5:Slc,
   v=.tuple #[agV v1 v2 v3 v4 v5,evV (yxf a h).2.1,vi (yxf a h).2.2]/\z1c H H' v1 v2 v3 v4 v5 (yxf a h).1:=by
 refine vc166 ⟨_,_,z4u r f,λhc=>?_,λhc=>?_⟩
 ·have hk:(zym a h).2≠0:=by simpa using hc
  rw[yxf,Zn hk];exact⟨zs,zs,zs,zs,zs,rfl,z1c.zero (Qg _)⟩
 ·have hk:(zym a h).2=0:=by simpa using hc
  rw[yxf,Zp hk,Zp hk];have hh:okA a/\a.tb.live h.1 h.2=true:=by
   unfold zym at hk;split at hk
   ·rename_i ok;split at hk
    ·rename_i hl;exact⟨ok,hl⟩
    ·cases hk
   ·cases hk
  refine(z4z r hh.1 hh.2).mono λv H4 ⟨v1,v2,v3,v4,v5,hv,n⟩=>⟨v1,v2,v3,v4,v5,_,_,_,_,_,_,hv,v1,v2,v3,v4,v5,?_,n⟩
  rw[zym,Zp hh.1,Zp hh.2]
structure ReA(H H':Hp)(u1 u2 u3 v1 v2 v3 v4 v5:Slc)(b:Ag):Prop where
 or:(v1=u1/\v2=u2/\v3=u3)\/(v1=zs/\v2=zs/\v3=zs)
 tb:RdT H' v1 v2 v3 b.tb
 my:MyA H H' v4 v5 (b.heap,b.wh)
theorem ReA.zero{H H':Hp}{u1 u2 u3:Slc}(h:Qh H H'):ReA H H' u1 u2 u3 zs zs zs zs zs .zero:=⟨.inr ⟨rfl,rfl,rfl⟩,(z1f.zero h).rd,(z1c.zero h).my⟩
theorem ReA.le{H H':Hp}{u1 u2 u3 v1 v2 v3 v4 v5:Slc}{b:Ag}(r:ReA H H' u1 u2 u3 v1 v2 v3 v4 v5 b):Qh H H':=r.my.le
theorem ReA.rd{b:Ag}(r:ReA H H' u1 u2 u3 v1 v2 v3 v4 v5 b):RdA H' v1 v2 v3 v4 v5 b:=⟨r.tb,r.my.heap.rdE,r.my.wh.rdI⟩
theorem yvj(ok:okA a)(ht:okR t):x8t (reS a h t).1:=λx hx=>by
 rcases List.mem_or_eq_of_mem_set hx with hx|rfl
 ·exact(ok.each x hx).1
 ·exact ht
theorem z4x(r:RdA H u1 u2 u3 u4 u5 a)(f:fitG a)(ft:zzn t) :
  fN F.f165 #[agV u1 u2 u3 u4 u5,.agg #[vi h.1,vi h.2],.agg #[vi t.1,vi t.2]] H λv H'=>∃v1 v2 v3 v4 v5:Slc,
   v=.tuple #[agV v1 v2 v3 v4 v5,vi (yx6 a h t).2]/\ReA H H' u1 u2 u3 v1 v2 v3 v4 v5 (yx6 a h t).1:=by
 have fh:=f.hl;have fw:=f.wl;refine vc165 ⟨_,z4r r f,_,yui ft,λhc=>?_,λhc=>?_⟩
 ·have hbad:¬ (okA a/\okR t):=λ⟨o1,o2⟩=>by rw[zl8 o1,zm8 o2] at hc;simp at hc
  rw[yco hbad,yx6,Zn hbad];exact⟨zs,zs,zs,zs,zs,rfl,ReA.zero (Qg _)⟩
 have ok:okA a/\okR t:=by
  by_cases h:okA a/\okR t
  ·exact h
  ·rw[yco h] at hc;simp at hc
 rw[yx6,Zp ok];refine⟨_,_,z4u (h:=h) r f,λhb=>?_,λhb=>?_⟩
 ·have hk:(zym a h).2≠0:=by simpa using hb
  have:a.tb.live h.1 h.2≠true:=λhl=>by rw[zym,Zp ok.1,Zp hl] at hk;exact hk rfl
  rw[Zn this,zym,Zp ok.1,Zn this];exact⟨zs,zs,zs,zs,zs,rfl,ReA.zero (Qg _)⟩
 ·have hk:(zym a h).2=0:=by simpa using hb
  have hl:a.tb.live h.1 h.2=true:=by
   rw[zym,Zp ok.1] at hk;by_cases hl:a.tb.live h.1 h.2=true
   ·exact hl
   ·rw[Zn hl] at hk;cases hk
  rw[Zp hl,Zp hk];obtain⟨m1,m2,m3⟩:=zys ok.1 hl;obtain⟨p1,p2,p3,p4⟩:=yx8 ok.1 hl ok.2;refine(z57 r fh fw).mono λv H6 ⟨b,c,hv,m⟩=>⟨_,_,_,b,c,hv,?_⟩
  have g:=Rd.gE m.heap.rdE (i:=(atA a h:Int)) (by omega) (by show _<(a.heap.length:Int);omega);rw[Qo] at g;refine⟨m.heap.rdE.inS (by omega) (by show _<(a.heap.length:Int);omega),_,_,_,_,_,g,?_⟩;have q:=ok.1.pl (atA a h) m3;have es:(a.heap.set (atA a h) { hp a.heap (atA a h) with at_:=t },a.wh.set (hp a.heap (atA a h)).h.1.toNat (atA a h:Nat))=reS a h t:=by
   unfold reS;refine Prod.ext rfl ?_;show a.wh.set _ _=a.wh;have e:a.wh.getD (hp a.heap (atA a h)).h.1.toNat 0=(atA a h:Nat):=q.2.2;have q1:0<=(hp a.heap (atA a h)).h.1:=q.1;have q2:(hp a.heap (atA a h)).h.1<a.wh.length:=q.2.1;rw[← e];apply List.ext_getElem?;intro j;rw[List.getElem?_set];split
   ·rename_i ej;rw[← ej,Zp (by omega)];exact(y3h q1 q2).symm
   ·rfl
  have hset:=z54 (u1:=u1) (u2:=u2) (u3:=u3) (i:=atA a h) (x:={ hp a.heap (atA a h) with at_:=t }) m m3 q.2.1 q.1
   (by show plA (a.heap.set (atA a h) { hp a.heap (atA a h) with at_:=t },a.wh.set (hp a.heap (atA a h)).h.1.toNat (atA a h:Nat));rw[es];exact p1)
   (yvj (h:=h) ok.1 ok.2) fh
  refine hset.mono λv H18 ⟨hv,m18,c18⟩=>⟨hv,u1,u2,u3,b,c,rfl,.inl ⟨rfl,rfl,rfl⟩,r.tb.le m18.le,?_⟩
  have m18:MyA H H18 b c (yfe (reS a h t) (atA a h)):=by rw[← es];exact m18
  exact m18
theorem yvm(r:RdA H u1 u2 u3 u4 u5 a)(s:RdA H v1 v2 v3 v4 v5 a)(f:fitG a) :
  qF F.f87 #[agV u1 u2 u3 u4 u5,agV v1 v2 v3 v4 v5] H (.bool true):=by
 have fh:=f.hl;have fw:=f.wl;have l4:=r.heap.len;have k4:=s.heap.len;refine vc87 ⟨_,same r.tb s.tb f.tb,_,λ_=>yzk r.wh s.wh (by omega),λhc=>?_,λhc=>?_⟩
 ·simp at hc;omega
 ·refine upto (N:=a.heap.length) (J:=λ_=>True) (by omega) trivial λn h0 h1 _=>⟨λhn=>?_,λhn=>⟨rfl,Qg _⟩⟩
  have hn:n<a.heap.length:=by have:n<u4.n:=by simpa using hn
                              omega
  exact⟨r.heap.inS h0 hn,_,_,_,_,_,Rd.gE r.heap h0 hn,s.heap.inS h0 hn,_,_,_,_,_,Rd.gE s.heap h0 hn,λhb=>by simp at hb,λ_=>upto.nx h0 hn (by omega) trivial⟩
end Go.Proofs.YtnhdkkblehadjaaGreat
end
section
set_option maxRecDepth 100000
open Go Go.Eng Go.Proofs
namespace Go.Eng
theorem zru{P:Program}{t t2 ty e:TypeId}{x:TypeDesc}{cs:Array Bool}(ht:P.underlying t=some (.slice e))(he:P.underlying e=some x)(h1:P.cellsOf e=1)
  {H:Hp} {b off n c:Nat} {cells:Array Value} {T:TypeId} (hb:H b=some (.cells cells T (0,0))) {q:Addr} {m c':Nat} {vs:List Value} (hl:vs.length=m.min n)
  (hvs:∀j v,vs[j]?=some v->H.at (q.add j)=some v) (hone:∀v∈vs,v.oneCell'=true) (hsz:off+vs.length<=cells.size) :
  z1l P (z9e .copy #[t,t2] ty cs [.slice (some ⟨b,off,none⟩) n c,.slice (some q) m c']) H λv H'=>v=.int .i64 (vs.length:Int) /\
   H'=H.put b (.cells (cells.toList.take off++vs++cells.toList.drop (off+vs.length)).toArray T (0,0)):=by
 intro w hv;have hld:=run_loadCells_list (P:=P) w q vs (λj v h=>hv.cell (hvs j v h));have hst:=run_storeCells_at (P:=P) b off T vs 0 cells w (hv b _ hb) (by omega) hone;simp only[Nat.add_zero] at hst;refine⟨.int .i64 (vs.length:Int),w.setRow b (cells.toList.take off++vs++cells.toList.drop (off+vs.length)).toArray,_,.inl ?_,Tr.setRow hv hb _,rfl,rfl⟩;have hcp:(Builtin.copy_ #[t,t2] ty #[.slice (some ⟨b,off,none⟩) n c,.slice (some q) m c']).run P w=.ok (.int .i64 (vs.length:Int)) (w.setRow b (cells.toList.take off++vs++cells.toList.drop (off+vs.length)).toArray):=by
  unfold Builtin.copy_;simp only[Q6,List.getElem?_cons_zero,List.getElem?_cons_succ];rw[Xd,run_underlying ht,Xc];simp only[];rw[Xd,show (Builtin.lenOf (.slice (some q) m c')).run P w=.ok m w from rfl,Xc];rw[Xd,run_sizeOf he,Xc,h1];rw[Xd,show Builtin.firstCells 1 (m.min n) (.slice (some q) m c')=loadCells q (m.min n*1) from rfl,Xa,← hl,hld,Xc];simp only[];rw[Xd];rw[hst,Xc];rfl
 simp[z9e,Go.builtin,hcp]
end Go.Eng
namespace Go.Proofs.YtnhdkkblehadjaaGreat
theorem zal{H:Hp}{x y:Int}(hx:0<=x)(hx':x<18446744073709551616)(hy:0<=y)(hy':y<18446744073709551616) :
  qF F.f168 #[.int .u64 x,.int .u64 y] H (.tuple #[.int .u64 (x*y/18446744073709551616),.int .u64 (x*y%18446744073709551616)]) :=
 vc168 ⟨λh=>(by cases h),λ_=>⟨_,_,yfp hx hx' hy hy',rfl,Qg _⟩⟩
def ygi(N k:Nat):List Value:=Qs k (vi (-1))++Qs (N-k) (vi 0)
theorem ygj{N k:Nat}(h:k<=N):(ygi N k).length=N:=by simp[ygi];omega
theorem ygk{N k l:Nat}(h:k+l<=N):(ygi N k).take k++Qs l (vi (-1))++(ygi N k).drop (k+l)=ygi N (k+l):=by
 unfold ygi;rw[List.take_left' (by simp),List.drop_append,List.drop_eq_nil_of_le (by simp),List.drop_replicate,List.replicate_append_replicate,Qx,List.nil_append];congr 2;omega
theorem yxo{H:Hp}{N b:Nat}(h1:1<=N)(h2:N<=200)(hx:H.at ⟨b,0,none⟩=some (vi (-1))) :
    fN F.f111 #[.slice (some ⟨b,0,none⟩) 1 1,vi (N:Int)] H λv H'=>Qh H H'/\∃u:Slc,v=u.v/\Mine 1 fI T.int H H' u (Qs N (-1)):=by
  have e1:xcl (1:Int)=1:=by decide
  have eN:xcl (N:Int)=N:=by unfold xcl;omega
  have ew:IntKind.i64.wrap (N:Int)=N:=by rw[y5j];omega
  refine vc111 (a0:=⟨some ⟨b,0,none⟩,1,1⟩) ⟨λh=>by simp at h;omega,λ_=>⟨0,(N:Int),?_,λh=>by simp at h;omega,λ_=>?_⟩⟩
  · have:=zal (H:=H) (x:=xcl (((1:Nat):Int))) (y:=xcl (N:Int)) (by decide) (by decide) (by rw[eN];omega) (by rw[eN];omega)
    rw[show xcl (((1:Nat):Int))=1 from e1,eN,show (1:Int)*N/18446744073709551616=0 by omega,show (1:Int)*N%18446744073709551616=N by omega] at this;rw[show xcl (((1:Nat):Int))=1 from e1,eN];exact this
  rw[ew,Qo];refine⟨⟨rfl,by omega,by omega⟩,λb3 H4 hb3 hH4=>?_⟩;have hne:b3≠b:=λe=>by subst e;unfold Hp.at at hx;rw[hb3] at hx;cases hx
  have c0:(Qs N [vi 0]).flatten.toArray=(ygi N 0).toArray:=by simp[ygi]
  have le4:Qh H H4:=Qj (Qg _) hb3 hH4;rw[c0] at hH4;have hb4:H4 b3=some (.cells (ygi N 0).toArray 3 (0,0)):=by rw[hH4];exact Qm ..
  have st:=zru (P:=Tryz.prog) (t:=36) (t2:=36) (ty:=3) (e:=3) (cs:=#[false,false]) Tryz.underlying36 Tryz.underlying3 (by kernel_rfl) (H:=H4) (off:=0) (n:=N) (c:=N) hb4 (q:=⟨b,0,none⟩) (m:=1) (c':=1) (vs:=[vi (-1)]) (by simp[Xb];omega)
    (λj v hj=>by
      have:j=0:=by have:=(Qy.1 hj).1;simp at this;exact this
      subst this;simp at hj;subst hj;rw[add_zero'];exact Hp.at_le le4 hx) (λv hv=>by simp at hv;subst hv;rfl) (by simp[ygi];omega)
  refine st.mono λv H6 ⟨hv,hH6⟩=>⟨1,hv,?_⟩
  have e6:H6=H.put b3 (.cells (ygi N 1).toArray 3 (0,0)):=by
    rw[hH6,hH4,Qn];have:=ygk (N:=N) (k:=0) (l:=1) (by omega);rw[← this];try rfl
  refine⟨λn H'=>∃k:Nat,n=k/\1<=k/\k<=N/\H'=H.put b3 (.cells (ygi N k).toArray 3 (0,0)),λn _=>(N-n).toNat,⟨1,rfl,by omega,h1,e6⟩,λn H11 ⟨k,hn,k1,k2,hH⟩=>?_⟩;subst hn;refine⟨λhlt=>⟨⟨by omega,by omega,by omega,by omega⟩,⟨by omega,by omega,by omega,by omega⟩,?_⟩,λhge=>?_⟩
  · have hlt:k<N:=by have:(k:Int)<N:=by simpa using hlt
                     omega
    have hb11:H11 b3=some (.cells (ygi N k).toArray 3 (0,0)):=by rw[hH];exact Qm ..
    have hsub:x67 (some ⟨b3,0,none⟩) (Tryz.prog.cellsOf 3) (k:Int) (N:Int)=some ⟨b3,k,none⟩:=by
      unfold x67;rw[Zn (by omega),show Tryz.prog.cellsOf 3=1 by kernel_rfl];simp only[Option.map_some,Addr.add_lit,Qo,Q9,Xa]
    rw[hsub,x69];have st:=zru (P:=Tryz.prog) (t:=36) (t2:=36) (ty:=3) (e:=3) (cs:=#[false,false]) Tryz.underlying36 Tryz.underlying3 (by kernel_rfl) (H:=H11) (off:=k) (n:=(N:Int).toNat-(k:Int).toNat) (c:=(N:Int).toNat-(k:Int).toNat) hb11 (q:=⟨b3,0,none⟩) (m:=(k:Int).toNat-Qr 0) (c':=(N:Int).toNat-Qr 0) (vs:=Qs (min k (N-k)) (vi (-1))) (by simp[Xb])
      (λj v hj=>by
        have hjl:=(Qy.1 hj).1;rw[Qx] at hjl;rw[Q7,Zp hjl] at hj;cases hj;rw[z40,Cel.at hb11];rw[show (0+j)=j from Q9 j];rw[Q6];unfold ygi;rw[List.getElem?_append_left (by rw[Qx];omega),Q7,Zp (by omega)]) (λv hv=>by rw[List.mem_replicate] at hv;rw[hv.2];try rfl) (by simp[ygj k2];omega)
    refine st.mono λv H13 ⟨hv,hH13⟩=>⟨_,hv,?_⟩
    rw[Qx] at hH13 ⊢;refine⟨by unfold inI;omega,⟨k+min k (N-k),by omega,by omega,by omega,?_⟩,by show ((N:Int)-((k:Int)+(min k (N-k):Nat))).toNat<((N:Int)-(k:Int)).toNat;omega⟩;rw[hH13,hH,Qn];have:=ygk (N:=N) (k:=k) (l:=min k (N-k)) (by omega);rw[← this]
  · have hge:¬ (k:Int)<N:=by simpa using hge
    have:k=N:=by omega
    subst this;have le11:Qh H H11:=Qj (Qg _) hb3 hH;refine⟨le11,⟨some ⟨b3,0,none⟩,k,k⟩,rfl,?_⟩;have:=yc1 (g:=λx=>vi x) (e:=3) hfI (n:=(k:Int)) (z:=(-1:Int)) hb3 hH (by simp[ygi]);rw[Qo] at this;exact this
theorem z4t{H:Hp}{n:Int} :
  fN F.f60 #[vi n] H λv H'=>∃v1 v2 v3 v4 v5:Slc,v=.tuple #[agV v1 v2 v3 v4 v5,vi (ygn n).2]/\z1c H H' v1 v2 v3 v4 v5 (ygn n).1:=by
 refine vc60 (x3o.mono λv H2 ⟨s1,s2,s3,hv,nt⟩=>⟨s1,s2,s3,_,hv,?_⟩);unfold ygs at nt ⊢;unfold ygn;by_cases h:n<1\/n>200
 ·rw[Zp h] at nt ⊢;rw[Zp h];exact⟨λ_=>⟨zs,zs,zs,zs,zs,rfl,z1c.zero nt.le⟩,λhe=>by simp at he⟩
 ·rw[Zn h] at nt ⊢;rw[Zn h];refine⟨λhe=>by simp at he,λ_ b7 H8 hb7 hH8=>?_⟩;have le8:Qh H2 H8:=Qj (Qg _) hb7 hH8;have hx:H8.at ⟨b7,0,none⟩=some (vi (-1)):=by rw[hH8,Cel.at Cel.put];try rfl
  have:=yxo (N:=n.toNat) (by omega) (by omega) hx;rw[Qq (by omega)] at this;refine this.mono λv H10 ⟨l10,u,hv,m⟩=>⟨l10,u,hv,s1,s2,s3,zs,u,rfl,?_⟩
  have o:=nt.old;exact⟨nt.up (Qi le8 l10),.inl ⟨rfl,rfl⟩,m.low (Qi nt.le le8),Sep.nil.symm,⟨Sep.nil,Sep.nil,Sep.nil⟩,⟨Sep.of (o.le le8).1 m.isNew,Sep.of (o.le le8).2.1 m.isNew,Sep.of (o.le le8).2.2 m.isNew⟩⟩
