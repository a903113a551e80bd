/- The engine, parts TR, TS, TU, TW, put together. Conditions: none. -/
import Derived.Test.YtnhdkkblehadjabGreatPYB
import Derived.Test.YtnhdkkblehadjabGreatPTA
import Derived.Test.YtnhdkkblehadjabGreatPL1
import Derived.Test.YtnhdkkblehadjabGreatPM2
import Derived.Test.YtnhdkkblehadjabGreatVgStd
import Derived.Test.YtnhdkkblehadjabGreatVgY
import Derived.Test.YtnhdkkblehadjabGreatFs
import Derived.Test.YtnhdkkblehadjabGreatPF1
import Derived.Test.YtnhdkkblehadjabGreatPQ4
set_option linter.unusedVariables false
section
/- Whom a point meets behind a time, whom it catches. Conditions: none. -/
set_option maxRecDepth 100000
open Go Go.Eng Go.Proofs
open Go.Shelf Go.RowKit Go.Lib Go.Sort
namespace Go.Proofs.YtnhdkkblehadjabGreat

def yjb(id:Int)(x:Pr):Int:=if x.1=id then x.2.1 else x.1
theorem zjo{H:Hp}{x:Pr}{id:Int}:Qf Tryz.prog F.f40 #[mtV x,.int .i64 id] H (.int .i64 (yjb id x)):=by
 refine vc40 ⟨λh=>⟨?_,Hp.le_refl _⟩,λh=>⟨?_,Hp.le_refl _⟩⟩
 ·rw[yjb,if_pos (by simpa using h)]
 ·rw[yjb,if_neg (by simpa using h)]
def z9v(p:Pt)(t:Int×Int)(q:Pt):Option Pr:=if q.1=p.1 then none else if p.2.2=q.2.2 then none else if leR (atP p q) t then none else some (if q.1<p.1 then q.1 else p.1,if q.1>p.1 then q.1 else p.1,atP p q)
def z9q(f:List Pt)(p:Pt)(t:Int×Int):List Pr:=f.filterMap (z9v p t)
theorem z9w{p q:Pt}{t:Int×Int}{x:Pr}(h:z9v p t q=some x):q.1≠p.1/\p.2.2≠q.2.2/\¬ leR (atP p q) t/\x.2.2=atP p q/\yjb p.1 x=q.1:=by
 unfold z9v at h
 by_cases h1:q.1=p.1
 ·rw[if_pos h1] at h;cases h
 ·by_cases h2:p.2.2=q.2.2
  ·rw[if_neg h1,if_pos h2] at h;cases h
  ·by_cases h3:leR (atP p q) t
   ·rw[if_neg h1,if_neg h2,if_pos h3] at h;cases h
   ·rw[if_neg h1,if_neg h2,if_neg h3] at h
    cases h
    refine⟨h1,h2,h3,rfl,?_⟩
    unfold yjb
    by_cases c:q.1<p.1
    ·rw[if_pos c,if_neg (by omega)]
    ·rw[if_neg c,if_pos rfl];show (if q.1>p.1 then q.1 else p.1)=q.1;rw[if_pos (by omega)]
theorem z8p{f:List Pt}(of:okF f){p q:Pt}(hp:p∈f)(hq:q∈f)(hne:q.1≠p.1)(hb:p.2.2≠q.2.2):okR (atP p q):=by
 rcases Int.lt_or_le p.1 q.1 with h|h
 ·exact z8o of hp hq h hb
 ·rw[z8q hb];exact z8o of hq hp (by omega) λe=>hb e.symm
theorem z9s{f:List Pt}{p:Pt}{t:Int×Int}{x:Pr}(h:x∈z9q f p t):∃q∈f,z9v p t q=some x:=List.mem_filterMap.1 h
theorem z9t{f:List Pt}(of:okF f){p:Pt}(hp:p∈f){t:Int×Int}:∀x∈z9q f p t,okPr x:=λx hx=>by
 obtain⟨q,hq,e⟩:=z9s hx
 obtain⟨h1,h2,_,h4,_⟩:=z9w e
 show okR x.2.2
 rw[h4];exact z8p of hp hq h1 h2

structure z0w(B:Hp)(b:Nat)(H:Hp)(s:Slc)(L:List Pr):Prop where
 le:Hp.le B H
 vr:Var H b s.v T.s_api_Meeting
 ms:Mine 4 fM T.api_Meeting B H s L
 ne:∀p,s.a=some p->p.block≠b
set_option maxHeartbeats 1000000 in
theorem zjk{B H:Hp}{b10 b3 b13 b1:Nat}{p q:Pt}{t:Int×Int}{s:Slc}{L:List Pr}(C10:Cel B b10 #[.int .i64 p.1,.int .i64 p.2.1,.int .i64 p.2.2] T.api_Point)(C3:Cel B b3 #[.int .i64 t.1,.int .i64 t.2] T.api_Ratio)(C1:Cel B b1 #[.int .i64 p.1] T.int)
  (nB:B b13=none) (iv:z0w B b13 H s L) (op:okP p) (oq:okP q) (hne:q.1≠p.1) (ot:okR t) (oat:p.2.2≠q.2.2->okR (atP p q)) (hl:L.length<=100000) :
  FnV Tryz.prog (.func (.func F.f86) #[] #[.pointer (some ⟨b10,0,none⟩),.pointer (some ⟨b3,0,none⟩),.pointer (some ⟨b13,0,none⟩),.pointer (some ⟨b1,0,none⟩)]) [ptW q] H λv H'=>v=.tuple #[]/\∃s',z0w B b13 H' s' (L++(z9v p t q).toList):=by
 have C10':=C10.le iv.le
 have C3':=C3.le iv.le
 have C1':=C1.le iv.le
 refine⟨_,_,_,rfl,⟨_,Tryz.func86,by kernel_rfl⟩,?_⟩
 have stop:z9v p t q=none->∃s',z0w B b13 H s' (L++(z9v p t q).toList):=λe=>⟨s,by rw[e];simpa using iv⟩
 refine vc86 (a3:=⟨b10,0,none⟩) (a4:=⟨b3,0,none⟩) (a5:=⟨b13,0,none⟩) (a6:=⟨b1,0,none⟩) ⟨_,_,_,zci C10',?_⟩
 by_cases hb:p.2.2=q.2.2
 ·exact⟨0,0,6,zq1 op oq (λe=>hne e.symm) hb,λ_=>⟨rfl,stop (by unfold z9v;rw[if_neg hne,if_pos hb])⟩,λh=>by simp at h⟩
 ·have qm:=zq0 (H:=H) op oq (λe=>hne e.symm) hb
  rw[ya0 op oq hb] at qm
  have oa:=oat hb
  have qc:=yqw (H:=H) (a:=atP p q) (b:=t) oa.fit ot.fit
  rw[show zng (atP p q) t=(znm (atP p q) t,0) from if_pos ⟨oa,ot⟩] at qc
  refine⟨(atP p q).1,(atP p q).2,0,qm,λh=>by simp at h,λ_=>⟨_,_,zch C3',_,_,qc,λhc=>?_,λhc=>?_⟩⟩
  ·have hc:=of_decide_eq_true hc
   have hn:¬ leR (atP p q) t:=λh=>by have:=zns.2 h;omega
   have e:z9v p t q=some (if q.1<p.1 then q.1 else p.1,if q.1>p.1 then q.1 else p.1,atP p q):=by unfold z9v;rw[if_neg hne,if_neg hb,if_neg hn]
   have g1:H.at ((Addr.mk b1 0 none).add 0)=some (.int .i64 p.1):=by rw[add_zero',Cel.at C1'];rfl
   refine⟨s,iv.vr.at,p.1,g1,p.1,g1,λb14 H15 hb14 hH15=>?_⟩
   refine(z78 (k:=4) (f:=fM) (bytes:=32) (x:=(if q.1<p.1 then q.1 else p.1,if q.1>p.1 then q.1 else p.1,atP p q)) (by kernel_rfl) (by decide) (λ_=>rfl) zun iv.le iv.ms hb14 hH15 rfl (by omega) (by omega)).mono λv H17 ⟨u,hv,l17,m17,c17,x17⟩=>⟨u,hv,?_⟩
   have V17:=iv.vr.chg c17 iv.ne
   have nu:∀p,u.a=some p->p.block≠b13:=λp hp=>by
    rcases x17 p hp with h|h
    ·exact iv.ne p h
    ·intro e3;rw[e3] at h;have V:=iv.vr;unfold Var Cel at V;rw[V] at h;cases h
   refine Var.set V17 u.v λH19 hH19=>⟨rfl,u,by subst hH19;exact Hp.le_put l17 nB,Var.new hH19,?_,nu⟩
   rw[e,hH19]
   exact m17.chg (v:=⟨some ⟨b13,0,none⟩,1,1⟩) (λc _ hc=>Hp.put_ne _ _ λe3=>hc ⟨b13,0,none⟩ rfl e3.symm) (λp q hp hq=>by cases hq;exact nu p hp)
  ·have hc:=of_decide_eq_false hc
   have hn:leR (atP p q) t:=zns.1 (by omega)
   exact⟨rfl,stop (by unfold z9v;rw[if_neg hne,if_neg hb,if_pos hn])⟩

/-! ### In the order of their times -/
theorem zni{H:Hp}{u:Slc}{a b:Int}(r:RdI H u [a,b]):Qf Tryz.prog F.f90 #[u.v] H (.int .i64 (if a≠0 then a else b)):=by
 have un:(u.n:Int)=2:=by have:=r.len;simp at this;omega
 refine vc90 ?_
 rw[un]
 refine upto (N:=2) (J:=λn=>(0<n->a=0)/\(1<n->b=0)) (by omega) ⟨λh=>by omega,λh=>by omega⟩ λn h0 h1 hJ=>⟨λhn=>?_,λhn=>⟨?_,Hp.le_refl _⟩⟩
 ·have hn:n<2:=of_decide_eq_true hn
  have g:=RdI.get r h0 (by simp;omega)
  refine⟨r.inS h0 (by simp;omega),_,g,λhc=>⟨?_,Hp.le_refl _⟩,λhc=>?_⟩
  ·have hc:=bne_iff_ne.1 hc
   have:n=0\/n=1:=by omega
   rcases this with rfl|rfl
   ·have hc:a≠0:=hc
    rw[if_pos hc];rfl
   ·rw[if_neg (λe=>e (hJ.1 (by omega)))];rfl
  ·have hc:=bne_eq_false_iff_eq.1 hc
   have:n=0\/n=1:=by omega
   refine upto.nx h0 hn (by omega) ?_
   rcases this with rfl|rfl
   ·exact⟨λ_=>hc,λh=>by omega⟩
   ·exact⟨λ_=>hJ.1 (by omega),λ_=>hc⟩
 ·have hn:¬ n<2:=of_decide_eq_false hn
  rw[if_neg (λe=>e (hJ.1 (by omega))),hJ.2 (by omega)]
def cfC(id:Int)(x y:Pr):Int:=if znm x.2.2 y.2.2≠0 then znm x.2.2 y.2.2 else zn4 (yjb id x) (yjb id y)
theorem zjn{H:Hp}{b1:Nat}{id:Int}{x y:Pr}(C1:Cel H b1 #[.int .i64 id] T.int)(ox:okPr x)(oy:okPr y):Qf Tryz.prog F.f89 #[mtV x,mtV y,.pointer (some ⟨b1,0,none⟩)] H (.int .i64 (cfC id x y)):=by
 have qc:=yqw (H:=H) (a:=x.2.2) (b:=y.2.2) (okR.fit ox) (okR.fit oy)
 rw[show zng x.2.2 y.2.2=(znm x.2.2 y.2.2,0) from if_pos ⟨ox,oy⟩] at qc
 have g1:H.at ((Addr.mk b1 0 none).add 0)=some (.int .i64 id):=by rw[add_zero',Cel.at C1];rfl
 have q1:=zjo (H:=H) (x:=x) (id:=id)
 have q2:=zjo (H:=H) (x:=y) (id:=id)
 have q3:=zpa (H:=H) (x:=yjb id x) (y:=yjb id y)
 refine vc89 (a8:=⟨b1,0,none⟩) ⟨_,_,qc,id,g1,_,q1,id,g1,_,q2,_,q3,λb8 H9 hb hH=>?_⟩
 have l9:Hp.le H H9:=Hp.le_new (Hp.le_refl _) hb hH
 have r:RdI H9 ⟨some ⟨b8,0,none⟩,2,2⟩ [znm x.2.2 y.2.2,zn4 (yjb id x) (yjb id y)]:=yrl (k:=1) (f:=fI) (λ_=>rfl) hH rfl rfl
 have q4:=zni r
 exact⟨_,q4,rfl,l9⟩
theorem zdo{id:Int}{x y:Pr}:cfC id x y<0↔¬ leR y.2.2 x.2.2\/(leR x.2.2 y.2.2/\leR y.2.2 x.2.2)/\yjb id x<yjb id y:=by
 have l:=znv (a:=x.2.2) (b:=y.2.2)
 have e:=zno (a:=x.2.2) (b:=y.2.2)
 have c:zn4 (yjb id x) (yjb id y)<0↔yjb id x<yjb id y:=zn8
 unfold cfC
 by_cases h:znm x.2.2 y.2.2≠0
 ·rw[if_pos h,l]
  exact⟨.inl,λh'=>h'.elim (λh2=>h2) λh2=>absurd (e.2 h2.1) h⟩
 ·rw[if_neg h,c]
  have h:=e.1 (Decidable.not_not.1 h)
  exact⟨λh'=>.inr ⟨h,h'⟩,λh'=>h'.elim (λh2=>absurd h.2 h2) λh2=>h2.2⟩
theorem x3i{id:Int}{L:List Pr}(ok:∀x∈L,okPr x):SWO (ltOf (cfL (L:=L) (cfC id))):=by
 have key:∀x y:InL L,ltOf (cfL (cfC id)) x y=true↔¬ leR y.1.2.2 x.1.2.2\/(leR x.1.2.2 y.1.2.2/\leR y.1.2.2 x.1.2.2)/\yjb id x.1<yjb id y.1:=λx y=>by
  unfold ltOf cfL;rw[decide_eq_true_eq,zdo]
 have tr:∀x y z:InL L,leR x.1.2.2 y.1.2.2->leR y.1.2.2 z.1.2.2->leR x.1.2.2 z.1.2.2:=λx y z=>y6v (ok _ x.2) (ok _ y.2) (ok _ z.2)
 refine⟨λx=>?_,λx y z h1 h2=>?_,λx y z h1 h2=>?_⟩
 ·rw[Bool.eq_false_iff,ne_eq,key]
  rintro(h|⟨_,h⟩)
  ·exact h (y6t _)
  ·omega
 ·rw[key] at *
  have t1:=y6u x.1.2.2 y.1.2.2
  have t2:=y6u y.1.2.2 z.1.2.2
  have a1:=tr z y x;have a2:=tr y z x;have a3:=tr z x y;have a4:=tr x y z
  rcases h1 with h1|⟨⟨h1,h1'⟩,h1''⟩ <;> rcases h2 with h2|⟨⟨h2,h2'⟩,h2''⟩
  ·exact .inl λh=>h2 (tr z x y h (t1.resolve_right h1))
  ·exact .inl λh=>h1 (tr y z x h2 h)
  ·exact .inl λh=>h2 (tr z x y h h1)
  ·exact .inr ⟨⟨tr x y z h1 h2,tr z y x h2' h1'⟩,by omega⟩
 ·rw[Bool.eq_false_iff,ne_eq,key] at *
  have t1:=y6u x.1.2.2 y.1.2.2
  have b1:leR y.1.2.2 x.1.2.2:=Decidable.by_contra λh=>h1 (.inl h)
  have b2:leR z.1.2.2 y.1.2.2:=Decidable.by_contra λh=>h2 (.inl h)
  rintro(h|⟨⟨h,h'⟩,h''⟩)
  ·exact h (tr z y x b2 b1)
  ·have c1:leR x.1.2.2 y.1.2.2:=tr x z y h b2
   have c2:leR y.1.2.2 z.1.2.2:=tr y x z b1 h
   have d1:¬ yjb id x.1<yjb id y.1:=λh=>h1 (.inr ⟨⟨c1,b1⟩,h⟩)
   have d2:¬ yjb id y.1<yjb id z.1:=λh=>h2 (.inr ⟨⟨c2,b2⟩,h⟩)
   omega
theorem y4j:SlLaysF0.n20 Tryz.prog Tryz.sortMt_ren:={ Tryz.sortMt with }
set_option maxHeartbeats 1000000 in
theorem zjp{H0 H:Hp}{u:Slc}{L:List Pr}{id:Int}{b1:Nat}(ok:∀x∈L,okPr x)(hl:L.length<20)(hu:Mine 4 fM T.api_Meeting H0 H u L)(C1:Cel H b1 #[.int .i64 id] T.int)(hs:∀p,u.a=some p->p.block≠b1) :
  Go.Eng.Fn Tryz.prog F.f88 #[u.v,.func (.func F.f89) #[] #[.pointer (some ⟨b1,0,none⟩)]] H λv H'=>v=.tuple #[]/\∃S:List Pr,S.Perm L/\(S.Pairwise λx y=>leR x.2.2 y.2.2)/\Mine 4 fM T.api_Meeting H0 H' u S/\Chg H H' u:=by
 have un:(u.n:Int)=L.length:=by have:=hu.rdM.len;omega
 refine vc88 ?_
 rw[un]
 have ins:Go.Eng.Fn Tryz.prog F.f201 #[u.v,.int .i64 0,.int .i64 L.length,.func (.func F.f89) #[] #[.pointer (some ⟨b1,0,none⟩)]] H λv H'=>v=.tuple #[]/\∃S:List Pr,S.Perm L/\(S.Pairwise λx y=>leR x.2.2 y.2.2)/\Mine 4 fM T.api_Meeting H0 H' u S/\Chg H H' u:=by
  by_cases hne:L=[]
  ·subst hne
   have hn:u.n=0:=by simpa using un
   intro w hv
   rw[show u.v=.slice u.a 0 u.c by unfold Slc.v;rw[hn]]
   exact(AnyF.insertionSortCmpFunc_none y4j u.a u.c _ w).mono λe1 w' ⟨he,hw⟩=>⟨_,H,he,by rw[hw];exact Tr.refl hv,rfl,[],.refl _,.nil,hu,λ_ _ _=>rfl⟩
  ·refine(y4k (k:=4) (f:=fM) y4j z5l ywg (λ_=>rfl) (by decide) zun (g:=F.f89) (cb:=#[.pointer (some ⟨b1,0,none⟩)]) (cf:=cfC id) (Hc:=Hp.put (λ_=>none) b1 (.cells #[.int .i64 id] T.int))
    (enters_of Tryz.func89 (by kernel_rfl) rfl) (by omega) (x3i ok) hne hu (λc o hc=>?_) λx hx y hy=>?_).mono λv H' ⟨hv,S,hp,hs,m,c⟩=>⟨hv,S,hp,hs.imp λ{x y} h=>?_,m,c⟩
   ·unfold Hp.put at hc
    split at hc
    ·rename_i e;subst e;cases hc;exact⟨C1,hs⟩
    ·cases hc
   ·exact zjn (by unfold Cel;exact Hp.put_same _ _ _) (ok x hx) (ok y hy)
   ·rw[zdo] at h
    exact Decidable.by_contra λh'=>h (.inl h')
 refine vc148 ⟨λn3 n4 H'=>n3=0/\n4=20/\H'=H,λ_ _ _=>0,⟨rfl,rfl,rfl⟩,λn3 n4 H5 ⟨e1,e2,e3⟩=>⟨λh=>?_,λ_=>?_⟩⟩
 ·have:=of_decide_eq_true h;omega
 ·subst e1;subst e2;subst e3
  refine ins.mono λv H9 ⟨hv,S,hp,hs,m,c⟩=>⟨hv,λn12 _ _ H'=>n12=20/\H'=H9,λ_ _ _ _=>0,⟨rfl,rfl⟩,λn12 n13 n14 H15 ⟨e1,e2⟩=>⟨λh=>?_,λ_=>?_⟩⟩
  ·have:=of_decide_eq_true h;omega
  ·subst e2;exact⟨rfl,rfl,S,hp,hs,m,c⟩

theorem zck{H:Hp}{b c:Nat}{cs:Array Value}{T:TypeId}(h:Cel H c cs T)(hne:c≠b):Cel (y2h H b) c cs T:=by
 unfold Cel y2h at *;rw[if_neg hne];exact h
theorem zcl{H:Hp}{b c:Nat}{cs:Array Value}{T:TypeId}(h:Cel H c cs T)(hb:H b=none):c≠b:=λe=>by
 subst e;unfold Cel at h;rw[h] at hb;cases hb
theorem yfy{H H':Hp}{b:Nat}(l:Hp.le H H')(hb:H' b=none):H b=none:=by
 cases hx:H b with
 | none=>rfl
 | some o=>rw[l _ _ hx] at hb;cases hb
theorem z9u{f:List Pt}{p:Pt}{t:Int×Int}{k:Nat}{q:Pt}(h:f[k]?=some q):z9q (f.take (k+1)) p t=z9q (f.take k) p t++(z9v p t q).toList:=by
 unfold z9q
 rw[List.take_add_one,h,List.filterMap_append]
 simp only[Option.toList_some,List.filterMap_cons,List.filterMap_nil]
 cases z9v p t q <;> rfl
theorem z9r(f:List Pt)(p:Pt)(t:Int×Int):(z9q f p t).length<=f.length:=List.length_filterMap_le _ _
set_option maxHeartbeats 2000000 in
theorem zjl{H:Hp}{w:Slc}{f:List Pt}{p:Pt}{t:Int×Int}(hf:Rd 3 fD H w f)(of:okF f)(hp:p∈f)(ot:okR t)(hl:f.length<20) :
  Go.Eng.Fn Tryz.prog F.f39 #[vFd w,.int .i64 p.1,raW t] H λv H'=>∃(s:Slc)(S:List Pr),v=s.v/\Hp.le H H'/\S.Perm (z9q f p t)/\(S.Pairwise λx y=>leR x.2.2 y.2.2)/\Rd 4 fM H' s S:=by
 have wn:(w.n:Int)=f.length:=by have:=hf.len;omega
 have op:=of.each p hp
 refine vc39 ?_
 rw[wn]
 refine λb1 H2 hb1 hH2 b3 H4 hb3 hH4=>?_
 have l2:Hp.le H H2:=Hp.le_new (Hp.le_refl _) hb1 hH2
 have l24:Hp.le H2 H4:=Hp.le_new (Hp.le_refl _) hb3 hH4
 have l4:=Hp.le_trans l2 l24
 have C1:Cel H4 b1 #[.int .i64 p.1] T.int:=Cel.le (by subst hH2;exact Cel.put) l24
 have C3:Cel H4 b3 #[.int .i64 t.1,.int .i64 t.2] T.api_Ratio:=by subst hH4;exact Cel.put
 have qf:=zvj (id:=p.1) (hf.le l4) of (ynq hp)
 rw[zz5 of hp] at qf
 refine⟨p.1,by rw[add_zero',Cel.at C1];rfl,p.1,p.2.1,p.2.2,0,qf,λb10 H11 hb10 hH11=>?_⟩
 have C11:Cel H11 b10 #[.int .i64 0,.int .i64 0,.int .i64 0] T.api_Point:=by subst hH11;exact Cel.put
 obtain⟨can,sto⟩:=x1u C11 [.int .i64 p.1,.int .i64 p.2.1,.int .i64 p.2.2] rfl
 refine⟨can,λH12 hH12=>?_⟩
 rw[sto,hH11,put_put'] at hH12
 have l12:Hp.le H4 H12:=Hp.le_new (Hp.le_refl _) hb10 hH12
 have C10:Cel H12 b10 #[.int .i64 p.1,.int .i64 p.2.1,.int .i64 p.2.2] T.api_Point:=by subst hH12;exact Cel.put
 refine λb13 H14 hb13 hH14=>?_
 have l14:Hp.le H12 H14:=Hp.le_new (Hp.le_refl _) hb13 hH14
 have lA:Hp.le H H14:=Hp.le_trans l4 (Hp.le_trans l12 l14)
 have V14:Var H14 b13 (⟨none,0,0⟩:Slc).v T.s_api_Meeting:=Var.new hH14
 have n13:H b13=none:=yfy (Hp.le_trans l4 l12) hb13
 have C1a:=C1.le l12
 have C3a:=C3.le l12
 have B1:=zck (C1a.le l14) (zcl C1a hb13)
 have B3:=zck (C3a.le l14) (zcl C3a hb13)
 have B10:=zck (C10.le l14) (zcl C10 hb13)
 have lB:Hp.le H (y2h H14 b13):=y6x lA n13
 have nB:(y2h H14 b13) b13=none:=by unfold y2h;rw[if_pos rfl]
 have i0:z0w (y2h H14 b13) b13 H14 ⟨none,0,0⟩ (z9q (f.take 0) p t):=⟨y2i,V14,.inl ⟨rfl,rfl⟩,λp hp=>by cases hp⟩
 generalize y2h H14 b13=B at B1 B3 B10 lB nB i0
 refine⟨λn H'=>∃k:Nat,n=k/\k<=f.length/\∃s,z0w B b13 H' s (z9q (f.take k) p t),λn _=>((f.length:Int)-n).toNat,⟨0,rfl,by omega,_,i0⟩,?_⟩
 rintro n17 H18 ⟨k,rfl,hk,s,iv⟩
 have rf:=(hf.le lB).le iv.le
 refine⟨λhn=>?_,λhn=>?_⟩
 ·have hn:k<f.length:=by have:=of_decide_eq_true hn;omega
  have gk:f[k]?=some (f.getD k (0,0,0)):=by rw[List.getD_eq_getElem?_getD,List.getElem?_eq_getElem hn];rfl
  have mq:f.getD k (0,0,0)∈f:=List.mem_of_getElem? gk
  have gd:=rf.gD (i:=(k:Int)) (by omega) (by omega)
  rw[Int.toNat_natCast] at gd
  have c1:H18.at ((Addr.mk b1 0 none).add 0)=some (.int .i64 p.1):=by rw[add_zero',Cel.at (B1.le iv.le)];rfl
  have ms:((f.length:Int)-((k:Int)+1)).toNat<((f.length:Int)-(k:Int)).toNat:=by omega
  have sc:=z9u (p:=p) (t:=t) gk
  generalize f.getD k (0,0,0)=q at gd mq sc
  refine⟨rf.inS (by omega) (by omega),_,_,_,gd,p.1,c1,λhc=>?_,λhc=>?_⟩
  ·have hne:q.1≠p.1:=bne_iff_ne.1 hc
   have few:(z9q (f.take k) p t).length<=100000:=by have:=z9r (f.take k) p t;rw[List.length_take] at this;omega
   refine(zjk B10 B3 B1 nB iv op (of.each q mq) hne ot (λhb=>z8p of hp mq hne hb) few).mono λv H24 ⟨hv,s',iv'⟩=>⟨hv,by unfold inI;omega,⟨k+1,by omega,by omega,s',by rw[sc];exact iv'⟩,ms⟩
  ·have he:q.1=p.1:=bne_eq_false_iff_eq.1 hc
   have e:z9v p t q=none:=by unfold z9v;rw[if_pos he]
   rw[e] at sc
   exact⟨by unfold inI;omega,⟨k+1,by omega,by omega,s,by rw[sc];simpa using iv⟩,ms⟩
 ·have hn:k=f.length:=by have:=of_decide_eq_false hn;omega
  subst hn
  rw[List.take_length] at iv
  have few:=z9r f p t
  have ne1:∀p,s.a=some p->p.block≠b1:=Mine.sepAddr iv.ms (by unfold Cel at B1;rw[B1];simp)
  refine⟨s,iv.vr.at,(zjp (z9t of hp) (by omega) iv.ms (B1.le iv.le) ne1).mono λv H27 ⟨hv,S,hp,hs,m,c⟩=>⟨hv,s,(iv.vr.chg c iv.ne).at,s,S,rfl,Hp.le_trans lB (Hp.le_chg iv.le c iv.ms.isNew),hp,hs,m.rdM⟩⟩

theorem zum:∀(x:Int),∀v∈fI x,v.oneCell'=true:=λx v hv=>by simp[fI] at hv;subst hv;rfl
/-! ### Whom a point catches,and by whom it is caught -/
theorem z9x{f:List Pt}(of:okF f){p:Pt}(hp:p∈f){a b:Int×Int}{R:Int->Int->Bool}(h0:∀x,R x x=false){S:List Pr}(hS:S.Perm (z9q f p a)) :
  S.countP (λx=>R p.2.2 (gP f (ynk f (yjb p.1 x))).2.2&&decide (leR x.2.2 b))=f.countP λq=>R p.2.2 q.2.2&&inT a b (atP p q):=by
 rw[hS.countP_eq]
 unfold z9q
 rw[List.countP_filterMap]
 refine List.countP_congr λq hq=>?_
 have key:inT a b (atP p q)=true↔¬ leR (atP p q) a/\leR (atP p q) b:=y3w
 cases e:z9v p a q with
 | some x =>
  obtain⟨h1,h2,h3,h4,h5⟩:=z9w e
  simp only[Option.map_some,Option.getD_some]
  rw[h5,zz5 of hq,h4,Bool.and_eq_true,Bool.and_eq_true,key,decide_eq_true_eq]
  exact⟨λ⟨u,v⟩=>⟨u,h3,v⟩,λ⟨u,_,v⟩=>⟨u,v⟩⟩
 | none =>
  simp only[Option.map_none,Option.getD_none]
  refine⟨λh=>(by cases h),λh=>?_⟩
  rw[Bool.and_eq_true,key] at h
  unfold z9v at e
  by_cases h1:q.1=p.1
  ·rw[yv8 of hq hp h1,h0] at h;cases h.1
  ·by_cases h2:p.2.2=q.2.2
   ·rw[h2,h0] at h;cases h.1
   ·rw[if_neg h1,if_neg h2,if_neg h.2.1] at e;cases e
structure CtI(H0:Hp)(f:List Pt)(p:Pt)(b:Int×Int)(S:List Pr)(k:Nat)(x y:Slc)(H:Hp):Prop where
 le:Hp.le H0 H
 mx:∃L,Mine 1 fI T.int H0 H x L/\L.length=(S.take k).countP λm=>decide ((gP f (ynk f (yjb p.1 m))).2.2<p.2.2)
 my:∃L,Mine 1 fI T.int H0 H y L/\L.length=(S.take k).countP λm=>decide (p.2.2<(gP f (ynk f (yjb p.1 m))).2.2)
 sep:Sep x y
 to:∀m∈S.take k,leR m.2.2 b
theorem x3z{α:Type}{P:α->Bool}{S:List α}{k:Nat}{x:α}(h:S[k]?=some x):(S.take (k+1)).countP P=(S.take k).countP P+if P x=true then 1 else 0:=by
 rw[List.take_add_one,h,List.countP_append,Option.toList_some,List.countP_singleton]
theorem zpt{b:Int×Int}{S:List Pr}{k:Nat}{P:Pr->Bool}(h1:∀m∈S.take k,leR m.2.2 b)(h2:∀m∈S.drop k,¬ leR m.2.2 b):(S.take k).countP P=S.countP λm=>P m&&decide (leR m.2.2 b):=by
 have z:(S.drop k).countP (λm=>P m&&decide (leR m.2.2 b))=0:=List.countP_eq_zero.2 λm hm=>by rw[decide_eq_false (h2 m hm)];simp
 have e:S.countP (λm=>P m&&decide (leR m.2.2 b))=(S.take k++S.drop k).countP λm=>P m&&decide (leR m.2.2 b):=by rw[List.take_append_drop]
 rw[e,List.countP_append,z,Nat.add_zero]
 refine List.countP_congr λm hm=>?_
 rw[decide_eq_true (h1 m hm),Bool.and_true]
set_option maxHeartbeats 4000000 in
theorem zjm{H:Hp}{w:Slc}{f:List Pt}{p:Pt}{a b:Int×Int}(hf:Rd 3 fD H w f)(of:okF f)(hp:p∈f)(oa:okR a)(ob:okR b)(hab:leR a b)(hl:f.length<20) :
  Go.Eng.Fn Tryz.prog F.f12 #[vFd w,.int .i64 p.1,raW a,raW b] H λv H'=>∃x y:Slc,v=.tuple #[x.v,y.v,.int .i64 0]/\Hp.le H H'/\x.n=f.countP (ctR a b p)/\y.n=f.countP (wsR a b p):=by
 have op:=of.each p hp
 have q0:=zvi hf
 rw[zke.2 of] at q0
 have q1:=yqw (H:=H) oa.fit ob.fit
 rw[show zng a b=(znm a b,0) from if_pos ⟨oa,ob⟩] at q1
 have q2:=zvj (id:=p.1) hf of (ynq hp)
 rw[zz5 of hp] at q2
 refine vc12 ⟨0,q0,λh=>by simp at h,λ_=>⟨_,_,q1,λh=>by simp at h,λ_=>⟨λh=>?_,λ_=>⟨p.1,p.2.1,p.2.2,0,q2,λh=>by simp at h,λ_=>?_⟩⟩⟩⟩
 ·have h:=of_decide_eq_true h
  have:=zns.2 hab
  dsimp only at h;omega
 refine(zjl hf of hp oa hl).mono λv H9 ⟨u,S,hv,l9,hS,srt,rS⟩=>⟨u,hv,?_⟩
 have un:(u.n:Int)=S.length:=by have:=rS.len;omega
 have Sl:S.length<=f.length:=by rw[hS.length_eq];exact z9r f p a
 rw[un]
 have fin:∀{k:Nat}{x y:Slc}{H':Hp},CtI H9 f p b S k x y H'->(∀m∈S.drop k,¬ leR m.2.2 b)->∃x' y':Slc,Value.tuple #[x.v,y.v,.int .i64 0]=.tuple #[x'.v,y'.v,.int .i64 0]/\Hp.le H H'/\x'.n=f.countP (ctR a b p)/\y'.n=f.countP (wsR a b p):=λ{k x y H'} I h=>by
  obtain⟨L1,m1,e1⟩:=I.mx
  obtain⟨L2,m2,e2⟩:=I.my
  refine⟨x,y,rfl,Hp.le_trans l9 I.le,?_,?_⟩
  ·rw[m1.rdI.len,e1,zpt I.to h]
   exact z9x of hp (R:=λu v=>decide (v<u)) (λx=>by simp) hS
  ·rw[m2.rdI.len,e2,zpt I.to h]
   exact z9x of hp (R:=λu v=>decide (u<v)) (λx=>by simp) hS
 refine⟨λx y n H'=>∃k:Nat,n=k/\k<=S.length/\CtI H9 f p b S k x y H',λ_ _ n _=>((S.length:Int)-n).toNat,⟨0,rfl,by omega,Hp.le_refl _,⟨[],.inl ⟨rfl,rfl⟩,rfl⟩,⟨[],.inl ⟨rfl,rfl⟩,rfl⟩,Sep.nil,λm hm=>by simp at hm⟩,?_⟩
 rintro x y n H16 ⟨k,rfl,hk,I⟩
 refine⟨λhn=>?_,λhn=>?_⟩
 ·have hn:k<S.length:=by have:=of_decide_eq_true hn;omega
  have r16:=rS.le I.le
  have gk:S[k]?=some (S.getD k zPr):=by rw[List.getD_eq_getElem?_getD,List.getElem?_eq_getElem hn];rfl
  have gm:=RdM.get r16 (i:=(k:Int)) (by omega) (by omega)
  rw[Int.toNat_natCast] at gm
  have mem:S.getD k zPr∈z9q f p a:=hS.mem_iff.1 (List.mem_of_getElem? gk)
  have late:¬ leR (S.getD k zPr).2.2 b->∀m∈S.drop k,¬ leR m.2.2 b:=λh m hm=>by
   obtain⟨j,hj,e⟩:=List.mem_iff_getElem.1 hm
   rw[List.getElem_drop] at e
   rw[List.length_drop] at hj
   have hk2:S[k]=S.getD k zPr:=by rw[List.getD_eq_getElem?_getD,List.getElem?_eq_getElem hn];rfl
   intro hle
   rcases Nat.eq_zero_or_pos j with hz|hz
   ·subst hz;apply h;rw[← hk2];rw[← e] at hle;exact hle
   ·have s1:=List.pairwise_iff_getElem.1 srt k (k+j) hn (by omega) (by omega)
    rw[e,hk2] at s1
    exact h (y6v (z9t of hp _ mem) (z9t of hp _ (hS.mem_iff.1 (by rw[← e];exact List.getElem_mem _))) ob s1 hle)
  obtain⟨q,mq,eq⟩:=z9s mem
  obtain⟨b1,b2,b3,b4,b5⟩:=z9w eq
  have om:okR (S.getD k zPr).2.2:=z9t of hp _ mem
  have tc1:=x3z (P:=λm:Pr=>decide ((gP f (ynk f (yjb p.1 m))).2.2<p.2.2)) gk
  have tc2:=x3z (P:=λm:Pr=>decide (p.2.2<(gP f (ynk f (yjb p.1 m))).2.2)) gk
  have tk:S.take (k+1)=S.take k++[S.getD k zPr]:=by rw[List.take_add_one,gk];rfl
  generalize S.getD k zPr=m at gm mem late eq b4 b5 om tc1 tc2 tk
  rw[b5,zz5 of mq] at tc1 tc2
  have qc:=yqw (H:=H16) (a:=m.2.2) (b:=b) om.fit ob.fit
  rw[show zng m.2.2 b=(znm m.2.2 b,0) from if_pos ⟨om,ob⟩] at qc
  have qo:=zjo (H:=H16) (x:=m) (id:=p.1)
  rw[b5] at qo
  have qf:=zvj (id:=q.1) (hf.le (Hp.le_trans l9 I.le)) of (ynq mq)
  rw[zz5 of mq] at qf
  have ms:((S.length:Int)-((k:Int)+1)).toNat<((S.length:Int)-(k:Int)).toNat:=by omega
  refine⟨r16.inS (by omega) (by omega),_,_,_,_,gm,_,_,qc,λhc=>?_,λhc=>⟨q.1,qo,q.1,q.2.1,q.2.2,0,qf,λhd b28 H29 hb hH=>?_,λhd b33 H34 hb hH=>?_⟩⟩
  ·have hc:=of_decide_eq_true hc
   exact fin I (late λh=>by have:=zns.2 h;dsimp only at hc;omega)
  ·have hd:q.2.2<p.2.2:=of_decide_eq_true hd
   have hle:leR m.2.2 b:=zns.1 (by have:=of_decide_eq_false hc;dsimp only at this;omega)
   obtain⟨L1,m1,e1⟩:=I.mx
   obtain⟨L2,m2,e2⟩:=I.my
   have cl:=List.countP_le_length (p:=λm:Pr=>decide ((gP f (ynk f (yjb p.1 m))).2.2<p.2.2)) (l:=S.take k)
   rw[List.length_take] at cl
   refine(z78 (k:=1) (f:=fI) (bytes:=8) (x:=q.1) (by kernel_rfl) (by decide) (λ_=>rfl) zum I.le m1 hb hH rfl (by omega) (by omega)).mono λv H31 ⟨u',hv,l31,m31,c31,x31⟩=>⟨u',hv,by unfold inI;omega,⟨k+1,by omega,by omega,l31,⟨_,m31,?_⟩,⟨L2,m2.chg c31 I.sep.symm,?_⟩,I.sep.ext m2.isOld x31,?_⟩,ms⟩
   ·rw[List.length_append,e1,tc1,if_pos (decide_eq_true hd)];rfl
   ·rw[e2,tc2,if_neg (by rw[decide_eq_true_eq];omega)];rfl
   ·intro m' hm'
    rw[tk] at hm'
    rcases List.mem_append.1 hm' with h|h
    ·exact I.to m' h
    ·rw[List.mem_singleton.1 h];exact hle
  ·have hd:¬ q.2.2<p.2.2:=of_decide_eq_false hd
   have hle:leR m.2.2 b:=zns.1 (by have:=of_decide_eq_false hc;dsimp only at this;omega)
   obtain⟨L1,m1,e1⟩:=I.mx
   obtain⟨L2,m2,e2⟩:=I.my
   have cl:=List.countP_le_length (p:=λm:Pr=>decide (p.2.2<(gP f (ynk f (yjb p.1 m))).2.2)) (l:=S.take k)
   rw[List.length_take] at cl
   refine(z78 (k:=1) (f:=fI) (bytes:=8) (x:=q.1) (by kernel_rfl) (by decide) (λ_=>rfl) zum I.le m2 hb hH rfl (by omega) (by omega)).mono λv H31 ⟨u',hv,l31,m31,c31,x31⟩=>⟨u',hv,by unfold inI;omega,⟨k+1,by omega,by omega,l31,⟨L1,m1.chg c31 I.sep,?_⟩,⟨_,m31,?_⟩,(I.sep.symm.ext m1.isOld x31).symm,?_⟩,ms⟩
   ·rw[e1,tc1,if_neg (by rw[decide_eq_true_eq];exact hd)];rfl
   ·rw[List.length_append,e2,tc2,if_pos (decide_eq_true (show p.2.2<q.2.2 by omega))];rfl
   ·intro m' hm'
    rw[tk] at hm'
    rcases List.mem_append.1 hm' with h|h
    ·exact I.to m' h
    ·rw[List.mem_singleton.1 h];exact hle
 ·have hn:k=S.length:=by have:=of_decide_eq_false hn;omega
  exact fin I λm hm=>by rw[List.drop_of_length_le (by omega)] at hm;cases hm
end Go.Proofs.YtnhdkkblehadjabGreat
end
section
/- How far points are apart;which points are together. Conditions: none. -/
set_option maxRecDepth 100000
open Go Go.Eng Go.Proofs
open Go.Shelf Go.RowKit Go.Lib Go.Sort
namespace Go.Proofs.YtnhdkkblehadjabGreat

theorem yby{α:Type}{k:Nat}{f:α->List Value}{e:TypeId}{H H':Hp}{b:Nat}{xs:List α}{cs:Array Value}{n:Nat}(hk:∀x,(f x).length=k)(hb:H b=none)(h:H'=H.put b (.cells cs e (0,0)))(hc:cs=(xs.flatMap f).toArray)(hn:n=xs.length) :
  Mine k f e H H' ⟨some ⟨b,0,none⟩,n,n⟩ xs:=by
 subst h;subst hc;subst hn
 refine .inr ⟨b,hb,⟨rfl,Nat.le_refl _,rfl,_,Hp.put_same _ _ _,?_,?_⟩⟩
 ·rw[List.size_toArray,zy0 hk]
 ·rw[List.take_of_length_le (by simp only[zy0 hk];exact Nat.le_refl _)]
/-! ### The leader and the last one -/
theorem yja{f:List Pt}(of:okF f){t:Int×Int}(ot:okR t):yj8 f t=(yis f t,0):=by unfold yj8;rw[if_pos (x4y.2 ⟨of,ot⟩)]
theorem zwj{H:Hp}{w:Slc}{f:List Pt}{t:Int×Int}{k:Nat}(hf:Rd 3 fD H w f)(of:okF f)(hk:k<f.length):Qf Tryz.prog F.f38 #[vFd w,.int .i64 (sP f t k).1] H (.tuple #[ptW (sP f t k),.int .i64 0]):=by
 have q:=zvj (id:=(sP f t k).1) hf of (ynq (yuu hk))
 rw[yur of hk] at q
 exact q
theorem yme{H:Hp}{f:List Pt}{t:Int×Int}{k:Nat}(of:okF f)(a:z85 t)(hk:k<f.length):Qf Tryz.prog F.f48 #[ptW (sP f t k),raW t] H (.tuple #[raW (spot f t k).1,.int .i64 0]):=by
 have q:=zpv (H:=H) (p:=sP f t k) a.1.fit
 have e:(yma (sP f t k) t).2=0:=(z8a of a).T k hk
 rw[e] at q
 exact q
theorem x0x{f:List Pt}{t:Int×Int}{k:Nat}(of:okF f)(a:z85 t)(hk:k<f.length):okR (spot f t k).1:=(x0z of a.1 hk ((z8a of a).T k hk)).choose_spec.2.2.2
theorem zzc{H:Hp}{f:List Pt}{t:Int×Int}{i k:Nat}(of:okF f)(a:z85 t)(hi:i<f.length)(hk:k<f.length):Qf Tryz.prog F.f49 #[raW (spot f t i).1,raW (spot f t k).1] H (.tuple #[raW (zz9 f t i k).1,.int .i64 0]):=by
 have q:=yr3 (H:=H) (x0x of a hi) (x0x of a hk)
 have e:(zz9 f t i k).2=0:=z89 (yuw of hi) (yuw of hk) a
 unfold zz9 at e ⊢
 rw[e] at q
 exact q
theorem x0b{H:Hp}{w:Slc}{f:List Pt}{t:Int×Int}(hf:Rd 3 fD H w f)(of:okF f)(ot:okR t)(h0:0<f.length):Qf Tryz.prog F.f46 #[vFd w,raW t,raW t] H (.int .i64 0):=by
 have wn:(w.n:Int)=f.length:=by have:=hf.len;omega
 refine vc46 ⟨_,_,y9x hf of ot ot (y6t t),λh=>by simp at h,λ_=>⟨λh=>?_,λ_=>⟨rfl,Hp.le_refl _⟩⟩⟩
 have h:(w.n:Int)=0:=by simpa using h
 omega
theorem x0e{H:Hp}{w:Slc}{f:List Pt}{t:Int×Int}(hf:Rd 3 fD H w f)(of:okF f)(ot:okR t)(h0:0<f.length):Qf Tryz.prog F.f47 #[vFd w,raW t] H (.tuple #[ptW (sP f t 0),ptW (sP f t (f.length-1))]):=by
 have q:=zvl hf ot.fit
 rw[yja of ot] at q
 have sm:=of.len
 refine vc47 (q.mono λv H2 ⟨u,hv,l2,m⟩=>?_)
 have m:RdI H2 u (yis f t):=m.rdI
 have un:(u.n:Int)=f.length:=by have:=m.len;rw[yiv] at this;omega
 have g0:=RdI.get (i:=0) m (by omega) (by rw[yiv];omega)
 have g1:=RdI.get (i:=(f.length:Int)-1) m (by omega) (by rw[yiv];omega)
 rw[show (0:Int).toNat=0 from rfl,yuy h0] at g0
 rw[show ((f.length:Int)-1).toNat=f.length-1 by omega,yuy (by omega)] at g1
 refine⟨u,0,hv,?_⟩
 rw[un]
 exact⟨m.inS (by omega) (by rw[yiv];omega),_,g0,_,_,_,_,zwj (hf.le l2) of h0,by unfold inI;omega,m.inS (by omega) (by rw[yiv];omega),_,g1,_,_,_,_,zwj (hf.le l2) of (by omega),rfl,l2⟩
theorem x0f{H:Hp}{w:Slc}{f:List Pt}{t:Int×Int}(hf:Rd 3 fD H w f)(of:okF f)(ot:okR t)(h0:0<f.length):Qf Tryz.prog F.f32 #[vFd w,raW t] H (.tuple #[.int .i64 (sP f t 0).1,.int .i64 (sP f t (f.length-1)).1,.int .i64 0]) :=
 vc32 ⟨0,x0b hf of ot h0,λh=>by simp at h,λ_=>⟨_,_,_,_,_,_,x0e hf of ot h0,rfl,Hp.le_refl _⟩⟩
theorem x0a{H:Hp}{w:Slc}{f:List Pt}{t:Int×Int}(hf:Rd 3 fD H w f)(of:okF f)(a:z85 t)(h0:0<f.length):Qf Tryz.prog F.f16 #[vFd w,raW t] H (.tuple #[raW (zz9 f t 0 (f.length-1)).1,.int .i64 0]) :=
 vc16 ⟨0,x0b hf of a.1 h0,λh=>by simp at h,λ_=>⟨_,_,_,_,_,_,x0e hf of a.1 h0,_,_,0,yme of a h0,λh=>by simp at h,λ_=>⟨_,_,0,yme of a (by omega),λh=>by simp at h,λ_=>⟨_,_,_,zzc of a h0 (by omega),rfl,Hp.le_refl _⟩⟩⟩⟩

/-! ### Gaps -/
def yn8(f:List Pt)(t:Int×Int)(n:Nat):List (Int×Int):=(List.range n).map λk=>(spot f t k).1
def y17(f:List Pt)(t:Int×Int)(n:Nat):List (Int×Int):=(List.range n).map λk=>(zz9 f t k (k+1)).1
theorem yqg{α:Type}{g:Nat->α}{n:Nat}:((List.range n).map g).length=n:=by simp
theorem yqf{α:Type}{g:Nat->α}{n k:Nat}{d:α}(h:k<n):((List.range n).map g).getD k d=g k:=by
 rw[List.getD_eq_getElem?_getD,List.getElem?_map,List.getElem?_range h];rfl
theorem yqh{α:Type}{g:Nat->α}{n:Nat}:(List.range (n+1)).map g=(List.range n).map g++[g n]:=by
 rw[List.range_succ,List.map_append];rfl
set_option maxHeartbeats 2000000 in
theorem y1a{H:Hp}{w:Slc}{f:List Pt}{t:Int×Int}(hf:Rd 3 fD H w f)(of:okF f)(a:z85 t) :
  Go.Eng.Fn Tryz.prog F.f50 #[vFd w,raW t] H λv H'=>∃u g:Slc,v=.tuple #[u.v,g.v,.int .i64 0]/\Hp.le H H'/\Mine 1 fI T.int H H' u (yis f t)/\Mine 2 fH T.api_Ratio H H' g (y17 f t (f.length-1)):=by
 have q:=zvl hf a.1.fit
 rw[yja of a.1] at q
 have sm:=of.len
 refine vc50 (q.mono λv H2 ⟨u,hv,l2,m⟩=>⟨u,0,hv,λh=>by simp at h,λ_=>?_⟩)
 have m:Mine 1 fI T.int H H2 u (yis f t):=m
 have un:(u.n:Int)=f.length:=by have:=m.rdI.len;rw[yiv] at this;omega
 rw[un]
 refine⟨λs n H'=>∃k:Nat,n=k/\k<=f.length/\Hp.le H2 H'/\Mine 2 fH T.api_Ratio H2 H' s (yn8 f t k),λ_ n _=>((f.length:Int)-n).toNat,⟨0,rfl,by omega,Hp.le_refl _,.inl ⟨rfl,rfl⟩⟩,?_⟩
 rintro s n H9 ⟨k,rfl,hk,l9,ms⟩
 refine⟨λhn=>?_,λhn=>?_⟩
 ·have hn:k<f.length:=by have:=of_decide_eq_true hn;omega
  have r9:=m.rdI.le l9
  have g:=RdI.get (i:=(k:Int)) r9 (by omega) (by rw[yiv];omega)
  rw[Int.toNat_natCast,yuy hn] at g
  refine⟨r9.inS (by omega) (by rw[yiv];omega),_,g,_,_,_,_,zwj (hf.le (Hp.le_trans l2 l9)) of hn,_,_,0,yme of a hn,λh=>by simp at h,λ_ b18 H19 hb hH=>?_⟩
  refine(z78 (k:=2) (f:=fH) (bytes:=16) (x:=(spot f t k).1) (by kernel_rfl) (by decide) (λ_=>rfl) zuj l9 ms hb hH rfl (by unfold yn8;rw[yqg];omega) (by omega)).mono λv H21 ⟨s',hv,l21,m21,_,_⟩=>⟨s',hv,by unfold inI;omega,⟨k+1,by omega,by omega,l21,?_⟩,by dsimp only;omega⟩
  unfold yn8 at m21 ⊢
  rw[yqh];exact m21
 ·have hn:k=f.length:=by have:=of_decide_eq_false hn;omega
  subst hn
  have sl:=ms.rdH.len
  unfold yn8 at sl;rw[yqg] at sl
  have sn:(s.n:Int)=f.length:=by omega
  rw[sn]
  refine⟨λg n H'=>∃k:Nat,n=(k:Int)+1/\k+1<=max 1 f.length/\Hp.le H9 H'/\Mine 2 fH T.api_Ratio H9 H' g (y17 f t k),λ_ n _=>((f.length:Int)-n).toNat,⟨0,rfl,by omega,Hp.le_refl _,.inl ⟨rfl,rfl⟩⟩,?_⟩
  rintro g n H27 ⟨k,rfl,hk,l27,mg⟩
  have r27:=ms.rdH.le l27
  refine⟨λhn=>?_,λhn=>?_⟩
  ·have hn:k+1<f.length:=by have:=of_decide_eq_true hn;omega
   have g1:=r27.gH (i:=(k:Int)+1-1) (by omega) (by unfold yn8;rw[yqg];omega)
   have g2:=r27.gH (i:=(k:Int)+1) (by omega) (by unfold yn8;rw[yqg];omega)
   unfold yn8 at g1 g2
   rw[show ((k:Int)+1-1).toNat=k by omega,yqf (by omega)] at g1
   rw[show ((k:Int)+1).toNat=k+1 by omega,yqf (by omega)] at g2
   refine⟨by unfold inI;omega,r27.inS (by omega) (by unfold yn8;rw[yqg];omega),_,_,g1,r27.inS (by omega) (by unfold yn8;rw[yqg];omega),_,_,g2,_,_,0,zzc of a (by omega) hn,λh=>by simp at h,λ_ b35 H36 hb hH=>?_⟩
   refine(z78 (k:=2) (f:=fH) (bytes:=16) (x:=(zz9 f t k (k+1)).1) (by kernel_rfl) (by decide) (λ_=>rfl) zuj l27 mg hb hH rfl (by unfold y17;rw[yqg];omega) (by omega)).mono λv H38 ⟨g',hv,l38,m38,_,_⟩=>⟨g',hv,by unfold inI;omega,⟨k+1,by omega,by omega,l38,?_⟩,by dsimp only;omega⟩
   unfold y17 at m38 ⊢
   rw[yqh];exact m38
  ·have hn:k=f.length-1:=by have:=of_decide_eq_false hn;omega
   subst hn
   have l0:=Hp.le_trans l2 l9
   exact⟨u,g,rfl,Hp.le_trans l0 l27,m.le (Hp.le_trans l9 l27),mg.low l0⟩
end Go.Proofs.YtnhdkkblehadjabGreat
end
section
/- The greatest gap;one group of all points. Conditions: none. -/
set_option maxRecDepth 100000
open Go Go.Eng Go.Proofs
open Go.Shelf Go.RowKit Go.Lib Go.Sort
namespace Go.Proofs.YtnhdkkblehadjabGreat

theorem y1c{H:Hp}{a b:Int×Int}(oa:okR a)(ob:okR b):Qf Tryz.prog F.f76 #[raW a,raW b] H (.bool (decide (znm a b>0))):=by
 have q:=yqw (H:=H) oa.fit ob.fit
 rw[show zng a b=(znm a b,0) from if_pos ⟨oa,ob⟩] at q
 exact vc76 ⟨_,_,q,rfl,Hp.le_refl _⟩
def cfR(a b:Int×Int):Int:=znm b a
theorem y19{H:Hp}{a b:Int×Int}(oa:okR a)(ob:okR b):Qf Tryz.prog F.f75 #[raW a,raW b] H (.int .i64 (cfR a b)):=by
 have q:=yqw (H:=H) ob.fit oa.fit
 rw[show zng b a=(znm b a,0) from if_pos ⟨ob,oa⟩] at q
 exact vc75 ⟨_,_,q,rfl,Hp.le_refl _⟩
theorem zdq{a b:Int×Int}:cfR a b<0↔¬ leR a b:=znv
theorem x3k{L:List (Int×Int)}(ok:∀x∈L,okR x):SWO (ltOf (cfL (L:=L) cfR)):=by
 have key:∀x y:InL L,ltOf (cfL cfR) x y=true↔¬ leR x.1 y.1:=λx y=>by
  unfold ltOf cfL;rw[decide_eq_true_eq,zdq]
 have tr:∀x y z:InL L,leR x.1 y.1->leR y.1 z.1->leR x.1 z.1:=λx y z=>y6v (ok _ x.2) (ok _ y.2) (ok _ z.2)
 refine⟨λx=>?_,λx y z h1 h2=>?_,λx y z h1 h2=>?_⟩
 ·rw[Bool.eq_false_iff,ne_eq,key];exact λh=>h (y6t _)
 ·rw[key] at *
  exact λh=>h1 (tr x z y h ((y6u y.1 z.1).resolve_left h2))
 ·rw[Bool.eq_false_iff,ne_eq,key] at *
  exact λh=>h (tr x y z (Decidable.not_not.1 h1) (Decidable.not_not.1 h2))
theorem z5n:∀w,(isAgg (Tryz.sortRt_ren.t 24)).run Tryz.prog w=.ok true w:=λw=>by
 rw[Go.Eng.run_isAgg (t:=Tryz.sortRt_ren.t 24) (P:=Tryz.prog) (x:=(Tryz.prog.underlying T.api_Ratio).getD (.struct #[])) (by kernel_rfl)]
 exact congrArg (λb=>Result.ok b w) (show z5o Tryz.prog (Tryz.sortRt_ren.t 24)=true by kernel_rfl)
theorem ywj:∀w,(Go.sizeOf (Tryz.sortRt_ren.t 24)).run Tryz.prog w=.ok 2 w:=λw=>by
 rw[Go.Eng.run_sizeOf (t:=Tryz.sortRt_ren.t 24) (P:=Tryz.prog) (x:=(Tryz.prog.underlying T.api_Ratio).getD (.struct #[])) (by kernel_rfl)]
 exact congrArg (λb=>Result.ok b w) (show Tryz.prog.cellsOf (Tryz.sortRt_ren.t 24)=2 by kernel_rfl)
theorem y18{f:List Pt}{t:Int×Int}(of:okF f)(a:z85 t):∀x∈y17 f t (f.length-1),okR x/\0<=x.1:=λx hx=>by
 obtain⟨k,hk,rfl⟩:=List.mem_map.1 hx
 have hk:=List.mem_range.1 hk
 have W:=z8a of a
 obtain⟨h1,h2⟩:=W.gap (i:=k) (k:=k+1) (by omega) (by omega) (z87 of a k hk)
 refine⟨h1,?_⟩
 have v:=yuz of (t:=t) (i:=k) (k:=k+1) (by omega) (by omega)
 have p1:=h1.d1;have p2:=a.1.d1
 rcases Int.lt_or_le (zz9 f t k (k+1)).1.1 0 with h|h
 ·have n1:=Int.mul_neg_of_neg_of_pos h (show 0<t.2 by omega)
  have n2:=Int.mul_nonneg (show 0<=x74 (sP f t k) t-x74 (sP f t (k+1)) t by omega) (show 0<=(zz9 f t k (k+1)).1.2 by omega)
  omega
 ·exact h
def z0t(L:List (Int×Int))(d:Int×Int):Prop:=(L=[]/\d=(0,1))\/(d∈L/\∀x∈L,leR x d)
set_option maxHeartbeats 1000000 in
theorem y1d{H:Hp}{w:Slc}{f:List Pt}{t:Int×Int}(hf:Rd 3 fD H w f)(of:okF f)(a:z85 t) :
  Go.Eng.Fn Tryz.prog F.f33 #[vFd w,raW t,.int .i64 1] H λv H'=>∃d:Int×Int,v=.tuple #[raW d,.int .i64 0]/\Hp.le H H'/\z0t (y17 f t (f.length-1)) d:=by
 have sm:=of.len
 have gok:=y18 of a
 refine vc33 ((y1a hf of a).mono λv H2 ⟨u,g,hv,l2,_,mg⟩=>⟨u,g,0,hv,λh=>by simp at h,λ_=>⟨λh=>by simp at h,λ_=>?_⟩⟩)
 have ll:(y17 f t (f.length-1)).length=f.length-1:=yqg
 refine(yzs (k:=2) (f:=fH) Tryz.sortRt z5n ywj (λ_=>rfl) (by decide) zuj (g:=F.f75) (cb:=#[]) (cf:=cfR) (Hc:=λ_=>none)
  (enters_of Tryz.func75 (by kernel_rfl) rfl) (by omega) (x3k λx hx=>(gok x hx).1) mg (λc o h=>by cases h) λx hx y hy=>y19 (gok x hx).1 (gok y hy).1).mono λv H7 ⟨hv,S,hp,hs,m,c⟩=>⟨hv,?_⟩
 have l7:=Hp.le_chg l2 c mg.isNew
 have gn:(g.n:Int)=S.length:=by have:=m.rdH.len;omega
 rw[gn]
 refine⟨λh=>?_,λh=>?_⟩
 ·have h:=of_decide_eq_true h
  have e:S=[]:=List.length_eq_zero_iff.1 (by omega)
  subst e
  exact⟨(0,1),rfl,l7,.inl ⟨hp.symm.eq_nil,rfl⟩⟩
 ·have h:¬ (1:Int)>S.length:=of_decide_eq_false h
  have g1:=m.rdH.gH (i:=(1:Int)-1) (by omega) (by omega)
  refine⟨by unfold inI;omega,m.rdH.inS (by omega) (by omega),_,_,g1,S.getD 0 (0,0),rfl,l7,.inr ?_⟩
  obtain⟨x,S',rfl⟩:∃x S',S=x :: S':=by
   cases S with
   | nil=>simp at h
   | cons x S'=>exact⟨x,S',rfl⟩
  refine⟨hp.mem_iff.1 List.mem_cons_self,λy hy=>?_⟩
  rcases List.mem_cons.1 (hp.mem_iff.2 hy) with rfl|hy
  ·exact y6t _
  ·have:=(List.pairwise_cons.1 hs).1 y hy
   rw[zdq] at this
   exact Decidable.not_not.1 this

/-! ### One group -/
def fSl(s:Slc):List Value:=[s.v]
theorem zut:∀(x:Slc),∀v∈fSl x,v.oneCell'=true:=λx v hv=>by simp[fSl] at hv;subst hv;rfl
theorem Mine.setS{e:TypeId}{H0 H:Hp}{u:Slc}{xs:List Slc}{i:Int}(h:Mine 1 fSl e H0 H u xs)(h0:0<=i)(h1:i<xs.length)(y:Slc){Q:Hp->Prop}
  (q:∀H',Mine 1 fSl e H0 H' u (xs.set i.toNat y)->Chg H H' u->Q H') :
  H.canStore (zrr u.a 1 i) 0 [y.v]/\∀H',H'=H.store (zrr u.a 1 i) 0 [y.v]->Q H':=by
 obtain⟨a,b,c⟩:=Mine.set (g:=λx=>x.v) (λ_=>rfl) h h0 h1 y
 exact⟨a,λH' hH=>by subst hH;exact q _ b c⟩
structure z1m(H0 H:Hp)(o:Slc)(L:List Int)(s:Slc):Prop where
 mo:Mine 1 fSl T.s_int H0 H o [s]
 ms:Mine 1 fI T.int H0 H s L
 sep:Sep o s
set_option maxHeartbeats 2000000 in
theorem y1f{H:Hp}{w:Slc}{f:List Pt}{t d:Int×Int}(hf:Rd 3 fD H w f)(of:okF f)(a:z85 t)(od:okR d)(d0:0<=d.1)(hd:∀x∈y17 f t (f.length-1),leR x d)(h0:0<f.length) :
  Go.Eng.Fn Tryz.prog F.f34 #[vFd w,raW t,raW d] H λv H'=>∃o s:Slc,v=.tuple #[o.v,.int .i64 0]/\Hp.le H H'/\Rd 1 fSl H' o [s]/\RdI H' s (yis f t):=by
 have sm:=of.len
 have gok:=y18 of a
 have q:=zvl hf a.1.fit
 rw[yja of a.1] at q
 refine vc34 (q.mono λv H2 ⟨u0,hv,l2,_⟩=>⟨u0,0,hv,λh=>by simp at h,λ_=>?_⟩)
 have qk:=yqv (H:=H2) od.fit
 rw[zl5.2 od] at qk
 refine⟨0,qk,λh=>by simp at h,λ_=>⟨λh=>?_,λ_=>?_⟩⟩
 ·have:=of_decide_eq_true h;omega
 refine(y1a (hf.le l2) of a).mono λv H7 ⟨u,g,hv,l7,mu,mg⟩=>⟨u,g,0,hv,λh=>by simp at h,λ_=>?_⟩
 have un:(u.n:Int)=f.length:=by have:=mu.rdI.len;rw[yiv] at this;omega
 have ll:(y17 f t (f.length-1)).length=f.length-1:=yqg
 rw[un]
 refine⟨λo n H'=>∃k:Nat,n=k/\k<=f.length/\Hp.le H7 H'/\(k=0->o=⟨none,0,0⟩)/\(0<k->∃s,z1m H7 H' o ((yis f t).take k) s),λ_ n _=>((f.length:Int)-n).toNat,⟨0,rfl,by omega,Hp.le_refl _,λ_=>rfl,λh=>by omega⟩,?_⟩
 rintro o n H15 ⟨k,rfl,hk,l15,o0,o1⟩
 refine⟨λhn=>?_,λhn=>?_⟩
 ·have hn:k<f.length:=by have:=of_decide_eq_true hn;omega
  have ru:=mu.rdI.le l15
  have rg:=mg.rdH.le l15
  have gk:=RdI.get (i:=(k:Int)) ru (by omega) (by rw[yiv];omega)
  rw[Int.toNat_natCast] at gk
  have tk:(yis f t).take (k+1)=(yis f t).take k++[(yis f t).getD k 0]:=by
   rw[List.take_add_one,List.getD_eq_getElem?_getD,List.getElem?_eq_getElem (by rw[yiv];exact hn)];rfl
  have ms:((f.length:Int)-((k:Int)+1)).toNat<((f.length:Int)-(k:Int)).toNat:=by omega
  have gin:0<k->(y17 f t (f.length-1)).getD (k-1) (0,0)∈y17 f t (f.length-1):=λhk0=>by
   rw[List.getD_eq_getElem?_getD,List.getElem?_eq_getElem (by omega)];exact List.getElem_mem _
  have gg:decide ((k:Int)>0)=true->_:=λh=>rg.gH (i:=(k:Int)-1) (by have:=of_decide_eq_true h;omega) (by omega)
  rw[show ((k:Int)-1).toNat=k-1 by omega] at gg
  refine⟨ru.inS (by omega) (by rw[yiv];omega),_,gk,λ_=>by unfold inI;omega,λh=>rg.inS (by have:=of_decide_eq_true h;omega) (by omega),_,_,gg,false,λh=>?_,λhc=>?_,λhc=>?_⟩
  ·have h:=of_decide_eq_true h
   have m:=gin (by omega)
   have q:=y1c (H:=H15) (gok _ m).1 od
   rw[decide_eq_false (show ¬ znm _ d>0 by have:=zns.2 (hd _ m);omega)] at q
   exact q
  ·have hk0:0<k:=by simpa using hc
   obtain⟨s,G⟩:=o1 hk0
   have on:(o.n:Int)=1:=by have:=(Mine.rd (k:=1) (f:=fSl) (λ_=>rfl) G.mo).len;simp at this;omega
   have ro:Rd 1 fSl H15 o [s]:=Mine.rd (k:=1) (f:=fSl) (λ_=>rfl) G.mo
   rw[on]
   have ga:H15.at (zrr o.a 1 ((1:Int)-1))=some s.v:=ro.at0 (by omega) (by rfl) rfl
   refine⟨by unfold inI;omega,by unfold inI;omega,ro.inS (by omega) (by simp),s,ga,λb21 H22 hb hH=>?_⟩
   refine(z78 (k:=1) (f:=fI) (bytes:=8) (x:=(yis f t).getD k 0) (by kernel_rfl) (by decide) (λ_=>rfl) zum l15 G.ms hb hH rfl (by rw[List.length_take];omega) (by omega)).mono λv H24 ⟨s',hv,l24,m24,c24,x24⟩=>⟨s',hv,ro.inS (by omega) (by simp),?_⟩
   have mo:=G.mo.chg c24 G.sep
   have sp:Sep s' o:=G.sep.symm.ext G.mo.isOld x24
   refine Mine.setS mo (by omega) (by simp) s' λH26 m26 c26=>⟨by unfold inI;omega,⟨k+1,by omega,by omega,Hp.le_chg l24 c26 m26.isNew,λh=>by omega,λ_=>⟨s',m26,by rw[tk];exact m24.chg c26 sp,sp.symm⟩⟩,ms⟩
  ·have hk0:k=0:=by
    rcases Nat.eq_zero_or_pos k with h|h
    ·exact h
    ·have:decide ((k:Int)>0)=true:=decide_eq_true (by omega)
     rw[this] at hc;simp at hc
   subst hk0
   rw[o0 rfl]
   refine λb27 H28 hb27 hH28 b29 H30 hb29 hH30=>?_
   have l28:Hp.le H15 H28:=Hp.le_new (Hp.le_refl _) hb27 hH28
   have ms0:Mine 1 fI T.int H15 H28 ⟨some ⟨b27,0,none⟩,1,1⟩ [(yis f t).getD 0 0]:=yby (λ_=>rfl) hb27 hH28 rfl rfl
   have ms1:=(ms0.low l15)
   have lA:Hp.le H7 H28:=Hp.le_trans l15 l28
   have e0:Mine 1 fSl T.s_int H7 H28 ⟨none,0,0⟩ []:=.inl ⟨rfl,rfl⟩
   have app:=z78 (k:=1) (f:=fSl) (P:=Tryz.prog) (t:=101) (ty:=101) (cs:=#[false,false]) (bytes:=24) (x:=⟨some ⟨b27,0,none⟩,1,1⟩) (by kernel_rfl) (by decide) (λ_=>rfl) zut lA e0 hb29 hH30 rfl (by simp) (by omega)
   refine app.mono λv H32 ⟨o',hv,l32,m32,c32,x32⟩=>⟨o',hv,by unfold inI;omega,⟨1,rfl,by omega,l32,λh=>by omega,λ_=>⟨⟨some ⟨b27,0,none⟩,1,1⟩,m32,?_,?_⟩⟩,ms⟩
   ·rw[tk];exact ms1.chg c32 λp q _ hq=>by cases hq
   ·intro p q hp hq
    cases hq
    rcases x32 p hp with h|h
    ·cases h
    ·intro e
     rw[e,hH28,Hp.put_same] at h;cases h
 ·have hn:k=f.length:=by have:=of_decide_eq_false hn;omega
  subst hn
  obtain⟨s,G⟩:=o1 h0
  refine⟨o,s,rfl,Hp.le_trans l2 (Hp.le_trans l7 l15),Mine.rd (k:=1) (f:=fSl) (λ_=>rfl) G.mo,?_⟩
  have:=G.ms.rdI
  rwa [List.take_of_length_le (by rw[yiv];omega)] at this
end Go.Proofs.YtnhdkkblehadjabGreat
end
