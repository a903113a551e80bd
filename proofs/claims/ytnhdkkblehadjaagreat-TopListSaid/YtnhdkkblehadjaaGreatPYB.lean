/- The engine, parts PR, PW, X0, X1, X2, Y0, Y1, Y2, PT, Y3, Y4, Y6, put together. Conditions: none. -/
import Derived.Test.YtnhdkkblehadjaaGreatPQ4
import Derived.Test.YtnhdkkblehadjaaGreatVgY
open Go.Addr renaming mk->Qa
open Bool renaming and_eq_true->Qb
open Go.Eng.Hp renaming le_refl->Qc,le->Qd,le_trans->Qe,le_new->Qg,put_le->Qh,put->Qi
open Int renaming toNat_natCast->Qj,toNat_of_nonneg->Ql
open List renaming getElem?_eq_getElem->Qm,getD_eq_getElem?_getD->Qn,length_drop->Qo,length_map->Qp,length_append->Qq,range->Qr,mem_cons_of_mem->Qs,length_take->Qt,length_filterMap_le->Qu,take_length->Qv,range_succ->Qw,pairwise_iff_getElem->Qx,mem_of_getElem?->Qy,mem_cons_self->Qz,map_flatMap->Q1,flatMap_append->Q2,filter_cons_of_pos->Q3,filter_cons_of_neg->Q4,filterMap_append->Q5,countP_eq_zero->Q6,append_nil->Q7
open Nat renaming mul_le_mul->Q8,lt_or_ge->Q9,add_mul->Xa
set_option linter.unusedVariables false
set_option maxHeartbeats 8000000
section
set_option maxRecDepth 100000
open Go Go.Eng Go.Proofs
namespace Go.Proofs.YtnhdkkblehadjaaGreat
variable{f:List Pt}{xs m:List Pr}{i:Int}{H:Hp}{u:Slc}
def yfm(m:Mt):Pr:=(m.2.1,m.2.2,m.1)
def yem(f:List Pt):List Pr:=x4q ((ye4 f).map yfm)
def za4(f:List Pt)(a b:Int×Int):List Pr:=(yem f).filter λx=>inT a b x.2.2
theorem yei{p:Pt}(op:okP p):∀ps:List Pt,(∀q∈ps,okP q)->∀m∈yee p ps,okR m.1
 | [],_,m,hm=>by cases hm
 | q :: ps,h,m,hm=>by
  have ih:=yei op ps λx hx=>h x (Qs _ hx)
  unfold yee at hm ih;rw[List.filterMap_cons] at hm;by_cases e:p.2.2=q.2.2
  ·rw[Zp e] at hm;exact ih m hm
  ·rw[Zn e] at hm;rcases List.mem_cons.1 hm with rfl|hm
   ·have oq:=h q Qz;show okR (atP p q);have o0:okR (0,1):=⟨by decide,by decide,by decide,by decide,by decide⟩;rcases Int.lt_or_le p.2.2 q.2.2 with hl|hl
    ·exact(yel op oq hl o0).1
    ·rw[z8f e];exact(yel oq op (show q.2.2<p.2.2 by omega) o0).1
   ·exact ih m hm
theorem ye8:∀f:List Pt,(∀q∈f,okP q)->∀m∈ye4 f,okR m.1
 | [],_,m,hm=>by cases hm
 | p :: f,h,m,hm=>by
  have hm:m∈yee p f++ye4 f:=hm;rcases List.mem_append.1 hm with hm|hm
  ·exact yei (h p Qz) f (λq hq=>h q (Qs _ hq)) m hm
  ·exact ye8 f (λq hq=>h q (Qs _ hq)) m hm
theorem yed(of:okF f):∀y∈(ye4 f).map yfm,okPr y:=λy hy=>by
 obtain⟨m,hm,rfl⟩:=List.mem_map.1 hy;exact ye8 f of.each m hm
theorem yeq(of:okF f):∀y∈yem f,okPr y:=λy hy=>yed of y ((x4u _).mem_iff.1 hy)
theorem yet(of:okF f):Srt clP (yem f):=x4v (yed of)
theorem za5(f:List Pt)(a b:Int×Int):(za4 f a b).length=(ye4 f).countP λm=>inT a b m.1:=by
 unfold za4 yem;rw[← List.countP_eq_length_filter,(x4u _).countP_eq,List.countP_map];rfl
theorem x7f{l:Ls}(ok:yk9 l){to:Int×Int}(hu:xaf l.ck to=0):x7d l to=(za4 l.ck.f l.ck.now to).length:=by
 rw[x7g ok hu,za5]
theorem y64{a b m:Int×Int}:inT a b m=true↔¬ leR m a/\leR m b:=by
 unfold inT;rw[Qb,Bool.not_eq_true',Zt,Zq,zpb,zpb]
abbrev Ld:=(Int×Int)×Int
theorem ydq{k:Nat}(h:k<xs.length):xs.getD k zPr∈xs:=by
 rw[Qn,Qm h];exact List.getElem_mem h
def zPt:Pt:=(0,0,0)
def ptF(f:List Pt)(i:Nat):Pt:=f.getD i zPt
def yy7(f:List Pt)(i k:Nat):List Pr:=(yee (ptF f i) ((f.take k).drop (i+1))).map yfm
def xas(f:List Pt)(i:Nat):List Pr:=(Qr i).flatMap λj=>(yee (ptF f j) (f.drop (j+1))).map yfm
theorem xav(f:List Pt)(i:Nat):xas f (i+1)=xas f i++yy7 f i f.length:=by
 unfold xas yy7;rw[Qw,Q2,Qv];simp
theorem yea:∀f:List Pt,ye4 f=(Qr f.length).flatMap λj=>yee (ptF f j) (f.drop (j+1))
 | []=>rfl
 | p :: ps=>by
  show yee p ps++ye4 ps=_;rw[List.length_cons,List.range_succ_eq_map,List.flatMap_cons,List.flatMap_map,yea ps];rfl
theorem xat(f:List Pt):xas f f.length=(ye4 f).map yfm:=by
 rw[yea,Q1];rfl
theorem yeg(p:Pt)(ps:List Pt):(yee p ps).length<=ps.length:=by unfold yee;exact Qu _ _
theorem xau(f:List Pt):∀i,(xas f i).length<=i*f.length
 | 0=>by unfold xas;simp
 | i+1=>by
  rw[xav,Qq,Nat.succ_mul];have:=xau f i;have h2:=yeg (ptF f i) ((f.take f.length).drop (i+1));unfold yy7;rw[Qp];rw[Qo,Qt] at h2;omega
def fM(x:Pr):List Value:=[vi x.2.2.1,vi x.2.2.2,vi x.1,vi x.2.1]
abbrev mtV(x:Pr):Value:=sI4 x.2.2.1 x.2.2.2 x.1 x.2.1
theorem zwz:∀(x:Pr),∀v∈fM x,v.oneCell'=true:=λx v hv=>by
 simp[fM] at hv;rcases hv with rfl|rfl|rfl|rfl <;> rfl
theorem y3f(h0:0<=i)(h1:i<m.length):m[i.toNat]?=some (m.getD i.toNat zPr):=by
 have h:i.toNat<m.length:=by omega
 rw[Qn,Qm h];rfl
theorem RdM.get(h:Rd 4 fM H u m)(h0:0<=i)(h1:i<m.length) :
  H.at (zu4 u.a 4 i)=some (vi (m.getD i.toNat zPr).2.2.1)/\H.at ((zu4 u.a 4 i).add 1)=some (vi (m.getD i.toNat zPr).2.2.2)/\H.at ((zu4 u.a 4 i).add 2)=some (vi (m.getD i.toNat zPr).1)/\H.at ((zu4 u.a 4 i).add 3)=some (vi (m.getD i.toNat zPr).2.1) :=
 ⟨h.at0 h0 (y3f h0 h1) rfl,h.atj h0 (y3f h0 h1) (j:=1) rfl,h.atj h0 (y3f h0 h1) (j:=2) rfl,h.atj h0 (y3f h0 h1) (j:=3) rfl⟩
theorem _root_.Go.Eng.Mine.rdM{e:TypeId}{H0:Hp}(h:Mine 4 fM e H0 H u xs):Rd 4 fM H u xs:=Mine.rd (k:=4) (f:=fM) (λ_=>rfl) h
theorem ysl{i:Nat}(h:i<f.length):f[i]?=some (ptF f i):=by
 unfold ptF;rw[Qn,Qm h];rfl
theorem ysm{i:Nat}(h:i<f.length):ptF f i∈f:=Qy (ysl h)
end Go.Proofs.YtnhdkkblehadjaaGreat
end
section
set_option maxRecDepth 100000
open Go Go.Eng Go.Proofs
open Go.Shelf Go.RowKit Go.Lib Go.Sort
namespace Go.Proofs.YtnhdkkblehadjaaGreat
variable{H:Hp}{f:List Pt}{b i k:Nat}{a t to:Int×Int}{u w s:Slc}{x y:Pr}{q p:Pt}{l:Ls}
theorem yd2{b:Int×Int}(ha:zzn a)(hb:zzn b):qF F.f134 #[raW a,raW b] H (vi (cmpM a b).1) :=
 vc134 ⟨_,_,yuj ha hb,rfl,Qc _⟩
def or3(a b c:Int):Int:=if a≠0 then a else if b≠0 then b else c
theorem zp1{a b c:Int}(r:RdI H u [a,b,c]):qF F.f194 #[u.v] H (vi (or3 a b c)):=by
 have un:(u.n:Int)=3:=by have:=r.len;simp at this;omega
 refine vc194 ?_;rw[un];refine upto (N:=3) (J:=λn=>(0<n->a=0)/\(1<n->b=0)/\(2<n->c=0)) (by omega) ⟨λh=>by omega,λh=>by omega,λh=>by omega⟩ λn h0 h1 hJ=>⟨λhn=>?_,λhn=>⟨?_,Qc _⟩⟩
 ·have hn:n<3:=Zr hn;have g:=RdI.get r h0 (by simp;omega);refine⟨r.inS h0 (by simp;omega),_,g,λhc=>⟨?_,Qc _⟩,λhc=>?_⟩
  ·have hc:=bne_iff_ne.1 hc;have:n=0\/n=1\/n=2:=by omega
   unfold or3;rcases this with rfl|rfl|rfl
   ·have hc:a≠0:=hc;rw[Zp hc];rfl
   ·have hc:b≠0:=hc;rw[Zn (λe=>e (hJ.1 (by omega))),Zp hc];rfl
   ·rw[Zn (λe=>e (hJ.1 (by omega))),Zn (λe=>e (hJ.2.1 (by omega)))];rfl
  ·have hc:=bne_eq_false_iff_eq.1 hc;have:n=0\/n=1\/n=2:=by omega
   refine upto.nx h0 hn (by omega) ?_;rcases this with rfl|rfl|rfl
   ·exact⟨λ_=>hc,λh=>by omega,λh=>by omega⟩
   ·exact⟨λ_=>hJ.1 (by omega),λ_=>hc,λh=>by omega⟩
   ·exact⟨λ_=>hJ.1 (by omega),λ_=>hJ.2.1 (by omega),λ_=>hc⟩
 ·have hn:¬ n<3:=Zs hn;unfold or3;rw[Zn (λe=>e (hJ.1 (by omega))),Zn (λe=>e (hJ.2.1 (by omega))),hJ.2.2 (by omega)]
def cfM(x y:Pr):Int:=or3 (zp5 x.2.2 y.2.2) (zoo x.1 y.1) (zoo x.2.1 y.2.1)
theorem yd3(ox:okPr x)(oy:okPr y):qF F.f138 #[mtV x,mtV y] H (vi (cfM x y)):=by
 have e:cmpM x.2.2 y.2.2=(zp5 x.2.2 y.2.2,0):=Zp ⟨ox,oy⟩;have q:=yd2 (H:=H) (a:=x.2.2) (b:=y.2.2) (okR.fit ox) (okR.fit oy);rw[e] at q;refine vc138 ⟨_,q,_,zrk,_,zrk,λb H5 hb hH=>?_⟩;have l5:Qd H H5:=Qg (Qc _) hb hH;have r:RdI H5 ⟨some ⟨b,0,none⟩,3,3⟩ [zp5 x.2.2 y.2.2,zoo x.1 y.1,zoo x.2.1 y.2.1]:=yva (k:=1) (f:=fI) (λ_=>rfl) hH rfl rfl;have q2:=zp1 r;exact⟨_,q2,rfl,l5⟩
theorem zov{a b:Int}:decide (zoo a b<0)=decide (a<b):=by
 unfold zoo;by_cases h:a<b
 ·rw[Zp h];simp[h]
 ·rw[Zn h];split <;> simp[h]
theorem zoy{a b:Int}:zoo a b=0↔a=b:=by
 unfold zoo;by_cases h:a<b
 ·rw[Zp h];omega
 ·rw[Zn h];split <;> omega
theorem zd9:decide (cfM x y<0)=clP x y:=by
 unfold cfM or3 clP;by_cases h:zp5 x.2.2 y.2.2≠0
 ·rw[Zp h,Zp h]
 ·rw[Zn h,Zn h];by_cases h1:x.1≠y.1
  ·rw[Zp h1,Zp (λe=>h1 (zoy.1 e)),zov]
  ·rw[Zn h1,Zn (λe=>e (zoy.2 (Decidable.not_not.1 h1))),zov]
section
variable{L:List Pr}
theorem ybw(x y:InL L):ltOf (cfL cfM) x y=clP x.1 y.1:=by
 unfold ltOf cfL;exact zd9
theorem x7i(ok:∀x∈L,okPr x):SWO (ltOf (cfL (L:=L) cfM)) where
 irrefl x:=by rw[ybw,zmh]
 trans x y z h1 h2:=by
  rw[ybw] at *
  have ox:=ok _ x.2;have oy:=ok _ y.2;have oz:=ok _ z.2;have n:=zmk z.1 y.1 x.1 oz oy ox;by_cases e:x.1=z.1
  ·rw[e] at h1;rw[zmf _ _ oz oy h1] at h2;cases h2
  ·refine zmi ox oz e ?_;have a1:=zmf _ _ ox oy h1;have a2:=zmf _ _ oy oz h2;exact zmk x.1 y.1 z.1 ox oy oz a1 a2
 ntrans x y z h1 h2:=by
  rw[ybw] at *
  exact zmk z.1 y.1 x.1 (ok _ z.2) (ok _ y.2) (ok _ x.2) h2 h1
end
theorem z5m:∀w,(isAgg (Tryz.sortMt_ren.t 24)).run Tryz.prog w=.ok true w:=λw=>by
 rw[Go.Eng.run_isAgg (t:=Tryz.sortMt_ren.t 24) (P:=Tryz.prog) (x:=(Tryz.prog.underlying T.api_Meeting).getD (.struct #[])) (by kernel_rfl)];exact congrArg (λb=>Result.ok b w) (show z5o Tryz.prog (Tryz.sortMt_ren.t 24)=true by kernel_rfl)
theorem x0u:∀w,(Go.sizeOf (Tryz.sortMt_ren.t 24)).run Tryz.prog w=.ok 4 w:=λw=>by
 rw[Go.Eng.run_sizeOf (t:=Tryz.sortMt_ren.t 24) (P:=Tryz.prog) (x:=(Tryz.prog.underlying T.api_Meeting).getD (.struct #[])) (by kernel_rfl)];exact congrArg (λb=>Result.ok b w) (show Tryz.prog.cellsOf (Tryz.sortMt_ren.t 24)=4 by kernel_rfl)
theorem x4p{H0:Hp}{L:List Pr}{e:TypeId}(ok:∀x∈L,okPr x)(hbig:L.length<4611686018427387904)(hu:Mine 4 fM e H0 H u L) :
  fN F.f137 #[u.v,.func (.func F.f138) #[] #[]] H λv H'=>v=.tuple #[]/\Mine 4 fM e H0 H' u (x4q L)/\Chg H H' u:=by
 refine(x4j (k:=4) (f:=fM) Tryz.sortMt z5m x0u (λ_=>rfl) (by decide) zwz (g:=F.f138) (cb:=#[]) (cf:=cfM) (Hc:=λ_=>none)
  (enters_of Tryz.func138 (by kernel_rfl) rfl) hbig (x7i ok) hu (λc o hc=>by cases hc) λx hx y hy=>yd3 (ok x hx) (ok y hy)).mono λv H' ⟨hv,S,hp,hs,m,c⟩=>⟨hv,?_,c⟩
 have:S=x4q L:=x4t ok hp (hs.imp λ{x y} h=>by rw[← zd9];exact Zv h);rw[← this];exact m
theorem x5y{cs:Array Value}{T:TypeId}(h:Cel H b cs T)(vs:List Value)(hv:vs.length=cs.size):H.canStore ⟨b,0,none⟩ 0 vs/\H.store ⟨b,0,none⟩ 0 vs=H.put b (.cells vs.toArray T (0,0)):=by
 obtain⟨can,st⟩:=x62 (b:=b) (off:=0) vs 0 H cs h (by omega);refine⟨can,?_⟩;rw[st];have:cs.toList.drop (0+0+vs.length)=[]:=List.drop_eq_nil_of_le (by rw[Array.length_toList];omega);rw[this];simp
theorem put_put'{o o':Obj}:(H.put b o).put b o'=H.put b o':=by
 funext k;unfold Qi;split <;> rfl
def yyh(f:List Pt)(i k:Nat):List (Pt×Pt):=((f.drop (i+1)).take k).map λq=>(ptF f i,q)
def ysi(f:List Pt)(i:Nat):List (Pt×Pt):=(Qr i).flatMap λj=>(f.drop (j+1)).map λq=>(ptF f j,q)
theorem ysk(f:List Pt)(i:Nat):ysi f (i+1)=ysi f i++(f.drop (i+1)).map λq=>(ptF f i,q):=by
 unfold ysi;rw[Qw,Q2];simp
theorem yyi(h:(f.drop (i+1)).length<=k):yyh f i k=(f.drop (i+1)).map λq=>(ptF f i,q):=by
 unfold yyh;rw[List.take_of_length_le h]
theorem yyk(h:(f.drop (i+1))[k]?=some q):yyh f i (k+1)=yyh f i k++[(ptF f i,q)]:=by
 unfold yyh;rw[x88 h,List.map_append];rfl
def yeb(x:Pt×Pt):Option Pr:=if x.1.2.2=x.2.2.2 then none else some (yfm (atP x.1 x.2,x.1.1,x.2.1))
theorem yeh(p:Pt)(ps:List Pt):(yee p ps).map yfm=(ps.map λq=>(p,q)).filterMap yeb:=by
 unfold yee;rw[List.map_filterMap,List.filterMap_map];congr 1;funext q;unfold yeb;simp only[Function.comp];split <;> rfl
theorem yev(f:List Pt):(ysi f f.length).filterMap yeb=(ye4 f).map yfm:=by
 rw[yea,Q1];unfold ysi;rw[List.filterMap_flatMap];congr 1;funext j;exact(yeh _ _).symm
theorem yd4(op:okP p)(oq:okP q)(h:p.2.2≠q.2.2):(yc3 (p.2.1-q.2.1) (q.2.2-p.2.2)).2=0:=by
 rcases Int.lt_or_gt_of_ne h with hl|hl
 ·obtain⟨x,y,g,_,hm,_⟩:=ydh op oq hl;rw[hm]
 ·rw[yc4 (show q.2.2-p.2.2≠0 by omega),show -(p.2.1-q.2.1)=q.2.1-p.2.1 by omega,show -(q.2.2-p.2.2)=p.2.2-q.2.2 by omega];obtain⟨x,y,g,_,hm,_⟩:=ydh oq op (show q.2.2<p.2.2 from hl);rw[hm]
theorem zsa(hp:okP p)(hq:okP q)(hne:p.1≠q.1)(hb:p.2.2=q.2.2):qF F.f136 #[ptW p,ptW q] H (.tuple #[raW (0,0),vi 6]):=by
 have h2:xa3 p q (0,1)=0:=xa4.2 ⟨hp,hq,yjw,hne⟩;refine vc136 ⟨_,zsc (p:=p) (q:=q) (t:=(0,1)) yjw.fit,λhc=>?_,λhc=>⟨λhe=>⟨rfl,Qc _⟩,λhe=>?_⟩⟩
 ·rw[h2] at hc;simp at hc
 ·exact absurd hb (by simpa using he)
def y4p(H:Hp)(b:Nat):Hp:=λk=>if k=b then none else H k
theorem y4q:Qd (y4p H b) H:=λk o h=>by
 unfold y4p at h;split at h
 ·cases h
 ·exact h
theorem y9d{H':Hp}(h:Qd H H')(hb:H b=none):Qd H (y4p H' b):=λk o hk=>by
 unfold y4p;rw[Zn λe=>by rw[e,hb] at hk;cases hk];exact h k o hk
structure z0t(B:Hp)(b3:Nat)(pre:List (Pt×Pt))(H:Hp)(s:Slc):Prop where
 le:Qd B H
 vr:Var H b3 s.v T.s_api_Meeting
 ms:Mine 4 fM T.api_Meeting B H s (pre.filterMap yeb)
 ne:∀p,s.a=some p->p.block≠b3
def OkP(f:List Pt)(b3:Nat)(x:Pt×Pt)(vs:List Value)(H:Hp):Prop:=vs=[vi x.1.1,vi x.1.2.1,vi x.1.2.2,vi x.2.1,vi x.2.2.1,vi x.2.2.2]/\x.1∈f/\x.2∈f/\x.1.1≠x.2.1/\∀s:Slc,Var H b3 s.v T.s_api_Meeting->s.n<=10000
theorem Slc.v_inj{t:Slc}(h:s.v=t.v):s=t:=by
 cases s;cases t;simp only[Slc.v] at h;injection h with h1 h2 h3;subst h1 h2 h3;rfl
theorem xb6{t:Slc}{T:TypeId}(h1:Var H b s.v T)(h2:Var H b t.v T):s=t:=by
 have a:=h1.at;rw[h2.at] at a;exact Slc.v_inj (Option.some.inj a).symm
theorem ysj(f:List Pt):∀i,(ysi f i).length<=i*f.length
 | 0=>by simp[ysi]
 | i+1=>by
  rw[ysk,Qq,Qp,Qo];have:=ysj f i;rw[Xa,Nat.one_mul];omega
theorem yyj(f:List Pt)(i k:Nat):(yyh f i k).length<=f.length:=by
 unfold yyh;rw[Qp,Qt,Qo];omega
theorem yju(x:Pt×Pt):OfL (zkh.yp.flatMap (·.2)) [vi x.1.1,vi x.1.2.1,vi x.1.2.2,vi x.2.1,vi x.2.2.1,vi x.2.2.2]:=λf h=>h x.1.1 x.1.2.1 x.1.2.2 x.2.1 x.2.2.1 x.2.2.2
theorem yni{Hs B:Hp}{bp b3:Nat}(of:okF f)(r:Rd 3 fD B w f)(hc:Cel B bp #[w.v] 24)(st:∃s,z0t B b3 [] Hs s) :
  z0w Tryz.prog (.func (.func F.f192) #[] #[.pointer (some ⟨bp,0,none⟩)]) Hs (ysi f f.length) (λpre H=>∃s,z0t B b3 pre H s) (OkP f b3) zkh.yp:=by
 refine⟨_,_,rfl,⟨_,Tryz.func192,by kernel_rfl⟩,λL o hL round=>?_⟩;show fN F.f192 #[.func (.yield L) #[] #[],.pointer (some ⟨bp,0,none⟩)] (Hs.put L o) _;have lf:=of.small;have wn:w.n=f.length:=r.len;have wc:w.n<=w.c:=r.cap;have box:∀{H:Hp},Qd B H->H L=none->(H.put L o).at (((Qa bp 0 none).add 0).add 0)=some w.v:=λ{H} hl hn=>by
  rw[add_zero',add_zero',Cel.at ((hc.le hl).le (Qh _ _ hn))];rfl
 have hK:Tryz.prog.cellsOf T.api_Point=3:=by kernel_rfl
 obtain⟨s0,i0⟩:=st;refine vc192 ⟨w,box i0.le hL,λn Hx=>∃i H,n=(i:Nat)/\i<=f.length/\Hx=Qi H L o/\H L=none/\∃s,z0t B b3 (ysi f i) H s,λn _=>((f.length:Int)-n).toNat,⟨0,Hs,rfl,by omega,rfl,hL,s0,i0⟩,?_⟩;rintro n4 Hx ⟨i,H,rfl,hi,rfl,hn,s,iv⟩;refine⟨λh=>?_,λh=>?_⟩
 ·have h:i<f.length:=by have:=Zr h;omega
  have rx:Rd 3 fD (H.put L o) w f:=(r.le iv.le).le (Qh _ _ hn);have g:=Rd.gD (xs:=f) rx (i:=(i:Int)) (by omega) (by omega);rw[Qj] at g;have ei:((i:Int)+1).toNat=i+1:=by omega
  refine⟨rx.inS (by omega) (by omega),_,_,_,g,w,box iv.le hn,by unfold inI;omega,⟨by omega,by omega,by omega,by omega⟩,?_⟩;rw[hK,ei];have dl:(f.drop (i+1)).length=f.length-(i+1):=Qo;have iv0:z0t B b3 (ysi f i++yyh f i 0) H s:=by
   have e0:yyh f i 0=[]:=by simp[yyh]
   rw[e0,Q7];exact iv
  refine⟨λn Hx=>∃k H,n=(k:Nat)/\k<=f.length-(i+1)/\Hx=Qi H L o/\H L=none/\∃s,z0t B b3 (ysi f i++yyh f i k) H s,λn _=>(((f.length-(i+1):Nat):Int)-n).toNat,⟨0,H,rfl,by omega,rfl,hn,s,iv0⟩,?_⟩;rintro n12 Hy ⟨k,H2,rfl,hk,rfl,hn2,s2,iv2⟩;refine⟨λh2=>?_,λh2=>?_⟩
  ·have h2:k<f.length-(i+1):=by have:=Zr h2;rw[wn] at this;omega
   have ry:Rd 3 fD (H2.put L o) w f:=(r.le iv2.le).le (Qh _ _ hn2);have rs:=ry.sub (l:=(i:Int)+1) (hi:=(w.n:Int)) (m:=(w.c:Int)) (by omega) (by omega) (by omega) (by omega);rw[ei,Qj,Qj,wn,Qv] at rs;have gk:=Rd.gD (xs:=f.drop (i+1)) rs (i:=(k:Int)) (by omega) (by omega);have is:=rs.inS (i:=(k:Int)) (by omega) (by omega);rw[Qj] at gk;have hq:(f.drop (i+1))[k]?=some ((f.drop (i+1)).getD k (0,0,0)):=by rw[Qn,Qm (by omega)];rfl
   generalize (f.drop (i+1)).getD k (0,0,0)=q at gk hq;have mp:ptF f i∈f:=ysm h;have mq:q∈f:=List.mem_of_mem_drop (Qy hq);have hne:(ptF f i).1≠q.1:=by
    have hp:=Qx.1 (yk2 of);rw[List.getElem?_drop] at hq;obtain⟨b1,b2⟩:=List.getElem?_eq_some_iff.1 hq;have:=hp i (i+1+k) h b1 (by omega);rw[b2] at this;have e:f[i]=ptF f i:=by have:=ysl h;rw[Qm h] at this;exact Option.some.inj this
    rwa [e] at this
   have bnd:∀s':Slc,Var H2 b3 s'.v T.s_api_Meeting->s'.n<=10000:=λs' hs'=>by
    rw[xb6 hs' iv2.vr];have h1:=iv2.ms.rdM.len;have h2:=Qu yeb (ysi f i++yyh f i k);rw[Qq] at h2;have h3:=ysj f i;have h4:=yyj f i k;have h5:i*f.length<=64*64:=Q8 (by have:=of.len;omega) of.len;have:=of.len;omega
   rw[wn];refine⟨is,_,_,_,gk,?_⟩;have R:FnY Tryz.prog L [sI3 (ptF f i).1 (ptF f i).2.1 (ptF f i).2.2,sI3 q.1 q.2.1 q.2.2] (H2.put L o) λv Hx=>v=.bool true/\∃H3,(∃s,z0t B b3 ((ysi f i++yyh f i k)++[(ptF f i,q)]) H3 s)/\H3 L=none/\Hx=H3.put L o :=
    round (ysi f i++yyh f i k) (ptF f i,q) _ H2 (yju (ptF f i,q)) ⟨s2,iv2⟩ ⟨rfl,mp,mq,hne,bnd⟩ hn2
   refine R.mono λv H18 ⟨ev,H3,i3,n3,e3⟩=>⟨true,ev,λh=>by simp at h,λ_=>⟨by unfold inI;omega,⟨k+1,H3,by omega,by omega,e3,n3,?_⟩,by dsimp only;omega⟩⟩
   rw[yyk hq,← List.append_assoc];exact i3
  ·have h2:¬ k<f.length-(i+1):=by have:=Zs h2;rw[wn] at this;omega
   refine⟨by unfold inI;omega,⟨i+1,H2,by omega,by omega,rfl,hn2,s2,?_⟩,by dsimp only;omega⟩;rw[ysk,← yyi (k:=k) (by omega)];exact iv2
 ·have h:¬ i<f.length:=by have:=Zs h;omega
  have e:i=f.length:=by omega
  subst e;exact⟨H,⟨s,iv⟩,hn,rfl⟩
theorem zc5{x y z:Value}{T:TypeId}(h:Cel H b #[x,y,z] T):H.at ((Qa b 0 none).add 0)=some x/\H.at ((Qa b 0 none).add 1)=some y/\H.at ((Qa b 0 none).add 2)=some z:=by
 have e1:(Qa b 0 none).add 1=Qa b 1 none:=rfl;have e2:(Qa b 0 none).add 2=Qa b 2 none:=rfl;rw[add_zero',e1,e2,Cel.at h,Cel.at h,Cel.at h];exact⟨rfl,rfl,rfl⟩
theorem zc4{x y:Value}{T:TypeId}(h:Cel H b #[x,y] T):H.at ((Qa b 0 none).add 0)=some x/\H.at ((Qa b 0 none).add 1)=some y:=by
 have e1:(Qa b 0 none).add 1=Qa b 1 none:=rfl;rw[add_zero',e1,Cel.at h,Cel.at h];exact⟨rfl,rfl⟩
theorem yeu(of:okF f):((ye4 f).map yfm).length<=4096:=by
 have sm:=of.len;rw[← xat];have:=xau f f.length;have:f.length*f.length<=64*64:=Q8 (by omega) (by omega);omega
theorem ycz(hf:Rd 3 fD H w f)(of:okF f) :
  fN F.f82 #[vFd w] H λv H'=>∃u:Slc,v=u.v/\Qd H H'/\Mine 4 fM T.api_Meeting H H' u (yem f):=by
 have sm:=of.len;refine vc82 λb1 H2 hb1 hH2 b3 H4 hb3 hH4=>?_
 have l2:Qd H H2:=Qg (Qc _) hb1 hH2;have l4':Qd H2 H4:=Qg (Qc _) hb3 hH4;have C1:Cel H4 b1 #[w.v] 24:=Cel.le (by subst hH2;exact Cel.put) l4';have nb3:H b3=none:=by
  cases hx:H b3 with
  | none=>rfl
  | some o=>rw[l2 _ _ hx] at hb3;cases hb3
 refine⟨w,by rw[add_zero',Cel.at C1];rfl,vc135 λbp H7 hbp hH7=>⟨_,rfl,λ_=>rfl,Pt×Pt,ysi f f.length,OkP f b3,λpre H=>∃s,z0t (y4p H7 b3) b3 pre H s,?_⟩⟩;have l7':Qd H4 H7:=Qg (Qc _) hbp hH7;have l7:Qd H H7:=Qe l2 (Qe l4' l7');have V4:Var H4 b3 (⟨none,0,0⟩:Slc).v T.s_api_Meeting:=Var.new hH4;have V7:=V4.le l7';have lB:Qd H (y4p H7 b3):=y9d l7 nb3;have nB:(y4p H7 b3) b3=none:=by unfold y4p;rw[Zp rfl]
 have hbp3:bp≠b3:=λe=>by subst e;unfold Var Cel at V4;rw[V4] at hbp;cases hbp
 have CB:Cel (y4p H7 b3) bp #[w.v] 24:=by
  unfold Cel y4p;rw[Zn hbp3,hH7];exact Hp.put_same _ _ _
 have i0:z0t (y4p H7 b3) b3 [] H7 ⟨none,0,0⟩:=⟨y4q,V7,.inl ⟨rfl,rfl⟩,λp hp=>by cases hp⟩;refine⟨yni of (hf.le lB) CB ⟨_,i0⟩,⟨_,i0⟩,?_,?_⟩
 ·rintro pre x n15 n16 n17 n18 n19 n20 H21 ⟨s,iv⟩ ⟨evs,m1,m2,hne,hbd⟩ b22 H23 hb22 hH23;simp only[List.cons.injEq,Value.int.injEq,true_and,and_true] at evs;obtain⟨rfl,rfl,rfl,rfl,rfl,rfl⟩:=evs;have o1:=of.each _ m1;have o2:=of.each _ m2;have C23:Cel H23 b22 #[vi 0,vi 0,vi 0] T.api_Point:=by subst hH23;exact Cel.put
  obtain⟨can,sto⟩:=x5y C23 [vi x.1.1,vi x.1.2.1,vi x.1.2.2] rfl;refine⟨can,λH24 hH24=>?_⟩;rw[sto,hH23,put_put'] at hH24;have l24:Qd H21 H24:=Qg (Qc _) hb22 hH24;have C24:Cel H24 b22 #[vi x.1.1,vi x.1.2.1,vi x.1.2.2] T.api_Point:=by subst hH24;exact Cel.put
  intro b25 H26 hb25 hH26;have C26:Cel H26 b25 #[vi 0,vi 0,vi 0] T.api_Point:=by subst hH26;exact Cel.put
  obtain⟨can,sto⟩:=x5y C26 [vi x.2.1,vi x.2.2.1,vi x.2.2.2] rfl;refine⟨can,λH27 hH27=>?_⟩;rw[sto,hH26,put_put'] at hH27;have l27:Qd H24 H27:=Qg (Qc _) hb25 hH27;have C27:Cel H27 b25 #[vi x.2.1,vi x.2.2.1,vi x.2.2.2] T.api_Point:=by subst hH27;exact Cel.put
  have C27a:=C24.le l27;refine⟨λ_=>rfl,_,_,_,zc5 C27a,_,_,_,zc5 C27,?_⟩;have fin:∀t:Int×Int,∀b37 H38,H27 b37=none->H38=H27.put b37 (.cells #[vi 0,vi 0] 26)->H38.canStore (Qa b37 0 none) 0 [vi t.1,vi t.2]/\∀H39,H39=H38.store (Qa b37 0 none) 0 [vi t.1,vi t.2]->Qd H27 H39/\Cel H39 b37 #[vi t.1,vi t.2] 26:=λt b37 H38 hb hH=>by
   have C38:Cel H38 b37 #[vi 0,vi 0] 26:=by subst hH;exact Cel.put
   obtain⟨can,sto⟩:=x5y C38 [vi t.1,vi t.2] rfl;refine⟨can,λH39 hH39=>?_⟩;rw[sto,hH,put_put'] at hH39;exact⟨Qg (Qc _) hb hH39,by subst hH39;exact Cel.put⟩
  by_cases hsp:x.1.2.2=x.2.2.2
  ·refine⟨0,0,6,zsa o1 o2 hne hsp,λb37 H38 hb37 hH38=>?_⟩;obtain⟨can,f39⟩:=fin (0,0) b37 H38 hb37 hH38;refine⟨can,λH39 hH39=>⟨λh=>by simp at h,λ_=>?_⟩⟩;obtain⟨l39,_⟩:=f39 H39 hH39;have l2139:=Qe l24 (Qe l27 l39);have e:(pre++[x]).filterMap yeb=pre.filterMap yeb:=by
    rw[Q5];have:[x].filterMap yeb=[]:=by simp[yeb,hsp]
    rw[this,Q7]
   exact⟨s,Qe iv.le l2139,iv.vr.le l2139,by rw[e];exact iv.ms.le l2139,iv.ne⟩
  ·have q:=zs9 (H:=H27) o1 o2 hne hsp;rw[yd4 o1 o2 hsp] at q;refine⟨(atP x.1 x.2).1,(atP x.1 x.2).2,0,q,λb37 H38 hb37 hH38=>?_⟩;obtain⟨can,f39⟩:=fin (atP x.1 x.2) b37 H38 hb37 hH38;refine⟨can,λH39 hH39=>⟨λ_=>?_,λh=>by simp at h⟩⟩;obtain⟨l39,C39⟩:=f39 H39 hH39;have l2139:=Qe l24 (Qe l27 l39);have V39:=iv.vr.le l2139;have m39:=iv.ms.le l2139;have lB39:=Qe iv.le l2139;have g1:=(zc5 (C27a.le l39)).1;have g2:=(zc5 (C27.le l39)).1;have z1:((Qa b22 0 none).add 0).add 0=(Qa b22 0 none).add 0:=rfl;have z2:((Qa b25 0 none).add 0).add 0=(Qa b25 0 none).add 0:=rfl;refine⟨s,V39.at,_,_,zc4 C39,_,by rw[z1];exact g1,_,by rw[z2];exact g2,λb45 H46 hb45 hH46=>?_⟩;have e:(pre++[x]).filterMap yeb=pre.filterMap yeb++[yfm (atP x.1 x.2,x.1.1,x.2.1)]:=by
    rw[Q5];have:[x].filterMap yeb=[yfm (atP x.1 x.2,x.1.1,x.2.1)]:=by simp[yeb,hsp]
    rw[this]
   have fewp:(pre.filterMap yeb).length<=100000000:=by have h1:=iv.ms.rdM.len;have h2:=hbd s iv.vr;omega
   refine(z7b (k:=4) (f:=fM) (bytes:=32) (x:=yfm (atP x.1 x.2,x.1.1,x.2.1)) (by kernel_rfl) (by decide) (λ_=>rfl) zwz lB39 m39 hb45 hH46 rfl fewp (by omega)).mono λv H48 ⟨u,hv,l48,m48,c48,x48⟩=>⟨u,hv,?_⟩
   have V48:=V39.chg c48 iv.ne;have nu:∀p,u.a=some p->p.block≠b3:=λp hp=>by
    rcases x48 p hp with h|h
    ·exact iv.ne p h
    ·intro e3;rw[e3] at h;unfold Var Cel at V39;rw[V39] at h;cases h
   refine Var.set V48 u.v λH50 hH50=>⟨u,by subst hH50;exact Hp.le_put l48 nB,Var.new hH50,?_,nu⟩
   rw[e,hH50];exact m48.chg (v:=⟨some ⟨b3,0,none⟩,1,1⟩) (λc _ hc=>Hp.put_ne _ _ λe3=>hc ⟨b3,0,none⟩ rfl e3.symm) (λp q hp hq=>by cases hq;exact nu p hp)
 ·rintro H51 ⟨s,iv⟩;have ms:=iv.ms;rw[yev] at ms;have few:=yeu of;refine⟨s,iv.vr.at,(x4p (yed of) (by omega) ms).mono λv H54 ⟨hv,m54,c54⟩=>⟨hv,s,(iv.vr.chg c54 iv.ne).at,s,rfl,Qe lB (Hp.le_chg iv.le c54 ms.isNew),?_⟩⟩;exact m54.low lB
theorem zyk{α:Type}{p:α->Bool}:∀{l:List α},(l.Pairwise λx y=>p y=true->p x=true)->l.filter p=l.take (l.countP p)/\l.filter (λx=>!p x)=l.drop (l.countP p)
 | [],_=>⟨rfl,rfl⟩
 | x :: l,h=>by
  obtain⟨h1,h2⟩:=List.pairwise_cons.1 h;obtain⟨i1,i2⟩:=zyk h2;cases e:p x with
  | true =>
   rw[List.countP_cons_of_pos e,Q3 e,Q4 (by rw[e];simp),i1,i2];exact⟨rfl,rfl⟩
  | false =>
   have z:l.countP p=0:=Q6.2 λy hy hp=>by have:=h1 y hy hp;rw[e] at this;cases this
   rw[List.countP_cons_of_neg (by rw[e];simp),z,Q4 (by rw[e];simp),Q3 (by rw[e];rfl)];rw[z] at i1 i2;rw[i1,i2];exact⟨rfl,rfl⟩
def zqg(f:List Pt)(t:Int×Int):Nat:=(yem f).countP λx=>decide (zp5 x.2.2 t<=0)
theorem yen(of:okF f)(ot:okR t):(yem f).Pairwise λx y=>decide (zp5 y.2.2 t<=0)=true->decide (zp5 x.2.2 t<=0)=true :=
 List.Pairwise.imp_of_mem (λ{x y} hx hy h hq=>by
  rw[Zq,zpb] at hq ⊢;exact y9b (yeq of x hx) (yeq of y hy) ot (zmj.1 h).1 hq) (yet of)
theorem zqh(of:okF f){b:Int×Int}(oa:okR a)(ob:okR b)(h:leR a b):zqg f a<=zqg f b:=by
 refine List.countP_mono_left λx hx hp=>?_
 rw[Zq,zpb] at hp ⊢;exact y9b (yeq of x hx) oa ob hp h
theorem zqi(f:List Pt)(t:Int×Int):zqg f t<=(yem f).length:=List.countP_le_length
theorem zaa(of:okF f){b:Int×Int}(oa:okR a)(ob:okR b)(h:leR a b):za4 f a b=((yem f).take (zqg f b)).drop (zqg f a):=by
 obtain⟨b1,_⟩:=zyk (yen of ob);have hs:=(yen of oa).sublist (List.take_sublist (zqg f b) (yem f));obtain⟨_,a2⟩:=zyk hs;have ec:((yem f).take (zqg f b)).countP (λx=>decide (zp5 x.2.2 a<=0))=zqg f a:=by
  unfold zqg;rw[← b1,List.countP_filter];refine List.countP_congr λx hx=>?_
  have ox:=yeq of x hx;rw[Qb,Zq,Zq,zpb,zpb];exact⟨λhh=>hh.1,λhh=>⟨hh,y9b ox oa ob hh h⟩⟩
 rw[ec] at a2;rw[← a2];unfold zqg;rw[← b1,List.filter_filter];rfl
theorem ye6:∀f:List Pt,2*(ye4 f).length<=f.length*f.length
 | []=>Nat.le_refl _
 | p :: f=>by
  have ih:=ye6 f;have h1:(yee p f).length<=f.length:=Qu _ _;show 2*(yee p f++ye4 f).length<=(f.length+1)*(f.length+1);have e:(f.length+1)*(f.length+1)=f.length*f.length+2*f.length+1:=by rw[Xa,Nat.mul_add];omega
  rw[Qq];omega
theorem yeo(f:List Pt):(yem f).length=(ye4 f).length:=by
 unfold yem;rw[(x4u _).length_eq,Qp]
theorem yer(of:okF f):(yem f).length<=2048:=by
 have h:=ye6 f;have l:=of.len;have:=Q8 l l;rw[yeo];omega
theorem z9n(ox:okPr x)(ot:okR t):QfV Tryz.prog (.func (.func F.f140) #[] #[]) [mtV x,raW t] H (vi (if zp5 x.2.2 t<=0 then -1 else 1)):=by
 have e:cmpM x.2.2 t=(zp5 x.2.2 t,0):=Zp ⟨ox,ot⟩;have q:=yd2 (H:=H) (a:=x.2.2) (b:=t) (okR.fit ox) (okR.fit ot);rw[e] at q;refine⟨F.f140,#[],_,rfl,⟨_,Tryz.func140,by kernel_rfl⟩,vc140 ⟨_,q,λh=>?_,λh=>?_⟩⟩
 ·have h:=Zr h;rw[Zn (by dsimp only at h;omega)];exact⟨rfl,Qc _⟩
 ·have h:=Zs h;rw[Zp (by dsimp only at h;omega)];exact⟨rfl,Qc _⟩
theorem yd0{l:List Pr}(r:Rd 4 fM H u l)(ok:∀x∈l,okPr x)(ot:okR t)(down:l.Pairwise λx y=>decide (zp5 y.2.2 t<=0)=true->decide (zp5 x.2.2 t<=0)=true)(hl:l.length<=100000000) :
  qF F.f83 #[u.v,raW t] H (vi (l.countP λx=>decide (zp5 x.2.2 t<=0):Nat)):=by
 have un:(u.n:Int)=l.length:=by have:=r.len;omega
 have gm:∀{k:Nat},k<l.length->l.getD k zPr∈l:=λh=>ydq h
 have dn:∀{i j:Nat},i<j->j<l.length->zp5 (l.getD j zPr).2.2 t<=0->zp5 (l.getD i zPr).2.2 t<=0:=λ{i j} hij hj h=>by
  have:=Qx.1 down i j (by omega) hj hij;rw[Zq,Zq] at this;rw[Qn,Qm hj] at h;rw[Qn,Qm (show i<l.length by omega)];exact this h
 have cnt:∀n:Nat,n<=l.length->(∀k,k<n->zp5 (l.getD k zPr).2.2 t<=0)->(∀k,n<=k->k<l.length->¬ zp5 (l.getD k zPr).2.2 t<=0)->l.countP (λx=>decide (zp5 x.2.2 t<=0))=n:=λn hn h1 h2=>by
  rw[← List.take_append_drop n l,List.countP_append];have a:(l.take n).countP (λx=>decide (zp5 x.2.2 t<=0))=(l.take n).length:=by
   rw[List.countP_eq_length];intro x hx;obtain⟨k,hk,e⟩:=List.mem_take_iff_getElem.1 hx;have:=h1 k (by omega);rw[Qn,Qm (by omega),Option.getD_some,e] at this;exact Zu this
  have b:(l.drop n).countP (λx=>decide (zp5 x.2.2 t<=0))=0:=by
   rw[Q6];intro x hx;obtain⟨k,hk,e⟩:=List.mem_iff_getElem.1 hx;rw[Qo] at hk;have:=h2 (n+k) (by omega) (by omega);rw[Qn,Qm (by omega),Option.getD_some] at this;rw[List.getElem_drop] at e;rw[e] at this;simpa using this
  rw[a,b,Qt];omega
 have S:qF F.f139 #[u.v,raW t,.func (.func F.f140) #[] #[]] H (.tuple #[vi (l.countP λx=>decide (zp5 x.2.2 t<=0):Nat),.bool false]):=by
  refine vc139 ?_;rw[un];refine⟨λi j H'=>H'=H/\0<=i/\i<=j/\j<=l.length/\(∀k,k<i.toNat->zp5 (l.getD k zPr).2.2 t<=0)/\∀k,j.toNat<=k->k<l.length->¬ zp5 (l.getD k zPr).2.2 t<=0,λi j _=>(j-i).toNat,⟨rfl,Int.le_refl _,by omega,by omega,λk hk=>by simp at hk,λk h1 h2=>by omega⟩,?_⟩;rintro i j H5 ⟨rfl,i0,ij,jl,hA,hB⟩;refine⟨λh=>?_,λh=>?_⟩
  ·have h:=Zr h;rw[yf0 i0 h (by omega)];have m0:0<=(i+j)/2:=by omega
   have m1:(i+j)/2<l.length:=by omega
   have om:=ok _ (gm (k:=((i+j)/2).toNat) (by omega));refine⟨by unfold inI;omega,by unfold nn;omega,r.inS m0 m1,_,_,_,_,RdM.get r m0 m1,_,z9n om ot,λhc=>?_,λhc=>?_⟩
   ·have hc:zp5 (l.getD ((i+j)/2).toNat zPr).2.2 t<=0:=by
     by_cases h3:zp5 (l.getD ((i+j)/2).toNat zPr).2.2 t<=0
     ·exact h3
     ·rw[Zn h3] at hc;simp at hc
    refine⟨by unfold inI;omega,⟨rfl,by omega,by omega,jl,λk hk=>?_,hB⟩,by dsimp only;omega⟩;rcases Q9 k ((i+j)/2).toNat with h4|h4
    ·exact dn h4 (by omega) hc
    ·rw[show k=((i+j)/2).toNat by omega];exact hc
   ·have hc:¬ zp5 (l.getD ((i+j)/2).toNat zPr).2.2 t<=0:=λh3=>by rw[Zp h3] at hc;simp at hc
    refine⟨⟨rfl,i0,by omega,by omega,hA,λk h4 h5 h6=>?_⟩,by dsimp only;omega⟩;rcases Q9 ((i+j)/2).toNat k with h7|h7
    ·exact hc (dn h7 h5 h6)
    ·rw[show k=((i+j)/2).toNat by omega] at h6;exact hc h6
  ·have h:=Zs h;have hij:i=j:=by omega
   subst hij;have ec:=cnt i.toNat (by omega) hA hB;by_cases hi:i<l.length
   ·have oi:=ok _ (gm (k:=i.toNat) (by omega));refine⟨λ_=>r.inS i0 hi,_,_,_,_,λ_=>RdM.get r i0 hi,_,λ_=>z9n oi ot,?_,Qc _⟩;rw[ec,Ql i0];congr 3;split <;> simp
   ·refine⟨λh=>absurd (Zr h) hi,0,0,0,0,λh=>absurd (Zr h) hi,0,λh=>absurd (Zr h) hi,?_,Qc _⟩;rw[ec,Ql i0,Zv hi];rfl
 exact vc83 ⟨_,false,S,rfl,Qc _⟩
def fRa(x:Int×Int):List Value:=[vi x.1,vi x.2]
theorem RdRa.get{m:List (Int×Int)}{i:Int}{x:Int×Int}(h:Rd 2 fRa H u m)(h0:0<=i)(hx:m[i.toNat]?=some x) :
  H.at (zu4 u.a 2 i)=some (vi x.1)/\H.at ((zu4 u.a 2 i).add 1)=some (vi x.2):=by
 exact⟨h.at0 h0 hx rfl,h.atj h0 hx (j:=1) rfl⟩
theorem yd1{b:Int×Int}(hf:Rd 3 fD H w f)(of:okF f)(oa:okR a)(ob:okR b)(hab:leR a b)(r:Rd 2 fRa H u [a,b]):qF F.f81 #[vFd w,u.v] H (vi 0):=by
 have un:(u.n:Int)=2:=by have:=r.len;simp at this;omega
 refine vc81 ?_;rw[un];refine⟨0,by have:=zxq (H:=H) hf;rwa [zlh.2 of] at this,λh=>by simp at h,λ_=>?_⟩;refine upto (N:=2) (J:=λ_=>True) (by omega) trivial λn h0 h1 _=>⟨λhn=>?_,λhn=>?_⟩
 ·have hn:n<2:=Zr hn;have h2:n=0\/n=1:=by omega
  have:∃x,[a,b][n.toNat]?=some x/\okR x:=by
   rcases h2 with rfl|rfl
   ·exact⟨a,rfl,oa⟩
   ·exact⟨b,rfl,ob⟩
  obtain⟨x,hx,ox⟩:=this;refine⟨r.inS h0 (by simp;omega),_,_,RdRa.get r h0 hx,0,by have:=yui (H:=H) (okR.fit ox);rwa [zm8 ox] at this,λh=>by simp at h,λ_=>upto.nx h0 hn (by omega) trivial⟩
 ·have e:cmpM a b=(zp5 a b,0):=Zp ⟨oa,ob⟩;have q:=yd2 (H:=H) (okR.fit oa) (okR.fit ob);rw[e] at q;have hle:=zpb.2 hab;refine⟨λ_=>r.inS (by omega) (by simp),a.1,a.2,λ_=>RdRa.get (i:=0) r (by omega) rfl,λ_=>r.inS (by omega) (by simp),b.1,b.2,λ_=>RdRa.get (i:=1) r (by omega) rfl,_,λ_=>q,λh=>?_,λ_=>⟨rfl,Qc _⟩⟩;simp only[Qb,Zq] at h;omega
theorem ycy{b:Int×Int}(hf:Rd 3 fD H w f)(of:okF f)(oa:okR a)(ob:okR b)(hab:leR a b) :
  fN F.f36 #[vFd w,raW a,raW b] H λv H'=>∃u:Slc,v=.tuple #[u.v,vi 0]/\Qd H H'/\Rd 4 fM H' u (za4 f a b):=by
 refine vc36 λb1 H2 hb1 hH2=>?_
 have l2:Qd H H2:=Qg (Qc _) hb1 hH2;have r2:Rd 2 fRa H2 ⟨some ⟨b1,0,none⟩,2,2⟩ [a,b]:=yva (k:=2) (f:=fRa) (λ_=>rfl) hH2 rfl rfl;have qc:=yd1 (hf.le l2) of oa ob hab r2;refine⟨0,qc,λh=>by simp at h,λ_=>(ycz (hf.le l2) of).mono λv H5 ⟨u,hv,l5,m5⟩=>⟨u,hv,?_⟩⟩;have r5:=m5.rdM;have sm:=yer of;have okm:=yeq of;have q1:=yd0 r5 okm oa (yen of oa) (by omega);have q2:=yd0 r5 okm ob (yen of ob) (by omega);have h1:=zqh of oa ob hab;have h2:=zqi f b;have un:=r5.len;have uc:=r5.cap;have hK:Tryz.prog.cellsOf T.api_Meeting=4:=by kernel_rfl
 refine⟨_,q1,_,q2,?_,?_⟩
 ·show ykg ((zqg f a:Nat):Int) ((zqg f b:Nat):Int) ((zqg f b:Nat):Int) (u.c:Int);exact⟨by omega,by omega,by omega,by omega⟩
 ·have rs:=r5.sub (l:=((zqg f a:Nat):Int)) (hi:=((zqg f b:Nat):Int)) (m:=((zqg f b:Nat):Int)) (by omega) (by omega) (by omega) (by omega);rw[hK];refine⟨⟨x67 u.a 4 ((zqg f a:Nat):Int) ((zqg f b:Nat):Int),((zqg f b:Nat):Int).toNat-((zqg f a:Nat):Int).toNat,((zqg f b:Nat):Int).toNat-((zqg f a:Nat):Int).toNat⟩,rfl,Qe l2 l5,?_⟩;rw[zaa of oa ob hab];rw[Qj,Qj] at rs ⊢;exact rs
def ybh(l:Ls)(to:Int×Int):Ls×List Pr×Int:=if (z49 l to).2.2=0 then ((z49 l to).1,za4 l.ck.f l.ck.now to,0) else (.zero,[],(z49 l to).2.2)
theorem z4f(h:(z49 l to).2.2=0):yk9 l/\xaf l.ck to=0:=by
 by_cases ok:yk9 l
 ·refine⟨ok,?_⟩;by_cases hu:xaf l.ck to=0
  ·exact hu
  ·rw[z4e ok hu] at h;exact absurd h hu
 ·rw[z4a ok] at h;exact absurd (show (8:Int)=0 from h) (by decide)
theorem zqq{u:Lu}(r:RdL H u l)(fl:zzh l)(ht:zzn to) :
  fN F.f12 #[lsV u l,raW to] H λv H'=>∃(w:Lu)(s:Slc),v=.tuple #[lsV w (ybh l to).1,s.v,vi (ybh l to).2.2]/\Qd H H'/\RdL H' w (ybh l to).1/\Rd 4 fM H' s (ybh l to).2.1:=by
 refine vc12 ((y84 r fl ht).mono λv H2 ⟨x,hv,l2,r2⟩=>⟨_,_,x.k.f,_,x.k.cl,x.k.u1,x.k.u2,x.k.u3,x.k.u4,x.k.u5,x.k.d,x.o,x.n,_,_,hv,λh=>?_,λh=>?_⟩)
 ·have h:=bne_iff_ne.1 h;have e:ybh l to=(.zero,[],(z49 l to).2.2):=Zn h;rw[e];exact⟨zlu,⟨none,0,0⟩,rfl,l2,RdL.zero,Rd.nil⟩
 ·have h:=bne_eq_false_iff_eq.1 h;obtain⟨ok,hu⟩:=z4f h;obtain⟨_,ot,hle⟩:=xai.1 hu;have e:ybh l to=((z49 l to).1,za4 l.ck.f l.ck.now to,0):=Zp h;rw[e];exact(ycy (r.k.f.le l2) ok.ck.f ok.ck.now ot hle).mono λv H19 ⟨s,hv,l19,r19⟩=>⟨s,0,hv,x,s,rfl,Qe l2 l19,r2.le l19,r19⟩
