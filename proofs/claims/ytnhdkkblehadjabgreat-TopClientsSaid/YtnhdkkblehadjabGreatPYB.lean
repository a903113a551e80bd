/- The engine, parts PR, PW, X0, X1, Y0, Y1, Y2, PT, Y3, Y4, put together. Conditions: none. -/
import Derived.Test.YtnhdkkblehadjabGreatPF1
import Derived.Test.YtnhdkkblehadjabGreatPN2
import Derived.Test.YtnhdkkblehadjabGreatPQ4
import Derived.Test.YtnhdkkblehadjabGreatPS1
import Derived.Test.YtnhdkkblehadjabGreatPO1
import Derived.Test.YtnhdkkblehadjabGreatVgStd
import Derived.Test.YtnhdkkblehadjabGreatVgY
import Derived.Test.YtnhdkkblehadjabGreatFs
import Derived.Test.YtnhdkkblehadjabGreatPL1
import Derived.Test.YtnhdkkblehadjabGreatVgBase
set_option linter.unusedVariables false
section
/- Meetings in order, reigns and who reigns, in plain words. Conditions: none. -/
set_option maxRecDepth 100000
open Go Go.Eng Go.Proofs
namespace Go.Proofs.YtnhdkkblehadjabGreat

/-! ### Meetings in order -/
def ycl(m:Mt):Pr:=(m.2.1,m.2.2,m.1)
def ybj(f:List Pt):List Pr:=yzz ((yb1 f).map ycl)
def zae(f:List Pt)(a b:Int×Int):List Pr:=(ybj f).filter λx=>inT a b x.2.2
theorem ybf{p:Pt}(op:okP p):∀ps:List Pt,(∀q∈ps,okP q)->∀m∈ybb p ps,okR m.1
 | [],_,m,hm=>by cases hm
 | q :: ps,h,m,hm=>by
  have ih:=ybf op ps λx hx=>h x (List.mem_cons_of_mem _ hx)
  unfold ybb at hm ih
  rw[List.filterMap_cons] at hm
  by_cases e:p.2.2=q.2.2
  ·rw[if_pos e] at hm;exact ih m hm
  ·rw[if_neg e] at hm
   rcases List.mem_cons.1 hm with rfl|hm
   ·have oq:=h q List.mem_cons_self
    show okR (atP p q)
    have o0:okR (0,1):=⟨by decide,by decide,by decide,by decide,by decide⟩
    rcases Int.lt_or_le p.2.2 q.2.2 with hl|hl
    ·exact(ybi op oq hl o0).1
    ·rw[z8q e];exact(ybi oq op (show q.2.2<p.2.2 by omega) o0).1
   ·exact ih m hm
theorem yb5:∀f:List Pt,(∀q∈f,okP q)->∀m∈yb1 f,okR m.1
 | [],_,m,hm=>by cases hm
 | p :: f,h,m,hm=>by
  have hm:m∈ybb p f++yb1 f:=hm
  rcases List.mem_append.1 hm with hm|hm
  ·exact ybf (h p List.mem_cons_self) f (λq hq=>h q (List.mem_cons_of_mem _ hq)) m hm
  ·exact yb5 f (λq hq=>h q (List.mem_cons_of_mem _ hq)) m hm
theorem yba{f:List Pt}(of:okF f):∀y∈(yb1 f).map ycl,okPr y:=λy hy=>by
 obtain⟨m,hm,rfl⟩:=List.mem_map.1 hy
 exact yb5 f of.each m hm
theorem ybn{f:List Pt}(of:okF f):∀y∈ybj f,okPr y:=λy hy=>yba of y ((x03 _).mem_iff.1 hy)
theorem ybp{f:List Pt}(of:okF f):Srt clP (ybj f):=x04 (yba of)
theorem zaf(f:List Pt)(a b:Int×Int):(zae f a b).length=(yb1 f).countP λm=>inT a b m.1:=by
 unfold zae ybj
 rw[← List.countP_eq_length_filter,(x03 _).countP_eq,List.countP_map]
 rfl
theorem x3f{l:Ls}(ok:yh6 l){to:Int×Int}(hu:x6i l.ck to=0):x3d l to=(zae l.ck.f l.ck.now to).length:=by
 rw[x3g ok hu,zaf]

/-! ### Filters of a sorted list in two parts -/
theorem y3w{a b m:Int×Int}:inT a b m=true↔¬ leR m a/\leR m b:=by
 unfold inT
 rw[Bool.and_eq_true,Bool.not_eq_true',decide_eq_false_iff_not,decide_eq_true_eq,zns,zns]
/-! ### The next event is the next meeting -/
/-! ### Reigns -/
abbrev Ld:=(Int×Int)×Int

/-! ### Between meetings the order stays -/
/-! ### Who reigns -/
/-! ### Each point at one index -/
/-! ### As many ahead as the index says -/

/-! ### Swaps of neighbours -/
theorem yan{xs:List Pr}{k:Nat}(h:k<xs.length):xs.getD k zPr∈xs:=by
 rw[List.getD_eq_getElem?_getD,List.getElem?_eq_getElem h];exact List.getElem_mem h
/-! ### Pairs,one after the other -/
def zPt:Pt:=(0,0,0)
def ptF(f:List Pt)(i:Nat):Pt:=f.getD i zPt
def ytv(f:List Pt)(i k:Nat):List Pr:=(ybb (ptF f i) ((f.take k).drop (i+1))).map ycl
def x6v(f:List Pt)(i:Nat):List Pr:=(List.range i).flatMap λj=>(ybb (ptF f j) (f.drop (j+1))).map ycl
theorem x6y(f:List Pt)(i:Nat):x6v f (i+1)=x6v f i++ytv f i f.length:=by
 unfold x6v ytv
 rw[List.range_succ,List.flatMap_append,List.take_length];simp
theorem yb7:∀f:List Pt,yb1 f=(List.range f.length).flatMap λj=>ybb (ptF f j) (f.drop (j+1))
 | []=>rfl
 | p :: ps=>by
  show ybb p ps++yb1 ps=_
  rw[List.length_cons,List.range_succ_eq_map,List.flatMap_cons,List.flatMap_map,yb7 ps]
  rfl
theorem x6w(f:List Pt):x6v f f.length=(yb1 f).map ycl:=by
 rw[yb7,List.map_flatMap];rfl
theorem ybd(p:Pt)(ps:List Pt):(ybb p ps).length<=ps.length:=by unfold ybb;exact List.length_filterMap_le _ _
theorem x6x(f:List Pt):∀i,(x6v f i).length<=i*f.length
 | 0=>by unfold x6v;simp
 | i+1=>by
  rw[x6y,List.length_append,Nat.succ_mul]
  have:=x6x f i
  have h2:=ybd (ptF f i) ((f.take f.length).drop (i+1))
  unfold ytv
  rw[List.length_map]
  rw[List.length_drop,List.length_take] at h2
  omega

def fM(x:Pr):List Value:=[.int .i64 x.2.2.1,.int .i64 x.2.2.2,.int .i64 x.1,.int .i64 x.2.1]
abbrev mtV(x:Pr):Value:=sI4 x.2.2.1 x.2.2.2 x.1 x.2.1
theorem zun:∀(x:Pr),∀v∈fM x,v.oneCell'=true:=λx v hv=>by
 simp[fM] at hv
 rcases hv with rfl|rfl|rfl|rfl <;> rfl
theorem y0p{m:List Pr}{i:Int}(h0:0<=i)(h1:i<m.length):m[i.toNat]?=some (m.getD i.toNat zPr):=by
 have h:i.toNat<m.length:=by omega
 rw[List.getD_eq_getElem?_getD,List.getElem?_eq_getElem h];rfl
theorem RdM.get{H:Hp}{u:Slc}{m:List Pr}{i:Int}(h:Rd 4 fM H u m)(h0:0<=i)(h1:i<m.length) :
  H.at (zrr u.a 4 i)=some (.int .i64 (m.getD i.toNat zPr).2.2.1)/\H.at ((zrr u.a 4 i).add 1)=some (.int .i64 (m.getD i.toNat zPr).2.2.2)/\H.at ((zrr u.a 4 i).add 2)=some (.int .i64 (m.getD i.toNat zPr).1)/\H.at ((zrr u.a 4 i).add 3)=some (.int .i64 (m.getD i.toNat zPr).2.1) :=
 ⟨h.at0 h0 (y0p h0 h1) rfl,h.atj h0 (y0p h0 h1) (j:=1) rfl,h.atj h0 (y0p h0 h1) (j:=2) rfl,h.atj h0 (y0p h0 h1) (j:=3) rfl⟩
theorem _root_.Go.Eng.Mine.rdM{e:TypeId}{H0 H:Hp}{u:Slc}{xs:List Pr}(h:Mine 4 fM e H0 H u xs):Rd 4 fM H u xs:=Mine.rd (k:=4) (f:=fM) (λ_=>rfl) h
theorem yp0{f:List Pt}{i:Nat}(h:i<f.length):f[i]?=some (ptF f i):=by
 unfold ptF;rw[List.getD_eq_getElem?_getD,List.getElem?_eq_getElem h];rfl
theorem yp1{f:List Pt}{i:Nat}(h:i<f.length):ptF f i∈f:=List.mem_of_getElem? (yp0 h)
end Go.Proofs.YtnhdkkblehadjabGreat
end
section
/- slices.SortFunc on meetings;the order of meetings. Conditions: none. -/
set_option maxRecDepth 100000
open Go Go.Eng Go.Proofs
open Go.Shelf Go.RowKit Go.Lib Go.Sort
namespace Go.Proofs.YtnhdkkblehadjabGreat

theorem y9y{H:Hp}{a b:Int×Int}(ha:zxh a)(hb:zxh b):Qf Tryz.prog F.f135 #[raW a,raW b] H (.int .i64 (zng a b).1) :=
 vc135 ⟨_,_,yqw ha hb,rfl,Hp.le_refl _⟩
def or3(a b c:Int):Int:=if a≠0 then a else if b≠0 then b else c
theorem znj{H:Hp}{u:Slc}{a b c:Int}(r:RdI H u [a,b,c]):Qf Tryz.prog F.f90 #[u.v] H (.int .i64 (or3 a b c)):=by
 have un:(u.n:Int)=3:=by have:=r.len;simp at this;omega
 refine vc90 ?_
 rw[un]
 refine upto (N:=3) (J:=λn=>(0<n->a=0)/\(1<n->b=0)/\(2<n->c=0)) (by omega) ⟨λh=>by omega,λh=>by omega,λh=>by omega⟩ λn h0 h1 hJ=>⟨λhn=>?_,λhn=>⟨?_,Hp.le_refl _⟩⟩
 ·have hn:n<3:=of_decide_eq_true hn
  have g:=RdI.get r h0 (by simp;omega)
  refine⟨r.inS h0 (by simp;omega),_,g,λhc=>⟨?_,Hp.le_refl _⟩,λhc=>?_⟩
  ·have hc:=bne_iff_ne.1 hc
   have:n=0\/n=1\/n=2:=by omega
   unfold or3
   rcases this with rfl|rfl|rfl
   ·have hc:a≠0:=hc
    rw[if_pos hc];rfl
   ·have hc:b≠0:=hc
    rw[if_neg (λe=>e (hJ.1 (by omega))),if_pos hc];rfl
   ·rw[if_neg (λe=>e (hJ.1 (by omega))),if_neg (λe=>e (hJ.2.1 (by omega)))];rfl
  ·have hc:=bne_eq_false_iff_eq.1 hc
   have:n=0\/n=1\/n=2:=by omega
   refine upto.nx h0 hn (by omega) ?_
   rcases this with rfl|rfl|rfl
   ·exact⟨λ_=>hc,λh=>by omega,λh=>by omega⟩
   ·exact⟨λ_=>hJ.1 (by omega),λ_=>hc,λh=>by omega⟩
   ·exact⟨λ_=>hJ.1 (by omega),λ_=>hJ.2.1 (by omega),λ_=>hc⟩
 ·have hn:¬ n<3:=of_decide_eq_false hn
  unfold or3
  rw[if_neg (λe=>e (hJ.1 (by omega))),if_neg (λe=>e (hJ.2.1 (by omega))),hJ.2.2 (by omega)]
def cfM(x y:Pr):Int:=or3 (znm x.2.2 y.2.2) (zn4 x.1 y.1) (zn4 x.2.1 y.2.1)
theorem y9z{H:Hp}{x y:Pr}(ox:okPr x)(oy:okPr y):Qf Tryz.prog F.f138 #[mtV x,mtV y] H (.int .i64 (cfM x y)):=by
 have e:zng x.2.2 y.2.2=(znm x.2.2 y.2.2,0):=if_pos ⟨ox,oy⟩
 have q:=y9y (H:=H) (a:=x.2.2) (b:=y.2.2) (okR.fit ox) (okR.fit oy)
 rw[e] at q
 refine vc138 ⟨_,q,_,zpa,_,zpa,λb H5 hb hH=>?_⟩
 have l5:Hp.le H H5:=Hp.le_new (Hp.le_refl _) hb hH
 have r:RdI H5 ⟨some ⟨b,0,none⟩,3,3⟩ [znm x.2.2 y.2.2,zn4 x.1 y.1,zn4 x.2.1 y.2.1]:=yrl (k:=1) (f:=fI) (λ_=>rfl) hH rfl rfl
 have q2:=znj r
 exact⟨_,q2,rfl,l5⟩
theorem znb{a b:Int}:decide (zn4 a b<0)=decide (a<b):=by
 unfold zn4
 by_cases h:a<b
 ·rw[if_pos h];simp[h]
 ·rw[if_neg h]
  split <;> simp[h]
theorem zne{a b:Int}:zn4 a b=0↔a=b:=by
 unfold zn4
 by_cases h:a<b
 ·rw[if_pos h];omega
 ·rw[if_neg h]
  split <;> omega
theorem zdp{x y:Pr}:decide (cfM x y<0)=clP x y:=by
 unfold cfM or3 clP
 by_cases h:znm x.2.2 y.2.2≠0
 ·rw[if_pos h,if_pos h]
 ·rw[if_neg h,if_neg h]
  by_cases h1:x.1≠y.1
  ·rw[if_pos h1,if_pos (λe=>h1 (zne.1 e)),znb]
  ·rw[if_neg h1,if_neg (λe=>e (zne.2 (Decidable.not_not.1 h1))),znb]

section
variable {L:List Pr}
theorem y8s(x y:InL L):ltOf (cfL cfM) x y=clP x.1 y.1:=by
 unfold ltOf cfL;exact zdp
theorem x3j(ok:∀x∈L,okPr x):SWO (ltOf (cfL (L:=L) cfM)) where
 irrefl x:=by rw[y8s,zld]
 trans x y z h1 h2:=by
  rw[y8s] at *
  have ox:=ok _ x.2;have oy:=ok _ y.2;have oz:=ok _ z.2
  have n:=zlg z.1 y.1 x.1 oz oy ox
  by_cases e:x.1=z.1
  ·rw[e] at h1
   rw[zlb _ _ oz oy h1] at h2;cases h2
  ·refine zle ox oz e ?_
   have a1:=zlb _ _ ox oy h1
   have a2:=zlb _ _ oy oz h2
   exact zlg x.1 y.1 z.1 ox oy oz a1 a2
 ntrans x y z h1 h2:=by
  rw[y8s] at *
  exact zlg z.1 y.1 x.1 (ok _ z.2) (ok _ y.2) (ok _ x.2) h2 h1
end
theorem z5l:∀w,(isAgg (Tryz.sortMt_ren.t 24)).run Tryz.prog w=.ok true w:=λw=>by
 rw[Go.Eng.run_isAgg (t:=Tryz.sortMt_ren.t 24) (P:=Tryz.prog) (x:=(Tryz.prog.underlying T.api_Meeting).getD (.struct #[])) (by kernel_rfl)]
 exact congrArg (λb=>Result.ok b w) (show z5o Tryz.prog (Tryz.sortMt_ren.t 24)=true by kernel_rfl)
theorem ywg:∀w,(Go.sizeOf (Tryz.sortMt_ren.t 24)).run Tryz.prog w=.ok 4 w:=λw=>by
 rw[Go.Eng.run_sizeOf (t:=Tryz.sortMt_ren.t 24) (P:=Tryz.prog) (x:=(Tryz.prog.underlying T.api_Meeting).getD (.struct #[])) (by kernel_rfl)]
 exact congrArg (λb=>Result.ok b w) (show Tryz.prog.cellsOf (Tryz.sortMt_ren.t 24)=4 by kernel_rfl)
theorem yzy{H0 H:Hp}{u:Slc}{L:List Pr}{e:TypeId}(ok:∀x∈L,okPr x)(hbig:L.length<4611686018427387904)(hu:Mine 4 fM e H0 H u L) :
  Go.Eng.Fn Tryz.prog F.f137 #[u.v,.func (.func F.f138) #[] #[]] H λv H'=>v=.tuple #[]/\Mine 4 fM e H0 H' u (yzz L)/\Chg H H' u:=by
 refine(yzs (k:=4) (f:=fM) Tryz.sortMt z5l ywg (λ_=>rfl) (by decide) zun (g:=F.f138) (cb:=#[]) (cf:=cfM) (Hc:=λ_=>none)
  (enters_of Tryz.func138 (by kernel_rfl) rfl) hbig (x3j ok) hu (λc o hc=>by cases hc) λx hx y hy=>y9z (ok x hx) (ok y hy)).mono λv H' ⟨hv,S,hp,hs,m,c⟩=>⟨hv,?_,c⟩
 have:S=yzz L:=x02 ok hp (hs.imp λ{x y} h=>by rw[← zdp];exact decide_eq_false h)
 rw[← this];exact m

theorem x1u{H:Hp}{b:Nat}{cs:Array Value}{T:TypeId}(h:Cel H b cs T)(vs:List Value)(hv:vs.length=cs.size):H.canStore ⟨b,0,none⟩ 0 vs/\H.store ⟨b,0,none⟩ 0 vs=H.put b (.cells vs.toArray T (0,0)):=by
 obtain⟨can,st⟩:=x1y (b:=b) (off:=0) vs 0 H cs h (by omega)
 refine⟨can,?_⟩
 rw[st]
 have:cs.toList.drop (0+0+vs.length)=[]:=List.drop_eq_nil_of_le (by rw[Array.length_toList];omega)
 rw[this];simp
theorem put_put'{H:Hp}{b:Nat}{o o':Obj}:(H.put b o).put b o'=H.put b o':=by
 funext k;unfold Hp.put;split <;> rfl
/-! ### Pairs,in plain Lean -/
def yu4(f:List Pt)(i k:Nat):List (Pt×Pt):=((f.drop (i+1)).take k).map λq=>(ptF f i,q)
def yox(f:List Pt)(i:Nat):List (Pt×Pt):=(List.range i).flatMap λj=>(f.drop (j+1)).map λq=>(ptF f j,q)
theorem yoz(f:List Pt)(i:Nat):yox f (i+1)=yox f i++(f.drop (i+1)).map λq=>(ptF f i,q):=by
 unfold yox;rw[List.range_succ,List.flatMap_append];simp
theorem yu5{f:List Pt}{i k:Nat}(h:(f.drop (i+1)).length<=k):yu4 f i k=(f.drop (i+1)).map λq=>(ptF f i,q):=by
 unfold yu4;rw[List.take_of_length_le h]
theorem yu7{f:List Pt}{i k:Nat}{q:Pt}(h:(f.drop (i+1))[k]?=some q):yu4 f i (k+1)=yu4 f i k++[(ptF f i,q)]:=by
 unfold yu4;rw[x4c h,List.map_append];rfl
def yb8(x:Pt×Pt):Option Pr:=if x.1.2.2=x.2.2.2 then none else some (ycl (atP x.1 x.2,x.1.1,x.2.1))
theorem ybe(p:Pt)(ps:List Pt):(ybb p ps).map ycl=(ps.map λq=>(p,q)).filterMap yb8:=by
 unfold ybb
 rw[List.map_filterMap,List.filterMap_map]
 congr 1
 funext q
 unfold yb8
 simp only[Function.comp]
 split <;> rfl
theorem ybr(f:List Pt):(yox f f.length).filterMap yb8=(yb1 f).map ycl:=by
 rw[yb7,List.map_flatMap]
 unfold yox
 rw[List.filterMap_flatMap]
 congr 1
 funext j
 exact(ybe _ _).symm
theorem ya0{p q:Pt}(op:okP p)(oq:okP q)(h:p.2.2≠q.2.2):(y8z (p.2.1-q.2.1) (q.2.2-p.2.2)).2=0:=by
 rcases Int.lt_or_gt_of_ne h with hl|hl
 ·obtain⟨x,y,g,_,hm,_⟩:=yae op oq hl
  rw[hm]
 ·rw[y90 (show q.2.2-p.2.2≠0 by omega),show -(p.2.1-q.2.1)=q.2.1-p.2.1 by omega,show -(q.2.2-p.2.2)=p.2.2-q.2.2 by omega]
  obtain⟨x,y,g,_,hm,_⟩:=yae oq op (show q.2.2<p.2.2 from hl)
  rw[hm]
theorem zq1{H:Hp}{p q:Pt}(hp:okP p)(hq:okP q)(hne:p.1≠q.1)(hb:p.2.2=q.2.2):Qf Tryz.prog F.f87 #[ptW p,ptW q] H (.tuple #[raW (0,0),.int .i64 6]):=by
 have h2:x66 p q (0,1)=0:=x67.2 ⟨hp,hq,ygs,hne⟩
 refine vc87 ⟨_,zq3 (p:=p) (q:=q) (t:=(0,1)) ygs.fit,λhc=>?_,λhc=>⟨λhe=>⟨rfl,Hp.le_refl _⟩,λhe=>?_⟩⟩
 ·rw[h2] at hc;simp at hc
 ·exact absurd hb (by simpa using he)

/-! ### The iterator -/
def y2h(H:Hp)(b:Nat):Hp:=λk=>if k=b then none else H k
theorem y2i{H:Hp}{b:Nat}:Hp.le (y2h H b) H:=λk o h=>by
 unfold y2h at h
 split at h
 ·cases h
 ·exact h
theorem y6x{H H':Hp}{b:Nat}(h:Hp.le H H')(hb:H b=none):Hp.le H (y2h H' b):=λk o hk=>by
 unfold y2h
 rw[if_neg λe=>by rw[e,hb] at hk;cases hk]
 exact h k o hk
structure z0x(B:Hp)(b3:Nat)(pre:List (Pt×Pt))(H:Hp)(s:Slc):Prop where
 le:Hp.le B H
 vr:Var H b3 s.v T.s_api_Meeting
 ms:Mine 4 fM T.api_Meeting B H s (pre.filterMap yb8)
 ne:∀p,s.a=some p->p.block≠b3
def OkP(f:List Pt)(b3:Nat)(x:Pt×Pt)(vs:List Value)(H:Hp):Prop:=vs=[.int .i64 x.1.1,.int .i64 x.1.2.1,.int .i64 x.1.2.2,.int .i64 x.2.1,.int .i64 x.2.2.1,.int .i64 x.2.2.2]/\x.1∈f/\x.2∈f/\x.1.1≠x.2.1/\∀s:Slc,Var H b3 s.v T.s_api_Meeting->s.n<=10000
theorem Slc.v_inj{s t:Slc}(h:s.v=t.v):s=t:=by
 cases s;cases t
 simp only[Slc.v] at h
 injection h with h1 h2 h3
 subst h1 h2 h3;rfl
theorem x79{H:Hp}{b:Nat}{s t:Slc}{T:TypeId}(h1:Var H b s.v T)(h2:Var H b t.v T):s=t:=by
 have a:=h1.at;rw[h2.at] at a
 exact Slc.v_inj (Option.some.inj a).symm
theorem yoy(f:List Pt):∀i,(yox f i).length<=i*f.length
 | 0=>by simp[yox]
 | i+1=>by
  rw[yoz,List.length_append,List.length_map,List.length_drop]
  have:=yoy f i
  rw[Nat.add_mul,Nat.one_mul];omega
theorem yu6(f:List Pt)(i k:Nat):(yu4 f i k).length<=f.length:=by
 unfold yu4;rw[List.length_map,List.length_take,List.length_drop];omega
theorem ygq(x:Pt×Pt):OfL (ziw.yp.flatMap (·.2)) [.int .i64 x.1.1,.int .i64 x.1.2.1,.int .i64 x.1.2.2,.int .i64 x.2.1,.int .i64 x.2.2.1,.int .i64 x.2.2.2]:=λf h=>h x.1.1 x.1.2.1 x.1.2.2 x.2.1 x.2.2.1 x.2.2.2

set_option maxHeartbeats 4000000 in
theorem ykk{Hs B:Hp}{bp b3:Nat}{w:Slc}{f:List Pt}(of:okF f)(r:Rd 3 fD B w f)(hc:Cel B bp #[w.v] 24)(st:∃s,z0x B b3 [] Hs s) :
  z10 Tryz.prog (.func (.func F.f197) #[] #[.pointer (some ⟨bp,0,none⟩)]) Hs (yox f f.length) (λpre H=>∃s,z0x B b3 pre H s) (OkP f b3) ziw.yp:=by
 refine⟨_,_,rfl,⟨_,Tryz.func197,by kernel_rfl⟩,λL o hL round=>?_⟩
 show Go.Eng.Fn Tryz.prog F.f197 #[.func (.yield L) #[] #[],.pointer (some ⟨bp,0,none⟩)] (Hs.put L o) _
 have lf:=of.small
 have wn:w.n=f.length:=r.len
 have wc:w.n<=w.c:=r.cap
 have box:∀{H:Hp},Hp.le B H->H L=none->(H.put L o).at (((Addr.mk bp 0 none).add 0).add 0)=some w.v:=λ{H} hl hn=>by
  rw[add_zero',add_zero',Cel.at ((hc.le hl).le (Hp.put_le _ _ hn))];rfl
 have hK:Tryz.prog.cellsOf 57=3:=by kernel_rfl
 obtain⟨s0,i0⟩:=st
 refine vc197 ⟨w,box i0.le hL,λn Hx=>∃i H,n=(i:Nat)/\i<=f.length/\Hx=Hp.put H L o/\H L=none/\∃s,z0x B b3 (yox f i) H s,λn _=>((f.length:Int)-n).toNat,⟨0,Hs,rfl,by omega,rfl,hL,s0,i0⟩,?_⟩
 rintro n4 Hx ⟨i,H,rfl,hi,rfl,hn,s,iv⟩
 refine⟨λh=>?_,λh=>?_⟩
 ·have h:i<f.length:=by have:=of_decide_eq_true h;omega
  have rx:Rd 3 fD (H.put L o) w f:=(r.le iv.le).le (Hp.put_le _ _ hn)
  have g:=Rd.gD (xs:=f) rx (i:=(i:Int)) (by omega) (by omega)
  rw[Int.toNat_natCast] at g
  have ei:((i:Int)+1).toNat=i+1:=by omega
  refine⟨rx.inS (by omega) (by omega),_,_,_,g,w,box iv.le hn,by unfold inI;omega,⟨by omega,by omega,by omega,by omega⟩,?_⟩
  rw[hK,ei]
  have dl:(f.drop (i+1)).length=f.length-(i+1):=List.length_drop
  have iv0:z0x B b3 (yox f i++yu4 f i 0) H s:=by
   have e0:yu4 f i 0=[]:=by simp[yu4]
   rw[e0,List.append_nil];exact iv
  refine⟨λn Hx=>∃k H,n=(k:Nat)/\k<=f.length-(i+1)/\Hx=Hp.put H L o/\H L=none/\∃s,z0x B b3 (yox f i++yu4 f i k) H s,λn _=>(((f.length-(i+1):Nat):Int)-n).toNat,⟨0,H,rfl,by omega,rfl,hn,s,iv0⟩,?_⟩
  rintro n12 Hy ⟨k,H2,rfl,hk,rfl,hn2,s2,iv2⟩
  refine⟨λh2=>?_,λh2=>?_⟩
  ·have h2:k<f.length-(i+1):=by have:=of_decide_eq_true h2;rw[wn] at this;omega
   have ry:Rd 3 fD (H2.put L o) w f:=(r.le iv2.le).le (Hp.put_le _ _ hn2)
   have rs:=ry.sub (l:=(i:Int)+1) (hi:=(w.n:Int)) (m:=(w.c:Int)) (by omega) (by omega) (by omega) (by omega)
   rw[ei,Int.toNat_natCast,Int.toNat_natCast,wn,List.take_length] at rs
   have gk:=Rd.gD (xs:=f.drop (i+1)) rs (i:=(k:Int)) (by omega) (by omega)
   have is:=rs.inS (i:=(k:Int)) (by omega) (by omega)
   rw[Int.toNat_natCast] at gk
   have hq:(f.drop (i+1))[k]?=some ((f.drop (i+1)).getD k (0,0,0)):=by rw[List.getD_eq_getElem?_getD,List.getElem?_eq_getElem (by omega)];rfl
   generalize (f.drop (i+1)).getD k (0,0,0)=q at gk hq
   have mp:ptF f i∈f:=yp1 h
   have mq:q∈f:=List.mem_of_mem_drop (List.mem_of_getElem? hq)
   have hne:(ptF f i).1≠q.1:=by
    have hp:=List.pairwise_iff_getElem.1 (ygy of)
    rw[List.getElem?_drop] at hq
    obtain⟨b1,b2⟩:=List.getElem?_eq_some_iff.1 hq
    have:=hp i (i+1+k) h b1 (by omega)
    rw[b2] at this
    have e:f[i]=ptF f i:=by have:=yp0 h;rw[List.getElem?_eq_getElem h] at this;exact Option.some.inj this
    rwa [e] at this
   have bnd:∀s':Slc,Var H2 b3 s'.v T.s_api_Meeting->s'.n<=10000:=λs' hs'=>by
    rw[x79 hs' iv2.vr]
    have h1:=iv2.ms.rdM.len
    have h2:=List.length_filterMap_le yb8 (yox f i++yu4 f i k)
    rw[List.length_append] at h2
    have h3:=yoy f i
    have h4:=yu6 f i k
    have h5:i*f.length<=64*64:=Nat.mul_le_mul (by have:=of.len;omega) of.len
    have:=of.len
    omega
   rw[wn]
   refine⟨is,_,_,_,gk,?_⟩
   have R:FnY Tryz.prog L [sI3 (ptF f i).1 (ptF f i).2.1 (ptF f i).2.2,sI3 q.1 q.2.1 q.2.2] (H2.put L o) λv Hx=>v=.bool true/\∃H3,(∃s,z0x B b3 ((yox f i++yu4 f i k)++[(ptF f i,q)]) H3 s)/\H3 L=none/\Hx=H3.put L o :=
    round (yox f i++yu4 f i k) (ptF f i,q) _ H2 (ygq (ptF f i,q)) ⟨s2,iv2⟩ ⟨rfl,mp,mq,hne,bnd⟩ hn2
   refine R.mono λv H18 ⟨ev,H3,i3,n3,e3⟩=>⟨true,ev,λh=>by simp at h,λ_=>⟨by unfold inI;omega,⟨k+1,H3,by omega,by omega,e3,n3,?_⟩,by dsimp only;omega⟩⟩
   rw[yu7 hq,← List.append_assoc];exact i3
  ·have h2:¬ k<f.length-(i+1):=by have:=of_decide_eq_false h2;rw[wn] at this;omega
   refine⟨by unfold inI;omega,⟨i+1,H2,by omega,by omega,rfl,hn2,s2,?_⟩,by dsimp only;omega⟩
   rw[yoz,← yu5 (k:=k) (by omega)];exact iv2
 ·have h:¬ i<f.length:=by have:=of_decide_eq_false h;omega
  have e:i=f.length:=by omega
  subst e
  exact⟨H,⟨s,iv⟩,hn,rfl⟩

theorem zci{H:Hp}{b:Nat}{x y z:Value}{T:TypeId}(h:Cel H b #[x,y,z] T):H.at ((Addr.mk b 0 none).add 0)=some x/\H.at ((Addr.mk b 0 none).add 1)=some y/\H.at ((Addr.mk b 0 none).add 2)=some z:=by
 have e1:(Addr.mk b 0 none).add 1=Addr.mk b 1 none:=rfl
 have e2:(Addr.mk b 0 none).add 2=Addr.mk b 2 none:=rfl
 rw[add_zero',e1,e2,Cel.at h,Cel.at h,Cel.at h]
 exact⟨rfl,rfl,rfl⟩
theorem zch{H:Hp}{b:Nat}{x y:Value}{T:TypeId}(h:Cel H b #[x,y] T):H.at ((Addr.mk b 0 none).add 0)=some x/\H.at ((Addr.mk b 0 none).add 1)=some y:=by
 have e1:(Addr.mk b 0 none).add 1=Addr.mk b 1 none:=rfl
 rw[add_zero',e1,Cel.at h,Cel.at h]
 exact⟨rfl,rfl⟩
theorem ybq{f:List Pt}(of:okF f):((yb1 f).map ycl).length<=4096:=by
 have sm:=of.len
 rw[← x6w]
 have:=x6x f f.length
 have:f.length*f.length<=64*64:=Nat.mul_le_mul (by omega) (by omega)
 omega
set_option maxHeartbeats 4000000 in
theorem y9u{H:Hp}{w:Slc}{f:List Pt}(hf:Rd 3 fD H w f)(of:okF f) :
  Go.Eng.Fn Tryz.prog F.f78 #[vFd w] H λv H'=>∃u:Slc,v=u.v/\Hp.le H H'/\Mine 4 fM T.api_Meeting H H' u (ybj f):=by
 have sm:=of.len
 refine vc78 λb1 H2 hb1 hH2 b3 H4 hb3 hH4=>?_
 have l2:Hp.le H H2:=Hp.le_new (Hp.le_refl _) hb1 hH2
 have l4':Hp.le H2 H4:=Hp.le_new (Hp.le_refl _) hb3 hH4
 have C1:Cel H4 b1 #[w.v] 24:=Cel.le (by subst hH2;exact Cel.put) l4'
 have nb3:H b3=none:=by
  cases hx:H b3 with
  | none=>rfl
  | some o=>rw[l2 _ _ hx] at hb3;cases hb3
 refine⟨w,by rw[add_zero',Cel.at C1];rfl,vc136 λbp H7 hbp hH7=>⟨_,rfl,λ_=>rfl,Pt×Pt,yox f f.length,OkP f b3,λpre H=>∃s,z0x (y2h H7 b3) b3 pre H s,?_⟩⟩
 have l7':Hp.le H4 H7:=Hp.le_new (Hp.le_refl _) hbp hH7
 have l7:Hp.le H H7:=Hp.le_trans l2 (Hp.le_trans l4' l7')
 have V4:Var H4 b3 (⟨none,0,0⟩:Slc).v T.s_api_Meeting:=Var.new hH4
 have V7:=V4.le l7'
 have lB:Hp.le H (y2h H7 b3):=y6x l7 nb3
 have nB:(y2h H7 b3) b3=none:=by unfold y2h;rw[if_pos rfl]
 have hbp3:bp≠b3:=λe=>by subst e;unfold Var Cel at V4;rw[V4] at hbp;cases hbp
 have CB:Cel (y2h H7 b3) bp #[w.v] 24:=by
  unfold Cel y2h
  rw[if_neg hbp3,hH7];exact Hp.put_same _ _ _
 have i0:z0x (y2h H7 b3) b3 [] H7 ⟨none,0,0⟩:=⟨y2i,V7,.inl ⟨rfl,rfl⟩,λp hp=>by cases hp⟩
 refine⟨ykk of (hf.le lB) CB ⟨_,i0⟩,⟨_,i0⟩,?_,?_⟩
 ·rintro pre x n15 n16 n17 n18 n19 n20 H21 ⟨s,iv⟩ ⟨evs,m1,m2,hne,hbd⟩ b22 H23 hb22 hH23
  simp only[List.cons.injEq,Value.int.injEq,true_and,and_true] at evs
  obtain⟨rfl,rfl,rfl,rfl,rfl,rfl⟩:=evs
  have o1:=of.each _ m1
  have o2:=of.each _ m2
  have C23:Cel H23 b22 #[.int .i64 0,.int .i64 0,.int .i64 0] 57:=by subst hH23;exact Cel.put
  obtain⟨can,sto⟩:=x1u C23 [.int .i64 x.1.1,.int .i64 x.1.2.1,.int .i64 x.1.2.2] rfl
  refine⟨can,λH24 hH24=>?_⟩
  rw[sto,hH23,put_put'] at hH24
  have l24:Hp.le H21 H24:=Hp.le_new (Hp.le_refl _) hb22 hH24
  have C24:Cel H24 b22 #[.int .i64 x.1.1,.int .i64 x.1.2.1,.int .i64 x.1.2.2] 57:=by subst hH24;exact Cel.put
  intro b25 H26 hb25 hH26
  have C26:Cel H26 b25 #[.int .i64 0,.int .i64 0,.int .i64 0] 57:=by subst hH26;exact Cel.put
  obtain⟨can,sto⟩:=x1u C26 [.int .i64 x.2.1,.int .i64 x.2.2.1,.int .i64 x.2.2.2] rfl
  refine⟨can,λH27 hH27=>?_⟩
  rw[sto,hH26,put_put'] at hH27
  have l27:Hp.le H24 H27:=Hp.le_new (Hp.le_refl _) hb25 hH27
  have C27:Cel H27 b25 #[.int .i64 x.2.1,.int .i64 x.2.2.1,.int .i64 x.2.2.2] 57:=by subst hH27;exact Cel.put
  have C27a:=C24.le l27
  refine⟨λ_=>rfl,_,_,_,zci C27a,_,_,_,zci C27,?_⟩
  have fin:∀t:Int×Int,∀b37 H38,H27 b37=none->H38=H27.put b37 (.cells #[.int .i64 0,.int .i64 0] 26)->H38.canStore (Addr.mk b37 0 none) 0 [.int .i64 t.1,.int .i64 t.2]/\∀H39,H39=H38.store (Addr.mk b37 0 none) 0 [.int .i64 t.1,.int .i64 t.2]->Hp.le H27 H39/\Cel H39 b37 #[.int .i64 t.1,.int .i64 t.2] 26:=λt b37 H38 hb hH=>by
   have C38:Cel H38 b37 #[.int .i64 0,.int .i64 0] 26:=by subst hH;exact Cel.put
   obtain⟨can,sto⟩:=x1u C38 [.int .i64 t.1,.int .i64 t.2] rfl
   refine⟨can,λH39 hH39=>?_⟩
   rw[sto,hH,put_put'] at hH39
   exact⟨Hp.le_new (Hp.le_refl _) hb hH39,by subst hH39;exact Cel.put⟩
  by_cases hsp:x.1.2.2=x.2.2.2
  ·refine⟨0,0,6,zq1 o1 o2 hne hsp,λb37 H38 hb37 hH38=>?_⟩
   obtain⟨can,f39⟩:=fin (0,0) b37 H38 hb37 hH38
   refine⟨can,λH39 hH39=>⟨λh=>by simp at h,λ_=>?_⟩⟩
   obtain⟨l39,_⟩:=f39 H39 hH39
   have l2139:=Hp.le_trans l24 (Hp.le_trans l27 l39)
   have e:(pre++[x]).filterMap yb8=pre.filterMap yb8:=by
    rw[List.filterMap_append]
    have:[x].filterMap yb8=[]:=by simp[yb8,hsp]
    rw[this,List.append_nil]
   exact⟨s,Hp.le_trans iv.le l2139,iv.vr.le l2139,by rw[e];exact iv.ms.le l2139,iv.ne⟩
  ·have q:=zq0 (H:=H27) o1 o2 hne hsp
   rw[ya0 o1 o2 hsp] at q
   refine⟨(atP x.1 x.2).1,(atP x.1 x.2).2,0,q,λb37 H38 hb37 hH38=>?_⟩
   obtain⟨can,f39⟩:=fin (atP x.1 x.2) b37 H38 hb37 hH38
   refine⟨can,λH39 hH39=>⟨λ_=>?_,λh=>by simp at h⟩⟩
   obtain⟨l39,C39⟩:=f39 H39 hH39
   have l2139:=Hp.le_trans l24 (Hp.le_trans l27 l39)
   have V39:=iv.vr.le l2139
   have m39:=iv.ms.le l2139
   have lB39:=Hp.le_trans iv.le l2139
   have g1:=(zci (C27a.le l39)).1
   have g2:=(zci (C27.le l39)).1
   have z1:((Addr.mk b22 0 none).add 0).add 0=(Addr.mk b22 0 none).add 0:=rfl
   have z2:((Addr.mk b25 0 none).add 0).add 0=(Addr.mk b25 0 none).add 0:=rfl
   refine⟨s,V39.at,_,_,zch C39,_,by rw[z1];exact g1,_,by rw[z2];exact g2,λb45 H46 hb45 hH46=>?_⟩
   have e:(pre++[x]).filterMap yb8=pre.filterMap yb8++[ycl (atP x.1 x.2,x.1.1,x.2.1)]:=by
    rw[List.filterMap_append]
    have:[x].filterMap yb8=[ycl (atP x.1 x.2,x.1.1,x.2.1)]:=by simp[yb8,hsp]
    rw[this]
   have fewp:(pre.filterMap yb8).length<=100000000:=by have h1:=iv.ms.rdM.len;have h2:=hbd s iv.vr;omega
   refine(z78 (k:=4) (f:=fM) (bytes:=32) (x:=ycl (atP x.1 x.2,x.1.1,x.2.1)) (by kernel_rfl) (by decide) (λ_=>rfl) zun lB39 m39 hb45 hH46 rfl fewp (by omega)).mono λv H48 ⟨u,hv,l48,m48,c48,x48⟩=>⟨u,hv,?_⟩
   have V48:=V39.chg c48 iv.ne
   have nu:∀p,u.a=some p->p.block≠b3:=λp hp=>by
    rcases x48 p hp with h|h
    ·exact iv.ne p h
    ·intro e3;rw[e3] at h;unfold Var Cel at V39;rw[V39] at h;cases h
   refine Var.set V48 u.v λH50 hH50=>⟨u,by subst hH50;exact Hp.le_put l48 nB,Var.new hH50,?_,nu⟩
   rw[e,hH50]
   exact m48.chg (v:=⟨some ⟨b3,0,none⟩,1,1⟩) (λc _ hc=>Hp.put_ne _ _ λe3=>hc ⟨b3,0,none⟩ rfl e3.symm) (λp q hp hq=>by cases hq;exact nu p hp)
 ·rintro H51 ⟨s,iv⟩
  have ms:=iv.ms
  rw[ybr] at ms
  have few:=ybq of
  refine⟨s,iv.vr.at,(yzy (yba of) (by omega) ms).mono λv H54 ⟨hv,m54,c54⟩=>⟨hv,s,(iv.vr.chg c54 iv.ne).at,s,rfl,Hp.le_trans lB (Hp.le_chg iv.le c54 ms.isNew),?_⟩⟩
  exact m54.low lB

theorem zwd{α:Type}{p:α->Bool}:∀{l:List α},(l.Pairwise λx y=>p y=true->p x=true)->l.filter p=l.take (l.countP p)/\l.filter (λx=>!p x)=l.drop (l.countP p)
 | [],_=>⟨rfl,rfl⟩
 | x :: l,h=>by
  obtain⟨h1,h2⟩:=List.pairwise_cons.1 h
  obtain⟨i1,i2⟩:=zwd h2
  cases e:p x with
  | true =>
   rw[List.countP_cons_of_pos e,List.filter_cons_of_pos e,List.filter_cons_of_neg (by rw[e];simp),i1,i2]
   exact⟨rfl,rfl⟩
  | false =>
   have z:l.countP p=0:=List.countP_eq_zero.2 λy hy hp=>by have:=h1 y hy hp;rw[e] at this;cases this
   rw[List.countP_cons_of_neg (by rw[e];simp),z,List.filter_cons_of_neg (by rw[e];simp),List.filter_cons_of_pos (by rw[e];rfl)]
   rw[z] at i1 i2
   rw[i1,i2];exact⟨rfl,rfl⟩
def zoh(f:List Pt)(t:Int×Int):Nat:=(ybj f).countP λx=>decide (znm x.2.2 t<=0)
theorem ybk{f:List Pt}(of:okF f){t:Int×Int}(ot:okR t):(ybj f).Pairwise λx y=>decide (znm y.2.2 t<=0)=true->decide (znm x.2.2 t<=0)=true :=
 List.Pairwise.imp_of_mem (λ{x y} hx hy h hq=>by
  rw[decide_eq_true_eq,zns] at hq ⊢
  exact y6v (ybn of x hx) (ybn of y hy) ot (zlf.1 h).1 hq) (ybp of)
theorem zoi{f:List Pt}(of:okF f){a b:Int×Int}(oa:okR a)(ob:okR b)(h:leR a b):zoh f a<=zoh f b:=by
 refine List.countP_mono_left λx hx hp=>?_
 rw[decide_eq_true_eq,zns] at hp ⊢
 exact y6v (ybn of x hx) oa ob hp h
theorem zoj(f:List Pt)(t:Int×Int):zoh f t<=(ybj f).length:=List.countP_le_length
theorem zak{f:List Pt}(of:okF f){a b:Int×Int}(oa:okR a)(ob:okR b)(h:leR a b):zae f a b=((ybj f).take (zoh f b)).drop (zoh f a):=by
 obtain⟨b1,_⟩:=zwd (ybk of ob)
 have hs:=(ybk of oa).sublist (List.take_sublist (zoh f b) (ybj f))
 obtain⟨_,a2⟩:=zwd hs
 have ec:((ybj f).take (zoh f b)).countP (λx=>decide (znm x.2.2 a<=0))=zoh f a:=by
  unfold zoh
  rw[← b1,List.countP_filter]
  refine List.countP_congr λx hx=>?_
  have ox:=ybn of x hx
  rw[Bool.and_eq_true,decide_eq_true_eq,decide_eq_true_eq,zns,zns]
  exact⟨λhh=>hh.1,λhh=>⟨hh,y6v ox oa ob hh h⟩⟩
 rw[ec] at a2
 rw[← a2]
 unfold zoh
 rw[← b1,List.filter_filter]
 rfl
theorem yb3:∀f:List Pt,2*(yb1 f).length<=f.length*f.length
 | []=>Nat.le_refl _
 | p :: f=>by
  have ih:=yb3 f
  have h1:(ybb p f).length<=f.length:=List.length_filterMap_le _ _
  show 2*(ybb p f++yb1 f).length<=(f.length+1)*(f.length+1)
  have e:(f.length+1)*(f.length+1)=f.length*f.length+2*f.length+1:=by rw[Nat.add_mul,Nat.mul_add];omega
  rw[List.length_append]
  omega
theorem ybl(f:List Pt):(ybj f).length=(yb1 f).length:=by
 unfold ybj
 rw[(x03 _).length_eq,List.length_map]
theorem ybo{f:List Pt}(of:okF f):(ybj f).length<=2048:=by
 have h:=yb3 f
 have l:=of.len
 have:=Nat.mul_le_mul l l
 rw[ybl];omega

theorem z9y{H:Hp}{x:Pr}{t:Int×Int}(ox:okPr x)(ot:okR t):QfV Tryz.prog (.func (.func F.f140) #[] #[]) [mtV x,raW t] H (.int .i64 (if znm x.2.2 t<=0 then -1 else 1)):=by
 have e:zng x.2.2 t=(znm x.2.2 t,0):=if_pos ⟨ox,ot⟩
 have q:=y9y (H:=H) (a:=x.2.2) (b:=t) (okR.fit ox) (okR.fit ot)
 rw[e] at q
 refine⟨F.f140,#[],_,rfl,⟨_,Tryz.func140,by kernel_rfl⟩,vc140 ⟨_,q,λh=>?_,λh=>?_⟩⟩
 ·have h:=of_decide_eq_true h
  rw[if_neg (by dsimp only at h;omega)];exact⟨rfl,Hp.le_refl _⟩
 ·have h:=of_decide_eq_false h
  rw[if_pos (by dsimp only at h;omega)];exact⟨rfl,Hp.le_refl _⟩
set_option maxHeartbeats 1000000 in
theorem y9v{H:Hp}{u:Slc}{l:List Pr}{t:Int×Int}(r:Rd 4 fM H u l)(ok:∀x∈l,okPr x)(ot:okR t)(down:l.Pairwise λx y=>decide (znm y.2.2 t<=0)=true->decide (znm x.2.2 t<=0)=true)(hl:l.length<=100000000) :
  Qf Tryz.prog F.f79 #[u.v,raW t] H (.int .i64 (l.countP λx=>decide (znm x.2.2 t<=0):Nat)):=by
 have un:(u.n:Int)=l.length:=by have:=r.len;omega
 have gm:∀{k:Nat},k<l.length->l.getD k zPr∈l:=λh=>yan h
 have dn:∀{i j:Nat},i<j->j<l.length->znm (l.getD j zPr).2.2 t<=0->znm (l.getD i zPr).2.2 t<=0:=λ{i j} hij hj h=>by
  have:=List.pairwise_iff_getElem.1 down i j (by omega) hj hij
  rw[decide_eq_true_eq,decide_eq_true_eq] at this
  rw[List.getD_eq_getElem?_getD,List.getElem?_eq_getElem hj] at h
  rw[List.getD_eq_getElem?_getD,List.getElem?_eq_getElem (show i<l.length by omega)]
  exact this h
 have cnt:∀n:Nat,n<=l.length->(∀k,k<n->znm (l.getD k zPr).2.2 t<=0)->(∀k,n<=k->k<l.length->¬ znm (l.getD k zPr).2.2 t<=0)->l.countP (λx=>decide (znm x.2.2 t<=0))=n:=λn hn h1 h2=>by
  rw[← List.take_append_drop n l,List.countP_append]
  have a:(l.take n).countP (λx=>decide (znm x.2.2 t<=0))=(l.take n).length:=by
   rw[List.countP_eq_length]
   intro x hx
   obtain⟨k,hk,e⟩:=List.mem_take_iff_getElem.1 hx
   have:=h1 k (by omega)
   rw[List.getD_eq_getElem?_getD,List.getElem?_eq_getElem (by omega),Option.getD_some,e] at this
   exact decide_eq_true this
  have b:(l.drop n).countP (λx=>decide (znm x.2.2 t<=0))=0:=by
   rw[List.countP_eq_zero]
   intro x hx
   obtain⟨k,hk,e⟩:=List.mem_iff_getElem.1 hx
   rw[List.length_drop] at hk
   have:=h2 (n+k) (by omega) (by omega)
   rw[List.getD_eq_getElem?_getD,List.getElem?_eq_getElem (by omega),Option.getD_some] at this
   rw[List.getElem_drop] at e
   rw[e] at this
   simpa using this
  rw[a,b,List.length_take];omega
 have S:Qf Tryz.prog F.f139 #[u.v,raW t,.func (.func F.f140) #[] #[]] H (.tuple #[.int .i64 (l.countP λx=>decide (znm x.2.2 t<=0):Nat),.bool false]):=by
  refine vc139 ?_
  rw[un]
  refine⟨λi j H'=>H'=H/\0<=i/\i<=j/\j<=l.length/\(∀k,k<i.toNat->znm (l.getD k zPr).2.2 t<=0)/\∀k,j.toNat<=k->k<l.length->¬ znm (l.getD k zPr).2.2 t<=0,λi j _=>(j-i).toNat,⟨rfl,Int.le_refl _,by omega,by omega,λk hk=>by simp at hk,λk h1 h2=>by omega⟩,?_⟩
  rintro i j H5 ⟨rfl,i0,ij,jl,hA,hB⟩
  refine⟨λh=>?_,λh=>?_⟩
  ·have h:=of_decide_eq_true h
   rw[ybv i0 h (by omega)]
   have m0:0<=(i+j)/2:=by omega
   have m1:(i+j)/2<l.length:=by omega
   have om:=ok _ (gm (k:=((i+j)/2).toNat) (by omega))
   refine⟨by unfold inI;omega,by unfold nn;omega,r.inS m0 m1,_,_,_,_,RdM.get r m0 m1,_,z9y om ot,λhc=>?_,λhc=>?_⟩
   ·have hc:znm (l.getD ((i+j)/2).toNat zPr).2.2 t<=0:=by
     by_cases h3:znm (l.getD ((i+j)/2).toNat zPr).2.2 t<=0
     ·exact h3
     ·rw[if_neg h3] at hc;simp at hc
    refine⟨by unfold inI;omega,⟨rfl,by omega,by omega,jl,λk hk=>?_,hB⟩,by dsimp only;omega⟩
    rcases Nat.lt_or_ge k ((i+j)/2).toNat with h4|h4
    ·exact dn h4 (by omega) hc
    ·rw[show k=((i+j)/2).toNat by omega];exact hc
   ·have hc:¬ znm (l.getD ((i+j)/2).toNat zPr).2.2 t<=0:=λh3=>by rw[if_pos h3] at hc;simp at hc
    refine⟨⟨rfl,i0,by omega,by omega,hA,λk h4 h5 h6=>?_⟩,by dsimp only;omega⟩
    rcases Nat.lt_or_ge ((i+j)/2).toNat k with h7|h7
    ·exact hc (dn h7 h5 h6)
    ·rw[show k=((i+j)/2).toNat by omega] at h6;exact hc h6
  ·have h:=of_decide_eq_false h
   have hij:i=j:=by omega
   subst hij
   have ec:=cnt i.toNat (by omega) hA hB
   by_cases hi:i<l.length
   ·have oi:=ok _ (gm (k:=i.toNat) (by omega))
    refine⟨λ_=>r.inS i0 hi,_,_,_,_,λ_=>RdM.get r i0 hi,_,λ_=>z9y oi ot,?_,Hp.le_refl _⟩
    rw[ec,Int.toNat_of_nonneg i0]
    congr 3
    split <;> simp
   ·refine⟨λh=>absurd (of_decide_eq_true h) hi,0,0,0,0,λh=>absurd (of_decide_eq_true h) hi,0,λh=>absurd (of_decide_eq_true h) hi,?_,Hp.le_refl _⟩
    rw[ec,Int.toNat_of_nonneg i0,decide_eq_false hi];rfl
 exact vc79 ⟨_,false,S,rfl,Hp.le_refl _⟩

def fRa(x:Int×Int):List Value:=[.int .i64 x.1,.int .i64 x.2]
theorem RdRa.get{H:Hp}{u:Slc}{m:List (Int×Int)}{i:Int}{x:Int×Int}(h:Rd 2 fRa H u m)(h0:0<=i)(hx:m[i.toNat]?=some x) :
  H.at (zrr u.a 2 i)=some (.int .i64 x.1)/\H.at ((zrr u.a 2 i).add 1)=some (.int .i64 x.2):=by
 exact⟨h.at0 h0 hx rfl,h.atj h0 hx (j:=1) rfl⟩
theorem y9w{H:Hp}{w u:Slc}{f:List Pt}{a b:Int×Int}(hf:Rd 3 fD H w f)(of:okF f)(oa:okR a)(ob:okR b)(hab:leR a b)(r:Rd 2 fRa H u [a,b]):Qf Tryz.prog F.f77 #[vFd w,u.v] H (.int .i64 0):=by
 have un:(u.n:Int)=2:=by have:=r.len;simp at this;omega
 refine vc77 ?_
 rw[un]
 refine⟨0,by have:=zvi (H:=H) hf;rwa [zke.2 of] at this,λh=>by simp at h,λ_=>?_⟩
 refine upto (N:=2) (J:=λ_=>True) (by omega) trivial λn h0 h1 _=>⟨λhn=>?_,λhn=>?_⟩
 ·have hn:n<2:=of_decide_eq_true hn
  have h2:n=0\/n=1:=by omega
  have:∃x,[a,b][n.toNat]?=some x/\okR x:=by
   rcases h2 with rfl|rfl
   ·exact⟨a,rfl,oa⟩
   ·exact⟨b,rfl,ob⟩
  obtain⟨x,hx,ox⟩:=this
  refine⟨r.inS h0 (by simp;omega),_,_,RdRa.get r h0 hx,0,by have:=yqv (H:=H) (okR.fit ox);rwa [zl4 ox] at this,λh=>by simp at h,λ_=>upto.nx h0 hn (by omega) trivial⟩
 ·have e:zng a b=(znm a b,0):=if_pos ⟨oa,ob⟩
  have q:=y9y (H:=H) (okR.fit oa) (okR.fit ob)
  rw[e] at q
  have hle:=zns.2 hab
  refine⟨λ_=>r.inS (by omega) (by simp),a.1,a.2,λ_=>RdRa.get (i:=0) r (by omega) rfl,λ_=>r.inS (by omega) (by simp),b.1,b.2,λ_=>RdRa.get (i:=1) r (by omega) rfl,_,λ_=>q,λh=>?_,λ_=>⟨rfl,Hp.le_refl _⟩⟩
  simp only[Bool.and_eq_true,decide_eq_true_eq] at h
  omega
theorem y9t{H:Hp}{w:Slc}{f:List Pt}{a b:Int×Int}(hf:Rd 3 fD H w f)(of:okF f)(oa:okR a)(ob:okR b)(hab:leR a b) :
  Go.Eng.Fn Tryz.prog F.f35 #[vFd w,raW a,raW b] H λv H'=>∃u:Slc,v=.tuple #[u.v,.int .i64 0]/\Hp.le H H'/\Rd 4 fM H' u (zae f a b):=by
 refine vc35 λb1 H2 hb1 hH2=>?_
 have l2:Hp.le H H2:=Hp.le_new (Hp.le_refl _) hb1 hH2
 have r2:Rd 2 fRa H2 ⟨some ⟨b1,0,none⟩,2,2⟩ [a,b]:=yrl (k:=2) (f:=fRa) (λ_=>rfl) hH2 rfl rfl
 have qc:=y9w (hf.le l2) of oa ob hab r2
 refine⟨0,qc,λh=>by simp at h,λ_=>(y9u (hf.le l2) of).mono λv H5 ⟨u,hv,l5,m5⟩=>⟨u,hv,?_⟩⟩
 have r5:=m5.rdM
 have sm:=ybo of
 have okm:=ybn of
 have q1:=y9v r5 okm oa (ybk of oa) (by omega)
 have q2:=y9v r5 okm ob (ybk of ob) (by omega)
 have h1:=zoi of oa ob hab
 have h2:=zoj f b
 have un:=r5.len
 have uc:=r5.cap
 have hK:Tryz.prog.cellsOf 112=4:=by kernel_rfl
 refine⟨_,q1,_,q2,?_,?_⟩
 ·show yhd ((zoh f a:Nat):Int) ((zoh f b:Nat):Int) ((zoh f b:Nat):Int) (u.c:Int)
  exact⟨by omega,by omega,by omega,by omega⟩
 ·have rs:=r5.sub (l:=((zoh f a:Nat):Int)) (hi:=((zoh f b:Nat):Int)) (m:=((zoh f b:Nat):Int)) (by omega) (by omega) (by omega) (by omega)
  rw[hK]
  refine⟨⟨x23 u.a 4 ((zoh f a:Nat):Int) ((zoh f b:Nat):Int),((zoh f b:Nat):Int).toNat-((zoh f a:Nat):Int).toNat,((zoh f b:Nat):Int).toNat-((zoh f a:Nat):Int).toNat⟩,rfl,Hp.le_trans l2 l5,?_⟩
  rw[zak of oa ob hab]
  rw[Int.toNat_natCast,Int.toNat_natCast] at rs ⊢
  exact rs
theorem y9x{H:Hp}{w:Slc}{f:List Pt}{a b:Int×Int}(hf:Rd 3 fD H w f)(of:okF f)(oa:okR a)(ob:okR b)(hab:leR a b) :
  Go.Eng.Fn Tryz.prog F.f11 #[vFd w,raW a,raW b] H λv H'=>v=.tuple #[.int .i64 (zae f a b).length,.int .i64 0]/\Hp.le H H':=by
 refine vc11 ((y9t hf of oa ob hab).mono λv H5 ⟨u,hv,l5,r5⟩=>⟨u,0,hv,?_,l5⟩)
 have:=r5.len
 rw[this]
end Go.Proofs.YtnhdkkblehadjabGreat
end
