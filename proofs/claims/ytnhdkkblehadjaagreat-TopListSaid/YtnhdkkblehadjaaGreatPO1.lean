/- The engine, parts OR, OS, OT, put together. Conditions: none. -/
import Derived.Test.YtnhdkkblehadjaaGreatPX1
open Bool renaming eq_false_iff->Qa
open Go.Eng.Hp renaming le->Qb,le_refl->Qc,put->Qd,le_new->Qe,le_chg->Qg,le_trans->Qh
open Int renaming toNat_natCast->Qi,sub_mul->Qj
open List renaming Perm->Ql,getElem?_eq_none_iff->Qm,Pairwise->Qn,mem_of_getElem?->Qo,getElem?_eq_some_iff->Qp,mem_iff_getElem?->Qq,getElem?_map->Qr,ext_getElem?->Qs,take_length->Qt,pairwise_cons->Qu,pairwise_append->Qv,mem_cons_self->Qw,mem_cons->Qx,mem_append->Qy,getElem?_set->Qz,getElem?_eq_none->Q1,countP_append->Q2
set_option linter.unusedVariables false
section
set_option maxRecDepth 100000
open Go Go.Eng Go.Proofs
namespace Go.Proofs.YtnhdkkblehadjaaGreat
variable{t:Int×Int}{f s:List Pt}{p q:Pt}
def xb1(p:Pt)(t:Int×Int):Int:=p.2.1*t.2+p.2.2*t.1
theorem zxj(p q:Pt)(t:Int×Int):zxg p q t=xb1 p t-xb1 q t:=by
 unfold zxg xb1;rw[Qj,Qj];omega
theorem y9n:leads p q t=true↔xb1 q t<xb1 p t\/xb1 p t=xb1 q t/\(q.2.2<p.2.2\/p.2.2=q.2.2/\p.1<q.1):=by
 unfold leads;rw[zxj];split
 ·rw[Zq];omega
 ·split
  ·rw[Zq];omega
  ·rw[Zq];omega
theorem y9o(p:Pt)(t:Int×Int):leads p p t=false:=by
 rw[Qa];intro h;rw[y9n] at h;omega
theorem y9s{r:Pt}(h1:leads p q t=true)(h2:leads q r t=true):leads p r t=true:=by
 rw[y9n] at *;omega
theorem y9j(h:leads p q t=true):leads q p t=false:=by
 rw[Qa];intro h';rw[y9n] at *;omega
theorem y9r(h:p.1≠q.1):leads p q t=true\/leads q p t=true:=by
 rw[y9n,y9n];omega
def yu7(f:List Pt)(p:Pt)(t:Int×Int):Nat:=f.countP λq=>q.1 != p.1&&leads q p t
structure z27(f:List Pt)(t:Int×Int)(s:List Pt):Prop where
 perm:s.Perm f
 ord:s.Pairwise λp q=>leads p q t=true
def y6o(t:Int×Int)(p:Pt):List Pt->List Pt
 | []=>[p]
 | q :: l=>if leads p q t=true then p :: q :: l else q :: y6o t p l
def x4k(f:List Pt)(t:Int×Int):List Pt:=f.foldr (y6o t) []
def yll(f:List Pt)(t:Int×Int):List Int:=(x4k f t).map (·.1)
theorem yk2(h:okF f):f.Pairwise λp q=>p.1≠q.1:=(List.pairwise_map.1 h.inc).imp λh=>by omega
theorem z27.ids(h:z27 f t s)(hi:f.Pairwise λp q=>p.1≠q.1):s.Pairwise λp q=>p.1≠q.1:=h.perm.symm.pairwise hi λh=>h.symm
theorem z27.of(hi:f.Pairwise λp q=>p.1≠q.1)(p:s.Perm f)(o:s.Pairwise λp q=>leads q p t=false):z27 f t s:=by
 refine⟨p,?_⟩;have hs:s.Pairwise λp q=>p.1≠q.1:=p.symm.pairwise hi λh=>h.symm
 refine(Qn.and o hs).imp λ⟨h1,h2⟩=>?_
 rcases y9r (t:=t) h2 with h|h
 ·exact h
 ·rw[h1] at h;cases h
theorem y6q(t:Int×Int)(p:Pt):∀l:List Pt,(y6o t p l).Perm (p :: l)
 | []=>Ql.refl _
 | q :: l=>by
  unfold y6o;split
  ·exact Ql.refl _
  ·exact(Ql.cons q (y6q t p l)).trans (Ql.swap p q l)
theorem y6p(t:Int×Int)(p:Pt):∀l:List Pt,(l.Pairwise λp q=>leads q p t=false)->(y6o t p l).Pairwise λp q=>leads q p t=false
 | [],_=>List.pairwise_singleton _ _
 | q :: l,h=>by
  obtain⟨h1,h2⟩:=Qu.1 h;unfold y6o;split
  ·rename_i hp;refine Qn.cons (λr hr=>?_) h;rcases Qx.1 hr with rfl|hr
   ·exact y9j hp
   ·cases hrp:leads r p t with
    | false=>rfl
    | true=>have:=y9s hrp hp;rw[h1 r hr] at this;cases this
  ·rename_i hp;refine Qn.cons (λr hr=>?_) (y6p t p l h2);rcases Qx.1 ((y6q t p l).mem_iff.1 hr) with rfl|hr
   ·simpa using hp
   ·exact h1 r hr
theorem x4n(t:Int×Int):∀f:List Pt,(x4k f t).Perm f
 | []=>Ql.refl _
 | p :: f=>(y6q t p (x4k f t)).trans (Ql.cons p (x4n t f))
theorem x4m(t:Int×Int):∀f:List Pt,(x4k f t).Pairwise λp q=>leads q p t=false
 | []=>Qn.nil
 | p :: f=>y6p t p (x4k f t) (x4m t f)
theorem x4o(hi:f.Pairwise λp q=>p.1≠q.1)(t:Int×Int):z27 f t (x4k f t):=z27.of hi (x4n t f) (x4m t f)
theorem z27.rank(h:z27 f t s)(hi:f.Pairwise λp q=>p.1≠q.1){k:Nat}(hk:s[k]?=some p):yu7 f p t=k:=by
 have hs:=h.ids hi;unfold yu7;rw[← h.perm.countP_eq];obtain⟨hl,hp⟩:=Qp.1 hk;have e:s=s.take k++p :: s.drop (k+1):=by rw[← ztp hk];exact(List.take_append_drop k s).symm
 have o1:=h.ord;have o2:=hs;rw[e] at o1 o2;obtain⟨_,a2,a3⟩:=Qv.1 o1;obtain⟨_,b2,b3⟩:=Qv.1 o2;rw[e,Q2,List.countP_cons];have c1:(s.take k).countP (λq=>q.1 != p.1&&leads q p t)=k:=by
  rw[List.countP_eq_length.2 (λq hq=>?_),List.length_take]
  ·omega
  ·rw[a3 q hq p Qw,Bool.and_true,bne_iff_ne];exact b3 q hq p Qw
 have c2:(s.drop (k+1)).countP (λq=>q.1 != p.1&&leads q p t)=0:=by
  rw[List.countP_eq_zero];intro q hq;rw[y9j ((Qu.1 a2).1 q hq)];simp
 rw[c1,c2];simp
theorem z27.at_rank(h:z27 f t s)(hi:f.Pairwise λp q=>p.1≠q.1)(hp:p∈f):s[yu7 f p t]?=some p:=by
 obtain⟨k,hk⟩:=Qq.1 (h.perm.mem_iff.2 hp);rw[h.rank hi hk];exact hk
theorem z27.eq{s':List Pt}(h:z27 f t s)(h':z27 f t s')(hi:f.Pairwise λp q=>p.1≠q.1):s=s':=by
 refine Qs λk=>?_
 have l1:=h.perm.length_eq;have l2:=h'.perm.length_eq;cases hk:s[k]? with
 | none =>
  have:=Qm.1 hk;exact(Qm.2 (by omega)).symm
 | some p =>
  have hp:=h.perm.mem_iff.1 (Qo hk);have:=h'.at_rank hi hp;rw[h.rank hi hk] at this;exact this.symm
theorem x4l(f:List Pt)(t:Int×Int):(x4k f t).length=f.length:=(x4n t f).length_eq
theorem ylo(f:List Pt)(t:Int×Int):(yll f t).length=f.length:=by unfold yll;rw[List.length_map,x4l]
theorem ylm(hi:f.Pairwise λp q=>p.1≠q.1)(hp:p∈f):yu7 f p t<f.length/\(yll f t)[yu7 f p t]?=some p.1:=by
 have h:=(x4o hi t).at_rank hi hp;refine⟨?_,?_⟩
 ·have:=(Qp.1 h).1;rw[x4l] at this;exact this
 ·unfold yll;rw[Qr,h];rfl
theorem yls(hi:f.Pairwise λp q=>p.1≠q.1){o:List Int}(hl:o.length=f.length)(h:∀p∈f,o[yu7 f p t]?=some p.1):o=yll f t:=by
 refine Qs λk=>?_
 have S:=x4o hi t;cases hk:(x4k f t)[k]? with
 | none =>
  have:=Qm.1 hk;rw[x4l] at this;rw[Qm.2 (by omega),Qm.2 (by rw[ylo];omega)]
 | some p =>
  have hp:=S.perm.mem_iff.1 (Qo hk);have a:=h p hp;rw[S.rank hi hk] at a;rw[a];unfold yll;rw[Qr,hk];rfl
end Go.Proofs.YtnhdkkblehadjaaGreat
end
section
set_option maxRecDepth 100000
open Go Go.Eng Go.Proofs
open Go.Shelf Go.RowKit Go.Lib Go.Sort
namespace Go.Proofs.YtnhdkkblehadjaaGreat
variable{H H0:Hp}{t:Int×Int}{f:List Pt}{w u:Slc}{p:Pt}{e:TypeId}{b1:Nat}
def cfP(t:Int×Int)(p q:Pt):Int:=if p.1=q.1 then 0 else if leads p q t=true then -1 else 1
theorem zol{q:Pt}{ab:Addr}(ht:okR t)(h0:H.at (ab.add 0)=some (vi t.1))(h1:H.at (ab.add 1)=some (vi t.2))(hp:okP p)(hq:okP q) :
  qF F.f113 #[sI3 p.1 p.2.1 p.2.2,sI3 q.1 q.2.1 q.2.2,.pointer (some ab)] H (vi (cfP t p q)):=by
 refine vc113 ⟨λh=>⟨?_,Qc _⟩,λh=>?_⟩
 ·have h:p.1=q.1:=by simpa using h
  unfold cfP;rw[Zp h]
 ·have h:p.1≠q.1:=by simpa using h
  have e:z5q p q t=(leads p q t,0):=by unfold z5q;rw[Zp (xa4.2 ⟨hp,hq,ht,h⟩)]
  refine⟨_,_,⟨h0,h1⟩,_,_,zs3 ht.fit,?_⟩;rw[e];refine⟨λk=>⟨?_,Qc _⟩,λk=>⟨?_,Qc _⟩⟩
  ·have k:leads p q t=true:=k;unfold cfP;rw[Zn h,Zp k]
  ·have k:leads p q t=false:=k;unfold cfP;rw[Zn h,Zn (by rw[k];simp)]
section
variable{f:List Pt}{t:Int×Int}
theorem y5n(hi:f.Pairwise λp q=>p.1≠q.1){x y:InL f}(h:x.1.1=y.1.1):x=y:=by
 obtain⟨i,hx⟩:=Qq.1 x.2;obtain⟨j,hy⟩:=Qq.1 y.2;obtain⟨i1,i2⟩:=Qp.1 hx;obtain⟨j1,j2⟩:=Qp.1 hy;have hp:=List.pairwise_iff_getElem.1 hi;rcases Nat.lt_trichotomy i j with k|k|k
 ·exact absurd (by rw[i2,j2];exact h) (hp i j i1 j1 k)
 ·subst k;rw[i2] at j2;exact Subtype.ext j2
 ·exact absurd (by rw[i2,j2];exact h.symm) (hp j i j1 i1 k)
theorem ybx(hi:f.Pairwise λp q=>p.1≠q.1)(x y:InL f):ltOf (cfL (cfP t)) x y=leads x.1 y.1 t:=by
 unfold ltOf cfL cfP;split
 ·rename_i h;have:=y5n hi h;subst this;rw[y9o];simp
 ·cases h:leads x.1 y.1 t <;> simp
theorem x7j(hi:f.Pairwise λp q=>p.1≠q.1):SWO (ltOf (cfL (L:=f) (cfP t))) where
 irrefl x:=by rw[ybx hi,y9o]
 trans x y z h1 h2:=by rw[ybx hi] at *;exact y9s h1 h2
 ntrans x y z h1 h2:=by
  rw[ybx hi,Qa,ne_eq,y9n] at *
  omega
end
theorem z5n:∀w,(isAgg (Tryz.sortPt_ren.t 24)).run Tryz.prog w=.ok true w:=λw=>by
 rw[Go.Eng.run_isAgg (t:=Tryz.sortPt_ren.t 24) (P:=Tryz.prog) (x:=(Tryz.prog.underlying T.api_Point).getD (.struct #[])) (by kernel_rfl)];exact congrArg (λb=>Result.ok b w) (show z5o Tryz.prog (Tryz.sortPt_ren.t 24)=true by kernel_rfl)
theorem x0w:∀w,(Go.sizeOf (Tryz.sortPt_ren.t 24)).run Tryz.prog w=.ok 3 w:=λw=>by
 rw[Go.Eng.run_sizeOf (t:=Tryz.sortPt_ren.t 24) (P:=Tryz.prog) (x:=(Tryz.prog.underlying T.api_Point).getD (.struct #[])) (by kernel_rfl)];exact congrArg (λb=>Result.ok b w) (show Tryz.prog.cellsOf (Tryz.sortPt_ren.t 24)=3 by kernel_rfl)
theorem Mine.sepAddr{α:Type}{k:Nat}{g:α->List Value}{xs:List α}(h:Mine k g e H0 H u xs)(hb:H0 b1≠none):∀p,u.a=some p->p.block≠b1:=by
 intro p hp e1;have:=h.isNew p hp;rw[e1] at this;exact hb this
theorem x4x{T:TypeId}(of:okF f)(ht:okR t)(hu:Mine 3 fD e H0 H u f)(hb1:H b1=some (.cells #[vi t.1,vi t.2] T (0,0)))(hs:∀p,u.a=some p->p.block≠b1) :
  fN F.f112 #[u.v,.func (.func F.f113) #[] #[.pointer (some ⟨b1,0,none⟩)]] H λv H'=>v=.tuple #[]/\Mine 3 fD e H0 H' u (x4k f t)/\Chg H H' u:=by
 have hi:=yk2 of;have hbig:f.length<4611686018427387904:=by have:=of.small;omega
 refine(x4j (k:=3) (f:=fD) Tryz.sortPt z5n x0w (λ_=>rfl) (by decide) zws (g:=F.f113) (cb:=#[.pointer (some ⟨b1,0,none⟩)]) (cf:=cfP t) (Hc:=Qd (λ_=>none) b1 (.cells #[vi t.1,vi t.2] T (0,0)))
  (enters_of Tryz.func113 (by kernel_rfl) rfl) hbig (x7j hi) hu (λc o hc=>?_) λp hp q hq=>?_).mono λv H' ⟨hv,S,hp,hs,m,c⟩=>⟨hv,?_,c⟩
 ·unfold Qd at hc;split at hc
  ·rename_i e;subst e;cases hc;exact⟨hb1,hs⟩
  ·cases hc
 ·exact zol (ab:=⟨b1,0,none⟩) ht (by simp[Hp.at,Qd,Addr.add]) (by simp[Hp.at,Qd,Addr.add]) (of.each _ hp) (of.each _ hq)
 ·have so:z27 f t S:=z27.of hi hp (Qn.imp_of_mem (λ{x y} hx hy h=>by
   have:=ybx (t:=t) hi ⟨y,hp.mem_iff.1 hy⟩ ⟨x,hp.mem_iff.1 hx⟩;unfold ltOf cfL at this;rw[← this];exact Zv h) hs)
  rw[← so.eq (x4o hi t) hi];exact m
def x52(f:List Pt)(t:Int×Int):List Pt×Int:=if x8u f t=0 then (x4k f t,0) else ([],x8u f t)
def ym8(f:List Pt)(t:Int×Int):List Int×Int:=if x8u f t=0 then (yll f t,0) else ([],x8u f t)
theorem zxv(hf:Rd 3 fD H w f)(ht:zzn t) :
  fN F.f62 #[vFd w,raW t] H λv H'=>∃u:Slc,v=.tuple #[u.v,vi (x52 f t).2]/\Qb H H'/\Mine 3 fD T.api_Point H H' u (x52 f t).1:=by
 refine vc62 λb1 H2 hb1 hH2=>?_
 have l2:Qb H H2:=Qe (Qc _) hb1 hH2;have hbx:H2 b1=some (.cells #[vi t.1,vi t.2] T.api_Ratio (0,0)):=by rw[hH2];simp[Qd]
 refine⟨_,zxq (hf.le l2),λhc=>?_,λhc=>?_⟩
 ·have hc:zlg f≠0:=by simpa using hc
  have e:x52 f t=([],zlg f):=by
   have et:x8u f t=zlg f:=by unfold x8u;rw[Zp hc]
   unfold x52;rw[et,Zn hc]
  rw[e];exact⟨zs,rfl,l2,.inl ⟨rfl,rfl⟩⟩
 have hc:zlg f=0:=by simpa using hc
 have of:=zlh.1 hc;refine⟨_,_,⟨(by simp[Hp.at,hbx,Addr.add]:H2.at ((Addr.mk b1 0 none).add 0)=some (vi t.1)),(by simp[Hp.at,hbx,Addr.add]:H2.at ((Addr.mk b1 0 none).add 1)=some (vi t.2))⟩,_,yui (r:=t) ht,λh2=>?_,λh2=>?_⟩
 ·have h2:zm6 t≠0:=by simpa using h2
  have e:x52 f t=([],zm6 t):=by
   have et:x8u f t=zm6 t:=by unfold x8u;rw[Zn (by rw[hc];simp)]
   unfold x52;rw[et,Zn h2]
  rw[e];exact⟨zs,rfl,l2,.inl ⟨rfl,rfl⟩⟩
 have ot:okR t:=zm9.1 (by simpa using h2);have e:x52 f t=(x4k f t,0):=by unfold x52;rw[Zp (x8v.2 ⟨of,ot⟩)]
 rw[e];have lf:=of.small;refine(zny (hf.le l2) (by omega)).mono λv H8 ⟨u,hv,l8,m⟩=>⟨u,hv,?_⟩
 refine(x4x of ot m (l8 b1 _ hbx) (Mine.sepAddr m (by rw[hbx];simp))).mono λv H11 ⟨hv,m2,ch⟩=>⟨hv,u,rfl,?_,m2.low l2⟩
 exact Qh l2 (Qg l8 ch m.isNew)
theorem zxt(hf:Rd 3 fD H w f)(ht:zzn t) :
  fN F.f26 #[vFd w,raW t] H λv H'=>∃u:Slc,v=.tuple #[u.v,vi (ym8 f t).2]/\Qb H H'/\Mine 1 fI T.int H H' u (ym8 f t).1:=by
 refine vc26 ((zxv hf ht).mono λv H2 ⟨u,hv,l2,m⟩=>⟨u,_,hv,λhc=>?_,λhc=>?_⟩)
 ·have hc:x8u f t≠0:=by
   have hc:(x52 f t).2≠0:=by simpa using hc
   intro h;unfold x52 at hc;rw[Zp h] at hc;exact hc rfl
  have e1:x52 f t=([],x8u f t):=by unfold x52;rw[Zn hc]
  have e2:ym8 f t=([],x8u f t):=by unfold ym8;rw[Zn hc]
  rw[e1,e2];exact⟨zs,rfl,l2,.inl ⟨rfl,rfl⟩⟩
 have hc:x8u f t=0:=by
  have hc:(x52 f t).2=0:=by simpa using hc
  by_cases h:x8u f t=0
  ·exact h
  ·unfold x52 at hc;rw[Zn h] at hc;exact hc
 have e1:x52 f t=(x4k f t,0):=by unfold x52;rw[Zp hc]
 have e2:ym8 f t=(yll f t,0):=by unfold ym8;rw[Zp hc]
 rw[e1] at m;rw[e2];have lf:=((x8v.1 hc).1).small;have ln:u.n=f.length:=by have:=m.rdD.len;rw[x4l] at this;exact this
 refine⟨⟨rfl,by omega,by omega⟩,λb5 H6 hb5 hH6=>?_⟩;have m5:=yc1 (g:=λx=>vi x) (e:=3) hfI (n:=(u.n:Int)) (z:=0) hb5 hH6 rfl;rw[Qi] at m5 ⊢;have l6:Qb H2 H6:=Qe (Qc _) hb5 hH6;have sp:=Sep.of m.isOld m5.isNew;refine xb0 (N:=(u.n:Int)) (J:=λi H'=>Qb H2 H'/\Mine 3 fD T.api_Point H H' u (x4k f t)/\∃ys:List Int,Mine 1 fI 3 H2 H' ⟨some ⟨b5,0,none⟩,u.n,u.n⟩ ys/\ys.length=u.n/\∀k:Nat,k<i->ys[k]?=(yll f t)[k]?) (by omega)
  ⟨l6,m.le l6,_,m5,by simp,λk hk=>by omega⟩ λi H10 h0 h1 ⟨l10,j1,ys,j2,j3,j4⟩=>⟨λhi=>?_,λhi=>?_⟩
 ·have hi:i<u.n:=by simpa using hi
  have hi2:i<(x4k f t).length:=by rw[x4l];omega
  have hg:=y3h (d:=((0:Int),(0:Int),(0:Int))) h0 hi2;refine j1.rdD.ldD h0 hi2 ⟨⟨h0,by omega,rfl⟩,j2.setI h0 (by omega) _ λH' m' ch=>xb0.nx h0 hi (by omega) ⟨Qg l10 ch m'.isNew,j1.chg ch sp,_,m',by simpa using j3,λk hk=>?_⟩⟩;rw[Qz];by_cases e:i.toNat=k
  ·rw[Zp e,Zp (by omega)];subst e;unfold yll;rw[Qr,hg];try rfl
  ·rw[Zn e];exact j4 k (by omega)
 ·have hi:i=u.n:=by have:¬ i<u.n:=by simpa using hi
                    omega
  subst hi;have e:ys=yll f t:=by
   refine Qs λk=>?_
   by_cases hk:k<u.n
   ·exact j4 k (by omega)
   ·rw[Q1 (by omega),Q1 (by rw[ylo];omega)]
  subst e;exact⟨_,rfl,Qh l2 l10,j2.low l2⟩
theorem ywt(hf:Rd 3 fD H w f)(of:okF f)(hp:okP p)(ot:okR t) :
    qF F.f93 #[vFd w,sI3 p.1 p.2.1 p.2.2,raW t] H (vi (yu7 f p t)):=by
  have lf:=of.small;have ln:=hf.len;refine vc93 ⟨λn i H'=>H'=H/\0<=i/\i<=f.length/\n=(f.take i.toNat).countP λq=>q.1 != p.1&&leads q p t,λ_ i _=>(f.length-i).toNat,⟨rfl,Int.le_refl _,by omega,by simp⟩,
    λn i H' ⟨e,i0,i1,hn⟩=>?_⟩
  subst e;refine⟨λh=>?_,λh=>⟨?_,Qc _⟩⟩
  · have hi:i<f.length:=by have:i<w.n:=by simpa using h
                           omega
    have hg:=y3h (d:=((0:Int),(0:Int),(0:Int))) i0 hi;have gs:=hf.inS i0 hi;have g3:=hf.gD i0 hi;generalize f.getD i.toNat (0,0,0)=q at hg g3;have oq:=of.each q (Qo hg);have hs:(f.take (i+1).toNat).countP (λq=>q.1 != p.1&&leads q p t)=(f.take i.toNat).countP (λq=>q.1 != p.1&&leads q p t)+if (q.1 != p.1&&leads q p t)=true then 1 else 0:=by
      rw[show (i+1).toNat=i.toNat+1 by omega,x88 hg,Q2,List.countP_singleton]
    have hle:(f.take i.toNat).countP (λq=>q.1 != p.1&&leads q p t)<=f.length:=Nat.le_trans (List.countP_le_length) (by simp;omega);have ms:(f.length-(i+1):Int).toNat<(f.length-i:Int).toNat:=by omega
    refine⟨gs,_,g3.1,λ_=>gs,_,_,_,λ_=>g3,_,λ_=>yw9 oq hp ot,λhb=>?_,λhb=>?_⟩
    · exact⟨by unfold inI;omega,by unfold inI;omega,⟨rfl,by omega,by omega,by rw[hs,Zp hb];omega⟩,ms⟩
    · exact⟨by unfold inI;omega,⟨rfl,by omega,by omega,by rw[hs,Zn (by rw[hb];simp)];omega⟩,ms⟩
  · have hi:i=f.length:=by have:¬ i<w.n:=by simpa using h
                           omega
    rw[hi,Qi,Qt] at hn;rw[hn];try rfl
theorem ywg(hf:Rd 3 fD H w f)(of:okF f)(ot:okR t) :
    fN F.f44 #[vFd w,raW t] H λv H'=>∃u:Slc,v=u.v/\Qb H H'/\Mine 1 fI T.int H H' u (yll f t):=by
  have lf:=of.small;have ln:=hf.len;have hid:=yk2 of;refine vc44 ⟨⟨rfl,by omega,by omega⟩,λb5 H6 hb5 hH6=>?_⟩;have m5:=yc1 (g:=λx=>vi x) (e:=3) hfI (n:=(w.n:Int)) (z:=0) hb5 hH6 rfl;rw[Qi] at m5 ⊢;have l6:Qb H H6:=Qe (Qc _) hb5 hH6;refine xb0 (N:=(w.n:Int)) (J:=λi H'=>Qb H H'/\∃ys:List Int,Mine 1 fI 3 H H' ⟨some ⟨b5,0,none⟩,w.n,w.n⟩ ys/\ys.length=w.n/\∀p∈f.take i.toNat,ys[yu7 f p t]?=some p.1) (by omega)
    ⟨l6,_,m5,by simp,λp hp=>by simp at hp⟩ λi H10 h0 h1 ⟨l10,ys,j2,j3,j4⟩=>⟨λhi=>?_,λhi=>?_⟩
  · have hi:i<f.length:=by have:i<w.n:=by simpa using hi
                           omega
    have hg:=y3h (d:=((0:Int),(0:Int),(0:Int))) h0 hi;have gs:=hf.inS h0 hi;have g3:=(hf.le l10).gD h0 hi;generalize f.getD i.toNat (0,0,0)=q at hg g3;have hq:=Qo hg;obtain⟨r1,r2⟩:=ylm (t:=t) hid hq;refine⟨gs,_,_,_,g3,_,ywt (hf.le l10) of (of.each q hq) ot,gs,_,g3.1,⟨by omega,by omega,rfl⟩,j2.setI (by omega) (by omega) _ λH' m' ch=>xb0.nx h0 (by omega) (by omega) ⟨Qg l10 ch m'.isNew,_,m',by simpa using j3,λp hp=>?_⟩⟩;rw[show (i+1).toNat=i.toNat+1 by omega,x88 hg] at hp;rw[Qz,Qi];by_cases e:yu7 f q t=yu7 f p t
    · rw[Zp e,Zp (by omega)]
      have hpf:p∈f:=by
        rcases Qy.1 hp with hp|hp
        · exact List.mem_of_mem_take hp
        · simp at hp;subst hp;exact hq
      have a1:=(ylm (t:=t) hid hpf).2;rw[← e,r2] at a1;exact a1
    · rw[Zn e]
      rcases Qy.1 hp with hp|hp
      · exact j4 p hp
      · simp at hp;subst hp;exact absurd rfl e
  · have hi:i=w.n:=by have:¬ i<w.n:=by simpa using hi
                      omega
    subst hi;rw[Qi,ln,Qt] at j4;have e:ys=yll f t:=yls hid (by omega) j4;subst e;exact⟨_,rfl,l10,j2⟩
