/- The engine, parts OR, OS, OT, put together. Conditions: none. -/
import Derived.Test.YtnhdkkblehadjabGreatPL3
import Derived.Test.YtnhdkkblehadjabGreatPX1
import Derived.Test.YtnhdkkblehadjabGreatVgBase
import Derived.Test.YtnhdkkblehadjabGreatFs
set_option linter.unusedVariables false
section
/- The order of a field at a time, in plain words. Conditions: none. -/
set_option maxRecDepth 100000
open Go Go.Eng Go.Proofs
namespace Go.Proofs.YtnhdkkblehadjabGreat

def x74(p:Pt)(t:Int×Int):Int:=p.2.1*t.2+p.2.2*t.1
theorem zvb(p q:Pt)(t:Int×Int):zv8 p q t=x74 p t-x74 q t:=by
 unfold zv8 x74
 rw[Int.sub_mul,Int.sub_mul];omega
theorem y77{p q:Pt}{t:Int×Int}:leads p q t=true↔x74 q t<x74 p t\/x74 p t=x74 q t/\(q.2.2<p.2.2\/p.2.2=q.2.2/\p.1<q.1):=by
 unfold leads
 rw[zvb]
 split
 ·rw[decide_eq_true_eq];omega
 ·split
  ·rw[decide_eq_true_eq];omega
  ·rw[decide_eq_true_eq];omega
theorem y78(p:Pt)(t:Int×Int):leads p p t=false:=by
 rw[Bool.eq_false_iff];intro h;rw[y77] at h;omega
theorem y7c{p q r:Pt}{t:Int×Int}(h1:leads p q t=true)(h2:leads q r t=true):leads p r t=true:=by
 rw[y77] at *;omega
theorem y73{p q:Pt}{t:Int×Int}(h:leads p q t=true):leads q p t=false:=by
 rw[Bool.eq_false_iff];intro h';rw[y77] at *;omega
theorem y7b{p q:Pt}{t:Int×Int}(h:p.1≠q.1):leads p q t=true\/leads q p t=true:=by
 rw[y77,y77];omega

def yqj(f:List Pt)(p:Pt)(t:Int×Int):Nat:=f.countP λq=>q.1 != p.1&&leads q p t
structure z2a(f:List Pt)(t:Int×Int)(s:List Pt):Prop where
 perm:s.Perm f
 ord:s.Pairwise λp q=>leads p q t=true
def y4g(t:Int×Int)(p:Pt):List Pt->List Pt
 | []=>[p]
 | q :: l=>if leads p q t=true then p :: q :: l else q :: y4g t p l
def yzt(f:List Pt)(t:Int×Int):List Pt:=f.foldr (y4g t) []
def yis(f:List Pt)(t:Int×Int):List Int:=(yzt f t).map (·.1)

theorem ygy{f:List Pt}(h:okF f):f.Pairwise λp q=>p.1≠q.1:=(List.pairwise_map.1 h.inc).imp λh=>by omega
theorem z2a.ids{f s:List Pt}{t:Int×Int}(h:z2a f t s)(hi:f.Pairwise λp q=>p.1≠q.1):s.Pairwise λp q=>p.1≠q.1:=h.perm.symm.pairwise hi λh=>h.symm
theorem z2a.of{f s:List Pt}{t:Int×Int}(hi:f.Pairwise λp q=>p.1≠q.1)(p:s.Perm f)(o:s.Pairwise λp q=>leads q p t=false):z2a f t s:=by
 refine⟨p,?_⟩
 have hs:s.Pairwise λp q=>p.1≠q.1:=p.symm.pairwise hi λh=>h.symm
 refine(List.Pairwise.and o hs).imp λ⟨h1,h2⟩=>?_
 rcases y7b (t:=t) h2 with h|h
 ·exact h
 ·rw[h1] at h;cases h
theorem y4i(t:Int×Int)(p:Pt):∀l:List Pt,(y4g t p l).Perm (p :: l)
 | []=>List.Perm.refl _
 | q :: l=>by
  unfold y4g
  split
  ·exact List.Perm.refl _
  ·exact(List.Perm.cons q (y4i t p l)).trans (List.Perm.swap p q l)
theorem y4h(t:Int×Int)(p:Pt):∀l:List Pt,(l.Pairwise λp q=>leads q p t=false)->(y4g t p l).Pairwise λp q=>leads q p t=false
 | [],_=>List.pairwise_singleton _ _
 | q :: l,h=>by
  obtain⟨h1,h2⟩:=List.pairwise_cons.1 h
  unfold y4g
  split
  ·rename_i hp
   refine List.Pairwise.cons (λr hr=>?_) h
   rcases List.mem_cons.1 hr with rfl|hr
   ·exact y73 hp
   ·cases hrp:leads r p t with
    | false=>rfl
    | true=>have:=y7c hrp hp;rw[h1 r hr] at this;cases this
  ·rename_i hp
   refine List.Pairwise.cons (λr hr=>?_) (y4h t p l h2)
   rcases List.mem_cons.1 ((y4i t p l).mem_iff.1 hr) with rfl|hr
   ·simpa using hp
   ·exact h1 r hr
theorem yzw(t:Int×Int):∀f:List Pt,(yzt f t).Perm f
 | []=>List.Perm.refl _
 | p :: f=>(y4i t p (yzt f t)).trans (List.Perm.cons p (yzw t f))
theorem yzv(t:Int×Int):∀f:List Pt,(yzt f t).Pairwise λp q=>leads q p t=false
 | []=>List.Pairwise.nil
 | p :: f=>y4h t p (yzt f t) (yzv t f)
theorem yzx{f:List Pt}(hi:f.Pairwise λp q=>p.1≠q.1)(t:Int×Int):z2a f t (yzt f t):=z2a.of hi (yzw t f) (yzv t f)

theorem z2a.rank{f s:List Pt}{t:Int×Int}(h:z2a f t s)(hi:f.Pairwise λp q=>p.1≠q.1){k:Nat}{p:Pt}(hk:s[k]?=some p):yqj f p t=k:=by
 have hs:=h.ids hi
 unfold yqj
 rw[← h.perm.countP_eq]
 obtain⟨hl,hp⟩:=List.getElem?_eq_some_iff.1 hk
 have e:s=s.take k++p :: s.drop (k+1):=by rw[← zrc hk];exact(List.take_append_drop k s).symm
 have o1:=h.ord;have o2:=hs
 rw[e] at o1 o2
 obtain⟨_,a2,a3⟩:=List.pairwise_append.1 o1
 obtain⟨_,b2,b3⟩:=List.pairwise_append.1 o2
 rw[e,List.countP_append,List.countP_cons]
 have c1:(s.take k).countP (λq=>q.1 != p.1&&leads q p t)=k:=by
  rw[List.countP_eq_length.2 (λq hq=>?_),List.length_take]
  ·omega
  ·rw[a3 q hq p List.mem_cons_self,Bool.and_true,bne_iff_ne]
   exact b3 q hq p List.mem_cons_self
 have c2:(s.drop (k+1)).countP (λq=>q.1 != p.1&&leads q p t)=0:=by
  rw[List.countP_eq_zero]
  intro q hq
  rw[y73 ((List.pairwise_cons.1 a2).1 q hq)];simp
 rw[c1,c2]
 simp
theorem z2a.at_rank{f s:List Pt}{t:Int×Int}(h:z2a f t s)(hi:f.Pairwise λp q=>p.1≠q.1){p:Pt}(hp:p∈f):s[yqj f p t]?=some p:=by
 obtain⟨k,hk⟩:=List.mem_iff_getElem?.1 (h.perm.mem_iff.2 hp)
 rw[h.rank hi hk];exact hk
theorem z2a.eq{f s s':List Pt}{t:Int×Int}(h:z2a f t s)(h':z2a f t s')(hi:f.Pairwise λp q=>p.1≠q.1):s=s':=by
 refine List.ext_getElem? λk=>?_
 have l1:=h.perm.length_eq;have l2:=h'.perm.length_eq
 cases hk:s[k]? with
 | none =>
  have:=List.getElem?_eq_none_iff.1 hk
  exact(List.getElem?_eq_none_iff.2 (by omega)).symm
 | some p =>
  have hp:=h.perm.mem_iff.1 (List.mem_of_getElem? hk)
  have:=h'.at_rank hi hp
  rw[h.rank hi hk] at this
  exact this.symm
theorem yzu(f:List Pt)(t:Int×Int):(yzt f t).length=f.length:=(yzw t f).length_eq
theorem yiv(f:List Pt)(t:Int×Int):(yis f t).length=f.length:=by unfold yis;rw[List.length_map,yzu]
end Go.Proofs.YtnhdkkblehadjabGreat
end
section
/- slices.SortFunc on points. Conditions: none. -/
set_option maxRecDepth 100000
open Go Go.Eng Go.Proofs
open Go.Shelf Go.RowKit Go.Lib Go.Sort
namespace Go.Proofs.YtnhdkkblehadjabGreat

def cfP(t:Int×Int)(p q:Pt):Int:=if p.1=q.1 then 0 else if leads p q t=true then -1 else 1
theorem zn1{H:Hp}{p q:Pt}{t:Int×Int}{ab:Addr}(ht:okR t)(h0:H.at (ab.add 0)=some (.int .i64 t.1))(h1:H.at (ab.add 1)=some (.int .i64 t.2))(hp:okP p)(hq:okP q) :
  Qf Tryz.prog F.f111 #[sI3 p.1 p.2.1 p.2.2,sI3 q.1 q.2.1 q.2.2,.pointer (some ab)] H (.int .i64 (cfP t p q)):=by
 refine vc111 ⟨λh=>⟨?_,Hp.le_refl _⟩,λh=>?_⟩
 ·have h:p.1=q.1:=by simpa using h
  unfold cfP;rw[if_pos h]
 ·have h:p.1≠q.1:=by simpa using h
  have e:z5p p q t=(leads p q t,0):=by unfold z5p;rw[if_pos (x67.2 ⟨hp,hq,ht,h⟩)]
  refine⟨_,_,⟨h0,h1⟩,_,_,zpu ht.fit,?_⟩
  rw[e]
  refine⟨λk=>⟨?_,Hp.le_refl _⟩,λk=>⟨?_,Hp.le_refl _⟩⟩
  ·have k:leads p q t=true:=k
   unfold cfP;rw[if_neg h,if_pos k]
  ·have k:leads p q t=false:=k
   unfold cfP;rw[if_neg h,if_neg (by rw[k];simp)]

section
variable {f:List Pt} {t:Int×Int}
theorem y3g(hi:f.Pairwise λp q=>p.1≠q.1){x y:InL f}(h:x.1.1=y.1.1):x=y:=by
 obtain⟨i,hx⟩:=List.mem_iff_getElem?.1 x.2
 obtain⟨j,hy⟩:=List.mem_iff_getElem?.1 y.2
 obtain⟨i1,i2⟩:=List.getElem?_eq_some_iff.1 hx
 obtain⟨j1,j2⟩:=List.getElem?_eq_some_iff.1 hy
 have hp:=List.pairwise_iff_getElem.1 hi
 rcases Nat.lt_trichotomy i j with k|k|k
 ·exact absurd (by rw[i2,j2];exact h) (hp i j i1 j1 k)
 ·subst k;rw[i2] at j2;exact Subtype.ext j2
 ·exact absurd (by rw[i2,j2];exact h.symm) (hp j i j1 i1 k)
theorem y8t(hi:f.Pairwise λp q=>p.1≠q.1)(x y:InL f):ltOf (cfL (cfP t)) x y=leads x.1 y.1 t:=by
 unfold ltOf cfL cfP
 split
 ·rename_i h
  have:=y3g hi h
  subst this
  rw[y78];simp
 ·cases h:leads x.1 y.1 t <;> simp
theorem x3l(hi:f.Pairwise λp q=>p.1≠q.1):SWO (ltOf (cfL (L:=f) (cfP t))) where
 irrefl x:=by rw[y8t hi,y78]
 trans x y z h1 h2:=by rw[y8t hi] at *;exact y7c h1 h2
 ntrans x y z h1 h2:=by
  rw[y8t hi,Bool.eq_false_iff,ne_eq,y77] at *
  omega
end
theorem z5m:∀w,(isAgg (Tryz.sortPt_ren.t 24)).run Tryz.prog w=.ok true w:=λw=>by
 rw[Go.Eng.run_isAgg (t:=Tryz.sortPt_ren.t 24) (P:=Tryz.prog) (x:=(Tryz.prog.underlying T.api_Point).getD (.struct #[])) (by kernel_rfl)]
 exact congrArg (λb=>Result.ok b w) (show z5o Tryz.prog (Tryz.sortPt_ren.t 24)=true by kernel_rfl)
theorem ywi:∀w,(Go.sizeOf (Tryz.sortPt_ren.t 24)).run Tryz.prog w=.ok 3 w:=λw=>by
 rw[Go.Eng.run_sizeOf (t:=Tryz.sortPt_ren.t 24) (P:=Tryz.prog) (x:=(Tryz.prog.underlying T.api_Point).getD (.struct #[])) (by kernel_rfl)]
 exact congrArg (λb=>Result.ok b w) (show Tryz.prog.cellsOf (Tryz.sortPt_ren.t 24)=3 by kernel_rfl)
theorem Mine.sepAddr{α:Type}{k:Nat}{g:α->List Value}{e:TypeId}{H0 H:Hp}{u:Slc}{xs:List α}(h:Mine k g e H0 H u xs){b1:Nat}(hb:H0 b1≠none):∀p,u.a=some p->p.block≠b1:=by
 intro p hp e1
 have:=h.isNew p hp
 rw[e1] at this;exact hb this
theorem x05{H0 H:Hp}{u:Slc}{f:List Pt}{t:Int×Int}{b1:Nat}{e T:TypeId}(of:okF f)(ht:okR t)(hu:Mine 3 fD e H0 H u f)(hb1:H b1=some (.cells #[.int .i64 t.1,.int .i64 t.2] T (0,0)))(hs:∀p,u.a=some p->p.block≠b1) :
  Go.Eng.Fn Tryz.prog F.f110 #[u.v,.func (.func F.f111) #[] #[.pointer (some ⟨b1,0,none⟩)]] H λv H'=>v=.tuple #[]/\Mine 3 fD e H0 H' u (yzt f t)/\Chg H H' u:=by
 have hi:=ygy of
 have hbig:f.length<4611686018427387904:=by have:=of.small;omega
 refine(yzs (k:=3) (f:=fD) Tryz.sortPt z5m ywi (λ_=>rfl) (by decide) zuf (g:=F.f111) (cb:=#[.pointer (some ⟨b1,0,none⟩)]) (cf:=cfP t) (Hc:=Hp.put (λ_=>none) b1 (.cells #[.int .i64 t.1,.int .i64 t.2] T (0,0)))
  (enters_of Tryz.func111 (by kernel_rfl) rfl) hbig (x3l hi) hu (λc o hc=>?_) λp hp q hq=>?_).mono λv H' ⟨hv,S,hp,hs,m,c⟩=>⟨hv,?_,c⟩
 ·unfold Hp.put at hc
  split at hc
  ·rename_i e;subst e;cases hc;exact⟨hb1,hs⟩
  ·cases hc
 ·exact zn1 (ab:=⟨b1,0,none⟩) ht (by simp[Hp.at,Hp.put,Addr.add]) (by simp[Hp.at,Hp.put,Addr.add]) (of.each _ hp) (of.each _ hq)
 ·have so:z2a f t S:=z2a.of hi hp (List.Pairwise.imp_of_mem (λ{x y} hx hy h=>by
   have:=y8t (t:=t) hi ⟨y,hp.mem_iff.1 hy⟩ ⟨x,hp.mem_iff.1 hx⟩
   unfold ltOf cfL at this
   rw[← this];exact decide_eq_false h) hs)
  rw[← so.eq (yzx hi t) hi];exact m

def x09(f:List Pt)(t:Int×Int):List Pt×Int:=if x4x f t=0 then (yzt f t,0) else ([],x4x f t)
def yj8(f:List Pt)(t:Int×Int):List Int×Int:=if x4x f t=0 then (yis f t,0) else ([],x4x f t)

theorem zvn{H:Hp}{w:Slc}{f:List Pt}{t:Int×Int}(hf:Rd 3 fD H w f)(ht:zxh t) :
  Go.Eng.Fn Tryz.prog F.f60 #[vFd w,raW t] H λv H'=>∃u:Slc,v=.tuple #[u.v,.int .i64 (x09 f t).2]/\Hp.le H H'/\Mine 3 fD T.api_Point H H' u (x09 f t).1:=by
 refine vc60 λb1 H2 hb1 hH2=>?_
 have l2:Hp.le H H2:=Hp.le_new (Hp.le_refl _) hb1 hH2
 have hbx:H2 b1=some (.cells #[.int .i64 t.1,.int .i64 t.2] T.api_Ratio (0,0)):=by rw[hH2];simp[Hp.put]
 refine⟨_,zvi (hf.le l2),λhc=>?_,λhc=>?_⟩
 ·have hc:zkd f≠0:=by simpa using hc
  have e:x09 f t=([],zkd f):=by
   have et:x4x f t=zkd f:=by unfold x4x;rw[if_pos hc]
   unfold x09;rw[et,if_neg hc]
  rw[e];exact⟨zs,rfl,l2,.inl ⟨rfl,rfl⟩⟩
 have hc:zkd f=0:=by simpa using hc
 have of:=zke.1 hc
 refine⟨_,_,⟨by simp[Hp.at,hbx,Addr.add],by simp[Hp.at,hbx,Addr.add]⟩,_,yqv (r:=t) ht,λh2=>?_,λh2=>?_⟩
 ·have h2:zl2 t≠0:=by simpa using h2
  have e:x09 f t=([],zl2 t):=by
   have et:x4x f t=zl2 t:=by unfold x4x;rw[if_neg (by rw[hc];simp)]
   unfold x09;rw[et,if_neg h2]
  rw[e];exact⟨zs,rfl,l2,.inl ⟨rfl,rfl⟩⟩
 have ot:okR t:=zl5.1 (by simpa using h2)
 have e:x09 f t=(yzt f t,0):=by unfold x09;rw[if_pos (x4y.2 ⟨of,ot⟩)]
 rw[e]
 have lf:=of.small
 refine(zmq (hf.le l2) (by omega)).mono λv H8 ⟨u,hv,l8,m⟩=>⟨u,hv,?_⟩
 refine(x05 of ot m (l8 b1 _ hbx) (Mine.sepAddr m (by rw[hbx];simp))).mono λv H11 ⟨hv,m2,ch⟩=>⟨hv,u,rfl,?_,m2.low l2⟩
 exact Hp.le_trans l2 (Hp.le_chg l8 ch m.isNew)

theorem zvl{H:Hp}{w:Slc}{f:List Pt}{t:Int×Int}(hf:Rd 3 fD H w f)(ht:zxh t) :
  Go.Eng.Fn Tryz.prog F.f23 #[vFd w,raW t] H λv H'=>∃u:Slc,v=.tuple #[u.v,.int .i64 (yj8 f t).2]/\Hp.le H H'/\Mine 1 fI T.int H H' u (yj8 f t).1:=by
 refine vc23 ((zvn hf ht).mono λv H2 ⟨u,hv,l2,m⟩=>⟨u,_,hv,λhc=>?_,λhc=>?_⟩)
 ·have hc:x4x f t≠0:=by
   have hc:(x09 f t).2≠0:=by simpa using hc
   intro h;unfold x09 at hc;rw[if_pos h] at hc;exact hc rfl
  have e1:x09 f t=([],x4x f t):=by unfold x09;rw[if_neg hc]
  have e2:yj8 f t=([],x4x f t):=by unfold yj8;rw[if_neg hc]
  rw[e1,e2]
  exact⟨zs,rfl,l2,.inl ⟨rfl,rfl⟩⟩
 have hc:x4x f t=0:=by
  have hc:(x09 f t).2=0:=by simpa using hc
  by_cases h:x4x f t=0
  ·exact h
  ·unfold x09 at hc;rw[if_neg h] at hc;exact hc
 have e1:x09 f t=(yzt f t,0):=by unfold x09;rw[if_pos hc]
 have e2:yj8 f t=(yis f t,0):=by unfold yj8;rw[if_pos hc]
 rw[e1] at m
 rw[e2]
 have lf:=((x4y.1 hc).1).small
 have ln:u.n=f.length:=by have:=m.rdD.len;rw[yzu] at this;exact this
 refine⟨⟨rfl,by omega,by omega⟩,λb5 H6 hb5 hH6=>?_⟩
 have m5:=y8x (g:=λx=>Value.int .i64 x) (e:=3) hfI (n:=(u.n:Int)) (z:=0) hb5 hH6 rfl
 rw[Int.toNat_natCast] at m5 ⊢
 have l6:Hp.le H2 H6:=Hp.le_new (Hp.le_refl _) hb5 hH6
 have sp:=Sep.of m.isOld m5.isNew
 refine x73 (N:=(u.n:Int)) (J:=λi H'=>Hp.le H2 H'/\Mine 3 fD T.api_Point H H' u (yzt f t)/\∃ys:List Int,Mine 1 fI 3 H2 H' ⟨some ⟨b5,0,none⟩,u.n,u.n⟩ ys/\ys.length=u.n/\∀k:Nat,k<i->ys[k]?=(yis f t)[k]?) (by omega)
  ⟨l6,m.le l6,_,m5,by simp,λk hk=>by omega⟩ λi H10 h0 h1 ⟨l10,j1,ys,j2,j3,j4⟩=>⟨λhi=>?_,λhi=>?_⟩
 ·have hi:i<u.n:=by simpa using hi
  have hi2:i<(yzt f t).length:=by rw[yzu];omega
  have hg:=y0r (d:=((0:Int),(0:Int),(0:Int))) h0 hi2
  refine j1.rdD.ldD h0 hi2 ⟨⟨h0,by omega,rfl⟩,j2.setI h0 (by omega) _ λH' m' ch=>x73.nx h0 hi (by omega) ⟨Hp.le_chg l10 ch m'.isNew,j1.chg ch sp,_,m',by simpa using j3,λk hk=>?_⟩⟩
  rw[List.getElem?_set]
  by_cases e:i.toNat=k
  ·rw[if_pos e,if_pos (by omega)]
   subst e
   unfold yis;rw[List.getElem?_map,hg];try rfl
  ·rw[if_neg e];exact j4 k (by omega)
 ·have hi:i=u.n:=by have:¬ i<u.n:=by simpa using hi
                    omega
  subst hi
  have e:ys=yis f t:=by
   refine List.ext_getElem? λk=>?_
   by_cases hk:k<u.n
   ·exact j4 k (by omega)
   ·rw[List.getElem?_eq_none (by omega),List.getElem?_eq_none (by rw[yiv];omega)]
  subst e
  exact⟨_,rfl,Hp.le_trans l2 l10,j2.low l2⟩

end Go.Proofs.YtnhdkkblehadjabGreat
end
