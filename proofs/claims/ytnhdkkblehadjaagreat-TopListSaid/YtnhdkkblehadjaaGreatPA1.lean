/- The engine, parts AV, AW, AX, AY, put together. Conditions: none. -/
import Derived.Test.YtnhdkkblehadjaaGreatPN2
open Bool renaming and_eq_true->Qa
open Int renaming toNat_natCast->Qb,mul_left_comm->Qc,zero_mul->Qd,mul_comm->Qe,zero_add->Qg,sub_self->Qh,mul_add->Qi,lt_irrefl->Qj,le_refl->Ql
open List renaming length_set->Qm,getD_eq_getElem?_getD->Qn,getElem?_map->Qo,getElem?_eq_some_iff->Qp,getElem?_eq_none->Qq,range->Qr,mem_of_getElem?->Qs,length_map->Qt,getElem?_range->Qu,getElem?_eq_getElem->Qv,pairwise_iff_getElem->Qw,mem_iff_getElem?->Qx,getElem?_set->Qy,set_append_right->Qz,mem_map->Q1,ext_getElem?->Q2,Perm->Q3
open Nat renaming one_mul->Q4,mul_le_mul->Q5,add_mul->Q6,lt_trichotomy->Q7,le_refl->Q8
open Option renaming some->Q9
set_option linter.unusedVariables false
section
set_option maxRecDepth 100000
open Go Go.Eng Go.Proofs
namespace Go.Proofs.YtnhdkkblehadjaaGreat
variable{l l0:Ls}{i lo hi k j:Nat}{to x s t u:Int×Int}{o:List Int}{n:Int}{ct:Ct}{f:List Pt}{p q:Pt}
theorem _root_.Go.Eng.okC.uniq(ok:okC ct){y:Int×Int}(hx:(n,x)∈ct.list)(hy:(n,y)∈ct.list):x=y:=by
 obtain⟨i,hi⟩:=Qx.1 hx;obtain⟨j,hj⟩:=Qx.1 hy;obtain⟨i1,i2⟩:=Qp.1 hi;obtain⟨j1,j2⟩:=Qp.1 hj;have hp:=Qw.1 ok.ok.inc;rcases Q7 i j with k|k|k
 ·have:=hp i j i1 j1 k;rw[i2,j2] at this;exact absurd this (Qj _)
 ·subst k;rw[hi] at hj;exact congrArg Prod.snd (Q9.inj hj)
 ·have:=hp j i j1 i1 k;rw[i2,j2] at this;exact absurd this (Qj _)
theorem _root_.Go.Eng.okC.at_mem(ok:okC ct)(hx:(n,x)∈ct.list):0<=atC ct n/\atC ct n<ct.list.length/\y2r ct.list (atC ct n)=(n,x):=by
 have h0:0<=atC ct n:=by
  by_cases h:atC ct n<0
  ·have:=y5v h _ hx;simp at this
  ·omega
 obtain⟨h1,y,h2,h3⟩:=z88 h0;refine⟨h0,h1,?_⟩;have:y2r ct.list (atC ct n)=y:=by unfold y2r;rw[Qn,h2];rfl
 rw[this];have hm:(n,y.2)∈ct.list:=by rw[← h3];exact Qs h2
 exact Prod.ext h3 (ok.uniq hm hx)
theorem xch{m:Int}:(m,x)∈(xce ct n).list↔(m,x)∈ct.list/\m≠n:=by
 unfold xce;rw[List.mem_filter];simp
theorem xcf(ok:okC ct)(hx:(n,x)∈ct.list):(xce ct n).list.length+1=ct.list.length:=by
 have a:=(ok.at_mem hx).1;have:(y2n ct n).2=0:=by unfold y2n;rw[Zp ok,Zn (by omega)]
 have:=xcg this;omega
theorem zcq(ok:okC ct){num:List Int}:zco ct o num k=true↔(num.getD k 0,yn6 o k)∈ct.list:=by
 unfold zco;simp only[Qa,Zq,beq_iff_eq];constructor
 ·intro ⟨h1,h2⟩;obtain⟨_,y,h3,h4⟩:=z88 h1;have e:y2r ct.list (atC ct (num.getD k 0))=y:=by unfold y2r;rw[Qn,h3];rfl
  rw[e] at h2;have:=Qs h3;rw[← h2,← h4];exact this
 ·intro h;obtain⟨a,_,b⟩:=ok.at_mem h;exact⟨a,by rw[b]⟩
structure okM(l:Ls):Prop where
 ck:okK l.ck
 perm:l.ord.Perm (l.ck.f.map (·.1))
 nl:l.num.length=l.ord.length-1
 cl:l.ck.ct.list.length=l.num.length
 certs:∀k,k<l.num.length->(l.num.getD k 0,yn6 l.ord k)∈l.ck.ct.list
 desc:∀i j,i<j->j<l.ord.length->xb1 (ptL l j) l.ck.now<=xb1 (ptL l i) l.ck.now
theorem yk9.weak(ok:yk9 l):okM l:=by
 refine⟨ok.ck,?_,ok.nl,ok.cl,λk hk=>(zcq ok.ck.ct).1 (ok.cert hk),λi j hij hj=>ok.val hij hj⟩;rw[ok.ord];exact(x4n l.ck.now l.ck.f).map _
theorem ypf(of:okF f)(hp:o.Perm (f.map (·.1))){x:Int}(hx:x∈o):0<=yr5 f x:=by
 obtain⟨p,h1,h2⟩:=Q1.1 (hp.mem_iff.1 hx);by_cases h:yr5 f x<0
 ·have:=y5v h p h1;simp at this;exact absurd h2 this
 ·omega
theorem ypb(of:okF f)(hp:o.Perm (f.map (·.1))):o.Pairwise (·≠·) :=
 hp.symm.pairwise (List.pairwise_map.2 (yk2 of)) λh=>h.symm
theorem ydn(hk:k<o.length):o.getD k 0∈o:=by
 have:=y36 (xs:=o) (i:=(k:Int)) (by omega) (by omega);rw[Qb] at this;exact Qs this
theorem yso(of:okF l.ck.f)(hp:l.ord.Perm (l.ck.f.map (·.1)))(hk:k<l.ord.length):okP (ptL l k)/\ptL l k∈l.ck.f/\(ptL l k).1=l.ord.getD k 0:=by
 have h0:=ypf of hp (ydn hk);refine⟨of.pt h0,?_,(yra h0).2.2⟩;exact Qs (yra h0).2.1
theorem okM.pt(w:okM l)(hk:k<l.ord.length):okP (ptL l k)/\ptL l k∈l.ck.f/\(ptL l k).1=l.ord.getD k 0:=yso w.ck.f w.perm hk
theorem okM.ne(w:okM l):l.ord.Pairwise (·≠·):=ypb w.ck.f w.perm
theorem yrw(hd:o.Pairwise (·≠·))(hk:k<o.length):yrt o (o.getD k 0)=k:=by
 have:=y36 (xs:=o) (i:=(k:Int)) (by omega) (by omega);rw[Qb] at this;exact yru hd this
theorem okM.ptNe(w:okM l)(h:i≠j)(hi:i<l.ord.length)(hj:j<l.ord.length):(ptL l i).1≠(ptL l j).1:=by
 rw[(w.pt hi).2.2,(w.pt hj).2.2];intro e;have p1:=yrw w.ne hi;have p2:=yrw w.ne hj;rw[e,p2] at p1;omega
theorem ynh(hd:o.Pairwise (·≠·))(hi:i<o.length)(hj:j<o.length)(h:yn6 o i=yn6 o j):i=j:=by
 have a4:o.getD i 0=o.getD j 0:=congrArg Prod.snd h;have p1:=yrw hd hi;have p2:=yrw hd hj;rw[a4,p2] at p1;omega
theorem okM.numInj(w:okM l)(hi:i<l.num.length)(hj:j<l.num.length)(h:l.num.getD i 0=l.num.getD j 0):i=j:=by
 have a:=w.certs i hi;have b:=w.certs j hj;rw[h] at a;have nl:=w.nl;exact ynh w.ne (by omega) (by omega) (w.ck.ct.uniq a b)
theorem okM.event(w:okM l){x:Ev}(hx:x∈l.ck.ag.heap):∃i,i<l.num.length/\l.num.getD i 0=x.no/\zx5 (ptL l i) (ptL l (i+1)) l.ck.now=some x.at_:=by
 obtain⟨ps,e⟩:=w.ck.evs;have nl:=w.nl;have cl:=w.cl;obtain⟨h,hm,hno,hw⟩:=e.cert (e.heap.mem_iff.1 hx);obtain⟨k,hk⟩:=Qx.1 hm;have hkl:=(Qp.1 hk).1;have facts:∀i,i<l.num.length->0<=atC l.ck.ct (l.num.getD i 0)/\atC l.ck.ct (l.num.getD i 0)<l.ck.ct.list.length/\y2r l.ck.ct.list (atC l.ck.ct (l.num.getD i 0))=(l.num.getD i 0,yn6 l.ord i):=λi hi=>w.ck.ct.at_mem (w.certs i hi)
 have inj:∀i j,i<l.num.length->j<l.num.length->(atC l.ck.ct (l.num.getD i 0)).toNat=(atC l.ck.ct (l.num.getD j 0)).toNat->i=j:=λi j hi hj he=>by
  obtain⟨a1,a2,a3⟩:=facts i hi;obtain⟨b1,b2,b3⟩:=facts j hj;have:atC l.ck.ct (l.num.getD i 0)=atC l.ck.ct (l.num.getD j 0):=by omega
  rw[this,b3] at a3;exact w.numInj hi hj (congrArg Prod.fst a3).symm
 obtain⟨i,hi,hik⟩:=z6h (n:=l.num.length) (f:=λi=>(atC l.ck.ct (l.num.getD i 0)).toNat) inj (λi hi=>by have:=facts i hi;show (atC l.ck.ct (l.num.getD i 0)).toNat<_;omega) (k:=k) (by omega);obtain⟨a1,a2,a3⟩:=facts i hi;have hh:y2r l.ck.ct.list (atC l.ck.ct (l.num.getD i 0))=h:=by
  unfold y2r;have hik:(atC l.ck.ct (l.num.getD i 0)).toNat=k:=hik;rw[hik,Qn,hk];rfl
 rw[hh] at a3;refine⟨i,hi,?_,?_⟩
 ·rw[← hno,a3]
 ·rw[a3] at hw;exact hw
theorem okM.meets(w:okM l)(hi:i<l.num.length)(h:zx5 (ptL l i) (ptL l (i+1)) l.ck.now=some s):∃x∈l.ck.ag.heap,x.at_=s:=by
 obtain⟨ps,e⟩:=w.ck.evs;have hw:xbv l.ck.f (l.num.getD i 0,yn6 l.ord i).2 l.ck.now=some s:=h;obtain⟨y,hy,_,h3⟩:=e.of_cert (w.certs i hi) hw;exact⟨y,e.heap.mem_iff.2 hy,h3⟩
theorem xb2:s.2*zxg p q u=u.2*zxg p q s+(p.2.2-q.2.2)*(u.1*s.2-s.1*u.2):=by
 unfold zxg;generalize p.2.1-q.2.1=A;generalize p.2.2-q.2.2=B;rw[Qi,Qi,Int.mul_sub];have e1:s.2*(A*u.2)=u.2*(A*s.2):=by rw[Qc,Qc u.2,Qe s.2]
 have e2:s.2*(B*u.1)=B*(u.1*s.2):=by rw[Qc,Qe s.2]
 have e3:u.2*(B*s.1)=B*(s.1*u.2):=by rw[Qc,Qe u.2]
 omega
theorem y9i(hs:1<=s.2)(hu:1<=u.2)(h:leR s u)(h0:zxg p q s=0)(hb:p.2.2<q.2.2\/p.2.2=q.2.2/\q.1<p.1):leads q p u=true:=by
 have e:=xb2 (p:=p) (q:=q) (s:=s) (u:=u);rw[h0,Int.mul_zero,Qg] at e;have hle:s.1*u.2<=u.1*s.2:=h;have hneg:(p.2.2-q.2.2)*(u.1*s.2-s.1*u.2)<=0:=by
  have:=Int.mul_le_mul_of_nonneg_right (show p.2.2-q.2.2<=0 by omega) (show 0<=u.1*s.2-s.1*u.2 by omega);rw[Qd] at this;exact this
 have fle:zxg p q u<=0:=by
  rcases Int.lt_or_le 0 (zxg p q u) with x|x
  ·have:=Int.mul_pos (show 0<s.2 by omega) x;omega
  ·exact x
 rw[y9n];have fv:=zxj p q u;rcases hb with hb|⟨hb1,hb2⟩
 ·omega
 ·have fz:zxg p q u=0:=by
   rw[hb1,Qh,Qd] at e;rcases Int.mul_eq_zero.1 e with x|x
   ·omega
   ·exact x
  omega
theorem okM.level(w:okM l)(hi:i<l.num.length)(h:zx5 (ptL l i) (ptL l (i+1)) l.ck.now=some s):zxg (ptL l i) (ptL l (i+1)) s=0/\((ptL l i).2.2<(ptL l (i+1)).2.2\/(ptL l i).2.2=(ptL l (i+1)).2.2/\(ptL l (i+1)).1<(ptL l i).1):=by
 have nl:=w.nl;have d:=w.desc i (i+1) (by omega) (by omega);have p1:=(w.pt (k:=i) (by omega)).1;have p2:=(w.pt (k:=i+1) (by omega)).1;generalize ptL l i=p at *
 generalize ptL l (i+1)=q at *
 unfold zx5 at h;split at h
 ·rename_i hl;have hs:s=l.ck.now:=(Q9.inj h).symm;subst hs;rw[y9n] at hl;rw[zxj];omega
 ·split at h
  ·rename_i hb;obtain⟨x,y,g,g0,em,e1,e2,e3⟩:=ydh p1 p2 hb;rw[em] at h;have hs:s=(x,y):=(Q9.inj h).symm;subst hs;rw[zxh e1 e2];refine⟨?_,.inl hb⟩;show (x*y-x*y)*g=0;rw[Qh,Qd]
  ·cases h
theorem okM.descAt(w:okM l)(h0:0<l.ck.ag.heap.length):∀j i,i<j->j<l.ord.length->xb1 (ptL l j) (hp l.ck.ag.heap 0).at_<=xb1 (ptL l i) (hp l.ck.ag.heap 0).at_:=by
 have nl:=w.nl;have o1:okR (hp l.ck.ag.heap 0).at_:=(w.ck.ag.each _ (y57 h0)).1;obtain⟨ps,e⟩:=w.ck.evs;have hle:leR l.ck.now (hp l.ck.ag.heap 0).at_:=(w.ck.failed h0 e).2.2.1;have next:∀k,k+1<l.ord.length->xb1 (ptL l (k+1)) (hp l.ck.ag.heap 0).at_<=xb1 (ptL l k) (hp l.ck.ag.heap 0).at_:=λk hk=>by
  have p1:=(w.pt (k:=k) (by omega)).1;have p2:=(w.pt (k:=k+1) hk).1;have hne:=w.ptNe (i:=k) (j:=k+1) (by omega) (by omega) hk;cases hF:zx5 (ptL l k) (ptL l (k+1)) l.ck.now with
  | none =>
   have:=y9n.1 (zx9 hne w.ck.now o1 hF hle).1;omega
  | some s =>
   obtain⟨x,hx,hat⟩:=w.meets (i:=k) (by omega) hF;have l1:=y98 (w.ck.top hx);rw[hat] at l1;by_cases h:leR s (hp l.ck.ag.heap 0).at_
   ·have os:=zxa p1 p2 w.ck.now hF;have:s=(hp l.ck.ag.heap 0).at_:=ykd os o1 h l1;have lv:=(w.level (i:=k) (by omega) hF).1;rw[this,zxj] at lv;omega
   ·have:=y9n.1 (zx7 p1 p2 hne w.ck.now hF hle h);omega
 intro j;induction j with
 | zero=>intro i hi;omega
 | succ j ih =>
  intro i hi hj;have a:=next j hj;by_cases e:i=j
  ·subst e;exact a
  ·have:=ih i (by omega) (by omega);omega
def x76(o:List Int)(i:Nat):List Int:=(o.set i (o.getD (i+1) 0)).set (i+1) (o.getD i 0)
theorem x78(o:List Int)(i:Nat):(x76 o i).length=o.length:=by unfold x76;rw[Qm,Qm]
theorem x77(hi:i+1<o.length)(k:Nat):(x76 o i).getD k 0=if k=i then o.getD (i+1) 0 else if k=i+1 then o.getD i 0 else o.getD k 0:=by
 unfold x76;rw[Qn,Qy,Qy,Qm];by_cases h1:i+1=k
 ·rw[Zp h1,Zp hi,Zn (by omega),Zp h1.symm];rfl
 ·rw[Zn h1];by_cases h2:i=k
  ·rw[Zp h2,Zp (by omega),Zp h2.symm];rfl
  ·rw[Zn h2,Zn (λh=>h2 h.symm),Zn (λh=>h1 h.symm),Qn]
theorem x7a(hi:i+1<o.length):o=o.take i++o.getD i 0 :: o.getD (i+1) 0 :: o.drop (i+2)/\x76 o i=o.take i++o.getD (i+1) 0 :: o.getD i 0 :: o.drop (i+2):=by
 have h1:o[i]?=some (o.getD i 0):=by
  have:=y36 (xs:=o) (i:=(i:Int)) (by omega) (by omega);rw[Qb] at this;exact this
 have h2:o[i+1]?=some (o.getD (i+1) 0):=by
  have:=y36 (xs:=o) (i:=((i+1:Nat):Int)) (by omega) (by omega);rw[Qb] at this;exact this
 have e:o=o.take i++o.getD i 0 :: o.getD (i+1) 0 :: o.drop (i+2):=by
  have a:=List.take_append_drop i o;rw[ztp h1,ztp h2] at a;exact a.symm
 refine⟨e,?_⟩;have tl:(o.take i).length=i:=by rw[List.length_take];omega
 unfold x76;generalize o.getD (i+1) 0=b at *
 generalize o.getD i 0=a at *
 generalize o.drop (i+2)=Zw at *
 generalize o.take i=pre at *
 subst e;subst tl;rw[Qz _ _ (Q8 _),Nat.sub_self,List.set_cons_zero,Qz _ _ (by omega),show pre.length+1-pre.length=1 by omega];rfl
theorem x79(hi:i+1<o.length):(x76 o i).Perm o:=by
 obtain⟨e1,e2⟩:=x7a hi;rw[e2];conv=>rhs;rw[e1]
 exact Q3.append_left _ (Q3.swap _ _ _)
def phi(rk:Int->Nat):Nat->List Int->Nat
 | _,[]=>0
 | k,x :: xs=>k*rk x+phi rk (k+1) xs
theorem ypj(rk:Int->Nat):∀(xs ys:List Int)(k:Nat),phi rk k (xs++ys)=phi rk k xs+phi rk (k+xs.length) ys
 | [],ys,k=>by simp[phi]
 | x :: xs,ys,k=>by
  show k*rk x+phi rk (k+1) (xs++ys)=k*rk x+phi rk (k+1) xs+phi rk (k+(xs.length+1)) ys;rw[ypj rk xs ys (k+1),show k+1+xs.length=k+(xs.length+1) by omega];omega
theorem ypl(rk:Int->Nat)(hi:i+1<o.length)(h:rk (o.getD (i+1) 0)<rk (o.getD i 0)):phi rk 0 o<phi rk 0 (x76 o i):=by
 obtain⟨e1,e2⟩:=x7a hi;rw[e2];conv=>lhs;rw[e1]
 rw[ypj,ypj];show _+((0+(o.take i).length)*rk (o.getD i 0)+((0+(o.take i).length+1)*rk (o.getD (i+1) 0)+_))<_+((0+(o.take i).length)*rk (o.getD (i+1) 0)+((0+(o.take i).length+1)*rk (o.getD i 0)+_));generalize 0+(o.take i).length=K;rw[Q6 K 1 (rk (o.getD (i+1) 0)),Q6 K 1 (rk (o.getD i 0)),Q4,Q4];omega
theorem ypk(rk:Int->Nat){n:Nat}:∀(o:List Int)(k:Nat),(∀x∈o,rk x<=n)->phi rk k o<=o.length*((k+o.length)*n)
 | [],k,_=>by simp[phi]
 | x :: xs,k,h=>by
  have ih:=ypk rk xs (k+1) λy hy=>h y (List.mem_cons_of_mem _ hy)
  have hx:=Q5 (Q8 k) (h x List.mem_cons_self);have e:k+1+xs.length=k+(xs.length+1):=by omega
  have hk:k*n<=(k+(xs.length+1))*n:=Nat.mul_le_mul_right _ (by omega);show k*rk x+phi rk (k+1) xs<=(xs.length+1)*((k+(xs.length+1))*n);rw[e] at ih;rw[Q6 xs.length 1,Q4];omega
theorem yu9(of:okF f)(hp:p∈f)(hq:q∈f)(h:leads q p t=true):yu7 f q t<yu7 f p t:=by
 have S:=x4o (yk2 of) t;have a1:=S.at_rank (yk2 of) hp;have a2:=S.at_rank (yk2 of) hq;obtain⟨b1,b2⟩:=Qp.1 a1;obtain⟨c1,c2⟩:=Qp.1 a2;rcases Q7 (yu7 f q t) (yu7 f p t) with k|k|k
 ·exact k
 ·rw[k,a1] at a2;have:=Q9.inj a2;subst this;rw[y9o] at h;cases h
 ·have:=Qw.1 S.ord _ _ b1 c1 k;rw[b2,c2] at this;rw[y9j h] at this;cases this
theorem yu8:yu7 f p t<=f.length:=List.countP_le_length
structure Mid(l:Ls)(lo hi:Nat):Prop where
 ck:okK l.ck
 perm:l.ord.Perm (l.ck.f.map (·.1))
 nl:l.num.length=l.ord.length-1
 le:lo<=hi
 hl:hi<=l.num.length
 cl:l.ck.ct.list.length+(hi-lo)=l.num.length
 certs:∀k,k<l.num.length->(k<lo\/hi<=k)->(l.num.getD k 0,yn6 l.ord k)∈l.ck.ct.list
 desc:∀j i,i<j->j<l.ord.length->xb1 (ptL l j) l.ck.now<=xb1 (ptL l i) l.ck.now
theorem Mid.done(m:Mid l k k):okM l:=⟨m.ck,m.perm,m.nl,by have:=m.cl;omega,λi hi=>m.certs i hi (by omega),λi j h1 h2=>m.desc j i h1 h2⟩
theorem Mid.other(m:Mid l lo hi)(hi':i<l.num.length)(hj:j<l.num.length)(oi:i<lo\/hi<=i)(oj:j<lo\/hi<=j)(hne:i≠j):l.num.getD i 0≠l.num.getD j 0:=λh=>by
 have a:=m.certs i hi' oi;have b:=m.certs j hj oj;rw[h] at a;have nl:=m.nl;exact hne (ynh (ypb m.ck.f m.perm) (by omega) (by omega) (m.ck.ct.uniq a b))
theorem Mid.goneLo(m:Mid l lo hi)(h:0<lo):Mid ⟨y3q l.ck (l.num.getD (lo-1) 0),l.ord,l.num⟩ (lo-1) hi:=by
 obtain⟨c1,c2,c3⟩:=y3r l.ck (l.num.getD (lo-1) 0);have le:=m.le;have hl:=m.hl;have cl:=m.cl;have hm:=m.certs (lo-1) (by omega) (.inl (by omega));have wc:=xcf m.ck.ct hm;refine⟨(m.ck.gone _).1,by rw[show (y3q l.ck (l.num.getD (lo-1) 0)).f=l.ck.f from c2];exact m.perm,m.nl,by omega,hl,?_,λk hk ho=>?_,λj i hij hj=>?_⟩
 ·show (y3q l.ck (l.num.getD (lo-1) 0)).ct.list.length+_=l.num.length;rw[c1];omega
 ·show _∈(y3q l.ck (l.num.getD (lo-1) 0)).ct.list;have hk:k<l.num.length:=hk;rw[c1];exact xch.2 ⟨m.certs k hk (by omega),m.other hk (by omega) (by omega) (by omega) (by omega)⟩
 ·have:=m.desc j i hij hj;unfold ptL at this ⊢;simp only;rw[c2,c3];exact this
theorem Mid.goneHi(m:Mid l lo hi)(h:hi<l.num.length):Mid ⟨y3q l.ck (l.num.getD hi 0),l.ord,l.num⟩ lo (hi+1):=by
 obtain⟨c1,c2,c3⟩:=y3r l.ck (l.num.getD hi 0);have le:=m.le;have hl:=m.hl;have cl:=m.cl;have hm:=m.certs hi (by omega) (.inr (by omega));have wc:=xcf m.ck.ct hm;refine⟨(m.ck.gone _).1,by rw[show (y3q l.ck (l.num.getD hi 0)).f=l.ck.f from c2];exact m.perm,m.nl,by omega,h,?_,λk hk ho=>?_,λj i hij hj=>?_⟩
 ·show (y3q l.ck (l.num.getD hi 0)).ct.list.length+_=l.num.length;rw[c1];omega
 ·show _∈(y3q l.ck (l.num.getD hi 0)).ct.list;have hk:k<l.num.length:=hk;rw[c1];exact xch.2 ⟨m.certs k hk (by omega),m.other hk (by omega) (by omega) (by omega) (by omega)⟩
 ·have:=m.desc j i hij hj;unfold ptL at this ⊢;simp only;rw[c2,c3];exact this
theorem Mid.swap(m:Mid l lo hi)(hi':i+1<l.ord.length)(h1:lo+1<=i\/lo=0)(h2:i+2<=hi\/hi=l.num.length)(h3:lo<=i)(h4:i+1<=hi)(hv:xb1 (ptL l i) l.ck.now=xb1 (ptL l (i+1)) l.ck.now):Mid ⟨l.ck,x76 l.ord i,l.num⟩ lo hi:=by
  have hl:=x78 l.ord i;have nl:=m.nl;have hlm:=m.hl;refine⟨m.ck,(x79 hi').trans m.perm,by rw[hl];exact nl,m.le,m.hl,m.cl,λk hk ho=>?_,λb a hab hb0=>?_⟩
  · have hk:k<l.num.length:=hk
    have e:yn6 (x76 l.ord i) k=yn6 l.ord k:=by
      unfold yn6;rw[x77 hi',x77 hi',Zn (by omega),Zn (by omega),Zn (by omega),Zn (by omega)]
    show (l.num.getD k 0,yn6 (x76 l.ord i) k)∈_;rw[e];exact m.certs k hk ho
  · have hb:b<l.ord.length:=by have:b<(x76 l.ord i).length:=hb0
                               omega
    have pe:∀k,ptL ⟨l.ck,x76 l.ord i,l.num⟩ k=if k=i then ptL l (i+1) else if k=i+1 then ptL l i else ptL l k:=λk=>by
      unfold ptL;simp only;rw[x77 hi'];split
      · rfl
      · split <;> rfl
    rw[pe,pe];show xb1 (if b=i then _ else _) l.ck.now<=xb1 (if a=i then _ else _) l.ck.now;by_cases ha:a=i
    · subst ha
      rw[Zn (by omega),Zp rfl];by_cases hb2:b=a+1
      · rw[Zp hb2,hv];exact Ql _
      · rw[Zn hb2];exact m.desc b (a+1) (by omega) hb
    · rw[Zn ha]
      by_cases ha2:a=i+1
      · rw[Zn (by omega),Zn (by omega),Zp ha2];exact m.desc b i (by omega) hb
      · rw[Zn ha2]
        by_cases hb2:b=i
        · rw[Zp hb2];exact m.desc (i+1) a (by omega) hi'
        · rw[Zn hb2]
          by_cases hb3:b=i+1
          · rw[Zp hb3];exact m.desc i a (by omega) (by omega)
          · rw[Zn hb3];exact m.desc b a hab hb
theorem Mid.make(m:Mid l lo hi)(h:lo<hi)(hz:(yby l lo).2=0):Mid (yby l lo).1 (lo+1) hi/\(yby l lo).1.ck.f=l.ck.f/\(yby l lo).1.ck.now=l.ck.now/\(yby l lo).1.ord=l.ord/\(yby l lo).1.num.length=l.num.length:=by
 have hlm:=m.hl;have nl:=m.nl;have cl:=m.cl;have p1:0<=yr5 l.ck.f (yn6 l.ord lo).1:=ypf m.ck.f m.perm (ydn (by omega));have p2:0<=yr5 l.ck.f (yn6 l.ord lo).2:=ypf m.ck.f m.perm (ydn (by omega));unfold yby at hz ⊢;split at hz
 ·rename_i he;rw[Zp he];obtain⟨a1,a2,a3,a4,a5⟩:=m.ck.add p1 p2 he;refine⟨⟨a1,?_,?_,by omega,?_,?_,λk hk ho=>?_,λj i hij hj=>?_⟩,a4,a5,rfl,Qm ..⟩
  ·show l.ord.Perm ((z3k l.ck (yn6 l.ord lo)).1.f.map (·.1));rw[a4];exact m.perm
  ·show (l.num.set _ _).length=_;rw[Qm];exact nl
  ·show hi<=(l.num.set _ _).length;rw[Qm];exact hlm
  ·show (z3k l.ck (yn6 l.ord lo)).1.ct.list.length+_=(l.num.set _ _).length;rw[a3,Qm,List.length_append];show _+1+_=_;omega
  ·have hk:k<(l.num.set lo (z3k l.ck (yn6 l.ord lo)).2.1).length:=hk;rw[Qm] at hk;show ((l.num.set lo (z3k l.ck (yn6 l.ord lo)).2.1).getD k 0,yn6 l.ord k)∈(z3k l.ck (yn6 l.ord lo)).1.ct.list;rw[a3,Qn,Qy];by_cases e:lo=k
   ·subst e;rw[Zp rfl,Zp hk,a2];exact List.mem_append_right _ (List.mem_singleton.2 rfl)
   ·rw[Zn e,← Qn];exact List.mem_append_left _ (m.certs k hk (by omega))
  ·have:=m.desc j i hij hj;unfold ptL at this ⊢;simp only;rw[a4,a5];exact this
 ·rename_i he;exact absurd hz he
def yc6(l:Ls)(a:Nat):Nat->Ls×Int
 | 0=>(l,0)
 | n+1=>if (yc6 l a n).2=0 then yby (yc6 l a n).1 (a+n) else yc6 l a n
theorem Mid.makes{l:Ls}{lo hi:Nat}(m:Mid l lo hi):∀n,lo+n<=hi->(yc6 l lo n).2=0->Mid (yc6 l lo n).1 (lo+n) hi/\(yc6 l lo n).1.ck.f=l.ck.f/\(yc6 l lo n).1.ck.now=l.ck.now/\(yc6 l lo n).1.ord=l.ord/\(yc6 l lo n).1.num.length=l.num.length
 | 0,_,_=>⟨m,rfl,rfl,rfl,rfl⟩
 | n+1,hn,hz=>by
  have e:yc6 l lo (n+1)=if (yc6 l lo n).2=0 then yby (yc6 l lo n).1 (lo+n) else yc6 l lo n:=rfl;rw[e] at hz ⊢;by_cases h0:(yc6 l lo n).2=0
  ·rw[Zp h0] at hz ⊢;obtain⟨a1,a2,a3,a4,a5⟩:=m.makes n (by omega) h0;obtain⟨b1,b2,b3,b4,b5⟩:=a1.make (by omega) hz;exact⟨b1,b2.trans a2,b3.trans a3,b4.trans a4,b5.trans a5⟩
  ·rw[Zn h0] at hz;exact absurd hz h0
def goneIf(c:Ck)(b:Bool)(n:Int):Ck:=if b=true then y3q c n else c
def x6t(l:Ls)(i:Nat):Ck:=goneIf (goneIf (zxc l.ck) (decide (0<i)) (l.num.getD (i-1) 0)) (decide (i+1<l.num.length)) (l.num.getD (i+1) 0)
def x71(l:Ls)(i:Nat):Ls×Int:=yc6 ⟨x6t l i,x76 l.ord i,l.num⟩ (i-1) (min (i+2) l.num.length-(i-1))
def x9s(l:Ls):Int×Int:=(y2r l.ck.ct.list (atC l.ck.ct (hp l.ck.ag.heap 0).no)).2
def rkT(f:List Pt)(to:Int×Int)(x:Int):Nat:=yu7 f (gP f (yr5 f x)) to
structure z2d(l:Ls)(to:Int×Int)(i:Nat):Prop where
 lt:i<l.num.length
 pair:x9s l=yn6 l.ord i
 pos:yrt l.ord (x9s l).2=i
 mid:Mid ⟨x6t l i,x76 l.ord i,l.num⟩ (i-1) (min (i+2) l.num.length)
 f:(x6t l i).f=l.ck.f
 now:(x6t l i).now=(hp l.ck.ag.heap 0).at_
 okn:okR (hp l.ck.ag.heap 0).at_
 le:leR (hp l.ck.ag.heap 0).at_ to
 grow:phi (rkT l.ck.f to) 0 l.ord<phi (rkT l.ck.f to) 0 (x76 l.ord i)
 rk:rkT l.ck.f to (l.ord.getD (i+1) 0)<rkT l.ck.f to (l.ord.getD i 0)
 held0:okK (zxc l.ck)
 held1:0<i->0<=atC (zxc l.ck).ct (l.num.getD (i-1) 0)
 held2:i+1<l.num.length->okK (goneIf (zxc l.ck) (decide (0<i)) (l.num.getD (i-1) 0))/\0<=atC (goneIf (zxc l.ck) (decide (0<i)) (l.num.getD (i-1) 0)).ct (l.num.getD (i+1) 0)
theorem x7c(w:okM l)(ot:okR to)(hw:xbo l.ck to=true):∃i,z2d l to i:=by
 have nl:=w.nl;unfold xbo at hw;rw[Qa,Zq,Zq] at hw;obtain⟨h0,hle⟩:=hw;have hle:=zpb.1 hle;obtain⟨ps,ev⟩:=w.ck.evs;obtain⟨f1,f2,f3,f4⟩:=w.ck.failed h0 ev;obtain⟨i,hi,hno,hF⟩:=w.event (y57 h0);have hm:=w.certs i hi;obtain⟨g1,g2,g3⟩:=y3r l.ck (hp l.ck.ag.heap 0).no;have lv:=w.level hi hF;have pairE:x9s l=yn6 l.ord i:=by
  unfold x9s;rw[← hno,(w.ck.ct.at_mem hm).2.2]
 have fct:(zxc l.ck).ct=xce l.ck.ct (l.num.getD i 0):=by rw[hno];exact g1
 have ff:(zxc l.ck).f=l.ck.f:=g2;have fn:(zxc l.ck).now=(hp l.ck.ag.heap 0).at_:=rfl;have wc:=xcf w.ck.ct hm;have cl:=w.cl;have M0:Mid ⟨zxc l.ck,l.ord,l.num⟩ i (i+1):=by
  refine⟨f1,by show l.ord.Perm ((zxc l.ck).f.map (·.1));rw[ff];exact w.perm,nl,by omega,hi,?_,λk hk ho=>?_,λj a haj hj=>?_⟩
  ·show (zxc l.ck).ct.list.length+_=l.num.length;rw[fct];omega
  ·have hk:k<l.num.length:=hk;show _∈(zxc l.ck).ct.list;rw[fct];exact xch.2 ⟨w.certs k hk,λe=>by have:=w.numInj hk hi e;omega⟩
  ·have:=w.descAt h0 j a haj hj;unfold ptL at this ⊢;simp only;rw[ff,fn];exact this
 have hnum:∀{b:Bool}{n:Int}{c:Ck},(goneIf c b n).f=c.f/\(goneIf c b n).now=c.now:=λ{b n c}=>by
  unfold goneIf;split
  ·exact(y3r c n).2
  ·exact⟨rfl,rfl⟩
 have M1:Mid ⟨goneIf (zxc l.ck) (decide (0<i)) (l.num.getD (i-1) 0),l.ord,l.num⟩ (i-1) (i+1):=by
  unfold goneIf;by_cases h:0<i
  ·rw[Zp (Zu h)];exact M0.goneLo h
  ·rw[Zn (by rw[Zv h];simp)];rw[show i-1=i by omega];exact M0
 have M2:Mid ⟨x6t l i,l.ord,l.num⟩ (i-1) (min (i+2) l.num.length):=by
  unfold x6t;by_cases h:i+1<l.num.length
  ·rw[show min (i+2) l.num.length=i+1+1 by omega];have:=M1.goneHi h;unfold goneIf at this ⊢;rw[Zu h,Zp rfl];exact this
  ·rw[show min (i+2) l.num.length=i+1 by omega,Zv h];exact M1
 have sf:(x6t l i).f=l.ck.f:=by unfold x6t;rw[hnum.1,hnum.1,ff]
 have sn:(x6t l i).now=(hp l.ck.ag.heap 0).at_:=by unfold x6t;rw[hnum.2,hnum.2,fn]
 have val:xb1 (ptL l i) (hp l.ck.ag.heap 0).at_=xb1 (ptL l (i+1)) (hp l.ck.ag.heap 0).at_:=by
  have:=lv.1;rw[zxj] at this;omega
 have M3:=M2.swap (i:=i) (by show i+1<l.ord.length;omega) (by omega) (by show i+2<=_\/_=l.num.length;omega) (by omega) (by omega) (by
  unfold ptL at val ⊢;simp only;rw[sf,sn];exact val)
 have ptm:=λk (hk:k<l.ord.length)=>w.pt hk
 have rkh:rkT l.ck.f to (l.ord.getD (i+1) 0)<rkT l.ck.f to (l.ord.getD i 0):=by
  have la:=y9i f4.d1 ot.d1 hle lv.1 lv.2;exact yu9 w.ck.f (ptm i (by omega)).2.1 (ptm (i+1) (by omega)).2.1 la
 refine⟨i,hi,pairE,?_,M3,sf,sn,f4,hle,ypl _ (by omega) rkh,rkh,f1,λh=>?_,λh=>⟨M1.ck,?_⟩⟩
 ·rw[pairE];exact yrw w.ne (by omega)
 ·exact(f1.ct.at_mem (M0.certs (i-1) (by show i-1<l.num.length;omega) (.inl (by omega)))).1
 ·exact(M1.ck.ct.at_mem (M1.certs (i+1) h (.inr (by omega)))).1
theorem z2d.after(s:z2d l to i)(hz:(x71 l i).2=0):okM (x71 l i).1/\(x71 l i).1.ck.f=l.ck.f/\(x71 l i).1.ck.now=(hp l.ck.ag.heap 0).at_/\(x71 l i).1.ord=x76 l.ord i/\(x71 l i).1.num.length=l.num.length:=by
 have le:=s.mid.le;obtain⟨a1,a2,a3,a4,a5⟩:=s.mid.makes _ (by omega) hz;rw[show i-1+(min (i+2) l.num.length-(i-1))=min (i+2) l.num.length by omega] at a1;exact⟨a1.done,a2.trans s.f,a3.trans s.now,a4,a5⟩
def ys3(l:Ls)(to:Int×Int):Nat:=l.ord.length*(l.ord.length*l.ck.f.length)-phi (rkT l.ck.f to) 0 l.ord
theorem ys5(s:z2d l to i)(hz:(x71 l i).2=0):ys3 (x71 l i).1 to<ys3 l to:=by
 obtain⟨_,a2,_,a4,_⟩:=s.after hz;unfold ys3;rw[a2,a4,x78];have g:=s.grow;have b:=ypk (rkT l.ck.f to) (n:=l.ck.f.length) (x76 l.ord i) 0 λx _=>yu8
 rw[x78,Nat.zero_add] at b;omega
def x9p(l:Ls):Nat:=(yrt l.ord (x9s l).2).toNat
theorem z2d.top(s:z2d l to i):x9p l=i:=by unfold x9p;rw[s.pos];rfl
def z47(to:Int×Int):Nat->Ls->Ls×Int×Int
 | 0,l=>(l,0,0)
 | k+1,l=>if xbo l.ck to=true then (if (x71 l (x9p l)).2=0 then (if (z47 to k (x71 l (x9p l)).1).2.2=0 then ((z47 to k (x71 l (x9p l)).1).1,(z47 to k (x71 l (x9p l)).1).2.1+1,0) else (.zero,0,(z47 to k (x71 l (x9p l)).1).2.2)) else (.zero,0,(x71 l (x9p l)).2)) else (l,0,0)
theorem z48{to:Int×Int}(ot:okR to):∀(k k':Nat)(l:Ls),okM l->ys3 l to<k->ys3 l to<k'->z47 to k l=z47 to k' l
 | 0,_,_,_,h,_=>by omega
 | _+1,0,_,_,_,h=>by omega
 | k+1,k'+1,l,w,h,h'=>by
  unfold z47;by_cases hw:xbo l.ck to=true
  ·rw[Zp hw,Zp hw];obtain⟨i,s⟩:=x7c w ot hw;rw[s.top];by_cases hz:(x71 l i).2=0
   ·have pl:=ys5 s hz;rw[Zp hz,Zp hz,z48 ot k k' _ (s.after hz).1 (by omega) (by omega)]
   ·rw[Zn hz,Zn hz]
  ·rw[Zn hw,Zn hw]
def z4g(l:Ls)(to:Int×Int):Ls×Int×Int:=z47 to (ys3 l to+1) l
theorem z4k(hw:xbo l.ck to=false):z4g l to=(l,0,0):=by
 unfold z4g z47;rw[Zn (by rw[hw];simp)]
theorem z4h(hw:xbo l.ck to=true)(s:z2d l to i)(hz:(x71 l i).2≠0):z4g l to=(.zero,0,(x71 l i).2):=by
 unfold z4g z47;rw[Zp hw,s.top,Zn hz]
theorem z4j(w:okM l)(ot:okR to)(hw:xbo l.ck to=true)(s:z2d l to i)(hz:(x71 l i).2=0) :
  z4g l to=if (z4g (x71 l i).1 to).2.2=0 then ((z4g (x71 l i).1 to).1,(z4g (x71 l i).1 to).2.1+1,0) else (.zero,0,(z4g (x71 l i).1 to).2.2):=by
 have pl:=ys5 s hz;have e:z47 to (ys3 l to) (x71 l i).1=z4g (x71 l i).1 to:=z48 ot _ _ _ (s.after hz).1 pl (Nat.lt_succ_self _);have:z4g l to=if xbo l.ck to=true then (if (x71 l (x9p l)).2=0 then (if (z47 to (ys3 l to) (x71 l (x9p l)).1).2.2=0 then ((z47 to (ys3 l to) (x71 l (x9p l)).1).1,(z47 to (ys3 l to) (x71 l (x9p l)).1).2.1+1,0) else (.zero,0,(z47 to (ys3 l to) (x71 l (x9p l)).1).2.2)) else (.zero,0,(x71 l (x9p l)).2)) else (l,0,0):=rfl;rw[this,Zp hw,s.top,Zp hz,e]
theorem zl1{s:List Pt}(h:∀k p q,s[k]?=some p->s[k+1]?=some q->leads p q t=true):s.Pairwise λp q=>leads p q t=true:=by
 rw[Qw];intro i j hi hj hij;obtain⟨d,rfl⟩:∃d,j=i+1+d:=⟨j-(i+1),by omega⟩;induction d with
 | zero=>exact h i _ _ (Qv hi) (Qv hj)
 | succ d ih =>
  have a:=ih (by omega) (by omega);have b:=h (i+1+d) _ _ (Qv (by omega)) (Qv hj);exact y9s a b
theorem okM.moved(w:okM l)(hu:xaf l.ck to=0)(hw:xbo l.ck to=false):yk9 ⟨{ l.ck with now:=to },l.ord,l.num⟩:=by
 obtain⟨_,ot,hle⟩:=xai.1 hu;obtain⟨ps,e⟩:=w.ck.evs;obtain⟨m1,m2⟩:=okK.move hu hw e;have nl:=w.nl;have lp:=w.perm.length_eq;rw[Qt] at lp;have nb:∀k,k+1<l.ord.length->leads (ptL l k) (ptL l (k+1)) to=true:=λk hk=>by
  have p1:=(w.pt (k:=k) (by omega)).1;have p2:=(w.pt (k:=k+1) hk).1;have hne:=w.ptNe (i:=k) (j:=k+1) (by omega) (by omega) hk;cases hF:zx5 (ptL l k) (ptL l (k+1)) l.ck.now with
  | none=>exact(zx9 hne w.ck.now ot hF hle).1
  | some s =>
   obtain⟨x,hx,hat⟩:=w.meets (i:=k) (by omega) hF;have l1:=y98 (w.ck.top hx);rw[hat] at l1;have h0:0<l.ck.ag.heap.length:=List.length_pos_of_mem hx;have o1:okR (hp l.ck.ag.heap 0).at_:=(w.ck.ag.each _ (y57 h0)).1;have os:=zxa p1 p2 w.ck.now hF;refine zx7 p1 p2 hne w.ck.now hF hle λh=>?_
   have h2:=y9b o1 os ot l1 h;unfold xbo at hw;rw[Zu h0,Bool.true_and,Zt,zpb] at hw;exact hw h2
 have S:z27 l.ck.f to ((Qr l.ord.length).map (ptL l)):=by
  have em:((Qr l.ord.length).map (ptL l)).map (·.1)=l.ord:=by
   apply Q2;intro k;rw[Qo,Qo];by_cases hk:k<l.ord.length
   ·rw[Qu hk];have:=y36 (xs:=l.ord) (i:=(k:Int)) (by omega) (by omega);rw[Qb] at this;rw[this];show some (ptL l k).1=_;rw[(w.pt hk).2.2]
   ·rw[Qq (by simpa using hk),Qq (by omega)];rfl
  refine z27.of (yk2 w.ck.f) ?_ ?_
  ·have h1:(((Qr l.ord.length).map (ptL l)).map (·.1)).Perm (l.ck.f.map (·.1)):=by rw[em];exact w.perm
   have back:∀(s:List Pt),(∀p∈s,p∈l.ck.f)->(s.map (·.1)).map (λx=>gP l.ck.f (yr5 l.ck.f x))=s:=λs hs=>by
    rw[List.map_map];conv=>rhs;rw[← List.map_id s]
    exact List.map_congr_left λp hp=>y1e w.ck.f (hs p hp)
   have h2:=h1.map (λx=>gP l.ck.f (yr5 l.ck.f x));rw[back _ (λp hp=>hp),back] at h2
   ·exact h2
   ·intro p hp;obtain⟨k,hk,rfl⟩:=Q1.1 hp;exact(w.pt (List.mem_range.1 hk)).2.1
  ·refine(zl1 (t:=to) λk p q hk hq=>?_).imp λh=>y9j h
   rw[Qo] at hk hq;have hk1:k+1<l.ord.length:=by
    by_cases h:k+1<l.ord.length
    ·exact h
    ·rw[Qq (by simpa using h)] at hq;cases hq
   rw[Qu (by omega)] at hk;rw[Qu hk1] at hq;have e1:ptL l k=p:=Q9.inj hk;have e2:ptL l (k+1)=q:=Q9.inj hq;rw[← e1,← e2];exact nb k hk1
 have eo:l.ord=yll l.ck.f to:=by
  unfold yll;rw[← S.eq (x4o (yk2 w.ck.f) to) (yk2 w.ck.f)];apply Q2;intro k;rw[Qo,Qo];by_cases hk:k<l.ord.length
  ·rw[Qu hk];have:=y36 (xs:=l.ord) (i:=(k:Int)) (by omega) (by omega);rw[Qb] at this;rw[this];show _=some (ptL l k).1;rw[(w.pt hk).2.2]
  ·rw[Qq (show l.ord.length<=k by omega),Qq (show (Qr l.ord.length).length<=k by simpa using hk)];rfl
 exact yk9.of m1 eo nl w.cl λk hk=>(zcq w.ck.ct).2 (w.certs k hk)
theorem zzk(ck:okK l.ck)(hp:l.ord.Perm (l.ck.f.map (·.1)))(nl:l.num.length=l.ord.length-1):zzh l:=by
 have a:=ck.f.small;have b:=hp.length_eq;rw[Qt] at b;exact⟨ck.fit,by omega,by omega⟩
theorem Mid.fit(m:Mid l lo hi):zzh l:=zzk m.ck m.perm m.nl
theorem okM.fit(w:okM l):zzh l:=zzk w.ck w.perm w.nl
theorem Mid.small(m:Mid l lo hi):l.ord.length<=64:=by
 have a:=m.ck.f.len;have b:=m.perm.length_eq;rw[Qt] at b;omega
theorem Mid.certify(m:Mid l lo hi)(h:i<l.num.length):zd7 l.ck (yn6 l.ord i)=z3k l.ck (yn6 l.ord i):=by
 have nl:=m.nl;have p1:0<=yr5 l.ck.f (yn6 l.ord i).1:=ypf m.ck.f m.perm (ydn (by omega));have p2:0<=yr5 l.ck.f (yn6 l.ord i).2:=ypf m.ck.f m.perm (ydn (by omega));have hne:(yn6 l.ord i).1≠(yn6 l.ord i).2:=λe=>by
  have d:=ypb m.ck.f m.perm;have a1:=yrw d (k:=i+1) (by omega);have a2:=yrw d (k:=i) (by omega);have e:l.ord.getD (i+1) 0=l.ord.getD i 0:=e;rw[e,a2] at a1;omega
 have q1:=m.ck.f.pt p1;have q2:=m.ck.f.pt p2;have r1:=(yra p1).2.2;have r2:=(yra p2).2.2;have a1:=q1.i0;have a2:=q1.i1;have a3:=q2.i0;have a4:=q2.i1;rw[r1] at a1 a2;rw[r2] at a3 a4;have hv:xb5 (yn6 l.ord i)=true:=by
  unfold xb5;simp only[Qa,Zq,bne_iff_ne,ne_eq];omega
 unfold zd7;rw[Zp ⟨m.ck,hv⟩,Zn (by omega)]
theorem yc0(h:(yby l i).2≠0):(yby l i).1=.zero:=by
 unfold yby at h ⊢;split
 ·rename_i h2;rw[Zp h2] at h;exact absurd rfl h
 ·rfl
theorem yca{l:Ls}{a:Nat}:∀n,(yc6 l a n).2≠0->(yc6 l a n).1=.zero
 | 0,h=>absurd rfl h
 | n+1,h=>by
  have e:yc6 l a (n+1)=if (yc6 l a n).2=0 then yby (yc6 l a n).1 (a+n) else yc6 l a n:=rfl;rw[e] at h ⊢;by_cases h0:(yc6 l a n).2=0
  ·rw[Zp h0] at h ⊢;exact yc0 h
  ·rw[Zn h0] at h ⊢;exact yca n h
theorem yc7{l:Ls}{a n:Nat}(h:(yc6 l a n).2≠0):∀m,n<=m->yc6 l a m=yc6 l a n
 | 0,hm=>by rw[show n=0 by omega]
 | m+1,hm=>by
  by_cases e:n=m+1
  ·rw[e]
  ·have ih:=yc7 h m (by omega);show (if (yc6 l a m).2=0 then yby (yc6 l a m).1 (a+m) else yc6 l a m)=_;rw[ih,Zn h]
def z3u(n:Int)(r:Ls×Int×Int):Ls×Int×Int:=if r.2.2=0 then (r.1,r.2.1+n,0) else (.zero,0,r.2.2)
theorem z3v{r:Ls×Int×Int}:z3u n (z3u 1 r)=z3u (n+1) r:=by
 unfold z3u;by_cases h:r.2.2=0
 ·rw[Zp h,Zp h,Zp rfl];show (r.1,r.2.1+1+n,(0:Int))=_;rw[show r.2.1+1+n=r.2.1+(n+1) by omega]
 ·rw[Zn h,Zn h,Zn h]
theorem z4i(w:okM l)(ot:okR to)(hw:xbo l.ck to=true)(s:z2d l to i)(hz:(x71 l i).2=0):z4g l to=z3u 1 (z4g (x71 l i).1 to):=z4j w ot hw s hz
structure z02(l0:Ls)(to:Int×Int)(n:Int)(l:Ls):Prop where
 m:okM l
 u:xaf l.ck to=0
 e:z4g l0 to=z3u n (z4g l to)
 n0:0<=n
 pot:n+ys3 l to<=ys3 l0 to
 f:l.ck.f=l0.ck.f
theorem z4l:∀k (l:Ls),(z47 to k l).2.2≠0->(z47 to k l).1=.zero/\(z47 to k l).2.1=0
 | 0,l,h=>absurd rfl h
 | k+1,l,h=>by
  unfold z47 at h ⊢;by_cases h1:xbo l.ck to=true
  ·rw[Zp h1] at h ⊢;by_cases h2:(x71 l (x9p l)).2=0
   ·rw[Zp h2] at h ⊢;by_cases h3:(z47 to k (x71 l (x9p l)).1).2.2=0
    ·rw[Zp h3] at h;exact absurd rfl h
    ·rw[Zn h3];exact⟨rfl,rfl⟩
   ·rw[Zn h2];exact⟨rfl,rfl⟩
  ·rw[Zn h1] at h;exact absurd rfl h
theorem z02.start(ok:yk9 l)(hu:xaf l.ck to=0):z02 l to 0 l:=by
 refine⟨ok.weak,hu,?_,Ql _,by omega,rfl⟩;unfold z3u;by_cases h:(z4g l to).2.2=0
 ·rw[Zp h,Int.add_zero,← h]
 ·rw[Zn h];obtain⟨h1,h2⟩:=z4l _ _ h;exact Prod.ext h1 (Prod.ext h2 rfl)
theorem z02.next(a:z02 l0 to n l)(hw:xbo l.ck to=true)(s:z2d l to i)(hz:(x71 l i).2=0):z02 l0 to (n+1) (x71 l i).1/\ys3 (x71 l i).1 to<ys3 l to:=by
 obtain⟨ok,ot,hle⟩:=xai.1 a.u;obtain⟨b1,b2,b3,b4,b5⟩:=s.after hz;have pl:=ys5 s hz;have n0:=a.n0;have hp:=a.pot;refine⟨⟨b1,?_,?_,by omega,by omega,b2.trans a.f⟩,pl⟩
 ·refine xai.2 ⟨b1.ck,ot,?_⟩;rw[b3];exact s.le
 ·rw[a.e,z4i a.m ot hw s hz,z3v]
theorem z02.stop(a:z02 l0 to n l)(hw:xbo l.ck to=false):z4g l0 to=(l,n,0):=by
 rw[a.e,z4k hw];unfold z3u;rw[Zp rfl,Qg]
theorem z02.fail(a:z02 l0 to n l)(hw:xbo l.ck to=true)(s:z2d l to i)(hz:(x71 l i).2≠0):z4g l0 to=(.zero,0,(x71 l i).2):=by
 rw[a.e,z4h hw s hz];unfold z3u;rw[Zn hz]
def yfl(l:Ls)(to:Int×Int):Ls:=⟨{ l.ck with now:=to },l.ord,l.num⟩
def z49(l:Ls)(to:Int×Int):Ls×Int×Int:=if yk9 l then (if xaf l.ck to=0 then (if (z4g l to).2.2=0 then (yfl (z4g l to).1 to,(z4g l to).2.1,0) else (.zero,0,(z4g l to).2.2)) else (.zero,0,xaf l.ck to)) else (.zero,0,8)
theorem ys4(w:okM l)(to:Int×Int):ys3 l to<=262144:=by
 have a:=w.ck.f.len;have b:=w.perm.length_eq;rw[Qt] at b;unfold ys3;have h1:l.ord.length*l.ck.f.length<=64*64:=Q5 (by omega) (by omega);have h2:l.ord.length*(l.ord.length*l.ck.f.length)<=64*(64*64):=Q5 (by omega) h1;omega
