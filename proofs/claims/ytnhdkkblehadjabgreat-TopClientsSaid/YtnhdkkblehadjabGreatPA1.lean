/- The engine, parts AV, AW, AX, AY, put together. Conditions: none. -/
import Derived.Test.YtnhdkkblehadjabGreatPN2
set_option linter.unusedVariables false
section
/- A list in the middle of an advance: what a swap does, and that swaps end. Conditions: none. -/
set_option maxRecDepth 100000
open Go Go.Eng Go.Proofs
namespace Go.Proofs.YtnhdkkblehadjabGreat

/-! ### Certificates by their numbers -/
theorem _root_.Go.Eng.okC.uniq{ct:Ct}(ok:okC ct){n:Int}{x y:Int×Int}(hx:(n,x)∈ct.list)(hy:(n,y)∈ct.list):x=y:=by
 obtain⟨i,hi⟩:=List.mem_iff_getElem?.1 hx
 obtain⟨j,hj⟩:=List.mem_iff_getElem?.1 hy
 obtain⟨i1,i2⟩:=List.getElem?_eq_some_iff.1 hi
 obtain⟨j1,j2⟩:=List.getElem?_eq_some_iff.1 hj
 have hp:=List.pairwise_iff_getElem.1 ok.ok.inc
 rcases Nat.lt_trichotomy i j with k|k|k
 ·have:=hp i j i1 j1 k;rw[i2,j2] at this;exact absurd this (Int.lt_irrefl _)
 ·subst k;rw[hi] at hj;exact congrArg Prod.snd (Option.some.inj hj)
 ·have:=hp j i j1 i1 k;rw[i2,j2] at this;exact absurd this (Int.lt_irrefl _)
theorem _root_.Go.Eng.okC.at_mem{ct:Ct}(ok:okC ct){n:Int}{x:Int×Int}(hx:(n,x)∈ct.list):0<=atC ct n/\atC ct n<ct.list.length/\y01 ct.list (atC ct n)=(n,x):=by
 have h0:0<=atC ct n:=by
  by_cases h:atC ct n<0
  ·have:=y3n h _ hx
   simp at this
  ·omega
 obtain⟨h1,y,h2,h3⟩:=z8i h0
 refine⟨h0,h1,?_⟩
 have:y01 ct.list (atC ct n)=y:=by unfold y01;rw[List.getD_eq_getElem?_getD,h2];rfl
 rw[this]
 have hm:(n,y.2)∈ct.list:=by rw[← h3];exact List.mem_of_getElem? h2
 exact Prod.ext h3 (ok.uniq hm hx)
theorem x8k{ct:Ct}{n m:Int}{x:Int×Int}:(m,x)∈(x8h ct n).list↔(m,x)∈ct.list/\m≠n:=by
 unfold x8h
 rw[List.mem_filter]
 simp
theorem x8i{ct:Ct}(ok:okC ct){n:Int}{x:Int×Int}(hx:(n,x)∈ct.list):(x8h ct n).list.length+1=ct.list.length:=by
 have a:=(ok.at_mem hx).1
 have:(zzx ct n).2=0:=by unfold zzx;rw[if_pos ok,if_neg (by omega)]
 have:=x8j this
 omega
theorem zd7{ct:Ct}(ok:okC ct){o num:List Int}{k:Nat}:zd5 ct o num k=true↔(num.getD k 0,ykb o k)∈ct.list:=by
 unfold zd5
 simp only[Bool.and_eq_true,decide_eq_true_eq,beq_iff_eq]
 constructor
 ·intro ⟨h1,h2⟩
  obtain⟨_,y,h3,h4⟩:=z8i h1
  have e:y01 ct.list (atC ct (num.getD k 0))=y:=by unfold y01;rw[List.getD_eq_getElem?_getD,h3];rfl
  rw[e] at h2
  have:=List.mem_of_getElem? h3
  rw[← h2,← h4];exact this
 ·intro h
  obtain⟨a,_,b⟩:=ok.at_mem h
  exact⟨a,by rw[b]⟩

/-! ### A list in the middle -/
structure okM(l:Ls):Prop where
 ck:okK l.ck
 perm:l.ord.Perm (l.ck.f.map (·.1))
 nl:l.num.length=l.ord.length-1
 cl:l.ck.ct.list.length=l.num.length
 certs:∀k,k<l.num.length->(l.num.getD k 0,ykb l.ord k)∈l.ck.ct.list
 desc:∀i j,i<j->j<l.ord.length->x74 (ptL l j) l.ck.now<=x74 (ptL l i) l.ck.now
theorem yh6.weak{l:Ls}(ok:yh6 l):okM l:=by
 refine⟨ok.ck,?_,ok.nl,ok.cl,λk hk=>(zd7 ok.ck.ct).1 (ok.cert hk),λi j hij hj=>ok.val hij hj⟩
 rw[ok.ord]
 exact(yzw l.ck.now l.ck.f).map _
theorem ylv{f:List Pt}(of:okF f){o:List Int}(hp:o.Perm (f.map (·.1))){x:Int}(hx:x∈o):0<=ynk f x:=by
 obtain⟨p,h1,h2⟩:=List.mem_map.1 (hp.mem_iff.1 hx)
 by_cases h:ynk f x<0
 ·have:=y3n h p h1
  simp at this
  exact absurd h2 this
 ·omega
theorem ylr{f:List Pt}(of:okF f){o:List Int}(hp:o.Perm (f.map (·.1))):o.Pairwise (·≠·) :=
 hp.symm.pairwise (List.pairwise_map.2 (ygy of)) λh=>h.symm
theorem yak{o:List Int}{k:Nat}(hk:k<o.length):o.getD k 0∈o:=by
 have:=y0g (xs:=o) (i:=(k:Int)) (by omega) (by omega)
 rw[Int.toNat_natCast] at this
 exact List.mem_of_getElem? this
theorem yp3{l:Ls}(of:okF l.ck.f)(hp:l.ord.Perm (l.ck.f.map (·.1))){k:Nat}(hk:k<l.ord.length):okP (ptL l k)/\ptL l k∈l.ck.f/\(ptL l k).1=l.ord.getD k 0:=by
 have h0:=ylv of hp (yak hk)
 refine⟨of.pt h0,?_,(ynp h0).2.2⟩
 exact List.mem_of_getElem? (ynp h0).2.1
theorem okM.pt{l:Ls}(w:okM l){k:Nat}(hk:k<l.ord.length):okP (ptL l k)/\ptL l k∈l.ck.f/\(ptL l k).1=l.ord.getD k 0:=yp3 w.ck.f w.perm hk
theorem okM.ne{l:Ls}(w:okM l):l.ord.Pairwise (·≠·):=ylr w.ck.f w.perm
theorem yob{o:List Int}(hd:o.Pairwise (·≠·)){k:Nat}(hk:k<o.length):yo8 o (o.getD k 0)=k:=by
 have:=y0g (xs:=o) (i:=(k:Int)) (by omega) (by omega)
 rw[Int.toNat_natCast] at this
 exact yo9 hd this
theorem okM.ptNe{l:Ls}(w:okM l){i j:Nat}(h:i≠j)(hi:i<l.ord.length)(hj:j<l.ord.length):(ptL l i).1≠(ptL l j).1:=by
 rw[(w.pt hi).2.2,(w.pt hj).2.2]
 intro e
 have p1:=yob w.ne hi
 have p2:=yob w.ne hj
 rw[e,p2] at p1
 omega
theorem ykj{o:List Int}(hd:o.Pairwise (·≠·)){i j:Nat}(hi:i<o.length)(hj:j<o.length)(h:ykb o i=ykb o j):i=j:=by
 have a4:o.getD i 0=o.getD j 0:=congrArg Prod.snd h
 have p1:=yob hd hi
 have p2:=yob hd hj
 rw[a4,p2] at p1
 omega
theorem okM.numInj{l:Ls}(w:okM l){i j:Nat}(hi:i<l.num.length)(hj:j<l.num.length)(h:l.num.getD i 0=l.num.getD j 0):i=j:=by
 have a:=w.certs i hi
 have b:=w.certs j hj
 rw[h] at a
 have nl:=w.nl
 exact ykj w.ne (by omega) (by omega) (w.ck.ct.uniq a b)
theorem okM.event{l:Ls}(w:okM l){x:Ev}(hx:x∈l.ck.ag.heap):∃i,i<l.num.length/\l.num.getD i 0=x.no/\zux (ptL l i) (ptL l (i+1)) l.ck.now=some x.at_:=by
 obtain⟨ps,e⟩:=w.ck.evs
 have nl:=w.nl
 have cl:=w.cl
 obtain⟨h,hm,hno,hw⟩:=e.cert (e.heap.mem_iff.1 hx)
 obtain⟨k,hk⟩:=List.mem_iff_getElem?.1 hm
 have hkl:=(List.getElem?_eq_some_iff.1 hk).1
 have facts:∀i,i<l.num.length->0<=atC l.ck.ct (l.num.getD i 0)/\atC l.ck.ct (l.num.getD i 0)<l.ck.ct.list.length/\y01 l.ck.ct.list (atC l.ck.ct (l.num.getD i 0))=(l.num.getD i 0,ykb l.ord i):=λi hi=>w.ck.ct.at_mem (w.certs i hi)
 have inj:∀i j,i<l.num.length->j<l.num.length->(atC l.ck.ct (l.num.getD i 0)).toNat=(atC l.ck.ct (l.num.getD j 0)).toNat->i=j:=λi j hi hj he=>by
  obtain⟨a1,a2,a3⟩:=facts i hi
  obtain⟨b1,b2,b3⟩:=facts j hj
  have:atC l.ck.ct (l.num.getD i 0)=atC l.ck.ct (l.num.getD j 0):=by omega
  rw[this,b3] at a3
  exact w.numInj hi hj (congrArg Prod.fst a3).symm
 obtain⟨i,hi,hik⟩:=z6d (n:=l.num.length) (f:=λi=>(atC l.ck.ct (l.num.getD i 0)).toNat) inj (λi hi=>by have:=facts i hi;show (atC l.ck.ct (l.num.getD i 0)).toNat<_;omega) (k:=k) (by omega)
 obtain⟨a1,a2,a3⟩:=facts i hi
 have hh:y01 l.ck.ct.list (atC l.ck.ct (l.num.getD i 0))=h:=by
  unfold y01
  have hik:(atC l.ck.ct (l.num.getD i 0)).toNat=k:=hik
  rw[hik,List.getD_eq_getElem?_getD,hk];rfl
 rw[hh] at a3
 refine⟨i,hi,?_,?_⟩
 ·rw[← hno,a3]
 ·rw[a3] at hw;exact hw
theorem okM.meets{l:Ls}(w:okM l){i:Nat}(hi:i<l.num.length){s:Int×Int}(h:zux (ptL l i) (ptL l (i+1)) l.ck.now=some s):∃x∈l.ck.ag.heap,x.at_=s:=by
 obtain⟨ps,e⟩:=w.ck.evs
 have hw:x7y l.ck.f (l.num.getD i 0,ykb l.ord i).2 l.ck.now=some s:=h
 obtain⟨y,hy,_,h3⟩:=e.of_cert (w.certs i hi) hw
 exact⟨y,e.heap.mem_iff.2 hy,h3⟩

/-! ### Values at the time of an event -/
theorem x75{p q:Pt}{s u:Int×Int}:s.2*zv8 p q u=u.2*zv8 p q s+(p.2.2-q.2.2)*(u.1*s.2-s.1*u.2):=by
 unfold zv8
 generalize p.2.1-q.2.1=A
 generalize p.2.2-q.2.2=B
 rw[Int.mul_add,Int.mul_add,Int.mul_sub]
 have e1:s.2*(A*u.2)=u.2*(A*s.2):=by rw[Int.mul_left_comm,Int.mul_left_comm u.2,Int.mul_comm s.2]
 have e2:s.2*(B*u.1)=B*(u.1*s.2):=by rw[Int.mul_left_comm,Int.mul_comm s.2]
 have e3:u.2*(B*s.1)=B*(s.1*u.2):=by rw[Int.mul_left_comm,Int.mul_comm u.2]
 omega
theorem y72{p q:Pt}{s u:Int×Int}(hs:1<=s.2)(hu:1<=u.2)(h:leR s u)(h0:zv8 p q s=0)(hb:p.2.2<q.2.2\/p.2.2=q.2.2/\q.1<p.1):leads q p u=true:=by
 have e:=x75 (p:=p) (q:=q) (s:=s) (u:=u)
 rw[h0,Int.mul_zero,Int.zero_add] at e
 have hle:s.1*u.2<=u.1*s.2:=h
 have hneg:(p.2.2-q.2.2)*(u.1*s.2-s.1*u.2)<=0:=by
  have:=Int.mul_le_mul_of_nonneg_right (show p.2.2-q.2.2<=0 by omega) (show 0<=u.1*s.2-s.1*u.2 by omega)
  rw[Int.zero_mul] at this;exact this
 have fle:zv8 p q u<=0:=by
  rcases Int.lt_or_le 0 (zv8 p q u) with x|x
  ·have:=Int.mul_pos (show 0<s.2 by omega) x
   omega
  ·exact x
 rw[y77]
 have fv:=zvb p q u
 rcases hb with hb|⟨hb1,hb2⟩
 ·omega
 ·have fz:zv8 p q u=0:=by
   rw[hb1,Int.sub_self,Int.zero_mul] at e
   rcases Int.mul_eq_zero.1 e with x|x
   ·omega
   ·exact x
  omega
theorem okM.level{l:Ls}(w:okM l){i:Nat}(hi:i<l.num.length){s:Int×Int}(h:zux (ptL l i) (ptL l (i+1)) l.ck.now=some s):zv8 (ptL l i) (ptL l (i+1)) s=0/\((ptL l i).2.2<(ptL l (i+1)).2.2\/(ptL l i).2.2=(ptL l (i+1)).2.2/\(ptL l (i+1)).1<(ptL l i).1):=by
 have nl:=w.nl
 have d:=w.desc i (i+1) (by omega) (by omega)
 have p1:=(w.pt (k:=i) (by omega)).1
 have p2:=(w.pt (k:=i+1) (by omega)).1
 generalize ptL l i=p at *
 generalize ptL l (i+1)=q at *
 unfold zux at h
 split at h
 ·rename_i hl
  have hs:s=l.ck.now:=(Option.some.inj h).symm
  subst hs
  rw[y77] at hl
  rw[zvb]
  omega
 ·split at h
  ·rename_i hb
   obtain⟨x,y,g,g0,em,e1,e2,e3⟩:=yae p1 p2 hb
   rw[em] at h
   have hs:s=(x,y):=(Option.some.inj h).symm
   subst hs
   rw[zv9 e1 e2]
   refine⟨?_,.inl hb⟩
   show (x*y-x*y)*g=0
   rw[Int.sub_self,Int.zero_mul]
  ·cases h
theorem okM.descAt{l:Ls}(w:okM l)(h0:0<l.ck.ag.heap.length):∀j i,i<j->j<l.ord.length->x74 (ptL l j) (hp l.ck.ag.heap 0).at_<=x74 (ptL l i) (hp l.ck.ag.heap 0).at_:=by
 have nl:=w.nl
 have o1:okR (hp l.ck.ag.heap 0).at_:=(w.ck.ag.each _ (y2z h0)).1
 obtain⟨ps,e⟩:=w.ck.evs
 have hle:leR l.ck.now (hp l.ck.ag.heap 0).at_:=(w.ck.failed h0 e).2.2.1
 have next:∀k,k+1<l.ord.length->x74 (ptL l (k+1)) (hp l.ck.ag.heap 0).at_<=x74 (ptL l k) (hp l.ck.ag.heap 0).at_:=λk hk=>by
  have p1:=(w.pt (k:=k) (by omega)).1
  have p2:=(w.pt (k:=k+1) hk).1
  have hne:=w.ptNe (i:=k) (j:=k+1) (by omega) (by omega) hk
  cases hF:zux (ptL l k) (ptL l (k+1)) l.ck.now with
  | none =>
   have:=y77.1 (zv1 hne w.ck.now o1 hF hle).1
   omega
  | some s =>
   obtain⟨x,hx,hat⟩:=w.meets (i:=k) (by omega) hF
   have l1:=y6s (w.ck.top hx)
   rw[hat] at l1
   by_cases h:leR s (hp l.ck.ag.heap 0).at_
   ·have os:=zv2 p1 p2 w.ck.now hF
    have:s=(hp l.ck.ag.heap 0).at_:=yha os o1 h l1
    have lv:=(w.level (i:=k) (by omega) hF).1
    rw[this,zvb] at lv
    omega
   ·have:=y77.1 (zuz p1 p2 hne w.ck.now hF hle h)
    omega
 intro j
 induction j with
 | zero=>intro i hi;omega
 | succ j ih =>
  intro i hi hj
  have a:=next j hj
  by_cases e:i=j
  ·subst e;exact a
  ·have:=ih i (by omega) (by omega)
   omega

/-! ### Two neighbours of an order exchanged -/
def x36(o:List Int)(i:Nat):List Int:=(o.set i (o.getD (i+1) 0)).set (i+1) (o.getD i 0)
theorem x38(o:List Int)(i:Nat):(x36 o i).length=o.length:=by unfold x36;rw[List.length_set,List.length_set]
theorem x37{o:List Int}{i:Nat}(hi:i+1<o.length)(k:Nat):(x36 o i).getD k 0=if k=i then o.getD (i+1) 0 else if k=i+1 then o.getD i 0 else o.getD k 0:=by
 unfold x36
 rw[List.getD_eq_getElem?_getD,List.getElem?_set,List.getElem?_set,List.length_set]
 by_cases h1:i+1=k
 ·rw[if_pos h1,if_pos hi,if_neg (by omega),if_pos h1.symm];rfl
 ·rw[if_neg h1]
  by_cases h2:i=k
  ·rw[if_pos h2,if_pos (by omega),if_pos h2.symm];rfl
  ·rw[if_neg h2,if_neg (λh=>h2 h.symm),if_neg (λh=>h1 h.symm),List.getD_eq_getElem?_getD]
theorem x3a{o:List Int}{i:Nat}(hi:i+1<o.length):o=o.take i++o.getD i 0 :: o.getD (i+1) 0 :: o.drop (i+2)/\x36 o i=o.take i++o.getD (i+1) 0 :: o.getD i 0 :: o.drop (i+2):=by
 have h1:o[i]?=some (o.getD i 0):=by
  have:=y0g (xs:=o) (i:=(i:Int)) (by omega) (by omega)
  rw[Int.toNat_natCast] at this;exact this
 have h2:o[i+1]?=some (o.getD (i+1) 0):=by
  have:=y0g (xs:=o) (i:=((i+1:Nat):Int)) (by omega) (by omega)
  rw[Int.toNat_natCast] at this;exact this
 have e:o=o.take i++o.getD i 0 :: o.getD (i+1) 0 :: o.drop (i+2):=by
  have a:=List.take_append_drop i o
  rw[zrc h1,zrc h2] at a
  exact a.symm
 refine⟨e,?_⟩
 have tl:(o.take i).length=i:=by rw[List.length_take];omega
 unfold x36
 generalize o.getD (i+1) 0=b at *
 generalize o.getD i 0=a at *
 generalize o.drop (i+2)=post at *
 generalize o.take i=pre at *
 subst e
 subst tl
 rw[List.set_append_right _ _ (Nat.le_refl _),Nat.sub_self,List.set_cons_zero,List.set_append_right _ _ (by omega),show pre.length+1-pre.length=1 by omega]
 rfl
theorem x39{o:List Int}{i:Nat}(hi:i+1<o.length):(x36 o i).Perm o:=by
 obtain⟨e1,e2⟩:=x3a hi
 rw[e2]
 conv=>rhs;rw[e1]
 exact List.Perm.append_left _ (List.Perm.swap _ _ _)

/-! ### What grows with each swap -/
def phi(rk:Int->Nat):Nat->List Int->Nat
 | _,[]=>0
 | k,x :: xs=>k*rk x+phi rk (k+1) xs
theorem ylz(rk:Int->Nat):∀(xs ys:List Int)(k:Nat),phi rk k (xs++ys)=phi rk k xs+phi rk (k+xs.length) ys
 | [],ys,k=>by simp[phi]
 | x :: xs,ys,k=>by
  show k*rk x+phi rk (k+1) (xs++ys)=k*rk x+phi rk (k+1) xs+phi rk (k+(xs.length+1)) ys
  rw[ylz rk xs ys (k+1),show k+1+xs.length=k+(xs.length+1) by omega]
  omega
theorem ym1(rk:Int->Nat){o:List Int}{i:Nat}(hi:i+1<o.length)(h:rk (o.getD (i+1) 0)<rk (o.getD i 0)):phi rk 0 o<phi rk 0 (x36 o i):=by
 obtain⟨e1,e2⟩:=x3a hi
 rw[e2]
 conv=>lhs;rw[e1]
 rw[ylz,ylz]
 show _+((0+(o.take i).length)*rk (o.getD i 0)+((0+(o.take i).length+1)*rk (o.getD (i+1) 0)+_))<_+((0+(o.take i).length)*rk (o.getD (i+1) 0)+((0+(o.take i).length+1)*rk (o.getD i 0)+_))
 generalize 0+(o.take i).length=K
 rw[Nat.add_mul K 1 (rk (o.getD (i+1) 0)),Nat.add_mul K 1 (rk (o.getD i 0)),Nat.one_mul,Nat.one_mul]
 omega
theorem ym0(rk:Int->Nat){n:Nat}:∀(o:List Int)(k:Nat),(∀x∈o,rk x<=n)->phi rk k o<=o.length*((k+o.length)*n)
 | [],k,_=>by simp[phi]
 | x :: xs,k,h=>by
  have ih:=ym0 rk xs (k+1) λy hy=>h y (List.mem_cons_of_mem _ hy)
  have hx:=Nat.mul_le_mul (Nat.le_refl k) (h x List.mem_cons_self)
  have e:k+1+xs.length=k+(xs.length+1):=by omega
  have hk:k*n<=(k+(xs.length+1))*n:=Nat.mul_le_mul_right _ (by omega)
  show k*rk x+phi rk (k+1) xs<=(xs.length+1)*((k+(xs.length+1))*n)
  rw[e] at ih
  rw[Nat.add_mul xs.length 1,Nat.one_mul]
  omega
theorem yql{f:List Pt}(of:okF f){p q:Pt}{t:Int×Int}(hp:p∈f)(hq:q∈f)(h:leads q p t=true):yqj f q t<yqj f p t:=by
 have S:=yzx (ygy of) t
 have a1:=S.at_rank (ygy of) hp
 have a2:=S.at_rank (ygy of) hq
 obtain⟨b1,b2⟩:=List.getElem?_eq_some_iff.1 a1
 obtain⟨c1,c2⟩:=List.getElem?_eq_some_iff.1 a2
 rcases Nat.lt_trichotomy (yqj f q t) (yqj f p t) with k|k|k
 ·exact k
 ·rw[k,a1] at a2
  have:=Option.some.inj a2
  subst this
  rw[y78] at h;cases h
 ·have:=List.pairwise_iff_getElem.1 S.ord _ _ b1 c1 k
  rw[b2,c2] at this
  rw[y73 h] at this;cases this
theorem yqk{f:List Pt}{p:Pt}{t:Int×Int}:yqj f p t<=f.length:=List.countP_le_length

/-! ### A list without the certificates of some neighbours -/
structure Mid(l:Ls)(lo hi:Nat):Prop where
 ck:okK l.ck
 perm:l.ord.Perm (l.ck.f.map (·.1))
 nl:l.num.length=l.ord.length-1
 le:lo<=hi
 hl:hi<=l.num.length
 cl:l.ck.ct.list.length+(hi-lo)=l.num.length
 certs:∀k,k<l.num.length->(k<lo\/hi<=k)->(l.num.getD k 0,ykb l.ord k)∈l.ck.ct.list
 desc:∀j i,i<j->j<l.ord.length->x74 (ptL l j) l.ck.now<=x74 (ptL l i) l.ck.now
theorem Mid.done{l:Ls}{k:Nat}(m:Mid l k k):okM l:=⟨m.ck,m.perm,m.nl,by have:=m.cl;omega,λi hi=>m.certs i hi (by omega),λi j h1 h2=>m.desc j i h1 h2⟩
theorem Mid.other{l:Ls}{lo hi:Nat}(m:Mid l lo hi){i j:Nat}(hi':i<l.num.length)(hj:j<l.num.length)(oi:i<lo\/hi<=i)(oj:j<lo\/hi<=j)(hne:i≠j):l.num.getD i 0≠l.num.getD j 0:=λh=>by
 have a:=m.certs i hi' oi
 have b:=m.certs j hj oj
 rw[h] at a
 have nl:=m.nl
 exact hne (ykj (ylr m.ck.f m.perm) (by omega) (by omega) (m.ck.ct.uniq a b))
theorem Mid.goneLo{l:Ls}{lo hi:Nat}(m:Mid l lo hi)(h:0<lo):Mid ⟨y10 l.ck (l.num.getD (lo-1) 0),l.ord,l.num⟩ (lo-1) hi:=by
 obtain⟨c1,c2,c3⟩:=y11 l.ck (l.num.getD (lo-1) 0)
 have le:=m.le;have hl:=m.hl;have cl:=m.cl
 have hm:=m.certs (lo-1) (by omega) (.inl (by omega))
 have wc:=x8i m.ck.ct hm
 refine⟨(m.ck.gone _).1,by rw[show (y10 l.ck (l.num.getD (lo-1) 0)).f=l.ck.f from c2];exact m.perm,m.nl,by omega,hl,?_,λk hk ho=>?_,λj i hij hj=>?_⟩
 ·show (y10 l.ck (l.num.getD (lo-1) 0)).ct.list.length+_=l.num.length
  rw[c1];omega
 ·show _∈(y10 l.ck (l.num.getD (lo-1) 0)).ct.list
  have hk:k<l.num.length:=hk
  rw[c1]
  exact x8k.2 ⟨m.certs k hk (by omega),m.other hk (by omega) (by omega) (by omega) (by omega)⟩
 ·have:=m.desc j i hij hj
  unfold ptL at this ⊢
  simp only
  rw[c2,c3];exact this
theorem Mid.goneHi{l:Ls}{lo hi:Nat}(m:Mid l lo hi)(h:hi<l.num.length):Mid ⟨y10 l.ck (l.num.getD hi 0),l.ord,l.num⟩ lo (hi+1):=by
 obtain⟨c1,c2,c3⟩:=y11 l.ck (l.num.getD hi 0)
 have le:=m.le;have hl:=m.hl;have cl:=m.cl
 have hm:=m.certs hi (by omega) (.inr (by omega))
 have wc:=x8i m.ck.ct hm
 refine⟨(m.ck.gone _).1,by rw[show (y10 l.ck (l.num.getD hi 0)).f=l.ck.f from c2];exact m.perm,m.nl,by omega,h,?_,λk hk ho=>?_,λj i hij hj=>?_⟩
 ·show (y10 l.ck (l.num.getD hi 0)).ct.list.length+_=l.num.length
  rw[c1];omega
 ·show _∈(y10 l.ck (l.num.getD hi 0)).ct.list
  have hk:k<l.num.length:=hk
  rw[c1]
  exact x8k.2 ⟨m.certs k hk (by omega),m.other hk (by omega) (by omega) (by omega) (by omega)⟩
 ·have:=m.desc j i hij hj
  unfold ptL at this ⊢
  simp only
  rw[c2,c3];exact this
theorem Mid.swap{l:Ls}{lo hi i:Nat}(m:Mid l lo hi)(hi':i+1<l.ord.length)(h1:lo+1<=i\/lo=0)(h2:i+2<=hi\/hi=l.num.length)(h3:lo<=i)(h4:i+1<=hi)(hv:x74 (ptL l i) l.ck.now=x74 (ptL l (i+1)) l.ck.now):Mid ⟨l.ck,x36 l.ord i,l.num⟩ lo hi:=by
  have hl:=x38 l.ord i
  have nl:=m.nl
  have hlm:=m.hl
  refine⟨m.ck,(x39 hi').trans m.perm,by rw[hl];exact nl,m.le,m.hl,m.cl,λk hk ho=>?_,λb a hab hb0=>?_⟩
  · have hk:k<l.num.length:=hk
    have e:ykb (x36 l.ord i) k=ykb l.ord k:=by
      unfold ykb
      rw[x37 hi',x37 hi',if_neg (by omega),if_neg (by omega),if_neg (by omega),if_neg (by omega)]
    show (l.num.getD k 0,ykb (x36 l.ord i) k)∈_
    rw[e];exact m.certs k hk ho
  · have hb:b<l.ord.length:=by have:b<(x36 l.ord i).length:=hb0
                               omega
    have pe:∀k,ptL ⟨l.ck,x36 l.ord i,l.num⟩ k=if k=i then ptL l (i+1) else if k=i+1 then ptL l i else ptL l k:=λk=>by
      unfold ptL
      simp only
      rw[x37 hi']
      split
      · rfl
      · split <;> rfl
    rw[pe,pe]
    show x74 (if b=i then _ else _) l.ck.now<=x74 (if a=i then _ else _) l.ck.now
    by_cases ha:a=i
    · subst ha
      rw[if_neg (by omega),if_pos rfl]
      by_cases hb2:b=a+1
      · rw[if_pos hb2,hv];exact Int.le_refl _
      · rw[if_neg hb2];exact m.desc b (a+1) (by omega) hb
    · rw[if_neg ha]
      by_cases ha2:a=i+1
      · rw[if_neg (by omega),if_neg (by omega),if_pos ha2];exact m.desc b i (by omega) hb
      · rw[if_neg ha2]
        by_cases hb2:b=i
        · rw[if_pos hb2];exact m.desc (i+1) a (by omega) hi'
        · rw[if_neg hb2]
          by_cases hb3:b=i+1
          · rw[if_pos hb3];exact m.desc i a (by omega) (by omega)
          · rw[if_neg hb3];exact m.desc b a hab hb
theorem Mid.make{l:Ls}{lo hi:Nat}(m:Mid l lo hi)(h:lo<hi)(hz:(y8u l lo).2=0):Mid (y8u l lo).1 (lo+1) hi/\(y8u l lo).1.ck.f=l.ck.f/\(y8u l lo).1.ck.now=l.ck.now/\(y8u l lo).1.ord=l.ord/\(y8u l lo).1.num.length=l.num.length:=by
 have hlm:=m.hl;have nl:=m.nl;have cl:=m.cl
 have p1:0<=ynk l.ck.f (ykb l.ord lo).1:=ylv m.ck.f m.perm (yak (by omega))
 have p2:0<=ynk l.ck.f (ykb l.ord lo).2:=ylv m.ck.f m.perm (yak (by omega))
 unfold y8u at hz ⊢
 split at hz
 ·rename_i he
  rw[if_pos he]
  obtain⟨a1,a2,a3,a4,a5⟩:=m.ck.add p1 p2 he
  refine⟨⟨a1,?_,?_,by omega,?_,?_,λk hk ho=>?_,λj i hij hj=>?_⟩,a4,a5,rfl,List.length_set ..⟩
  ·show l.ord.Perm ((z3l l.ck (ykb l.ord lo)).1.f.map (·.1))
   rw[a4];exact m.perm
  ·show (l.num.set _ _).length=_
   rw[List.length_set];exact nl
  ·show hi<=(l.num.set _ _).length
   rw[List.length_set];exact hlm
  ·show (z3l l.ck (ykb l.ord lo)).1.ct.list.length+_=(l.num.set _ _).length
   rw[a3,List.length_set,List.length_append]
   show _+1+_=_
   omega
  ·have hk:k<(l.num.set lo (z3l l.ck (ykb l.ord lo)).2.1).length:=hk
   rw[List.length_set] at hk
   show ((l.num.set lo (z3l l.ck (ykb l.ord lo)).2.1).getD k 0,ykb l.ord k)∈(z3l l.ck (ykb l.ord lo)).1.ct.list
   rw[a3,List.getD_eq_getElem?_getD,List.getElem?_set]
   by_cases e:lo=k
   ·subst e
    rw[if_pos rfl,if_pos hk,a2]
    exact List.mem_append_right _ (List.mem_singleton.2 rfl)
   ·rw[if_neg e,← List.getD_eq_getElem?_getD]
    exact List.mem_append_left _ (m.certs k hk (by omega))
  ·have:=m.desc j i hij hj
   unfold ptL at this ⊢
   simp only
   rw[a4,a5];exact this
 ·rename_i he;exact absurd hz he
def y92(l:Ls)(a:Nat):Nat->Ls×Int
 | 0=>(l,0)
 | n+1=>if (y92 l a n).2=0 then y8u (y92 l a n).1 (a+n) else y92 l a n
theorem Mid.makes{l:Ls}{lo hi:Nat}(m:Mid l lo hi):∀n,lo+n<=hi->(y92 l lo n).2=0->Mid (y92 l lo n).1 (lo+n) hi/\(y92 l lo n).1.ck.f=l.ck.f/\(y92 l lo n).1.ck.now=l.ck.now/\(y92 l lo n).1.ord=l.ord/\(y92 l lo n).1.num.length=l.num.length
 | 0,_,_=>⟨m,rfl,rfl,rfl,rfl⟩
 | n+1,hn,hz=>by
  have e:y92 l lo (n+1)=if (y92 l lo n).2=0 then y8u (y92 l lo n).1 (lo+n) else y92 l lo n:=rfl
  rw[e] at hz ⊢
  by_cases h0:(y92 l lo n).2=0
  ·rw[if_pos h0] at hz ⊢
   obtain⟨a1,a2,a3,a4,a5⟩:=m.makes n (by omega) h0
   obtain⟨b1,b2,b3,b4,b5⟩:=a1.make (by omega) hz
   exact⟨b1,b2.trans a2,b3.trans a3,b4.trans a4,b5.trans a5⟩
  ·rw[if_neg h0] at hz;exact absurd hz h0

/-! ### A swap -/
def goneIf(c:Ck)(b:Bool)(n:Int):Ck:=if b=true then y10 c n else c
def x2q(l:Ls)(i:Nat):Ck:=goneIf (goneIf (zv4 l.ck) (decide (0<i)) (l.num.getD (i-1) 0)) (decide (i+1<l.num.length)) (l.num.getD (i+1) 0)
def x2y(l:Ls)(i:Nat):Ls×Int:=y92 ⟨x2q l i,x36 l.ord i,l.num⟩ (i-1) (min (i+2) l.num.length-(i-1))
def x5v(l:Ls):Int×Int:=(y01 l.ck.ct.list (atC l.ck.ct (hp l.ck.ag.heap 0).no)).2
def rkT(f:List Pt)(to:Int×Int)(x:Int):Nat:=yqj f (gP f (ynk f x)) to
structure z2f(l:Ls)(to:Int×Int)(i:Nat):Prop where
 lt:i<l.num.length
 pair:x5v l=ykb l.ord i
 pos:yo8 l.ord (x5v l).2=i
 mid:Mid ⟨x2q l i,x36 l.ord i,l.num⟩ (i-1) (min (i+2) l.num.length)
 f:(x2q l i).f=l.ck.f
 now:(x2q l i).now=(hp l.ck.ag.heap 0).at_
 okn:okR (hp l.ck.ag.heap 0).at_
 le:leR (hp l.ck.ag.heap 0).at_ to
 grow:phi (rkT l.ck.f to) 0 l.ord<phi (rkT l.ck.f to) 0 (x36 l.ord i)
 rk:rkT l.ck.f to (l.ord.getD (i+1) 0)<rkT l.ck.f to (l.ord.getD i 0)
 held0:okK (zv4 l.ck)
 held1:0<i->0<=atC (zv4 l.ck).ct (l.num.getD (i-1) 0)
 held2:i+1<l.num.length->okK (goneIf (zv4 l.ck) (decide (0<i)) (l.num.getD (i-1) 0))/\0<=atC (goneIf (zv4 l.ck) (decide (0<i)) (l.num.getD (i-1) 0)).ct (l.num.getD (i+1) 0)
theorem x3c{l:Ls}{to:Int×Int}(w:okM l)(ot:okR to)(hw:x7r l.ck to=true):∃i,z2f l to i:=by
 have nl:=w.nl
 unfold x7r at hw
 rw[Bool.and_eq_true,decide_eq_true_eq,decide_eq_true_eq] at hw
 obtain⟨h0,hle⟩:=hw
 have hle:=zns.1 hle
 obtain⟨ps,ev⟩:=w.ck.evs
 obtain⟨f1,f2,f3,f4⟩:=w.ck.failed h0 ev
 obtain⟨i,hi,hno,hF⟩:=w.event (y2z h0)
 have hm:=w.certs i hi
 obtain⟨g1,g2,g3⟩:=y11 l.ck (hp l.ck.ag.heap 0).no
 have lv:=w.level hi hF
 have pairE:x5v l=ykb l.ord i:=by
  unfold x5v
  rw[← hno,(w.ck.ct.at_mem hm).2.2]
 have fct:(zv4 l.ck).ct=x8h l.ck.ct (l.num.getD i 0):=by rw[hno];exact g1
 have ff:(zv4 l.ck).f=l.ck.f:=g2
 have fn:(zv4 l.ck).now=(hp l.ck.ag.heap 0).at_:=rfl
 have wc:=x8i w.ck.ct hm
 have cl:=w.cl
 -- failed
 have M0:Mid ⟨zv4 l.ck,l.ord,l.num⟩ i (i+1):=by
  refine⟨f1,by show l.ord.Perm ((zv4 l.ck).f.map (·.1));rw[ff];exact w.perm,nl,by omega,hi,?_,λk hk ho=>?_,λj a haj hj=>?_⟩
  ·show (zv4 l.ck).ct.list.length+_=l.num.length
   rw[fct];omega
  ·have hk:k<l.num.length:=hk
   show _∈(zv4 l.ck).ct.list
   rw[fct]
   exact x8k.2 ⟨w.certs k hk,λe=>by have:=w.numInj hk hi e;omega⟩
  ·have:=w.descAt h0 j a haj hj
   unfold ptL at this ⊢
   simp only
   rw[ff,fn];exact this
 have hnum:∀{b:Bool}{n:Int}{c:Ck},(goneIf c b n).f=c.f/\(goneIf c b n).now=c.now:=λ{b n c}=>by
  unfold goneIf
  split
  ·exact(y11 c n).2
  ·exact⟨rfl,rfl⟩
 have M1:Mid ⟨goneIf (zv4 l.ck) (decide (0<i)) (l.num.getD (i-1) 0),l.ord,l.num⟩ (i-1) (i+1):=by
  unfold goneIf
  by_cases h:0<i
  ·rw[if_pos (decide_eq_true h)];exact M0.goneLo h
  ·rw[if_neg (by rw[decide_eq_false h];simp)]
   rw[show i-1=i by omega];exact M0
 have M2:Mid ⟨x2q l i,l.ord,l.num⟩ (i-1) (min (i+2) l.num.length):=by
  unfold x2q
  by_cases h:i+1<l.num.length
  ·rw[show min (i+2) l.num.length=i+1+1 by omega]
   have:=M1.goneHi h
   unfold goneIf at this ⊢
   rw[decide_eq_true h,if_pos rfl]
   exact this
  ·rw[show min (i+2) l.num.length=i+1 by omega,decide_eq_false h]
   exact M1
 have sf:(x2q l i).f=l.ck.f:=by unfold x2q;rw[hnum.1,hnum.1,ff]
 have sn:(x2q l i).now=(hp l.ck.ag.heap 0).at_:=by unfold x2q;rw[hnum.2,hnum.2,fn]
 have val:x74 (ptL l i) (hp l.ck.ag.heap 0).at_=x74 (ptL l (i+1)) (hp l.ck.ag.heap 0).at_:=by
  have:=lv.1
  rw[zvb] at this;omega
 have M3:=M2.swap (i:=i) (by show i+1<l.ord.length;omega) (by omega) (by show i+2<=_\/_=l.num.length;omega) (by omega) (by omega) (by
  unfold ptL at val ⊢
  simp only
  rw[sf,sn];exact val)
 have ptm:=λk (hk:k<l.ord.length)=>w.pt hk
 have rkh:rkT l.ck.f to (l.ord.getD (i+1) 0)<rkT l.ck.f to (l.ord.getD i 0):=by
  have la:=y72 f4.d1 ot.d1 hle lv.1 lv.2
  exact yql w.ck.f (ptm i (by omega)).2.1 (ptm (i+1) (by omega)).2.1 la
 refine⟨i,hi,pairE,?_,M3,sf,sn,f4,hle,ym1 _ (by omega) rkh,rkh,f1,λh=>?_,λh=>⟨M1.ck,?_⟩⟩
 ·rw[pairE];exact yob w.ne (by omega)
 ·exact(f1.ct.at_mem (M0.certs (i-1) (by show i-1<l.num.length;omega) (.inl (by omega)))).1
 ·exact(M1.ck.ct.at_mem (M1.certs (i+1) h (.inr (by omega)))).1
theorem z2f.after{l:Ls}{to:Int×Int}{i:Nat}(s:z2f l to i)(hz:(x2y l i).2=0):okM (x2y l i).1/\(x2y l i).1.ck.f=l.ck.f/\(x2y l i).1.ck.now=(hp l.ck.ag.heap 0).at_/\(x2y l i).1.ord=x36 l.ord i/\(x2y l i).1.num.length=l.num.length:=by
 have le:=s.mid.le
 obtain⟨a1,a2,a3,a4,a5⟩:=s.mid.makes _ (by omega) hz
 rw[show i-1+(min (i+2) l.num.length-(i-1))=min (i+2) l.num.length by omega] at a1
 exact⟨a1.done,a2.trans s.f,a3.trans s.now,a4,a5⟩

def yoi(l:Ls)(to:Int×Int):Nat:=l.ord.length*(l.ord.length*l.ck.f.length)-phi (rkT l.ck.f to) 0 l.ord
theorem yok{l:Ls}{to:Int×Int}{i:Nat}(s:z2f l to i)(hz:(x2y l i).2=0):yoi (x2y l i).1 to<yoi l to:=by
 obtain⟨_,a2,_,a4,_⟩:=s.after hz
 unfold yoi
 rw[a2,a4,x38]
 have g:=s.grow
 have b:=ym0 (rkT l.ck.f to) (n:=l.ck.f.length) (x36 l.ord i) 0 λx _=>yqk
 rw[x38,Nat.zero_add] at b
 omega
def x5t(l:Ls):Nat:=(yo8 l.ord (x5v l).2).toNat
theorem z2f.top{l:Ls}{to:Int×Int}{i:Nat}(s:z2f l to i):x5t l=i:=by unfold x5t;rw[s.pos];rfl
def z49(to:Int×Int):Nat->Ls->Ls×Int×Int
 | 0,l=>(l,0,0)
 | k+1,l=>if x7r l.ck to=true then (if (x2y l (x5t l)).2=0 then (if (z49 to k (x2y l (x5t l)).1).2.2=0 then ((z49 to k (x2y l (x5t l)).1).1,(z49 to k (x2y l (x5t l)).1).2.1+1,0) else (.zero,0,(z49 to k (x2y l (x5t l)).1).2.2)) else (.zero,0,(x2y l (x5t l)).2)) else (l,0,0)
theorem z4a{to:Int×Int}(ot:okR to):∀(k k':Nat)(l:Ls),okM l->yoi l to<k->yoi l to<k'->z49 to k l=z49 to k' l
 | 0,_,_,_,h,_=>by omega
 | _+1,0,_,_,_,h=>by omega
 | k+1,k'+1,l,w,h,h'=>by
  unfold z49
  by_cases hw:x7r l.ck to=true
  ·rw[if_pos hw,if_pos hw]
   obtain⟨i,s⟩:=x3c w ot hw
   rw[s.top]
   by_cases hz:(x2y l i).2=0
   ·have pl:=yok s hz
    rw[if_pos hz,if_pos hz,z4a ot k k' _ (s.after hz).1 (by omega) (by omega)]
   ·rw[if_neg hz,if_neg hz]
  ·rw[if_neg hw,if_neg hw]
def z4i(l:Ls)(to:Int×Int):Ls×Int×Int:=z49 to (yoi l to+1) l
theorem z4m{l:Ls}{to:Int×Int}(hw:x7r l.ck to=false):z4i l to=(l,0,0):=by
 unfold z4i z49
 rw[if_neg (by rw[hw];simp)]
theorem z4j{l:Ls}{to:Int×Int}{i:Nat}(hw:x7r l.ck to=true)(s:z2f l to i)(hz:(x2y l i).2≠0):z4i l to=(.zero,0,(x2y l i).2):=by
 unfold z4i z49
 rw[if_pos hw,s.top,if_neg hz]
theorem z4l{l:Ls}{to:Int×Int}{i:Nat}(w:okM l)(ot:okR to)(hw:x7r l.ck to=true)(s:z2f l to i)(hz:(x2y l i).2=0) :
  z4i l to=if (z4i (x2y l i).1 to).2.2=0 then ((z4i (x2y l i).1 to).1,(z4i (x2y l i).1 to).2.1+1,0) else (.zero,0,(z4i (x2y l i).1 to).2.2):=by
 have pl:=yok s hz
 have e:z49 to (yoi l to) (x2y l i).1=z4i (x2y l i).1 to:=z4a ot _ _ _ (s.after hz).1 pl (Nat.lt_succ_self _)
 have:z4i l to=if x7r l.ck to=true then (if (x2y l (x5t l)).2=0 then (if (z49 to (yoi l to) (x2y l (x5t l)).1).2.2=0 then ((z49 to (yoi l to) (x2y l (x5t l)).1).1,(z49 to (yoi l to) (x2y l (x5t l)).1).2.1+1,0) else (.zero,0,(z49 to (yoi l to) (x2y l (x5t l)).1).2.2)) else (.zero,0,(x2y l (x5t l)).2)) else (l,0,0):=rfl
 rw[this,if_pos hw,s.top,if_pos hz,e]

/-! ### The order of its time -/
theorem zjr{s:List Pt}{t:Int×Int}(h:∀k p q,s[k]?=some p->s[k+1]?=some q->leads p q t=true):s.Pairwise λp q=>leads p q t=true:=by
 rw[List.pairwise_iff_getElem]
 intro i j hi hj hij
 obtain⟨d,rfl⟩:∃d,j=i+1+d:=⟨j-(i+1),by omega⟩
 induction d with
 | zero=>exact h i _ _ (List.getElem?_eq_getElem hi) (List.getElem?_eq_getElem hj)
 | succ d ih =>
  have a:=ih (by omega) (by omega)
  have b:=h (i+1+d) _ _ (List.getElem?_eq_getElem (by omega)) (List.getElem?_eq_getElem hj)
  exact y7c a b
theorem okM.moved{l:Ls}{to:Int×Int}(w:okM l)(hu:x6i l.ck to=0)(hw:x7r l.ck to=false):yh6 ⟨{ l.ck with now:=to },l.ord,l.num⟩:=by
 obtain⟨_,ot,hle⟩:=x6l.1 hu
 obtain⟨ps,e⟩:=w.ck.evs
 obtain⟨m1,m2⟩:=okK.move hu hw e
 have nl:=w.nl
 have lp:=w.perm.length_eq
 rw[List.length_map] at lp
 have nb:∀k,k+1<l.ord.length->leads (ptL l k) (ptL l (k+1)) to=true:=λk hk=>by
  have p1:=(w.pt (k:=k) (by omega)).1
  have p2:=(w.pt (k:=k+1) hk).1
  have hne:=w.ptNe (i:=k) (j:=k+1) (by omega) (by omega) hk
  cases hF:zux (ptL l k) (ptL l (k+1)) l.ck.now with
  | none=>exact(zv1 hne w.ck.now ot hF hle).1
  | some s =>
   obtain⟨x,hx,hat⟩:=w.meets (i:=k) (by omega) hF
   have l1:=y6s (w.ck.top hx)
   rw[hat] at l1
   have h0:0<l.ck.ag.heap.length:=List.length_pos_of_mem hx
   have o1:okR (hp l.ck.ag.heap 0).at_:=(w.ck.ag.each _ (y2z h0)).1
   have os:=zv2 p1 p2 w.ck.now hF
   refine zuz p1 p2 hne w.ck.now hF hle λh=>?_
   have h2:=y6v o1 os ot l1 h
   unfold x7r at hw
   rw[decide_eq_true h0,Bool.true_and,decide_eq_false_iff_not,zns] at hw
   exact hw h2
 have S:z2a l.ck.f to ((List.range l.ord.length).map (ptL l)):=by
  have em:((List.range l.ord.length).map (ptL l)).map (·.1)=l.ord:=by
   apply List.ext_getElem?
   intro k
   rw[List.getElem?_map,List.getElem?_map]
   by_cases hk:k<l.ord.length
   ·rw[List.getElem?_range hk]
    have:=y0g (xs:=l.ord) (i:=(k:Int)) (by omega) (by omega)
    rw[Int.toNat_natCast] at this
    rw[this]
    show some (ptL l k).1=_
    rw[(w.pt hk).2.2]
   ·rw[List.getElem?_eq_none (by simpa using hk),List.getElem?_eq_none (by omega)];rfl
  refine z2a.of (ygy w.ck.f) ?_ ?_
  ·have h1:(((List.range l.ord.length).map (ptL l)).map (·.1)).Perm (l.ck.f.map (·.1)):=by rw[em];exact w.perm
   have back:∀(s:List Pt),(∀p∈s,p∈l.ck.f)->(s.map (·.1)).map (λx=>gP l.ck.f (ynk l.ck.f x))=s:=λs hs=>by
    rw[List.map_map]
    conv=>rhs;rw[← List.map_id s]
    exact List.map_congr_left λp hp=>zz5 w.ck.f (hs p hp)
   have h2:=h1.map (λx=>gP l.ck.f (ynk l.ck.f x))
   rw[back _ (λp hp=>hp),back] at h2
   ·exact h2
   ·intro p hp
    obtain⟨k,hk,rfl⟩:=List.mem_map.1 hp
    exact(w.pt (List.mem_range.1 hk)).2.1
  ·refine(zjr (t:=to) λk p q hk hq=>?_).imp λh=>y73 h
   rw[List.getElem?_map] at hk hq
   have hk1:k+1<l.ord.length:=by
    by_cases h:k+1<l.ord.length
    ·exact h
    ·rw[List.getElem?_eq_none (by simpa using h)] at hq;cases hq
   rw[List.getElem?_range (by omega)] at hk
   rw[List.getElem?_range hk1] at hq
   have e1:ptL l k=p:=Option.some.inj hk
   have e2:ptL l (k+1)=q:=Option.some.inj hq
   rw[← e1,← e2]
   exact nb k hk1
 have eo:l.ord=yis l.ck.f to:=by
  unfold yis
  rw[← S.eq (yzx (ygy w.ck.f) to) (ygy w.ck.f)]
  apply List.ext_getElem?
  intro k
  rw[List.getElem?_map,List.getElem?_map]
  by_cases hk:k<l.ord.length
  ·rw[List.getElem?_range hk]
   have:=y0g (xs:=l.ord) (i:=(k:Int)) (by omega) (by omega)
   rw[Int.toNat_natCast] at this
   rw[this]
   show _=some (ptL l k).1
   rw[(w.pt hk).2.2]
  ·rw[List.getElem?_eq_none (show l.ord.length<=k by omega),List.getElem?_eq_none (show (List.range l.ord.length).length<=k by simpa using hk)];rfl
 exact yh6.of m1 eo nl w.cl λk hk=>(zd7 w.ck.ct).2 (w.certs k hk)

theorem zxf{l:Ls}(ck:okK l.ck)(hp:l.ord.Perm (l.ck.f.map (·.1)))(nl:l.num.length=l.ord.length-1):zxc l:=by
 have a:=ck.f.small
 have b:=hp.length_eq
 rw[List.length_map] at b
 exact⟨ck.fit,by omega,by omega⟩
theorem Mid.fit{l:Ls}{lo hi:Nat}(m:Mid l lo hi):zxc l:=zxf m.ck m.perm m.nl
theorem okM.fit{l:Ls}(w:okM l):zxc l:=zxf w.ck w.perm w.nl
theorem Mid.small{l:Ls}{lo hi:Nat}(m:Mid l lo hi):l.ord.length<=64:=by
 have a:=m.ck.f.len
 have b:=m.perm.length_eq
 rw[List.length_map] at b
 omega
theorem Mid.certify{l:Ls}{lo hi:Nat}(m:Mid l lo hi){i:Nat}(h:i<l.num.length):zdm l.ck (ykb l.ord i)=z3l l.ck (ykb l.ord i):=by
 have nl:=m.nl
 have p1:0<=ynk l.ck.f (ykb l.ord i).1:=ylv m.ck.f m.perm (yak (by omega))
 have p2:0<=ynk l.ck.f (ykb l.ord i).2:=ylv m.ck.f m.perm (yak (by omega))
 have hne:(ykb l.ord i).1≠(ykb l.ord i).2:=λe=>by
  have d:=ylr m.ck.f m.perm
  have a1:=yob d (k:=i+1) (by omega)
  have a2:=yob d (k:=i) (by omega)
  have e:l.ord.getD (i+1) 0=l.ord.getD i 0:=e
  rw[e,a2] at a1
  omega
 have q1:=m.ck.f.pt p1;have q2:=m.ck.f.pt p2
 have r1:=(ynp p1).2.2;have r2:=(ynp p2).2.2
 have a1:=q1.i0;have a2:=q1.i1;have a3:=q2.i0;have a4:=q2.i1
 rw[r1] at a1 a2;rw[r2] at a3 a4
 have hv:x78 (ykb l.ord i)=true:=by
  unfold x78
  simp only[Bool.and_eq_true,decide_eq_true_eq,bne_iff_ne,ne_eq]
  omega
 unfold zdm
 rw[if_pos ⟨m.ck,hv⟩,if_neg (by omega)]
theorem y93{l:Ls}{a n:Nat}(h:(y92 l a n).2≠0):∀m,n<=m->y92 l a m=y92 l a n
 | 0,hm=>by rw[show n=0 by omega]
 | m+1,hm=>by
  by_cases e:n=m+1
  ·rw[e]
  ·have ih:=y93 h m (by omega)
   show (if (y92 l a m).2=0 then y8u (y92 l a m).1 (a+m) else y92 l a m)=_
   rw[ih,if_neg h]

/-! ### Advancing -/
def z3v(n:Int)(r:Ls×Int×Int):Ls×Int×Int:=if r.2.2=0 then (r.1,r.2.1+n,0) else (.zero,0,r.2.2)
theorem z3w{n:Int}{r:Ls×Int×Int}:z3v n (z3v 1 r)=z3v (n+1) r:=by
 unfold z3v
 by_cases h:r.2.2=0
 ·rw[if_pos h,if_pos h,if_pos rfl]
  show (r.1,r.2.1+1+n,(0:Int))=_
  rw[show r.2.1+1+n=r.2.1+(n+1) by omega]
 ·rw[if_neg h,if_neg h,if_neg h]
theorem z4k{l:Ls}{to:Int×Int}{i:Nat}(w:okM l)(ot:okR to)(hw:x7r l.ck to=true)(s:z2f l to i)(hz:(x2y l i).2=0):z4i l to=z3v 1 (z4i (x2y l i).1 to):=z4l w ot hw s hz
structure z02(l0:Ls)(to:Int×Int)(n:Int)(l:Ls):Prop where
 m:okM l
 u:x6i l.ck to=0
 e:z4i l0 to=z3v n (z4i l to)
 n0:0<=n
 pot:n+yoi l to<=yoi l0 to
 f:l.ck.f=l0.ck.f
theorem z4n{to:Int×Int}:∀k (l:Ls),(z49 to k l).2.2≠0->(z49 to k l).1=.zero/\(z49 to k l).2.1=0
 | 0,l,h=>absurd rfl h
 | k+1,l,h=>by
  unfold z49 at h ⊢
  by_cases h1:x7r l.ck to=true
  ·rw[if_pos h1] at h ⊢
   by_cases h2:(x2y l (x5t l)).2=0
   ·rw[if_pos h2] at h ⊢
    by_cases h3:(z49 to k (x2y l (x5t l)).1).2.2=0
    ·rw[if_pos h3] at h;exact absurd rfl h
    ·rw[if_neg h3];exact⟨rfl,rfl⟩
   ·rw[if_neg h2];exact⟨rfl,rfl⟩
  ·rw[if_neg h1] at h;exact absurd rfl h
theorem z02.start{l:Ls}{to:Int×Int}(ok:yh6 l)(hu:x6i l.ck to=0):z02 l to 0 l:=by
 refine⟨ok.weak,hu,?_,Int.le_refl _,by omega,rfl⟩
 unfold z3v
 by_cases h:(z4i l to).2.2=0
 ·rw[if_pos h,Int.add_zero,← h]
 ·rw[if_neg h]
  obtain⟨h1,h2⟩:=z4n _ _ h
  exact Prod.ext h1 (Prod.ext h2 rfl)
theorem z02.next{l0 l:Ls}{to:Int×Int}{n:Int}(a:z02 l0 to n l)(hw:x7r l.ck to=true){i:Nat}(s:z2f l to i)(hz:(x2y l i).2=0):z02 l0 to (n+1) (x2y l i).1/\yoi (x2y l i).1 to<yoi l to:=by
 obtain⟨ok,ot,hle⟩:=x6l.1 a.u
 obtain⟨b1,b2,b3,b4,b5⟩:=s.after hz
 have pl:=yok s hz
 have n0:=a.n0;have hp:=a.pot
 refine⟨⟨b1,?_,?_,by omega,by omega,b2.trans a.f⟩,pl⟩
 ·refine x6l.2 ⟨b1.ck,ot,?_⟩
  rw[b3];exact s.le
 ·rw[a.e,z4k a.m ot hw s hz,z3w]
theorem z02.stop{l0 l:Ls}{to:Int×Int}{n:Int}(a:z02 l0 to n l)(hw:x7r l.ck to=false):z4i l0 to=(l,n,0):=by
 rw[a.e,z4m hw]
 unfold z3v
 rw[if_pos rfl,Int.zero_add]
theorem z02.fail{l0 l:Ls}{to:Int×Int}{n:Int}(a:z02 l0 to n l)(hw:x7r l.ck to=true){i:Nat}(s:z2f l to i)(hz:(x2y l i).2≠0):z4i l0 to=(.zero,0,(x2y l i).2):=by
 rw[a.e,z4j hw s hz]
 unfold z3v
 rw[if_neg hz]
def yck(l:Ls)(to:Int×Int):Ls:=⟨{ l.ck with now:=to },l.ord,l.num⟩
def z4b(l:Ls)(to:Int×Int):Ls×Int×Int:=if yh6 l then (if x6i l.ck to=0 then (if (z4i l to).2.2=0 then (yck (z4i l to).1 to,(z4i l to).2.1,0) else (.zero,0,(z4i l to).2.2)) else (.zero,0,x6i l.ck to)) else (.zero,0,8)
theorem yoj{l:Ls}(w:okM l)(to:Int×Int):yoi l to<=262144:=by
 have a:=w.ck.f.len
 have b:=w.perm.length_eq
 rw[List.length_map] at b
 unfold yoi
 have h1:l.ord.length*l.ck.f.length<=64*64:=Nat.mul_le_mul (by omega) (by omega)
 have h2:l.ord.length*(l.ord.length*l.ck.f.length)<=64*(64*64):=Nat.mul_le_mul (by omega) h1
 omega
end Go.Proofs.YtnhdkkblehadjabGreat
end
