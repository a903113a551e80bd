/- The engine, parts AV, AW, AX, AY, put together. Conditions: none. -/
import Derived.Test.YtjhbjjdipmpgjaaGreatPM4
set_option linter.unusedVariables false
section
/- A list in the middle of an advance: what a swap does, and that swaps end. Conditions: none. -/
set_option maxRecDepth 100000
open Go Go.Eng Go.Proofs
namespace Go.Proofs.YtjhbjjdipmpgjaaGreat

/-! ### Certificates by their numbers -/
theorem _root_.Go.Eng.okC.uniq {ct:Ct} (ok:okC ct) {n:Int} {x y:Int × Int} (hx:(n,x)∈ct.list) (hy:(n,y)∈ct.list):x=y:=by
 obtain ⟨i,hi⟩:=List.mem_iff_getElem?.1 hx
 obtain ⟨j,hj⟩:=List.mem_iff_getElem?.1 hy
 obtain ⟨i1,i2⟩:=List.getElem?_eq_some_iff.1 hi
 obtain ⟨j1,j2⟩:=List.getElem?_eq_some_iff.1 hj
 have hp:=List.pairwise_iff_getElem.1 ok.ok.inc
 rcases Nat.lt_trichotomy i j with k | k | k
 ·have:=hp i j i1 j1 k; rw [i2,j2] at this; exact absurd this (Int.lt_irrefl _)
 ·subst k; rw [hi] at hj; exact congrArg Prod.snd (Option.some.inj hj)
 ·have:=hp j i j1 i1 k; rw [i2,j2] at this; exact absurd this (Int.lt_irrefl _)
theorem _root_.Go.Eng.okC.at_mem {ct:Ct} (ok:okC ct) {n:Int} {x:Int × Int} (hx:(n,x)∈ct.list):0≤atC ct n∧atC ct n<ct.list.length∧getD3 ct.list (atC ct n)=(n,x):=by
 have h0:0≤atC ct n:=by
  by_cases h:atC ct n<0
  ·have:=idx_out h _ hx
   simp at this
  ·omega
 obtain ⟨h1,y,h2,h3⟩:=atC_range h0
 refine ⟨h0,h1,?_⟩
 have:getD3 ct.list (atC ct n)=y:=by unfold getD3; rw [List.getD_eq_getElem?_getD,h2]; rfl
 rw [this]
 have hm:(n,y.2)∈ct.list:=by rw [← h3]; exact List.mem_of_getElem? h2
 exact Prod.ext h3 (ok.uniq hm hx)
theorem without_mem {ct:Ct} {n m:Int} {x:Int × Int}:(m,x)∈(withoutC ct n).list↔(m,x)∈ct.list∧m≠n:=by
 unfold withoutC
 rw [List.mem_filter]
 simp
theorem without_count {ct:Ct} (ok:okC ct) {n:Int} {x:Int × Int} (hx:(n,x)∈ct.list):(withoutC ct n).list.length+1=ct.list.length:=by
 have a:=(ok.at_mem hx).1
 have:(getC ct n).2=0:=by unfold getC; rw [if_pos ok,if_neg (by omega)]
 have:=without_len this
 omega
theorem certOK_mem {ct:Ct} (ok:okC ct) {o num:List Int} {k:Nat}:certOK ct o num k=true↔(num.getD k 0,pairM o k)∈ct.list:=by
 unfold certOK
 simp only [Bool.and_eq_true,decide_eq_true_eq,beq_iff_eq]
 constructor
 ·intro ⟨h1,h2⟩
  obtain ⟨_,y,h3,h4⟩:=atC_range h1
  have e:getD3 ct.list (atC ct (num.getD k 0))=y:=by unfold getD3; rw [List.getD_eq_getElem?_getD,h3]; rfl
  rw [e] at h2
  have:=List.mem_of_getElem? h3
  rw [← h2,← h4]; exact this
 ·intro h
  obtain ⟨a,_,b⟩:=ok.at_mem h
  exact ⟨a,by rw [b]⟩

/-! ### A list in the middle -/
structure okM (l:Ls):Prop where
 ck:okK l.ck
 perm:l.ord.Perm (l.ck.f.map (·.1))
 nl:l.num.length=l.ord.length-1
 cl:l.ck.ct.list.length=l.num.length
 certs:∀ k,k<l.num.length→(l.num.getD k 0,pairM l.ord k)∈l.ck.ct.list
 desc:∀ i j,i<j→j<l.ord.length→valP (ptL l j) l.ck.now≤valP (ptL l i) l.ck.now
theorem okLs.weak {l:Ls} (ok:okLs l):okM l:=by
 refine ⟨ok.ck,?_,ok.nl,ok.cl,fun k hk=>(certOK_mem ok.ck.ct).1 (ok.cert hk),fun i j hij hj=>ok.val hij hj⟩
 rw [ok.ord]
 exact (sortM_perm l.ck.now l.ck.f).map _
theorem permPos {f:List Pt} (of:okF f) {o:List Int} (hp:o.Perm (f.map (·.1))) {x:Int} (hx:x∈o):0≤posF f x:=by
 obtain ⟨p,h1,h2⟩:=List.mem_map.1 (hp.mem_iff.1 hx)
 by_cases h:posF f x<0
 ·have:=idx_out h p h1
  simp at this
  exact absurd h2 this
 ·omega
theorem permNe {f:List Pt} (of:okF f) {o:List Int} (hp:o.Perm (f.map (·.1))):o.Pairwise (·≠·) :=
 hp.symm.pairwise (List.pairwise_map.2 (okF_ids of)) fun h=>h.symm
theorem memO {o:List Int} {k:Nat} (hk:k<o.length):o.getD k 0∈o:=by
 have:=getI (xs:=o) (i:=(k:Int)) (by omega) (by omega)
 rw [Int.toNat_natCast] at this
 exact List.mem_of_getElem? this
theorem ptPerm {l:Ls} (of:okF l.ck.f) (hp:l.ord.Perm (l.ck.f.map (·.1))) {k:Nat} (hk:k<l.ord.length):okP (ptL l k)∧ptL l k∈l.ck.f∧(ptL l k).1=l.ord.getD k 0:=by
 have h0:=permPos of hp (memO hk)
 refine ⟨of.pt h0,?_,(posF_range h0).2.2⟩
 exact List.mem_of_getElem? (posF_range h0).2.1
theorem okM.pt {l:Ls} (w:okM l) {k:Nat} (hk:k<l.ord.length):okP (ptL l k)∧ptL l k∈l.ck.f∧(ptL l k).1=l.ord.getD k 0:=ptPerm w.ck.f w.perm hk
theorem okM.ne {l:Ls} (w:okM l):l.ord.Pairwise (·≠·):=permNe w.ck.f w.perm
theorem posO_here {o:List Int} (hd:o.Pairwise (·≠·)) {k:Nat} (hk:k<o.length):posO o (o.getD k 0)=k:=by
 have:=getI (xs:=o) (i:=(k:Int)) (by omega) (by omega)
 rw [Int.toNat_natCast] at this
 exact posO_at hd this
theorem pair_inj {o:List Int} (hd:o.Pairwise (·≠·)) {i j:Nat} (hi:i<o.length) (hj:j<o.length) (h:pairM o i=pairM o j):i=j:=by
 have a4:o.getD i 0=o.getD j 0:=congrArg Prod.snd h
 have p1:=posO_here hd hi
 have p2:=posO_here hd hj
 rw [a4,p2] at p1
 omega
theorem okM.numInj {l:Ls} (w:okM l) {i j:Nat} (hi:i<l.num.length) (hj:j<l.num.length) (h:l.num.getD i 0=l.num.getD j 0):i=j:=by
 have a:=w.certs i hi
 have b:=w.certs j hj
 rw [h] at a
 have nl:=w.nl
 exact pair_inj w.ne (by omega) (by omega) (w.ck.ct.uniq a b)
theorem okM.event {l:Ls} (w:okM l) {x:Ev} (hx:x∈l.ck.ag.heap):∃ i,i<l.num.length∧l.num.getD i 0=x.no∧failM (ptL l i) (ptL l (i+1)) l.ck.now=some x.at_:=by
 obtain ⟨ps,e⟩:=w.ck.evs
 have nl:=w.nl
 have cl:=w.cl
 obtain ⟨h,hm,hno,hw⟩:=e.cert (e.heap.mem_iff.1 hx)
 obtain ⟨k,hk⟩:=List.mem_iff_getElem?.1 hm
 have hkl:=(List.getElem?_eq_some_iff.1 hk).1
 have facts:∀ i,i<l.num.length→0≤atC l.ck.ct (l.num.getD i 0)∧atC l.ck.ct (l.num.getD i 0)<l.ck.ct.list.length∧getD3 l.ck.ct.list (atC l.ck.ct (l.num.getD i 0))=(l.num.getD i 0,pairM l.ord i):=fun i hi=>w.ck.ct.at_mem (w.certs i hi)
 have inj:∀ i j,i<l.num.length→j<l.num.length→(atC l.ck.ct (l.num.getD i 0)).toNat=(atC l.ck.ct (l.num.getD j 0)).toNat→i=j:=fun i j hi hj he=>by
  obtain ⟨a1,a2,a3⟩:=facts i hi
  obtain ⟨b1,b2,b3⟩:=facts j hj
  have:atC l.ck.ct (l.num.getD i 0)=atC l.ck.ct (l.num.getD j 0):=by omega
  rw [this,b3] at a3
  exact w.numInj hi hj (congrArg Prod.fst a3).symm
 obtain ⟨i,hi,hik⟩:=all_hit (n:=l.num.length) (f:=fun i=>(atC l.ck.ct (l.num.getD i 0)).toNat) inj (fun i hi=>by have:=facts i hi; show (atC l.ck.ct (l.num.getD i 0)).toNat<_; omega) (k:=k) (by omega)
 obtain ⟨a1,a2,a3⟩:=facts i hi
 have hh:getD3 l.ck.ct.list (atC l.ck.ct (l.num.getD i 0))=h:=by
  unfold getD3
  have hik:(atC l.ck.ct (l.num.getD i 0)).toNat=k:=hik
  rw [hik,List.getD_eq_getElem?_getD,hk]; rfl
 rw [hh] at a3
 refine ⟨i,hi,?_,?_⟩
 ·rw [← hno,a3]
 ·rw [a3] at hw; exact hw
/-! ### Values at the time of an event -/
theorem valP_step {p q:Pt} {s u:Int × Int}:s.2 * farV p q u=u.2 * farV p q s+(p.2.2-q.2.2) * (u.1 * s.2-s.1 * u.2):=by
 unfold farV
 generalize p.2.1-q.2.1=A
 generalize p.2.2-q.2.2=B
 rw [Int.mul_add,Int.mul_add,Int.mul_sub]
 have e1:s.2 * (A * u.2)=u.2 * (A * s.2):=by rw [Int.mul_left_comm,Int.mul_left_comm u.2,Int.mul_comm s.2]
 have e2:s.2 * (B * u.1)=B * (u.1 * s.2):=by rw [Int.mul_left_comm,Int.mul_comm s.2]
 have e3:u.2 * (B * s.1)=B * (s.1 * u.2):=by rw [Int.mul_left_comm,Int.mul_comm u.2]
 omega
theorem lead_after {p q:Pt} {s u:Int × Int} (hs:1≤s.2) (hu:1≤u.2) (h:leR s u) (h0:farV p q s=0) (hb:p.2.2<q.2.2∨p.2.2=q.2.2∧q.1<p.1):leads q p u=true:=by
 have e:=valP_step (p:=p) (q:=q) (s:=s) (u:=u)
 rw [h0,Int.mul_zero,Int.zero_add] at e
 have hle:s.1 * u.2≤u.1 * s.2:=h
 have hneg:(p.2.2-q.2.2) * (u.1 * s.2-s.1 * u.2)≤0:=by
  have:=Int.mul_le_mul_of_nonneg_right (show p.2.2-q.2.2≤0 by omega) (show 0≤u.1 * s.2-s.1 * u.2 by omega)
  rw [Int.zero_mul] at this; exact this
 have fle:farV p q u≤0:=by
  rcases Int.lt_or_le 0 (farV p q u) with x | x
  ·have:=Int.mul_pos (show 0<s.2 by omega) x
   omega
  ·exact x
 rw [leads_iff]
 have fv:=farV_val p q u
 rcases hb with hb | ⟨hb1,hb2⟩
 ·omega
 ·have fz:farV p q u=0:=by
   rw [hb1,Int.sub_self,Int.zero_mul] at e
   rcases Int.mul_eq_zero.1 e with x | x
   ·omega
   ·exact x
  omega
theorem okM.level {l:Ls} (w:okM l) {i:Nat} (hi:i<l.num.length) {s:Int × Int} (h:failM (ptL l i) (ptL l (i+1)) l.ck.now=some s):farV (ptL l i) (ptL l (i+1)) s=0∧((ptL l i).2.2<(ptL l (i+1)).2.2∨(ptL l i).2.2=(ptL l (i+1)).2.2∧(ptL l (i+1)).1<(ptL l i).1):=by
 have nl:=w.nl
 have d:=w.desc i (i+1) (by omega) (by omega)
 have p1:=(w.pt (k:=i) (by omega)).1
 have p2:=(w.pt (k:=i+1) (by omega)).1
 generalize ptL l i=p at *
 generalize ptL l (i+1)=q at *
 unfold failM at h
 split at h
 ·rename_i hl
  have hs:s=l.ck.now:=(Option.some.inj h).symm
  subst hs
  rw [leads_iff] at hl
  rw [farV_val]
  omega
 ·split at h
  ·rename_i hb
   obtain ⟨x,y,g,g0,em,e1,e2,e3⟩:=meet_parts p1 p2 hb
   rw [em] at h
   have hs:s=(x,y):=(Option.some.inj h).symm
   subst hs
   rw [farV_at e1 e2]
   refine ⟨?_,.inl hb⟩
   show (x * y-x * y) * g=0
   rw [Int.sub_self,Int.zero_mul]
  ·cases h

/-! ### Two neighbours of an order exchanged -/
def swapO (o:List Int) (i:Nat):List Int:=(o.set i (o.getD (i+1) 0)).set (i+1) (o.getD i 0)
theorem swapO_len (o:List Int) (i:Nat):(swapO o i).length=o.length:=by unfold swapO; rw [List.length_set,List.length_set]
theorem swapO_get {o:List Int} {i:Nat} (hi:i+1<o.length) (k:Nat):(swapO o i).getD k 0=if k=i then o.getD (i+1) 0 else if k=i+1 then o.getD i 0 else o.getD k 0:=by
 unfold swapO
 rw [List.getD_eq_getElem?_getD,List.getElem?_set,List.getElem?_set,List.length_set]
 by_cases h1:i+1=k
 ·rw [if_pos h1,if_pos hi,if_neg (by omega),if_pos h1.symm]; rfl
 ·rw [if_neg h1]
  by_cases h2:i=k
  ·rw [if_pos h2,if_pos (by omega),if_pos h2.symm]; rfl
  ·rw [if_neg h2,if_neg (fun h=>h2 h.symm),if_neg (fun h=>h1 h.symm),List.getD_eq_getElem?_getD]
theorem swapO_split {o:List Int} {i:Nat} (hi:i+1<o.length):o=o.take i++o.getD i 0 :: o.getD (i+1) 0 :: o.drop (i+2)∧swapO o i=o.take i++o.getD (i+1) 0 :: o.getD i 0 :: o.drop (i+2):=by
 have h1:o[i]?=some (o.getD i 0):=by
  have:=getI (xs:=o) (i:=(i:Int)) (by omega) (by omega)
  rw [Int.toNat_natCast] at this; exact this
 have h2:o[i+1]?=some (o.getD (i+1) 0):=by
  have:=getI (xs:=o) (i:=((i+1:Nat):Int)) (by omega) (by omega)
  rw [Int.toNat_natCast] at this; exact this
 have e:o=o.take i++o.getD i 0 :: o.getD (i+1) 0 :: o.drop (i+2):=by
  have a:=List.take_append_drop i o
  rw [dropX h1,dropX h2] at a
  exact a.symm
 refine ⟨e,?_⟩
 have tl:(o.take i).length=i:=by rw [List.length_take]; omega
 unfold swapO
 generalize o.getD (i+1) 0=b at *
 generalize o.getD i 0=a at *
 generalize o.drop (i+2)=post at *
 generalize o.take i=pre at *
 subst e
 subst tl
 rw [List.set_append_right _ _ (Nat.le_refl _),Nat.sub_self,List.set_cons_zero,List.set_append_right _ _ (by omega),show pre.length+1-pre.length=1 by omega]
 rfl
theorem swapO_perm {o:List Int} {i:Nat} (hi:i+1<o.length):(swapO o i).Perm o:=by
 obtain ⟨e1,e2⟩:=swapO_split hi
 rw [e2]
 conv=>rhs; rw [e1]
 exact List.Perm.append_left _ (List.Perm.swap _ _ _)

/-! ### What grows with each swap -/
/-! ### A list without the certificates of some neighbours -/
structure Mid (l:Ls) (lo hi:Nat):Prop where
 ck:okK l.ck
 perm:l.ord.Perm (l.ck.f.map (·.1))
 nl:l.num.length=l.ord.length-1
 le:lo≤hi
 hl:hi≤l.num.length
 cl:l.ck.ct.list.length+(hi-lo)=l.num.length
 certs:∀ k,k<l.num.length→(k<lo∨hi≤k)→(l.num.getD k 0,pairM l.ord k)∈l.ck.ct.list
 desc:∀ j i,i<j→j<l.ord.length→valP (ptL l j) l.ck.now≤valP (ptL l i) l.ck.now
theorem Mid.done {l:Ls} {k:Nat} (m:Mid l k k):okM l:=⟨m.ck,m.perm,m.nl,by have:=m.cl; omega,fun i hi=>m.certs i hi (by omega),fun i j h1 h2=>m.desc j i h1 h2⟩
theorem Mid.swap {l:Ls} {lo hi i:Nat} (m:Mid l lo hi) (hi':i+1<l.ord.length) (h1:lo+1≤i∨lo=0) (h2:i+2≤hi∨hi=l.num.length) (h3:lo≤i) (h4:i+1≤hi) (hv:valP (ptL l i) l.ck.now=valP (ptL l (i+1)) l.ck.now):Mid ⟨l.ck,swapO l.ord i,l.num⟩ lo hi:=by
  have hl:=swapO_len l.ord i
  have nl:=m.nl
  have hlm:=m.hl
  refine ⟨m.ck,(swapO_perm hi').trans m.perm,by rw [hl]; exact nl,m.le,m.hl,m.cl,fun k hk ho=>?_,fun b a hab hb0=>?_⟩
  · have hk:k<l.num.length:=hk
    have e:pairM (swapO l.ord i) k=pairM l.ord k:=by
      unfold pairM
      rw [swapO_get hi',swapO_get hi',if_neg (by omega),if_neg (by omega),if_neg (by omega),if_neg (by omega)]
    show (l.num.getD k 0,pairM (swapO l.ord i) k)∈_
    rw [e]; exact m.certs k hk ho
  · have hb:b<l.ord.length:=by have:b<(swapO l.ord i).length:=hb0
                               omega
    have pe:∀ k,ptL ⟨l.ck,swapO l.ord i,l.num⟩ k=if k=i then ptL l (i+1) else if k=i+1 then ptL l i else ptL l k:=fun k=>by
      unfold ptL
      simp only
      rw [swapO_get hi']
      split
      · rfl
      · split <;> rfl
    rw [pe,pe]
    show valP (if b=i then _ else _) l.ck.now≤valP (if a=i then _ else _) l.ck.now
    by_cases ha:a=i
    · subst ha
      rw [if_neg (by omega),if_pos rfl]
      by_cases hb2:b=a+1
      · rw [if_pos hb2,hv]; exact Int.le_refl _
      · rw [if_neg hb2]; exact m.desc b (a+1) (by omega) hb
    · rw [if_neg ha]
      by_cases ha2:a=i+1
      · rw [if_neg (by omega),if_neg (by omega),if_pos ha2]; exact m.desc b i (by omega) hb
      · rw [if_neg ha2]
        by_cases hb2:b=i
        · rw [if_pos hb2]; exact m.desc (i+1) a (by omega) hi'
        · rw [if_neg hb2]
          by_cases hb3:b=i+1
          · rw [if_pos hb3]; exact m.desc i a (by omega) (by omega)
          · rw [if_neg hb3]; exact m.desc b a hab hb
theorem Mid.make {l:Ls} {lo hi:Nat} (m:Mid l lo hi) (h:lo<hi) (hz:(madeL l lo).2=0):Mid (madeL l lo).1 (lo+1) hi∧(madeL l lo).1.ck.f=l.ck.f∧(madeL l lo).1.ck.now=l.ck.now∧(madeL l lo).1.ord=l.ord∧(madeL l lo).1.num.length=l.num.length:=by
 have hlm:=m.hl; have nl:=m.nl; have cl:=m.cl
 have p1:0≤posF l.ck.f (pairM l.ord lo).1:=permPos m.ck.f m.perm (memO (by omega))
 have p2:0≤posF l.ck.f (pairM l.ord lo).2:=permPos m.ck.f m.perm (memO (by omega))
 unfold madeL at hz ⊢
 split at hz
 ·rename_i he
  rw [if_pos he]
  obtain ⟨a1,a2,a3,a4,a5⟩:=m.ck.add p1 p2 he
  refine ⟨⟨a1,?_,?_,by omega,?_,?_,fun k hk ho=>?_,fun j i hij hj=>?_⟩,a4,a5,rfl,List.length_set ..⟩
  ·show l.ord.Perm ((addK l.ck (pairM l.ord lo)).1.f.map (·.1))
   rw [a4]; exact m.perm
  ·show (l.num.set _ _).length=_
   rw [List.length_set]; exact nl
  ·show hi≤(l.num.set _ _).length
   rw [List.length_set]; exact hlm
  ·show (addK l.ck (pairM l.ord lo)).1.ct.list.length+_=(l.num.set _ _).length
   rw [a3,List.length_set,List.length_append]
   show _+1+_=_
   omega
  ·have hk:k<(l.num.set lo (addK l.ck (pairM l.ord lo)).2.1).length:=hk
   rw [List.length_set] at hk
   show ((l.num.set lo (addK l.ck (pairM l.ord lo)).2.1).getD k 0,pairM l.ord k)∈(addK l.ck (pairM l.ord lo)).1.ct.list
   rw [a3,List.getD_eq_getElem?_getD,List.getElem?_set]
   by_cases e:lo=k
   ·subst e
    rw [if_pos rfl,if_pos hk,a2]
    exact List.mem_append_right _ (List.mem_singleton.2 rfl)
   ·rw [if_neg e,← List.getD_eq_getElem?_getD]
    exact List.mem_append_left _ (m.certs k hk (by omega))
  ·have:=m.desc j i hij hj
   unfold ptL at this ⊢
   simp only
   rw [a4,a5]; exact this
 ·rename_i he; exact absurd hz he
def makesN (l:Ls) (a:Nat):Nat→Ls × Int
 | 0=>(l,0)
 | n+1=>if (makesN l a n).2=0 then madeL (makesN l a n).1 (a+n) else makesN l a n
theorem Mid.makes {l:Ls} {lo hi:Nat} (m:Mid l lo hi):∀ n,lo+n≤hi→(makesN l lo n).2=0→Mid (makesN l lo n).1 (lo+n) hi∧(makesN l lo n).1.ck.f=l.ck.f∧(makesN l lo n).1.ck.now=l.ck.now∧(makesN l lo n).1.ord=l.ord∧(makesN l lo n).1.num.length=l.num.length
 | 0,_,_=>⟨m,rfl,rfl,rfl,rfl⟩
 | n+1,hn,hz=>by
  have e:makesN l lo (n+1)=if (makesN l lo n).2=0 then madeL (makesN l lo n).1 (lo+n) else makesN l lo n:=rfl
  rw [e] at hz ⊢
  by_cases h0:(makesN l lo n).2=0
  ·rw [if_pos h0] at hz ⊢
   obtain ⟨a1,a2,a3,a4,a5⟩:=m.makes n (by omega) h0
   obtain ⟨b1,b2,b3,b4,b5⟩:=a1.make (by omega) hz
   exact ⟨b1,b2.trans a2,b3.trans a3,b4.trans a4,b5.trans a5⟩
  ·rw [if_neg h0] at hz; exact absurd hz h0

/-! ### A swap -/
def goneIf (c:Ck) (b:Bool) (n:Int):Ck:=if b=true then goneK c n else c

/-! ### The order of its time -/

theorem fitMid {l:Ls} (ck:okK l.ck) (hp:l.ord.Perm (l.ck.f.map (·.1))) (nl:l.num.length=l.ord.length-1):fitL l:=by
 have a:=ck.f.small
 have b:=hp.length_eq
 rw [List.length_map] at b
 exact ⟨ck.fit,by omega,by omega⟩
theorem Mid.fit {l:Ls} {lo hi:Nat} (m:Mid l lo hi):fitL l:=fitMid m.ck m.perm m.nl
theorem okM.fit {l:Ls} (w:okM l):fitL l:=fitMid w.ck w.perm w.nl
theorem Mid.small {l:Ls} {lo hi:Nat} (m:Mid l lo hi):l.ord.length≤64:=by
 have a:=m.ck.f.len
 have b:=m.perm.length_eq
 rw [List.length_map] at b
 omega
theorem Mid.certify {l:Ls} {lo hi:Nat} (m:Mid l lo hi) {i:Nat} (h:i<l.num.length):certifyK l.ck (pairM l.ord i)=addK l.ck (pairM l.ord i):=by
 have nl:=m.nl
 have p1:0≤posF l.ck.f (pairM l.ord i).1:=permPos m.ck.f m.perm (memO (by omega))
 have p2:0≤posF l.ck.f (pairM l.ord i).2:=permPos m.ck.f m.perm (memO (by omega))
 have hne:(pairM l.ord i).1≠(pairM l.ord i).2:=fun e=>by
  have d:=permNe m.ck.f m.perm
  have a1:=posO_here d (k:=i+1) (by omega)
  have a2:=posO_here d (k:=i) (by omega)
  have e:l.ord.getD (i+1) 0=l.ord.getD i 0:=e
  rw [e,a2] at a1
  omega
 have q1:=m.ck.f.pt p1; have q2:=m.ck.f.pt p2
 have r1:=(posF_range p1).2.2; have r2:=(posF_range p2).2.2
 have a1:=q1.i0; have a2:=q1.i1; have a3:=q2.i0; have a4:=q2.i1
 rw [r1] at a1 a2; rw [r2] at a3 a4
 have hv:validC (pairM l.ord i)=true:=by
  unfold validC
  simp only [Bool.and_eq_true,decide_eq_true_eq,bne_iff_ne,ne_eq]
  omega
 unfold certifyK
 rw [if_pos ⟨m.ck,hv⟩,if_neg (by omega)]
theorem madeL_zero {l:Ls} {i:Nat} (h:(madeL l i).2≠0):(madeL l i).1=.zero:=by
 unfold madeL at h ⊢
 split
 ·rename_i h2; rw [if_pos h2] at h; exact absurd rfl h
 ·rfl
theorem makesN_zero {l:Ls} {a:Nat}:∀ n,(makesN l a n).2≠0→(makesN l a n).1=.zero
 | 0,h=>absurd rfl h
 | n+1,h=>by
  have e:makesN l a (n+1)=if (makesN l a n).2=0 then madeL (makesN l a n).1 (a+n) else makesN l a n:=rfl
  rw [e] at h ⊢
  by_cases h0:(makesN l a n).2=0
  ·rw [if_pos h0] at h ⊢; exact madeL_zero h
  ·rw [if_neg h0] at h ⊢; exact makesN_zero n h
/-! ### Advancing -/
end Go.Proofs.YtjhbjjdipmpgjaaGreat
end
