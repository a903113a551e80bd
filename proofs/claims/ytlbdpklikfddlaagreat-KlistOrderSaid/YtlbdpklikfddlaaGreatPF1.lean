/- The engine, parts FA, RO, LQ, LW, put together. Conditions: none. -/
import Derived.Test.YtlbdpklikfddlaaGreatPN2
import Derived.Test.YtlbdpklikfddlaaGreatPQ1
import Derived.Test.YtlbdpklikfddlaaGreatPA1
import Derived.Test.YtlbdpklikfddlaaGreatPL5
set_option linter.unusedVariables false
section
/- Points put into a field, taken out, changed, in plain Lean; what becomes of the order. Conditions: none. -/
set_option maxRecDepth 100000
open Go Go.Eng Go.Proofs
namespace Go.Proofs.YtlbdpklikfddlaaGreat

def outF (f:List Pt) (id:Int):List Pt:=f.filter fun q=>q.1 != id
/-! ### The order -/
def cutI (o:List Int) (i:Nat):List Int:=o.take i++o.drop (i+1)

/-! ### Room for so many certificates -/
structure Room (c:Ck) (k:Nat):Prop where
 next:c.ct.next+k≤1000000
 uses:∀ i:Nat,c.ag.tb.uses.getD i 0+k≤1000000
theorem Room.less {c:Ck} {k m:Nat} (r:Room c k) (h:m≤k):Room c m :=
 ⟨by have:=r.next; omega,fun i=>by have:=r.uses i; omega⟩
theorem Room.add {c:Ck} {k:Nat} {y:Int × Int} (ok:okK c) (r:Room c (k+1)) (hv:validC y=true) (hh:hasC c.ct y=false) (hl:c.ct.list.length<200):(addK c y).2.2=0∧Room (addK c y).1 k:=by
 have rn:=r.next
 have ea:addC c.ct y=(⟨c.ct.next+1,c.ct.list++[(c.ct.next,y)]⟩,c.ct.next,0):=by
  unfold addC
  rw [if_pos ⟨ok.ct,hv⟩,hh,if_neg (by simp),if_neg (by omega)]
 have hc:c.ag.tb.canTake=true:=by
  have a1:=ok.ag.hl
  have a2:=ok.wl
  have a3:=ok.ag.wl
  have a4:=ok.hl
  have a5:=ok.dueLe
  exact canTake_iff.2 ⟨by omega,by have:=r.uses (topL c.ag.tb.free).toNat; omega⟩
 have hfl:0<c.ag.tb.free.length:=(canTake_iff.1 hc).1
 obtain ⟨tm,k0,k1⟩:=ok.ag.tb.topR hfl
 unfold addK; rw [ea,if_pos rfl]
 cases whenM c.f y c.now with
 | none =>
  refine ⟨rfl,?_,fun i=>?_⟩
  ·show c.ct.next+1+k≤_; omega
  ·show c.ag.tb.uses.getD i 0+k≤_
   have:=r.uses i; omega
 | some s =>
  simp only; rw [if_pos hc]
  refine ⟨rfl,?_,fun i=>?_⟩
  ·show c.ct.next+1+k≤_; omega
  ·show (c.ag.tb.uses.set _ _).getD i 0+k≤_
   have u1:=r.uses i
   rw [getD_setI (by omega)]
   have:=r.uses (topL c.ag.tb.free).toNat
   split <;> omega
theorem removedA_uses (a:Ag) (h:Int × Int):(removedA a h).tb.uses=a.tb.uses:=by
 unfold removedA
 split <;> rfl
theorem goneK_uses (c:Ck) (n:Int):(goneK c n).ag.tb.uses=c.ag.tb.uses:=by
 unfold goneK
 split
 ·exact removedA_uses _ _
 ·rfl
theorem Room.gone {c:Ck} {k:Nat} (r:Room c k) (n:Int):Room (goneK c n) k:=by
 refine ⟨?_,fun i=>?_⟩
 ·rw [(goneK_ct c n).1]; exact r.next
 ·rw [goneK_uses]; exact r.uses i
theorem Room.goneIf {c:Ck} {k:Nat} (r:Room c k) (b:Bool) (n:Int):Room (Go.Proofs.YtlbdpklikfddlaaGreat.goneIf c b n) k:=by
 unfold Go.Proofs.YtlbdpklikfddlaaGreat.goneIf
 split
 ·exact r.gone n
 ·exact r
theorem Room.at {c:Ck} {k:Nat} (r:Room c k) (t:Int × Int):Room { c with now:=t } k:=⟨r.next,r.uses⟩

/-! ### Another field with the same failure times -/
/-! ### Certificates made do not fail -/
theorem Mid.of_cert {l:Ls} {lo hi:Nat} (m:Mid l lo hi) {h:Int × Int × Int} (hm:h∈l.ck.ct.list):∃ k,k<l.num.length∧(k<lo∨hi≤k)∧h=(l.num.getD k 0,pairM l.ord k):=by
 have nl:=m.nl; have cl:=m.cl; have le:=m.le; have hl:=m.hl
 obtain ⟨j,hj⟩:=List.mem_iff_getElem?.1 hm
 have hjl:=(List.getElem?_eq_some_iff.1 hj).1
 have gp:∀ i,i<l.ck.ct.list.length→(if i<lo then i else i+(hi-lo))<l.num.length∧((if i<lo then i else i+(hi-lo))<lo∨hi≤(if i<lo then i else i+(hi-lo))):=fun i hi'=>by
  split <;> omega
 have facts:∀ k,k<l.num.length→(k<lo∨hi≤k)→0≤atC l.ck.ct (l.num.getD k 0)∧atC l.ck.ct (l.num.getD k 0)<l.ck.ct.list.length∧getD3 l.ck.ct.list (atC l.ck.ct (l.num.getD k 0))=(l.num.getD k 0,pairM l.ord k):=fun k hk ho=>m.ck.ct.at_mem (m.certs k hk ho)
 obtain ⟨i,hi',he⟩:=all_hit (n:=l.ck.ct.list.length) (f:=fun i=>(atC l.ck.ct (l.num.getD (if i<lo then i else i+(hi-lo)) 0)).toNat) (fun i i' h1 h2 he=>by
  obtain ⟨a1,a2⟩:=gp i h1
  obtain ⟨b1,b2⟩:=gp i' h2
  obtain ⟨a3,a4,a5⟩:=facts _ a1 a2
  obtain ⟨b3,b4,b5⟩:=facts _ b1 b2
  have he:(atC l.ck.ct (l.num.getD (if i<lo then i else i+(hi-lo)) 0)).toNat=(atC l.ck.ct (l.num.getD (if i'<lo then i' else i'+(hi-lo)) 0)).toNat:=he
  have e:atC l.ck.ct (l.num.getD (if i<lo then i else i+(hi-lo)) 0)=atC l.ck.ct (l.num.getD (if i'<lo then i' else i'+(hi-lo)) 0):=by omega
  rw [e,b5] at a5
  have ep:=pair_inj (permNe m.ck.f m.perm) (by omega) (by omega) (congrArg Prod.snd a5)
  split at ep <;> split at ep <;> omega) (fun i h1=>by
  obtain ⟨a1,a2⟩:=gp i h1
  obtain ⟨a3,a4,a5⟩:=facts _ a1 a2
  show (atC l.ck.ct (l.num.getD (if i<lo then i else i+(hi-lo)) 0)).toNat<_
  omega) (k:=j) hjl
 have he:(atC l.ck.ct (l.num.getD (if i<lo then i else i+(hi-lo)) 0)).toNat=j:=he
 obtain ⟨a1,a2⟩:=gp i hi'
 obtain ⟨a3,a4,a5⟩:=facts _ a1 a2
 refine ⟨_,a1,a2,?_⟩
 rw [← a5]
 unfold getD3
 rw [he,List.getD_eq_getElem?_getD,hj]; rfl
theorem Mid.valid {l:Ls} {lo hi:Nat} (m:Mid l lo hi) {i:Nat} (h:i<l.num.length):validC (pairM l.ord i)=true:=by
 have e:=m.certify h
 unfold certifyK at e
 have nl:=m.nl
 have p1:0≤posF l.ck.f (pairM l.ord i).1:=permPos m.ck.f m.perm (memO (by omega))
 have p2:0≤posF l.ck.f (pairM l.ord i).2:=permPos m.ck.f m.perm (memO (by omega))
 have hne:(pairM l.ord i).1≠(pairM l.ord i).2:=fun e=>by
  have d:=permNe m.ck.f m.perm
  have a1:=posO_here d (k:=i+1) (by omega)
  have a2:=posO_here d (k:=i) (by omega)
  have e:l.ord.getD (i+1) 0=l.ord.getD i 0:=e
  rw [e,a2] at a1
  omega
 have q1:=m.ck.f.pt p1; have q2:=m.ck.f.pt p2
 have r1:=(posF_range p1).2.2; have r2:=(posF_range p2).2.2
 have a1:=q1.i0; have a2:=q1.i1; have a3:=q2.i0; have a4:=q2.i1
 rw [r1] at a1 a2; rw [r2] at a3 a4
 unfold validC
 simp only [Bool.and_eq_true,decide_eq_true_eq,bne_iff_ne,ne_eq]
 omega
theorem Mid.roomy {l:Ls} {lo hi k:Nat} (m:Mid l lo hi) (h:lo<hi) (r:Room l.ck (k+1)):(madeL l lo).2=0∧Room (madeL l lo).1.ck k:=by
 have hl:=m.hl; have nl:=m.nl; have cl:=m.cl
 have sm:=m.small
 have hh:hasC l.ck.ct (pairM l.ord lo)=false:=by
  cases e:hasC l.ck.ct (pairM l.ord lo) with
  | false=>rfl
  | true =>
   obtain ⟨z,hz,e⟩:=List.any_eq_true.1 e
   rw [beq_iff_eq] at e
   obtain ⟨k,h1,h2,h3⟩:=m.of_cert hz
   rw [h3] at e
   have:=pair_inj (permNe m.ck.f m.perm) (by omega) (by omega) e
   omega
 obtain ⟨a1,a2⟩:=r.add m.ck (m.valid (by omega)) hh (by omega)
 unfold madeL
 rw [if_pos a1]
 exact ⟨rfl,a2⟩
theorem Mid.roomies {l:Ls} {lo hi:Nat} (m:Mid l lo hi):∀ n k,lo+n≤hi→Room l.ck (k+n)→(makesN l lo n).2=0∧Room (makesN l lo n).1.ck k
 | 0,k,_,r=>⟨rfl,r⟩
 | n+1,k,hn,r=>by
  obtain ⟨a1,a2⟩:=m.roomies n (k+1) (by omega) (r.less (by omega))
  have e:makesN l lo (n+1)=if (makesN l lo n).2=0 then madeL (makesN l lo n).1 (lo+n) else makesN l lo n:=rfl
  rw [e,if_pos a1]
  exact (m.makes n (by omega) a1).1.roomy (by omega) a2
theorem SwapOk.roomy {l:Ls} {to:Int × Int} {i k:Nat} (s:SwapOk l to i) (r:Room l.ck (k+3)):(swapL l i).2=0∧Room (swapL l i).1.ck k:=by
 have le:=s.mid.le
 have r1:Room (swapC l i) (k+3):=by
  unfold swapC
  exact (Room.goneIf (Room.goneIf ((r.gone _).at _) _ _) _ _)
 exact s.mid.roomies _ _ (by omega) (r1.less (by omega))

/-! ### How many swaps there are -/
def invL (rk:Int→Nat):List Int→Nat
 | []=>0
 | x :: xs=>xs.countP (fun y=>decide (rk y<rk x))+invL rk xs
theorem invL_le (rk:Int→Nat):∀ o:List Int,invL rk o≤o.length * o.length
 | []=>Nat.le_refl _
 | x :: xs=>by
  have ih:=invL_le rk xs
  have hc:=List.countP_le_length (p:=fun y=>decide (rk y<rk x)) (l:=xs)
  show _+invL rk xs≤(xs.length+1) * (xs.length+1)
  rw [Nat.add_mul,Nat.mul_add]
  omega
theorem invL_app (rk:Int→Nat) {a b:List Int} (hp:a.Perm b) (d:Nat) (h:invL rk a=invL rk b+d):∀ pre:List Int,invL rk (pre++a)=invL rk (pre++b)+d
 | []=>h
 | x :: pre=>by
  have ih:=invL_app rk hp d h pre
  show (pre++a).countP _+invL rk (pre++a)=(pre++b).countP _+invL rk (pre++b)+d
  rw [ih,(List.Perm.append_left pre hp).countP_eq]
  omega
theorem invL_swap (rk:Int→Nat) {o:List Int} {i:Nat} (hi:i+1<o.length) (h:rk (o.getD (i+1) 0)<rk (o.getD i 0)):invL rk o=invL rk (swapO o i)+1:=by
 obtain ⟨e1,e2⟩:=swapO_split hi
 rw [e2]
 conv=>lhs; rw [e1]
 refine invL_app rk (List.Perm.swap _ _ _) 1 ?_ _
 generalize o.getD (i+1) 0=b at *
 generalize o.getD i 0=a at *
 generalize o.drop (i+2)=post
 show (b :: post).countP _+(post.countP _+invL rk post)=(a :: post).countP _+(post.countP _+invL rk post)+1
 rw [List.countP_cons,List.countP_cons,if_pos (by simpa using h),if_neg (by simp; omega)]
 omega
theorem invL_zero (rk:Int→Nat):∀ {o:List Int},(o.Pairwise fun x y=>rk x≤rk y)→invL rk o=0
 | [],_=>rfl
 | x :: xs,h=>by
  obtain ⟨h1,h2⟩:=List.pairwise_cons.1 h
  have ih:=invL_zero rk h2
  show xs.countP _+invL rk xs=0
  rw [ih,List.countP_eq_zero.2 fun y hy=>by have:=h1 y hy; simp; omega]
theorem inv_done {f:List Pt} (of:okF f) (t:Int × Int):invL (rkT f t) (ordM f t)=0:=by
 apply invL_zero
 have S:=sortM_sorted (okF_ids of) t
 unfold ordM
 rw [List.pairwise_map]
 refine List.Pairwise.imp_of_mem (fun {p q} hp hq h=>?_) S.ord
 have mp:=S.perm.mem_iff.1 hp
 have mq:=S.perm.mem_iff.1 hq
 unfold rkT
 rw [gP_of of mp,gP_of of mq]
 exact Nat.le_of_lt (rank_lt of mq mp h)
structure AdvOk (l:Ls) (to:Int × Int) (n k:Nat) (m:Ls):Prop where
 e:advR l to=(m,(n:Int),0)
 okm:okM m
 u:untilK m.ck to=0
 w:waitsK m.ck to=false
 fe:m.ck.f=l.ck.f
 room:Room m.ck k
theorem adv_room {to:Int × Int}:∀ (n k:Nat) (l:Ls),okM l→untilK l.ck to=0→invL (rkT l.ck.f to) l.ord=n→Room l.ck (k+3 * n)→∃ m,AdvOk l to n k m
 | n,k,l,w,hu,hi,r=>by
  obtain ⟨_,ot,_⟩:=untilK_zero.1 hu
  by_cases hw:waitsK l.ck to=true
  ·obtain ⟨i,s⟩:=swap_ok w ot hw
   have lt:=s.lt
   have nl:=w.nl
   have iv:=invL_swap (rkT l.ck.f to) (o:=l.ord) (i:=i) (by omega) s.rk
   cases n with
   | zero=>omega
   | succ n =>
    obtain ⟨hz,r2⟩:=s.roomy (k:=k+3 * n) (r.less (by omega))
    obtain ⟨b1,b2,b3,b4,b5⟩:=s.after hz
    obtain ⟨m,a⟩:=adv_room n k (swapL l i).1 b1 (untilK_zero.2 ⟨b1.ck,ot,by rw [b3]; exact s.le⟩) (by rw [b2,b4]; omega) r2
    refine ⟨m,?_,a.okm,a.u,a.w,a.fe.trans b2,a.room⟩
    rw [advR_next w ot hw s hz,a.e]
    unfold addR
    rw [if_pos rfl]
    rfl
  ·have hw:waitsK l.ck to=false:=by simpa using hw
   have o:=w.moved hu hw
   have eo:l.ord=ordM l.ck.f to:=o.ord
   have hz:n=0:=by rw [← hi,eo]; exact inv_done w.ck.f to
   subst hz
   exact ⟨l,advR_stop hw,w,hu,hw,rfl,r.less (by omega)⟩
def swapsM (l:Ls) (to:Int × Int):Nat:=invL (rkT l.ck.f to) l.ord
theorem swapsM_le {l:Ls} (ok:okLs l) (to:Int × Int):swapsM l to≤4096:=by
 have a:=ok.ck.f.len
 have b:=ok.len
 have:=invL_le (rkT l.ck.f to) l.ord
 have:=Nat.mul_le_mul (show l.ord.length≤64 by omega) (show l.ord.length≤64 by omega)
 unfold swapsM
 omega
structure Advd (l:Ls) (to:Int × Int) (k:Nat):Prop where
 z:(advM l to).2.2=0
 n:(advM l to).2.1=swapsM l to
 ok:okLs (advM l to).1
 now:(advM l to).1.ck.now=to
 f:(advM l to).1.ck.f=l.ck.f
 ord:(advM l to).1.ord=ordM l.ck.f to
 room:Room (advM l to).1.ck k
theorem advd {l:Ls} {to:Int × Int} (ok:okLs l) (hu:untilK l.ck to=0) {k:Nat} (r:Room l.ck (k+12288)):Advd l to k:=by
 have sl:=swapsM_le ok to
 obtain ⟨m,a⟩:=adv_room (swapsM l to) k l ok.weak hu rfl (r.less (by omega))
 have ea:advM l to=(movedL m to,(swapsM l to:Int),0):=by
  unfold advM
  rw [if_pos ok,if_pos hu,a.e,if_pos rfl]
 have o:=a.okm.moved a.u a.w
 refine ⟨by rw [ea],by rw [ea],by rw [ea]; exact o,by rw [ea]; rfl,by rw [ea]; exact a.fe,?_,by rw [ea]; exact a.room.at _⟩
 rw [ea]
 show m.ord=_
 have:=o.ord
 rw [← a.fe]; exact this

/-! ### What is done -/
def outI (l:Ls) (id:Int):Nat:=(posO l.ord id).toNat
def takeC (l:Ls) (id:Int):Ck:=goneIf (goneIf l.ck (decide (0<outI l id)) (l.num.getD (outI l id-1) 0)) (decide (outI l id<l.num.length)) (l.num.getD (outI l id) 0)
def outS (l:Ls) (id:Int):Ls:=⟨(alteredK (takeC l id) (outF l.ck.f id)).1,cutI l.ord (outI l id),cutI l.num (min (outI l id) (l.num.length-1))⟩
def takeL (l:Ls) (id:Int):Ls × Int :=
 if (alteredK (takeC l id) (outF l.ck.f id)).2≠0 then (.zero,(alteredK (takeC l id) (outF l.ck.f id)).2)
 else if 0<outI l id∧outI l id<l.num.length then madeL (outS l id) (outI l id-1) else (outS l id,0)
def takeM (l:Ls) (id:Int):Ls × Int:=if okLs l then (if posO l.ord id<0 then (.zero,6) else takeL l id) else (.zero,8)
/-! ### Lists in the middle whose order is that of their time -/
theorem okLs.perm {l:Ls} (ok:okLs l):l.ord.Perm (l.ck.f.map (·.1)):=ok.weak.perm
theorem desc_of {l:Ls} (of:okF l.ck.f) (eo:l.ord=ordM l.ck.f l.ck.now):∀ j i,i<j→j<l.ord.length→valP (ptL l j) l.ck.now≤valP (ptL l i) l.ck.now:=fun j i hij hj=>by
 have hl:l.ord.length=l.ck.f.length:=by rw [eo,ordM_len]
 have e:∀ k,k<l.ck.f.length→ptL l k=sP l.ck.f l.ck.now k:=fun k hk=>by
  unfold ptL
  rw [eo,sP_ordD hk,sP_find of hk]
 rw [e j (by omega),e i (by omega)]
 exact sP_val of hij (by omega)
theorem okM.done {l:Ls} (w:okM l) (eo:l.ord=ordM l.ck.f l.ck.now):okLs l:=okLs.of w.ck eo w.nl w.cl fun k hk=>(certOK_mem w.ck.ct).2 (w.certs k hk)
theorem ordPerm {f:List Pt} {t:Int × Int}:(ordM f t).Perm (f.map (·.1)):=(sortM_perm t f).map _
theorem okK.goneIf {c:Ck} (ok:okK c) (b:Bool) (n:Int):okK (Go.Proofs.YtlbdpklikfddlaaGreat.goneIf c b n):=by
 unfold Go.Proofs.YtlbdpklikfddlaaGreat.goneIf
 split
 ·exact (ok.gone n).1
 ·exact ok
/-! ### Putting in -/
/-! ### Taking out -/

/-! ### Nothing is due at the time of a valid list -/
theorem okLs.quiet {l:Ls} (ok:okLs l):waitsK l.ck l.ck.now=false:=by
 cases hw:waitsK l.ck l.ck.now with
 | false=>rfl
 | true =>
  exfalso
  unfold waitsK at hw
  rw [Bool.and_eq_true,decide_eq_true_eq,decide_eq_true_eq] at hw
  obtain ⟨h0,hle⟩:=hw
  have hle:=cmpR_le.1 hle
  obtain ⟨i,hi,hno,hF⟩:=ok.weak.event (hp_mem h0)
  have nl:=ok.nl
  have lv:=ok.weak.level hi hF
  have o1:okR (hp l.ck.ag.heap 0).at_:=(ok.ck.ag.each _ (hp_mem h0)).1
  have la:=lead_after o1.d1 ok.ck.now.d1 hle lv.1 lv.2
  have lb:=ok.leads (i:=i) (j:=i+1) (by omega) (by omega)
  rw [leads_asymm lb] at la
  cases la
/-! ### Lists of one field and time -/
/-! ### A list built anew -/
def startL (f:List Pt) (t:Int × Int):Ls:=⟨(newK f t).1,ordM f t,List.replicate (f.length-1) 0⟩
theorem buildN_makes (f:List Pt) (t:Int × Int):∀ n,buildN f t n=makesN (startL f t) 0 n
 | 0=>rfl
 | n+1=>by
  have ih:=buildN_makes f t n
  show (if (buildN f t n).2=0 then madeL (buildN f t n).1 n else buildN f t n)=(if (makesN (startL f t) 0 n).2=0 then madeL (makesN (startL f t) 0 n).1 (0+n) else makesN (startL f t) 0 n)
  rw [ih,Nat.zero_add]
structure Built (f:List Pt) (t:Int × Int):Prop where
 z:(buildL f t).2=0
 ok:okLs (buildL f t).1
 fe:(buildL f t).1.ck.f=f
 now:(buildL f t).1.ck.now=t
 ord:(buildL f t).1.ord=ordM f t
 room:Room (buildL f t).1.ck 999900
theorem built {f:List Pt} {t:Int × Int} (h:timedF f t=0):Built f t:=by
 obtain ⟨of,ot⟩:=timedF_zero.1 h
 have b:=BInv.start h
 have e:newK f t=(⟨t,f,.zero,beginA 200,[]⟩,0):=by unfold newK; rw [if_pos h]
 have l64:=of.len
 have ef:(startL f t).ck.f=f:=by unfold startL; simp only; rw [e]
 have en:(startL f t).ck.now=t:=by unfold startL; simp only; rw [e]
 have ect:(startL f t).ck.ct=Ct.zero:=by unfold startL; simp only; rw [e]
 have nlen:(startL f t).num.length=f.length-1:=by unfold startL; simp
 have m:Mid (startL f t) 0 (f.length-1):=by
  refine ⟨b.ok,?_,?_,by omega,by omega,?_,fun k hk ho=>by omega,?_⟩
  ·rw [ef]; exact ordPerm
  ·rw [nlen]
   show _=(ordM f t).length-1
   rw [ordM_len]
  ·rw [ect,nlen]; show 0+_=_; omega
  ·exact desc_of (l:=startL f t) (by rw [ef]; exact of) (by rw [ef,en]; rfl)
 have r:Room (startL f t).ck 1000000:=by
  refine ⟨by rw [ect]; decide,fun i=>?_⟩
  have:(startL f t).ck.ag.tb.uses=List.replicate 200 0:=by unfold startL; simp only; rw [e]; rfl
  rw [this,List.getD_eq_getElem?_getD,List.getElem?_replicate]
  split <;> simp
 obtain ⟨a1,a2⟩:=m.roomies (f.length-1) 999900 (by omega) (r.less (by omega))
 obtain ⟨b1,b2,b3,b4,_⟩:=m.makes (f.length-1) (by omega) a1
 have eb:buildL f t=makesN (startL f t) 0 (f.length-1):=by unfold buildL; rw [if_pos h,buildN_makes]
 rw [Nat.zero_add] at b1
 refine ⟨by rw [eb]; exact a1,?_,by rw [eb]; exact b2.trans ef,by rw [eb]; exact b3.trans en,by rw [eb]; exact b4,by rw [eb]; exact a2⟩
 rw [eb]
 refine b1.done.done ?_
 rw [b4,b2,b3,ef,en]; rfl
/-! ### What stays and what is new -/
def hasM (l:List Int) (n:Int):Bool:=l.any fun x=>x==n
/-! ### Put in and taken out again -/
/-! ### Two points in whatever order -/
end Go.Proofs.YtlbdpklikfddlaaGreat
end
