/- The law PickAhead. Conditions: none. -/
import Derived.Test.YtbbdplfkiioppaaGreatPXC
import Derived.Test.YtbbdplfkiioppaaGreatVgLPickAhead
import Derived.Test.YtbbdplfkiioppaaGreatFs
set_option linter.unusedVariables false
set_option maxRecDepth 100000
open Go Go.Eng Go.Proofs
namespace Go.Proofs.YtbbdplfkiioppaaGreat

theorem posF_at {f:List Pt} (of:okF f) {i:Nat} {q:Pt} (h:f[i]?=some q):posF f q.1=i:=by
 have hq:q∈f:=List.mem_of_getElem? h
 have h0:0≤posF f q.1:=posF_yes hq
 obtain ⟨a,b,c⟩:=posF_range h0
 have hi:=List.pairwise_iff_getElem.1 (okF_ids of)
 obtain ⟨a1,a2⟩:=List.getElem?_eq_some_iff.1 b
 obtain ⟨j1,j2⟩:=List.getElem?_eq_some_iff.1 h
 rcases Nat.lt_trichotomy (posF f q.1).toNat i with k | k | k
 ·exact absurd (by rw [a2,j2]; exact c) (hi _ _ a1 j1 k)
 ·omega
 ·exact absurd (by rw [a2,j2]; exact c.symm) (hi _ _ j1 a1 k)

set_option maxHeartbeats 2000000 in
theorem pickAhead {H:Hp} {u:Lu} {l:Ls} {k:Int} (r:RdL H u l) (hn:fitR l.ck.now) (hh:∀ y∈l.ck.ag.heap,fitR y.at_) :
  Qf Tryz.prog F.pelotonlaw30_PickAhead #[lsV u l,.int .i64 k] H (.bool true):=by
 have flg:greatL l=false→fitL l:=fun h=>fitL_of hn h hh
 have lo:(u.o.n:Int)=l.ord.length:=congrArg Nat.cast r.o.len
 have lp:(u.k.f.n:Int)=l.ck.f.length:=congrArg Nat.cast r.k.f.len
 refine pelotonlaw30_PickAhead_vc ⟨true,law30alive,greatL l,refLGreat r,chkLs l,fun h=>refLCheck r (flg (by simpa using h)),fun _=>⟨rfl,Hp.le_refl _⟩,fun hc=>?_⟩
 simp only [Bool.or_eq_false_iff,bne_eq_false_iff_eq,decide_eq_false_iff_not] at hc
 obtain ⟨⟨⟨⟨c1,c2⟩,c3⟩,c4⟩,_⟩:=hc
 have fl:=flg c1
 have ok:=chkLs_zero.1 c2
 have lf:=ok.ck.f.small
 have ln:=ok.len
 have hk:k.toNat<l.ord.length:=by omega
 have ek:kthM l k=(l.ord.getD k.toNat 0,0):=by unfold kthM; rw [if_pos ok,if_neg (by omega),if_neg (by omega)]
 have q:=pickKth (k:=k) r fl
 rw [ek] at q
 have hpos:=ok.pos (i:=k) (by omega) (by omega)
 obtain ⟨op,pm,pid⟩:=ok.ptOk hk
 obtain ⟨hr1,hr2,hr3⟩:=posF_range hpos
 have ahr:=ahead_rank ok hk
 have em:slcM l k (k+1)=([l.ord.getD k.toNat 0],0):=by
  unfold slcM
  rw [if_pos ok,if_neg (by omega)]
  congr 1
  have e1:(k+1).toNat=k.toNat+1:=by omega
  have e2:l.ord[k.toNat]?=some (l.ord.getD k.toNat 0):=getI (by omega) (by omega)
  rw [e1,take_succ e2,List.drop_append_of_le_length (by rw [List.length_take]; omega),List.drop_eq_nil_of_le (by rw [List.length_take]; omega)]; rfl
 generalize hP:ptL l k.toNat=P at op pm pid ahr
 have hP':gP l.ck.f (posF l.ck.f (l.ord.getD k.toNat 0))=P:=hP
 generalize hx:posF l.ck.f (l.ord.getD k.toNat 0)=x at hpos hr1 hr2 hr3 hP'
 refine ⟨_,_,q,x,hx ▸ refFAt r.k.f (by omega),fun h=>?_,fun _=>?_⟩
 ·simp at h; omega
 refine ⟨fun n i H'=>H'=H∧0≤i∧i≤l.ck.f.length∧n=(l.ck.f.take i.toNat).countP fun q=>q.1 != P.1&&leads q P l.ck.now,fun _ i _=>(l.ck.f.length-i).toNat,⟨rfl,Int.le_refl _,by omega,by simp⟩,
  fun n i H' ⟨e,i0,i1,hne⟩=>?_⟩
 subst e
 refine ⟨fun h=>?_,fun h=>?_⟩
 ·have hi:i<l.ck.f.length:=by have:=of_decide_eq_true h; omega
  have hg:=getX (d:=((0:Int),(0:Int),(0:Int))) i0 hi
  have gs:=r.k.f.inS i0 hi
  have g3:=r.k.f.gD i0 hi
  generalize l.ck.f.getD i.toNat (0,0,0)=q at hg g3
  have oq:=ok.ck.f.each q (List.mem_of_getElem? hg)
  have pq:=posF_at ok.ck.f hg
  have hs:(l.ck.f.take (i+1).toNat).countP (fun q=>q.1 != P.1&&leads q P l.ck.now)=(l.ck.f.take i.toNat).countP (fun q=>q.1 != P.1&&leads q P l.ck.now)+if (q.1 != P.1&&leads q P l.ck.now)=true then 1 else 0:=by
   rw [show (i+1).toNat=i.toNat+1 by omega,take_succ hg,List.countP_append,List.countP_singleton]
  have hle:(l.ck.f.take i.toNat).countP (fun q=>q.1 != P.1&&leads q P l.ck.now)≤l.ck.f.length:=Nat.le_trans (List.countP_le_length) (by simp; omega)
  have ms:(l.ck.f.length-(i+1):Int).toNat<(l.ck.f.length-i:Int).toNat:=by omega
  have gx:=r.k.f.gD hpos (by omega)
  have gx':l.ck.f.getD x.toNat (0,0,0)=P:=hP'
  rw [gx'] at gx
  have pp:posF l.ck.f P.1=x:=by rw [pid,hx]
  refine ⟨fun hb=>?_,fun hb=>?_⟩
  ·have hb:i=x:=beq_iff_eq.1 hb
   have eq1:q.1=P.1:=by
    have e2:l.ck.f[i.toNat]?=some P:=by rw [hb,hr2,hP']
    rw [hg] at e2; cases e2; rfl
   exact ⟨by unfold inI; omega,⟨rfl,by omega,by omega,by rw [hs,if_neg (by simp [eq1])]; omega⟩,ms⟩
  ·have hb:i≠x:=beq_eq_false_iff_ne.1 hb
   have ne1:q.1≠P.1:=fun e=>by rw [e,pp] at pq; omega
   have ea:aheadM q P l.ck.now=(leads q P l.ck.now,0):=by unfold aheadM; rw [if_pos (twoM_zero.2 ⟨oq,op,ok.ck.now,ne1⟩)]
   have qa:=courseAhead (H:=H') (p:=q) (q:=P) hn
   rw [ea] at qa
   refine ⟨gs,_,_,_,g3,r.k.f.inS hpos (by omega),_,_,_,gx,leads q P l.ck.now,0,qa,fun h=>by simp at h,fun _=>⟨fun hb=>?_,fun hb=>?_⟩⟩
   ·exact ⟨by unfold inI; omega,by unfold inI; omega,⟨rfl,by omega,by omega,by rw [hs,if_pos (by simp [ne1,hb])]; omega⟩,ms⟩
   ·exact ⟨by unfold inI; omega,⟨rfl,by omega,by omega,by rw [hs,if_neg (by rw [hb]; simp)]; omega⟩,ms⟩
 ·have hi:i=l.ck.f.length:=by have:=of_decide_eq_false h; omega
  rw [hi,Int.toNat_natCast,List.take_length] at hne
  have hnk:n=k:=by
   have:(l.ck.f.countP fun q=>q.1 != P.1&&leads q P l.ck.now)=k.toNat:=ahr
   omega
  have qs:=pickSlice (a:=k) (b:=k+1) r fl
  rw [em] at qs
  refine ⟨by unfold inI; omega,qs.mono fun v H21 ⟨s,hv,l21,ms⟩=>⟨s,0,hv,fun _=>fun b H25 hb hH=>?_,fun h=>by simp [hnk] at h⟩⟩
  have l25:Hp.le H21 H25:=Hp.le_new (Hp.le_refl _) hb hH
  have c25:RdI H25 ⟨some ⟨b,0,none⟩,1,1⟩ [l.ord.getD k.toNat 0]:=rdConst (k:=1) (f:=fI) (fun _=>rfl) hH rfl rfl
  have rs:RdI H25 s [l.ord.getD k.toNat 0]:=ms.rdI.le l25
  have q9:=sameIDs rs c25 (by simp)
  rw [beq_self_eq_true] at q9
  exact ⟨true,fun _=>q9,by simp [hnk],Hp.le_trans l21 l25⟩
end Go.Proofs.YtbbdplfkiioppaaGreat
