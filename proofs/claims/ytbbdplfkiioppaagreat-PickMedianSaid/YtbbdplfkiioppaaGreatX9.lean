/- The law PickMedian. Conditions: none. -/
import Derived.Test.YtbbdplfkiioppaaGreatPXC
import Derived.Test.YtbbdplfkiioppaaGreatPN
import Derived.Test.YtbbdplfkiioppaaGreatPN2
import Derived.Test.YtbbdplfkiioppaaGreatVgLPickMedian
import Derived.Test.YtbbdplfkiioppaaGreatFs
set_option linter.unusedVariables false
set_option maxRecDepth 100000
open Go Go.Eng Go.Proofs
namespace Go.Proofs.YtbbdplfkiioppaaGreat

theorem place_okR' {p:Pt} {t:Int × Int} (op:okP p) (ot:okR t) (h:(placeM p t).2=0):okR (placeM p t).1:=by
 rw [placeM_ok op ot] at h ⊢
 obtain ⟨_,_,_,_,o⟩:=overM_eq ot.d1 h
 exact o
def cntP (p:Pt→Bool) (f:List Pt) (i:Int):Nat:=(f.take i.toNat).countP p
theorem cntP_le (p:Pt→Bool) (f:List Pt) (i:Int):cntP p f i≤f.length:=Nat.le_trans List.countP_le_length (by simp; omega)
theorem cntP_succ {p:Pt→Bool} {f:List Pt} {i:Int} {q:Pt} (h0:0≤i) (h:f[i.toNat]?=some q):cntP p f (i+1)=cntP p f i+if p q=true then 1 else 0:=by
 unfold cntP
 rw [show (i+1).toNat=i.toNat+1 by omega,take_succ h,List.countP_append,List.countP_singleton]
theorem cmpR_three (a b:Int × Int):cmpR a b=1∨cmpR a b = -1∨cmpR a b=0:=by
 show cmpI _ _=1∨cmpI _ _ = -1∨cmpI _ _=0
 unfold cmpI
 split
 ·omega
 ·split <;> omega

set_option maxHeartbeats 2000000 in
theorem pickMedianL {H:Hp} {u:Lu} {l:Ls} (r:RdL H u l) (hn:fitR l.ck.now) (hh:∀ y∈l.ck.ag.heap,fitR y.at_) :
  Qf Tryz.prog F.pelotonlaw30_PickMedian #[lsV u l] H (.bool true):=by
 have flg:greatL l=false→fitL l:=fun h=>fitL_of hn h hh
 have lo:(u.o.n:Int)=l.ord.length:=congrArg Nat.cast r.o.len
 have lp:(u.k.f.n:Int)=l.ck.f.length:=congrArg Nat.cast r.k.f.len
 refine pelotonlaw30_PickMedian_vc ⟨true,law30alive,greatL l,refLGreat r,chkLs l,fun h=>refLCheck r (flg (by simpa using h)),askT l.ck.now,fun _=>refAskT hn,fun _=>⟨rfl,Hp.le_refl _⟩,fun hc=>?_⟩
 simp only [Bool.or_eq_false_iff,bne_eq_false_iff_eq,beq_eq_false_iff_ne] at hc
 obtain ⟨⟨⟨⟨c1,c2⟩,c3⟩,c4⟩,_⟩:=hc
 have fl:=flg c1
 have ok:=chkLs_zero.1 c2
 have at3:=askT_zero.1 c3
 have ak:askedR l.ck.now:=⟨at3.1,at3.2.1,at3.2.2.1,at3.2.2.2⟩
 have lf:=ok.ck.f.small
 have ln:=ok.len
 have h0:l.ord.length≠0:=by omega
 have M:=med_ok ok ak h0
 have MS:=median_sides ok ak h0
 have q:=pickMedian r fl
 have mz:=M.z; have mo:=M.ok
 rw [mz] at q
 generalize (medM l).1=m at *
 refine ⟨m.1,m.2,0,q,0,fun _=>by have:=refRCheck (H:=H) mo.fit; rwa [chkR_ok mo] at this,fun h=>by simp at h,fun _=>?_⟩
 refine ⟨fun a b c i H'=>H'=H∧0≤i∧i≤l.ck.f.length∧a=cntP (fun q=>decide (0<cmpR (placeM q l.ck.now).1 m)) l.ck.f i∧b=cntP (fun q=>decide (cmpR (placeM q l.ck.now).1 m<0)) l.ck.f i∧c=cntP (fun q=>decide (cmpR (placeM q l.ck.now).1 m=0)) l.ck.f i,
  fun _ _ _ i _=>(l.ck.f.length-i).toNat,⟨rfl,Int.le_refl _,by omega,rfl,rfl,rfl⟩,fun a b c i H' ⟨e,i0,i1,ha,hb,hcc⟩=>?_⟩
 subst e
 have la:=cntP_le (fun q=>decide (0<cmpR (placeM q l.ck.now).1 m)) l.ck.f i
 have lb:=cntP_le (fun q=>decide (cmpR (placeM q l.ck.now).1 m<0)) l.ck.f i
 have lc:=cntP_le (fun q=>decide (cmpR (placeM q l.ck.now).1 m=0)) l.ck.f i
 refine ⟨fun h=>?_,fun h=>?_⟩
 ·have hi:i<l.ck.f.length:=by have:=of_decide_eq_true h; omega
  have hg:=getX (d:=((0:Int),(0:Int),(0:Int))) i0 hi
  have gs:=r.k.f.inS i0 hi
  have g3:=r.k.f.gD i0 hi
  generalize l.ck.f.getD i.toNat (0,0,0)=q at hg g3
  have oq:=ok.ck.f.each q (List.mem_of_getElem? hg)
  have pz:=(asked_place oq ak).1
  have po:=place_okR' oq ak.1 pz
  have qc:=courseAt (H:=H') (p:=q) hn
  rw [pz] at qc
  have sa:=cntP_succ (p:=fun q=>decide (0<cmpR (placeM q l.ck.now).1 m)) i0 hg
  have sb:=cntP_succ (p:=fun q=>decide (cmpR (placeM q l.ck.now).1 m<0)) i0 hg
  have sc:=cntP_succ (p:=fun q=>decide (cmpR (placeM q l.ck.now).1 m=0)) i0 hg
  simp only [decide_eq_true_eq] at sa sb sc
  generalize (placeM q l.ck.now).1=s at qc po sa sb sc
  have ms:(l.ck.f.length-(i+1):Int).toNat<(l.ck.f.length-i:Int).toNat:=by omega
  refine ⟨gs,_,_,_,g3,s.1,s.2,0,qc,0,fun _=>by have:=refRCheck (H:=H') po.fit; rwa [chkR_ok po] at this,fun _=>gs,_,_,_,fun _=>g3,chkP q,fun _=>refPCheck,fun h=>?_,fun _=>⟨cmpR s m,refCompareR po mo,fun h=>?_,fun h=>⟨fun h2=>?_,fun h2=>?_⟩⟩⟩
  ·rw [chkP_ok oq] at h; simp at h
  ·have h:cmpR s m=1:=beq_iff_eq.1 h
   rw [h] at sa sb sc
   rw [if_pos (by decide)] at sa; rw [if_neg (by decide)] at sb sc
   exact ⟨by unfold inI; omega,by unfold inI; omega,⟨rfl,by omega,by omega,by omega,by omega,by omega⟩,ms⟩
  ·have h2:cmpR s m = -1:=beq_iff_eq.1 h2
   rw [h2] at sa sb sc
   rw [if_pos (by decide)] at sb; rw [if_neg (by decide)] at sa sc
   exact ⟨by unfold inI; omega,by unfold inI; omega,⟨rfl,by omega,by omega,by omega,by omega,by omega⟩,ms⟩
  ·have h:cmpR s m≠1:=beq_eq_false_iff_ne.1 h
   have h2:cmpR s m≠-1:=beq_eq_false_iff_ne.1 h2
   have h3:cmpR s m=0:=by have:=cmpR_three s m; omega
   rw [h3] at sa sb sc
   rw [if_pos (by decide)] at sc; rw [if_neg (by decide)] at sa sb
   exact ⟨by unfold inI; omega,by unfold inI; omega,⟨rfl,by omega,by omega,by omega,by omega,by omega⟩,ms⟩
 ·have hi:i=l.ck.f.length:=by have:=of_decide_eq_false h; omega
  obtain ⟨m1,m2,m3⟩:=MS
  unfold cntP at ha hb hcc la lb lc
  rw [hi,Int.toNat_natCast,List.take_length] at ha hb hcc la lb lc
  have two:(u.o.n:Int).tmod 2=(u.o.n:Int) % 2:=Int.tmod_eq_emod_of_nonneg (by omega)
  have e1:decide (2 * a≤(u.o.n:Int))=true:=decide_eq_true (by omega)
  have e2:decide (2 * b≤(u.o.n:Int))=true:=decide_eq_true (by omega)
  have e3:((u.o.n:Int).tmod 2==0||decide (c>0))=true:=by
   rw [Bool.or_eq_true,beq_iff_eq,decide_eq_true_eq,two]
   by_cases hp:l.ord.length % 2=1
   ·have:=m3 hp; omega
   ·left; omega
  refine ⟨fun _=>by unfold inI; omega,fun _=>by unfold inI; omega,fun _=>by unfold nz; decide,?_,Hp.le_refl _⟩
  rw [e1,e2,e3]; rfl
end Go.Proofs.YtbbdplfkiioppaaGreat
