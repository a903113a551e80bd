/- The engine, parts LB, LC, M6, LN, LO, put together. Conditions: none. -/
import Derived.Test.YtlbdpklikfddlaaGreatPL3
import Derived.Test.YtlbdpklikfddlaaGreatVgClock
import Derived.Test.YtlbdpklikfddlaaGreatFs
import Derived.Test.YtlbdpklikfddlaaGreatPM2
import Derived.Test.YtlbdpklikfddlaaGreatVgKlist
set_option linter.unusedVariables false
section
/- Clocks: retiring, failing, moving. Conditions: none. -/
set_option maxRecDepth 100000
open Go Go.Eng Go.Proofs
namespace Go.Proofs.YtlbdpklikfddlaaGreat

theorem okK.dueInc {c:Ck} (ok:okK c):(c.due.map (·.1)).Pairwise (·<·):=by
 obtain ⟨ps,e⟩:=ok.evs
 have:=e.inc ok.ct
 rw [e.due,List.map_map]
 exact this
theorem clockPlace {H:Hp} {u:Cu} {c:Ck} {n:Int} (r:RdK H u c) (ok:okK c):∃ i b,Qf Tryz.prog F.clock_place #[u.d.v,.int .i64 n] H (.tuple #[.int .i64 i,.bool b])∧(b=true→0≤posD c n∧i=posD c n)∧(b=false→posD c n<0):=by
 have hl:=ok.fit.due
 refine ⟨_,_,clock_place_vc ⟨_,_,bsearch_due r.due ok.dueInc (by omega),rfl,Hp.le_refl _⟩,fun hb=>?_,fun hb=>?_⟩
 ·rcases pos_dich ok.dueInc n with ⟨h1,h2⟩ | ⟨h1,h2⟩
  ·have e:posD c n=posI (c.due.map (·.1)) n:=h2
   exact ⟨by omega,e.symm⟩
  ·rw [h1] at hb; cases hb
 ·rcases pos_dich ok.dueInc n with ⟨h1,h2⟩ | ⟨h1,h2⟩
  ·rw [h1] at hb; cases hb
  ·have e:posD c n = -1:=h2
   omega

def dropK (c:Ck) (n:Int):Ck × (Int × Int) × Int:=if atC c.ct n<0 then (.zero,(0,0),6) else (goneK c n,(getD3 c.ct.list (atC c.ct n)).2,0)
theorem okK.dueCut {c:Ck} (ok:okK c) {n:Int} (h:0≤posD c n):c.due.take (posD c n).toNat++c.due.drop ((posD c n).toNat+1)=c.due.filter fun d=>d.1 != n:=by
 obtain ⟨d,h1,h2,_,_⟩:=idx_in h
 have hp:=List.pairwise_map.1 ok.dueInc
 have e:=filter_erase hp h1
 have:d.1=n:=by simpa using h2
 rw [this] at e
 exact e
theorem removeA_at {a:Ag} {x:Ev} (ok:okA a) (hx:x∈a.heap):removeA a x.h=(removedA a x.h,x,0):=by
 unfold removeA; rw [(find_eq ok hx).1]; rfl

theorem retireK_drop {c:Ck} {n:Int} (ok:okK c):retireK c n=((dropK c n).1,(dropK c n).2.2):=by
 unfold retireK dropK
 rw [if_pos ok]
 split <;> rfl
theorem clockUntil {H:Hp} {u:Cu} {c:Ck} {t:Int × Int} (r:RdK H u c) (fk:fitK c) (ht:fitR t):Qf Tryz.prog F.clock_until #[ckV u c,raW t] H (.tuple #[.bool (decide (untilK c t=0)&&waitsK c t),.int .i64 (untilK c t)]):=by
 have hm:(if chkR t>chkK c then chkR t else chkK c)=if okK c∧okR t then 0 else 8:=by
  by_cases h1:okK c <;> by_cases h2:okR t <;> simp [chkK_ok,chkK_bad,chkR_ok,chkR_bad,h1,h2]
 refine clock_until_vc ⟨_,clockCheck r fk,_,ratioCheck ht,?_⟩
 rw [hm]
 by_cases h:okK c∧okR t
 ·rw [if_pos h]
  refine ⟨fun hc=>by simp at hc,fun _=>⟨_,_,ratioCmp ht fk.now,?_⟩⟩
  have ec:cmpM t c.now=(cmpR t c.now,0):=by unfold cmpM; rw [if_pos ⟨h.2,h.1.now⟩]
  rw [ec]
  refine ⟨fun hq=>?_,fun hq=>?_⟩
  ·have hq:cmpR t c.now<0:=by simpa using hq
   have eu:untilK c t=44:=by unfold untilK; rw [if_pos h,if_pos hq]
   rw [eu]; exact ⟨rfl,Hp.le_refl _⟩
  ·have hq:¬ cmpR t c.now<0:=by simpa using hq
   have eu:untilK c t=0:=by unfold untilK; rw [if_pos h,if_neg hq]
   rw [eu]
   refine ⟨_,_,_,_,_,_,agendaTop r.ag fk.ag,?_⟩
   unfold topA waitsK
   rw [if_pos h.1.ag]
   by_cases h0:c.ag.heap.length=0
   ·rw [if_pos h0]
    refine ⟨fun _=>⟨?_,Hp.le_refl _⟩,fun hx=>by simp at hx⟩
    rw [h0]; rfl
   ·rw [if_neg h0]
    have o0:=(h.1.ag.each _ (hp_mem (by omega:0<c.ag.heap.length))).1
    have e2:cmpM (hp c.ag.heap 0).at_ t=(cmpR (hp c.ag.heap 0).at_ t,0):=by unfold cmpM; rw [if_pos ⟨o0,h.2⟩]
    refine ⟨fun hx=>by simp at hx,fun _=>⟨_,_,ratioCmp o0.fit ht,?_,Hp.le_refl _⟩⟩
    rw [e2,decide_eq_true (show 0<c.ag.heap.length by omega)]
    rfl
 ·rw [if_neg h]
  have eu:untilK c t=8:=by unfold untilK; rw [if_neg h]
  rw [eu]
  exact ⟨fun _=>⟨rfl,Hp.le_refl _⟩,fun hx=>by simp at hx⟩

theorem okK.topCert {c:Ck} (ok:okK c) (h0:0<c.ag.heap.length):0≤atC c.ct (hp c.ag.heap 0).no:=by
 obtain ⟨ps,e⟩:=ok.evs
 obtain ⟨h,hm,h1,_⟩:=e.cert (e.heap.mem_iff.1 (hp_mem h0))
 obtain ⟨i,hi⟩:=List.mem_iff_getElem?.1 hm
 rw [← h1,(getC_at ok.ct hi).1]
 omega
theorem waitsK_len {c:Ck} {t:Int × Int} (h:waitsK c t=true):0<c.ag.heap.length:=by
 unfold waitsK at h
 simp only [Bool.and_eq_true,decide_eq_true_eq] at h
 exact h.1

theorem clockMove {H:Hp} {u:Cu} {c:Ck} {t:Int × Int} (r:RdK H u c) (fk:fitK c) (ht:fitR t) :
  Go.Eng.Fn Tryz.prog F.clock_Move #[ckV u c,raW t] H fun v H'=>∃ w:Cu,v=.tuple #[ckV w (moveK c t).1,.int .i64 (moveK c t).2]∧Hp.le H H'∧RdK H' w (moveK c t).1:=by
 refine clock_Move_vc ⟨_,_,clockUntil r fk ht,fun hc=>⟨fun _=>?_,fun h=>by cases h⟩,fun hc=>⟨fun he=>?_,fun he=>?_⟩⟩
 ·simp only [Bool.and_eq_true,beq_iff_eq,decide_eq_true_eq] at hc
  have e:moveK c t=(.zero,36):=by unfold moveK; rw [if_pos hc.1,if_pos hc.2.2]
  rw [e]; exact ⟨zu,rfl,Hp.le_refl _,RdK.zero⟩
 ·have he:untilK c t≠0:=by simpa using he
  have e:moveK c t=(.zero,untilK c t):=by unfold moveK; rw [if_neg he]
  rw [e]; exact ⟨zu,rfl,Hp.le_refl _,RdK.zero⟩
 ·have he:untilK c t=0:=by simpa using he
  have hw:waitsK c t=false:=by rw [he] at hc; simpa using hc
  have e:moveK c t=({ c with now:=t },0):=by unfold moveK; rw [if_pos he,if_neg (by rw [hw]; simp)]
  rw [e]
  exact (clockTwin r fk).mono fun v H9 ⟨w,hv,l9,r9,_⟩=>⟨_,_,w.f,_,w.cl,w.u1,w.u2,w.u3,w.u4,w.u5,w.d,hv,w,rfl,l9,r9.f,r9.cl,r9.ag,r9.due⟩

theorem rKNew {H:Hp} {w:Slc} {f:List Pt} {t:Int × Int} (hf:Rd 3 fD H w f) (ht:fitR t) :
  Go.Eng.Fn Tryz.prog F.pelotonref09_New #[vFd w,raW t] H fun v H'=>∃ u:Cu,v=.tuple #[ckV u (newK f t).1,.int .i64 (newK f t).2]∧Hp.le H H'∧RdK H' u (newK f t).1:=by
 refine pelotonref09_New_vc ⟨_,refTimed hf ht,fun hc=>?_,fun hc=>?_⟩
 ·have hc:timedF f t≠0:=by simpa using hc
  have e:newK f t=(.zero,timedF f t):=by unfold newK; rw [if_neg hc]
  rw [e]; exact ⟨zu,rfl,Hp.le_refl _,RdK.zero⟩
 ·have hc:timedF f t=0:=by simpa using hc
  have e:newK f t=(⟨t,f,.zero,beginA 200,[]⟩,0):=by unfold newK; rw [if_pos hc]
  rw [e]
  have hl:=(timedF_zero.1 hc).1.small
  refine pelotonref09_Begin_vc ((refFTwin hf (by omega)).mono fun v H2 ⟨w1,hv,l2,m1⟩=>⟨l2,w1,hv,(refABegin (N:=200) (by omega) (by omega)).mono fun v H5 ⟨v1,v2,v3,v4,v5,hv,n⟩=>⟨n.le,v1,v2,v3,v4,v5,hv,_,_,w1,_,zs,v1,v2,v3,v4,v5,zs,rfl,⟨w1,zs,v1,v2,v3,v4,v5,zs⟩,rfl,Hp.le_trans l2 n.le,(m1.le n.le).rdD,(Rd.nil:Rd 3 fD H5 ⟨none,0,0⟩ []),n.rd,(Rd.nil:Rd 3 fD H5 ⟨none,0,0⟩ [])⟩⟩)

theorem rAdded {H:Hp} {u:Cu} {c:Ck} {x:Int × Int} (r:RdK H u c) (ok:okK c) (h1:0≤posF c.f x.1) (h2:0≤posF c.f x.2) :
  Go.Eng.Fn Tryz.prog F.pelotonref09_Added #[ckV u c,raW x] H fun v H'=>∃ w:Cu,v=.tuple #[ckV w (addK c x).1,.int .i64 (addK c x).2.1,.int .i64 (addK c x).2.2]∧Hp.le H H'∧RdK H' w (addK c x).1:=by
 have fk:=ok.fit
 refine pelotonref09_Added_vc ((rAddC (c:=c.ct) (x:=x) r.cl).mono fun v H2 ⟨a,hv,nc⟩=>⟨_,a,_,_,hv,fun he=>?_,fun he=>?_⟩)
 ·have he:(addC c.ct x).2.2≠0:=by simpa using he
  have e:addK c x=(.zero,0,(addC c.ct x).2.2):=by unfold addK; rw [if_neg he]
  rw [e]; exact ⟨zu,rfl,nc.le,RdK.zero⟩
 have he:(addC c.ct x).2.2=0:=by simpa using he
 obtain ⟨a1,a2,a3,a4,a5,a6⟩:=addC_facts he
 have r2:=r.le nc.le
 refine (refKTwin r2 fk).mono fun v H8 ⟨w,hv,nk⟩=>⟨_,_,w.f,_,w.cl,w.u1,w.u2,w.u3,w.u4,w.u5,w.d,hv,_,_,_,refWhen (x:=x) (r2.le nk.le).f ok.f ok.now h1 h2,fun hw=>?_,fun hw=>?_⟩
 ·have hw:whenM c.f x c.now=none:=by simpa using hw
  have e:addK c x=({ c with ct:=(addC c.ct x).1 },(addC c.ct x).2.1,0):=by unfold addK; rw [if_pos he,hw]
  rw [e]
  exact ⟨⟨w.f,a,w.u1,w.u2,w.u3,w.u4,w.u5,w.d⟩,rfl,Hp.le_trans nc.le nk.le,nk.rd.f,nc.rd.le nk.le,nk.rd.ag,nk.rd.due⟩
 ·obtain ⟨t,hw⟩:∃ t,whenM c.f x c.now=some t:=Option.isSome_iff_exists.1 (by simpa using hw)
  have ht:okR t:=fail_okR (ok.f.pt h2) (ok.f.pt h1) ok.now hw
  have hnum:(addC c.ct x).2.1=c.ct.next:=by rw [a6]
  rw [hw]
  refine ⟨_,refOpen (r2.le nk.le).ag.tb ok.ag.tb,fun hc=>?_,fun hc=>?_⟩
  ·have hct:¬ c.ag.tb.canTake=true:=by simpa using hc
   have e:addK c x=(.zero,0,18):=by unfold addK; rw [if_pos he,hw]; simp only; rw [if_neg hct]
   rw [e]; exact ⟨zu,rfl,Hp.le_trans nc.le nk.le,RdK.zero⟩
  ·have hct:c.ag.tb.canTake=true:=by simpa using hc
   have e:addK c x=({ c with ct:=(addC c.ct x).1,ag:=pushedA c.ag t (addC c.ct x).2.1,due:=c.due++[((addC c.ct x).2.1,nextH c.ag)] },(addC c.ct x).2.1,0):=by unfold addK; rw [if_pos he,hw]; simp only; rw [if_pos hct]
   rw [e]
   refine (refAPushed (t:=t) (n:=(addC c.ct x).2.1) (r2.le nk.le).ag ok.ag ht hct).mono fun v H25 ⟨v1,v2,v3,v4,v5,hv,na⟩=>⟨v1,v2,v3,v4,v5,_,_,hv,fun b H34 hb hH=>?_⟩
   have le25:Hp.le H2 H25:=Hp.le_trans nk.le na.le
   refine (append1 (k:=3) (f:=fD) (bytes:=24) (x:=((addC c.ct x).2.1,nextH c.ag)) (e:=T.api_Due) (by kernel_rfl) (by decide) (fun _=>rfl) fD_one le25 (nk.due.le na.le) hb hH rfl (by have:=fk.due; omega) (by omega)).mono fun v H36 ⟨d,hv,l36,md,cd,_⟩=>⟨d,hv,⟨w.f,a,v1,v2,v3,v4,v5,d⟩,rfl,Hp.le_trans nc.le l36,?_⟩
   have sf:Sep w.f w.d:=nk.sepFD
   exact ⟨(nk.rd.f.le na.le).chg cd sf,((nc.rd.le nk.le).le na.le).chg cd (Sep.of nc.list.isOld nk.due.isNew),RdA.chgN na cd nk.due.isOld,md.rdD⟩


theorem refLTwinN {H:Hp} {u:Lu} {l:Ls} (r:RdL H u l) (fl:fitL l) :
  Go.Eng.Fn Tryz.prog F.pelotonref25_Twin #[lsV u l] H fun v H'=>∃ w:Lu,v=lsV w l∧Hp.le H H'∧RdL H' w l∧Mine 1 fI 3 H H' w.n l.num∧Sep w.o w.n:=by
 have f1:=fl.o; have f2:=fl.n
 refine pelotonref25_Twin_vc ((refKTwin r.k fl.k).mono fun v H2 ⟨w,hv,nk⟩=>⟨nk.le,_,_,w.f,_,w.cl,w.u1,w.u2,w.u3,w.u4,w.u5,w.d,hv,fun b H15 hb hH=>?_⟩)
 have l2:=nk.le
 refine (copy_ok (k:=1) (f:=fI) (bytes:=8) (e:=3) (by kernel_rfl) (by decide) (fun _=>rfl) (fun x v hv=>by simp [fI] at hv; subst hv; rfl) hb hH (r.o.le l2) (by omega) (by omega)).mono
  fun v H17 ⟨o,hv,l17,m1⟩=>⟨o,hv,fun b19 H20 hb19 hH20=>?_⟩
 refine (copy_ok (k:=1) (f:=fI) (bytes:=8) (e:=3) (by kernel_rfl) (by decide) (fun _=>rfl) (fun x v hv=>by simp [fI] at hv; subst hv; rfl) hb19 hH20 ((r.n.le l2).le l17) (by omega) (by omega)).mono
  fun v H22 ⟨n,hv,l22,m2⟩=>⟨n,hv,⟨w,o,n⟩,rfl,Hp.le_trans l2 (Hp.le_trans l17 l22),⟨nk.rd.le (Hp.le_trans l17 l22),m1.rdI.le l22,m2.rdI⟩,m2.low (Hp.le_trans l2 l17),Sep.of m1.isOld m2.isNew⟩

def madeL (l:Ls) (i:Nat):Ls × Int :=
 if (addK l.ck (pairM l.ord i)).2.2=0 then (⟨(addK l.ck (pairM l.ord i)).1,l.ord,l.num.set i (addK l.ck (pairM l.ord i)).2.1⟩,0) else (.zero,(addK l.ck (pairM l.ord i)).2.2)
def zlu:Lu:=⟨zu,zs,zs⟩
theorem RdL.zero {H:Hp}:RdL H zlu .zero:=⟨RdK.zero,(Rd.nil:Rd 1 fI H ⟨none,0,0⟩ []),(Rd.nil:Rd 1 fI H ⟨none,0,0⟩ [])⟩

theorem refMadeL {H:Hp} {u:Lu} {l:Ls} {i:Int} (r:RdL H u l) (fl:fitL l) (ok:okK l.ck) (ps:∀ x∈l.ord,0≤posF l.ck.f x) (h0:0≤i) (h1:i+1<l.ord.length) (h2:i<l.num.length) :
  Go.Eng.Fn Tryz.prog F.pelotonref25_Made #[lsV u l,.int .i64 i] H fun v H'=>∃ w:Lu,v=.tuple #[lsV w (madeL l i.toNat).1,.int .i64 (madeL l i.toNat).2]∧Hp.le H H'∧RdL H' w (madeL l i.toNat).1:=by
 have f1:=fl.o
 have p1:0≤posF l.ck.f (pairM l.ord i.toNat).1:=ps _ (by
  have:=getI (xs:=l.ord) (i:=i+1) (by omega) h1
  rw [show (i+1).toNat=i.toNat+1 by omega] at this
  exact List.mem_of_getElem? this)
 have p2:0≤posF l.ck.f (pairM l.ord i.toNat).2:=ps _ (List.mem_of_getElem? (getI (xs:=l.ord) h0 (by omega)))
 refine pelotonref25_Made_vc ⟨_,_,refPair (u:=u) (l:=l) r.o h0 h1 f1,(rAdded r.k ok p1 p2).mono fun v H4 ⟨w,hv,l4,r4⟩=>⟨l4,_,_,w.f,_,w.cl,w.u1,w.u2,w.u3,w.u4,w.u5,w.d,_,_,hv,fun he=>?_,fun he=>?_⟩⟩
 ·have he:(addK l.ck (pairM l.ord i.toNat)).2.2≠0:=by simpa using he
  unfold madeL; rw [if_neg he]
  exact ⟨zlu,rfl,l4,RdL.zero⟩
 have he:(addK l.ck (pairM l.ord i.toNat)).2.2=0:=by simpa using he
 unfold madeL; rw [if_pos he]
 refine (refLTwinN (r.le l4) fl).mono fun v H19 ⟨z,hv,l19,r19,m,sp⟩=>⟨_,_,z.k.f,_,z.k.cl,z.k.u1,z.k.u2,z.k.u3,z.k.u4,z.k.u5,z.k.d,z.o,z.n,hv,m.rdI.inS h0 h2,?_⟩
 refine m.setI h0 h2 _ fun H33 m' ck=>?_
 have l33:Hp.le H4 H33:=Hp.le_chg l19 ck m.isNew
 exact ⟨⟨w,z.o,z.n⟩,rfl,Hp.le_trans l4 l33,⟨r4.le l33,r19.o.chg ck sp,m'.rdI⟩⟩

def buildN (f:List Pt) (t:Int × Int):Nat→Ls × Int
 | 0=>(⟨(newK f t).1,ordM f t,List.replicate (f.length-1) 0⟩,0)
 | n+1=>if (buildN f t n).2=0 then madeL (buildN f t n).1 n else buildN f t n
def buildL (f:List Pt) (t:Int × Int):Ls × Int:=if timedF f t=0 then buildN f t (f.length-1) else (.zero,timedF f t)
theorem buildN_err {f:List Pt} {t:Int × Int} {n:Nat} (h:(buildN f t n).2≠0):∀ m,n≤m→buildN f t m=buildN f t n
 | 0,hm=>by rw [show n=0 by omega]
 | m+1,hm=>by
  by_cases e:n=m+1
  ·rw [e]
  ·have ih:=buildN_err h m (by omega)
   show (if (buildN f t m).2=0 then madeL (buildN f t m).1 m else buildN f t m)=_
   rw [ih,if_neg h]
structure BInv (f:List Pt) (t:Int × Int) (l:Ls):Prop where
 ok:okK l.ck
 fe:l.ck.f=f
 ord:l.ord=ordM f t
 num:l.num.length=f.length-1
theorem BInv.fit {f:List Pt} {t:Int × Int} {l:Ls} (b:BInv f t l) (of:okF f):fitL l:=by
 have:=of.small
 exact ⟨b.ok.fit,by rw [b.ord,ordM_len]; exact this,by rw [b.num]; omega⟩
theorem BInv.pos {f:List Pt} {t:Int × Int} {l:Ls} (b:BInv f t l) (of:okF f):∀ x∈l.ord,0≤posF l.ck.f x:=fun x hx=>by
 rw [b.fe]; rw [b.ord] at hx; exact ord_pos of hx
theorem BInv.made {f:List Pt} {t:Int × Int} {l:Ls} (b:BInv f t l) (of:okF f) {i:Nat} (h:i<l.num.length) (hz:(madeL l i).2=0):BInv f t (madeL l i).1:=by
 have ho:l.ord.length=f.length:=by rw [b.ord,ordM_len]
 have hn:=b.num
 unfold madeL at hz ⊢
 split at hz
 ·rename_i he
  rw [if_pos he]
  have p1:0≤posF l.ck.f (pairM l.ord i).1:=b.pos of _ (List.mem_of_getElem? (getI (xs:=l.ord) (i:=(i:Int)+1) (by omega) (by omega)))
  have p2:0≤posF l.ck.f (pairM l.ord i).2:=b.pos of _ (List.mem_of_getElem? (getI (xs:=l.ord) (i:=(i:Int)) (by omega) (by omega)))
  obtain ⟨o1,_,_,o4,_⟩:=b.ok.add p1 p2 he
  exact ⟨o1,by rw [o4]; exact b.fe,b.ord,by rw [List.length_set]; exact hn⟩
 ·rename_i he; exact absurd hz he
theorem BInv.start {f:List Pt} {t:Int × Int} (h:timedF f t=0):BInv f t (buildN f t 0).1:=by
 have e:newK f t=(⟨t,f,.zero,beginA 200,[]⟩,0):=by unfold newK; rw [if_pos h]
 obtain ⟨of,ot⟩:=timedF_zero.1 h
 refine ⟨?_,?_,rfl,by show (List.replicate _ _).length=_; rw [List.length_replicate]⟩
 ·show okK (newK f t).1
  rw [e]
  exact ⟨ot,of,(show okC Ct.zero by decide),rfl,okA.begin (by omega) (by omega),rfl,rfl,rfl⟩
 ·show (newK f t).1.f=f
  rw [e]

theorem refBuildL {H:Hp} {w:Slc} {f:List Pt} {t:Int × Int} (hf:Rd 3 fD H w f) (ht:fitR t) :
    Go.Eng.Fn Tryz.prog F.pelotonref25_Build #[vFd w,raW t] H fun v H'=>∃ u:Lu,v=.tuple #[lsV u (buildL f t).1,.int .i64 (buildL f t).2]∧Hp.le H H'∧RdL H' u (buildL f t).1:=by
  refine pelotonref25_Build_vc ((rKNew hf ht).mono fun v H2 ⟨k,hv,l2,rk⟩=>⟨_,_,k.f,_,k.cl,k.u1,k.u2,k.u3,k.u4,k.u5,k.d,_,hv,fun hc=>?_,fun hc=>?_⟩)
  · have hc:(newK f t).2≠0:=by simpa using hc
    have h:timedF f t≠0:=fun h=>by unfold newK at hc; rw [if_pos h] at hc; exact hc rfl
    have e:newK f t=(.zero,timedF f t):=by unfold newK; rw [if_neg h]
    unfold buildL; rw [if_neg h,e]
    exact ⟨zlu,rfl,l2,RdL.zero⟩
  have h:timedF f t=0:=by
    have hc:(newK f t).2=0:=by simpa using hc
    by_cases h:timedF f t=0
    · exact h
    · unfold newK at hc; rw [if_neg h] at hc; exact hc
  obtain ⟨of,ot⟩:=timedF_zero.1 h
  have lf:=of.small
  unfold buildL; rw [if_pos h]
  refine (refOrdered (hf.le l2) of ot).mono fun v H16 ⟨o,hv,l16,mo⟩=>⟨l16,o,hv,by have:=mo.rdI.len; rw [ordM_len] at this; unfold inI; omega,?_⟩
  have lo:=mo.rdI.len
  rw [ordM_len] at lo
  rw [less1,lo]
  refine ⟨⟨rfl,by omega,by omega⟩,fun b18 H19 hb18 hH19=>?_⟩
  have m18:=made_mine (g:=fun x=>Value.int .i64 x) (e:=3) hfI (n:=((f.length-1:Nat):Int)) (z:=0) hb18 hH19 rfl
  rw [Int.toNat_natCast] at m18 ⊢
  have l19:Hp.le H16 H19:=Hp.le_new (Hp.le_refl _) hb18 hH19
  have m19:=Hp.le_trans l2 (Hp.le_trans l16 l19)
  refine ⟨fun i n1 n2 a1 n3 a2 v1 v2 v3 v4 v5 d uo un H'=>0≤i∧i≤(f.length-1:Nat)∧Hp.le H H'∧(buildN f t i.toNat).2=0∧BInv f t (buildN f t i.toNat).1∧n1=(buildN f t i.toNat).1.ck.now.1∧n2=(buildN f t i.toNat).1.ck.now.2∧n3=(buildN f t i.toNat).1.ck.ct.next∧RdL H' ⟨⟨a1,a2,v1,v2,v3,v4,v5,d⟩,uo,un⟩ (buildN f t i.toNat).1,
    fun i _ _ _ _ _ _ _ _ _ _ _ _ _ _=>(((f.length-1:Nat):Int)-i).toNat,⟨Int.le_refl _,by omega,m19,rfl,BInv.start h,rfl,rfl,rfl,⟨rk.le (Hp.le_trans l16 l19),mo.rdI.le l19,m18.rdI⟩⟩,
    fun i n1 n2 a1 n3 a2 v1 v2 v3 v4 v5 d uo un H' ⟨i0,i1,le,z,bi,e1,e2,e3,r⟩=>?_⟩
  subst e1; subst e2; subst e3
  have ho:(buildN f t i.toNat).1.ord.length=f.length:=by rw [bi.ord,ordM_len]
  have hnn:=bi.num
  have lun:=r.n.len
  have lun:un.n=(buildN f t i.toNat).1.num.length:=lun
  refine ⟨fun hn=>?_,fun hn=>?_⟩
  · have hi:i<un.n:=by simpa using hn
    refine (refMadeL (u:=⟨⟨a1,a2,v1,v2,v3,v4,v5,d⟩,uo,un⟩) (i:=i) r (bi.fit of) bi.ok (bi.pos of) i0 (by omega) (by omega)).mono fun v H38 ⟨q,hv,l38,r38⟩=>⟨_,_,q.k.f,_,q.k.cl,q.k.u1,q.k.u2,q.k.u3,q.k.u4,q.k.u5,q.k.d,q.o,q.n,_,hv,?_⟩
    have es:buildN f t (i+1).toNat=madeL (buildN f t i.toNat).1 i.toNat:=by
      rw [show (i+1).toNat=i.toNat+1 by omega]
      show (if (buildN f t i.toNat).2=0 then _ else _)=_
      rw [if_pos z]
    refine ⟨fun he=>?_,fun he=>?_⟩
    · have he:(madeL (buildN f t i.toNat).1 i.toNat).2≠0:=by simpa using he
      have e9:=buildN_err (f:=f) (t:=t) (n:=(i+1).toNat) (by rw [es]; exact he) (f.length-1) (by omega)
      rw [e9,es]
      have e8:madeL (buildN f t i.toNat).1 i.toNat=(.zero,(madeL (buildN f t i.toNat).1 i.toNat).2):=by
        unfold madeL at he ⊢
        split
        · rename_i h2; rw [if_pos h2] at he; exact absurd rfl he
        · rfl
      rw [e8]
      exact ⟨zlu,rfl,Hp.le_trans le l38,RdL.zero⟩
    · have he:(madeL (buildN f t i.toNat).1 i.toNat).2=0:=by simpa using he
      refine ⟨by unfold inI; omega,⟨by omega,by omega,Hp.le_trans le l38,by rw [es]; exact he,by rw [es]; exact bi.made of (by omega) he,by rw [es],by rw [es],by rw [es],by rw [es]; exact r38⟩,?_⟩
      show (((f.length-1:Nat):Int)-(i+1)).toNat<(((f.length-1:Nat):Int)-i).toNat
      omega
  · have hi:i=(f.length-1:Nat):=by have:¬ i<un.n:=by simpa using hn
                                   omega
    subst hi
    rw [Int.toNat_natCast] at r z ⊢
    rw [z]
    exact ⟨⟨⟨a1,a2,v1,v2,v3,v4,v5,d⟩,uo,un⟩,rfl,le,r⟩

structure NewW (H:Hp) (w:Cu):Prop where
 f:New H w.f
 cl:New H w.cl
 u1:New H w.u1
 u2:New H w.u2
 u3:New H w.u3
 u4:New H w.u4
 u5:New H w.u5
 d:New H w.d
theorem New.none {H:Hp}:New H zs:=fun p hp=>by cases hp
theorem NewW.zero {H:Hp}:NewW H zu:=⟨New.none,New.none,New.none,New.none,New.none,New.none,New.none,New.none⟩
theorem clockTwinN {H:Hp} {u:Cu} {c:Ck} (r:RdK H u c) (fk:fitK c) :
  Go.Eng.Fn Tryz.prog F.clock_twin #[ckV u c] H fun v H'=>∃ w:Cu,v=ckV w c∧Hp.le H H'∧RdK H' w c∧Mine 3 fD T.api_Due H H' w.d c.due∧Sep w.f w.d∧NewW H w:=by
 have f1:=fk.f; have f2:=fk.ct; have f3:=fk.due; have f4:=fk.ag.hl; have f5:=fk.ag.wl; have f6:=fk.ag.tb
 refine clock_twin_vc fun b1 H2 hb1 hH2=>?_
 have le2:Hp.le H H2:=Hp.le_new (Hp.le_refl _) hb1 hH2
 have c2:Cel H2 b1 (ckC c u.f u.cl u.u1 u.u2 u.u3 u.u4 u.u5 u.d) T.api_Clock:=by rw [hH2]; exact Cel.put
 have r2:=r.le le2
 refine ⟨u.f,Cel.at c2 2,u.cl,Cel.at c2 4,u.d,Cel.at c2 10,(clone_pt r2.f (by omega)).mono fun v H7 ⟨w1,hv,l7,m1⟩=>⟨l7,w1,hv,?_⟩⟩
 have k1:=Mine.kp m1 c2 fun _=>rfl
 have c7:=c2.le l7
 refine (clone_held (r2.le l7).cl (by omega)).mono fun v H10 ⟨w2,hv,l10,m2⟩=>⟨l10,w2,hv,?_⟩
 have k2:=Mine.kp m2 c7 fun _=>rfl
 have c10:=c7.le l10
 refine (clone_due ((r2.le l7).le l10).due (by omega)).mono fun v H13 ⟨w3,hv,l13,m3⟩=>⟨l13,w3,hv,?_⟩
 have k3:=Mine.kp m3 c10 fun _=>rfl
 have c13:=c10.le l13
 have le13:Hp.le H H13:=Hp.le_trans le2 (Hp.le_trans l7 (Hp.le_trans l10 l13))
 refine boxSet (i:=2) (cs':=ckC c w1 u.cl u.u1 u.u2 u.u3 u.u4 u.u5 u.d) c13 (show 2<11 by decide) rfl fun H15 c15 o15=>boxSet (i:=4) (cs':=ckC c w1 w2 u.u1 u.u2 u.u3 u.u4 u.u5 u.d) c15 (show 4<11 by decide) rfl fun H16 c16 o16=>boxSet (i:=10) (cs':=ckC c w1 w2 u.u1 u.u2 u.u3 u.u4 u.u5 w3) c16 (show 10<11 by decide) rfl fun H17 c17 o17=>?_
 have k1:=((((k1.le l10).le l13).off o15).off o16).off o17
 have k2:=(((k2.le l13).off o15).off o16).off o17
 have k3:=((k3.off o15).off o16).off o17
 have le17:Hp.le H H17:=o17.le hb1 (o16.le hb1 (o15.le hb1 le13))
 have r17:=r.le le17
 refine ⟨u.u4,Cel.at c17 8,u.u5,Cel.at c17 9,(clone_event r17.ag.heap (by omega)).mono fun v H21 ⟨w4,hv,l21,m4⟩=>⟨l21,w4,hv,?_⟩⟩
 have k4:=Mine.kp m4 c17 fun _=>rfl
 have c21:=c17.le l21
 refine (clone_int (r17.le l21).ag.wh (by omega)).mono fun v H24 ⟨w5,hv,l24,m5⟩=>⟨l24,w5,hv,?_⟩
 have k5:=Mine.kp m5 c21 fun _=>rfl
 have c24:=c21.le l24
 have le24:Hp.le H H24:=Hp.le_trans le17 (Hp.le_trans l21 l24)
 refine boxSet (i:=8) (cs':=ckC c w1 w2 u.u1 u.u2 u.u3 w4 u.u5 w3) c24 (show 8<11 by decide) rfl fun H26 c26 o26=>boxSet (i:=9) (cs':=ckC c w1 w2 u.u1 u.u2 u.u3 w4 w5 w3) c26 (show 9<11 by decide) rfl fun H27 c27 o27=>?_
 have k1:=(((k1.le l21).le l24).off o26).off o27
 have k2:=(((k2.le l21).le l24).off o26).off o27
 have k3:=(((k3.le l21).le l24).off o26).off o27
 have k4:=((k4.le l24).off o26).off o27
 have k5:=(k5.off o26).off o27
 have le27:Hp.le H H27:=o27.le hb1 (o26.le hb1 le24)
 have r27:=r.le le27
 obtain ⟨g1,g2,g3⟩:=f6
 refine ⟨u.u1,Cel.at c27 5,u.u2,Cel.at c27 6,u.u3,Cel.at c27 7,(clone_int r27.ag.tb.uses (by omega)).mono fun v H32 ⟨w6,hv,l32,m6⟩=>⟨l32,w6,hv,?_⟩⟩
 have k6:=Mine.kp m6 c27 fun _=>rfl
 have c32:=c27.le l32
 refine (clone_bool (r27.le l32).ag.tb.used (by omega)).mono fun v H35 ⟨w7,hv,l35,m7⟩=>⟨l35,w7,hv,?_⟩
 have k7:=Mine.kp m7 c32 fun _=>rfl
 have c35:=c32.le l35
 refine (clone_int ((r27.le l32).le l35).ag.tb.free (by omega)).mono fun v H38 ⟨w8,hv,l38,m8⟩=>⟨l38,w8,hv,?_⟩
 have k8:=Mine.kp m8 c35 fun _=>rfl
 have c38:=c35.le l38
 have le38:Hp.le H H38:=Hp.le_trans le27 (Hp.le_trans l32 (Hp.le_trans l35 l38))
 refine boxSet (i:=5) (cs':=ckC c w1 w2 w6 u.u2 u.u3 w4 w5 w3) c38 (show 5<11 by decide) rfl fun H40 c40 o40=>boxSet (i:=6) (cs':=ckC c w1 w2 w6 w7 u.u3 w4 w5 w3) c40 (show 6<11 by decide) rfl fun H41 c41 o41=>boxSet (i:=7) (cs':=ckC c w1 w2 w6 w7 w8 w4 w5 w3) c41 (show 7<11 by decide) rfl fun H42 c42 o42=>?_
 have le42:Hp.le H H42:=o42.le hb1 (o41.le hb1 (o40.le hb1 le38))
 have at42:=fun i=>Cel.at c42 i
 have sp:=k3.sep
 have s13:Sep w1 w3:=Sep.of (m1.isOld.le l10) m3.isNew
 have m17:=Mine.off (Mine.off (Mine.off (m3.low (Hp.le_trans le2 (Hp.le_trans l7 l10))) o15 sp) o16 sp) o17 sp
 have m27:=Mine.off (Mine.off ((m17.le l21).le l24) o26 sp) o27 sp
 have m42:=Mine.off (Mine.off (Mine.off (((m27.le l32).le l35).le l38) o40 sp) o41 sp) o42 sp
 refine ⟨_,_,w1,_,w2,w6,w7,w8,w4,w5,w3,⟨at42 0,at42 1,at42 2,at42 3,at42 4,at42 5,at42 6,at42 7,at42 8,at42 9,at42 10⟩,⟨w1,w2,w6,w7,w8,w4,w5,w3⟩,rfl,le42,?_,m42,s13,?_⟩
 ·have k1:=((((((k1.le l32).le l35).le l38).off o40).off o41).off o42)
  have k2:=((((((k2.le l32).le l35).le l38).off o40).off o41).off o42)
  have k3:=((((((k3.le l32).le l35).le l38).off o40).off o41).off o42)
  have k4:=((((((k4.le l32).le l35).le l38).off o40).off o41).off o42)
  have k5:=((((((k5.le l32).le l35).le l38).off o40).off o41).off o42)
  have k6:=(((((k6.le l35).le l38).off o40).off o41).off o42)
  have k7:=((((k7.le l38).off o40).off o41).off o42)
  have k8:=(((k8.off o40).off o41).off o42)
  exact ⟨k1.rd,k2.rd,⟨⟨k6.rd,k7.rd,k8.rd⟩,k4.rd,k5.rd⟩,k3.rd⟩
 ·have le24':=le24; have le38':=le38
  exact ⟨(m1.isNew).low le2,(m2.isNew).low (Hp.le_trans le2 l7),(m6.isNew).low le27,(m7.isNew).low (Hp.le_trans le27 l32),(m8.isNew).low (Hp.le_trans le27 (Hp.le_trans l32 l35)),(m4.isNew).low le17,(m5.isNew).low (Hp.le_trans le17 l21),(m3.isNew).low (Hp.le_trans le2 (Hp.le_trans l7 l10))⟩
theorem clockCertifyN {H:Hp} {u:Cu} {c:Ck} {x:Int × Int} (r:RdK H u c) (fk:fitK c) :
  Go.Eng.Fn Tryz.prog F.clock_Certify #[ckV u c,raW x] H fun v H'=>∃ w:Cu,v=.tuple #[ckV w (certifyK c x).1,.int .i64 (certifyK c x).2.1,.int .i64 (certifyK c x).2.2]∧Hp.le H H'∧RdK H' w (certifyK c x).1∧NewW H w:=by
 have bad:∀ (e:Int) (H1:Hp),certifyK c x=(.zero,0,e)→Hp.le H H1→FnV Tryz.prog (.func (.func F.clock_Certify_1) #[] #[]) [.int .i64 e] H1 fun v2 H3 =>
   ∃ n4 n5:Int,∃ u6:Slc,∃ n7:Int,∃ u8 u9 u10 u11 u12 u13 u14:Slc,∃ n15 n16:Int,v2=.tuple #[vCk n4 n5 u6 n7 u8 u9 u10 u11 u12 u13 u14,.int .i64 n15,.int .i64 n16] ∧
    ∃ w:Cu,(.tuple #[vCk n4 n5 u6 n7 u8 u9 u10 u11 u12 u13 u14,.int .i64 n15,.int .i64 n16]:Value)=.tuple #[ckV w (certifyK c x).1,.int .i64 (certifyK c x).2.1,.int .i64 (certifyK c x).2.2]∧Hp.le H H3∧RdK H3 w (certifyK c x).1∧NewW H w:=by
  intro e H1 he hl
  rw [he]
  exact certify1 ⟨_,_,_,_,_,_,_,_,_,_,_,_,_,rfl,zu,rfl,hl,RdK.zero,NewW.zero⟩
 refine clock_Certify_vc ⟨_,clockCheck r fk,fun hc=>?_,fun hc=>?_⟩
 ·have hc:chkK c≠0:=by simpa using hc
  have hk:¬ okK c:=fun ok=>hc (chkK_ok ok)
  rw [chkK_bad hk]
  exact bad 8 H (by unfold certifyK; rw [if_neg fun h=>hk h.1]) (Hp.le_refl _)
 have ok:okK c:=chkK_zero.1 (by simpa using hc)
 obtain ⟨ae1,ae2⟩:=addC_err (x:=x) ok.ct
 refine (certAdd (c:=c.ct) (x:=x) r.cl).mono fun v H18 ⟨a,hv,nc⟩=>⟨_,a,_,_,hv,fun h8=>?_,fun h8=>?_⟩
 ·have h8:(addC c.ct x).2.2=8:=by simpa using h8
  have hv:=ae1.1 h8
  rw [h8]
  exact bad 8 H18 (by unfold certifyK; rw [if_neg fun h=>by rw [hv] at h; cases h.2]) nc.le
 have h8:validC x=true:=by
  cases hv:validC x with
  | true=>rfl
  | false=>rw [ae1.2 hv] at h8; simp at h8
 have r18:=r.le nc.le
 refine ⟨_,_,_,clockPoint r18.f ok.f,_,_,_,fun _=>clockPoint r18.f ok.f,fun hb=>?_,fun hb=>?_⟩
 ·rw [pointM_neg ok.f,pointM_neg ok.f] at hb
  have hb:posF c.f x.1<0∨posF c.f x.2<0:=by simpa using hb
  exact bad 6 H18 (by unfold certifyK; rw [if_pos ⟨ok,h8⟩,if_pos hb]) nc.le
 rw [pointM_neg ok.f,pointM_neg ok.f] at hb
 have hb:¬ (posF c.f x.1<0∨posF c.f x.2<0):=by simpa using hb
 have ek:certifyK c x=addK c x:=by unfold certifyK; rw [if_pos ⟨ok,h8⟩,if_neg hb]
 refine ⟨fun he=>?_,fun he=>?_⟩
 ·have he:(addC c.ct x).2.2≠0:=by simpa using he
  exact bad _ H18 (by rw [ek]; unfold addK; rw [if_neg he]) nc.le
 have he:(addC c.ct x).2.2=0:=by simpa using he
 obtain ⟨a1,a2,a3,a4,a5,a6⟩:=addC_facts he
 have hne:x.1≠x.2:=by
  unfold validC at h8
  simp only [Bool.and_eq_true,bne_iff_ne] at h8
  exact h8.2
 refine (clockTwinN r18 fk).mono fun v H75 ⟨w,hv,l75,rw75,m75,s75,nw⟩=>⟨_,_,w.f,_,w.cl,w.u1,w.u2,w.u3,w.u4,w.u5,w.d,hv,_,_,_,_,clockWhen (x:=x) (r18.le l75).f ok.f fk.now,fun h=>?_,fun _=>?_⟩
 ·rw [whenP_known ok.f ok.now (by omega) (by omega) hne] at h
  simp at h
 rw [whenP_known ok.f ok.now (by omega) (by omega) hne]
 cases hw:whenM c.f x c.now with
 | none =>
  refine ⟨fun h=>by simp at h,fun _=>?_⟩
  have e:addK c x=({ c with ct:=(addC c.ct x).1 },(addC c.ct x).2.1,0):=by unfold addK; rw [if_pos he,hw]
  rw [ek,e]
  exact ⟨⟨w.f,a,w.u1,w.u2,w.u3,w.u4,w.u5,w.d⟩,rfl,Hp.le_trans nc.le l75,⟨rw75.f,nc.rd.le l75,rw75.ag,rw75.due⟩,nw.f.low nc.le,nc.list.isNew,nw.u1.low nc.le,nw.u2.low nc.le,nw.u3.low nc.le,nw.u4.low nc.le,nw.u5.low nc.le,nw.d.low nc.le⟩
 | some t =>
  refine ⟨fun _=>?_,fun h=>by simp at h⟩
  have ht:okR t:=fail_okR (ok.f.pt (by omega)) (ok.f.pt (by omega)) ok.now hw
  have hpush:=ok.push ht
  have hnum:(addC c.ct x).2.1=c.ct.next:=by rw [a6]
  refine (agendaPush (t:=t) (n:=(addC c.ct x).2.1) (r18.le l75).ag fk.ag ht.fit).mono fun v H107 ⟨v1,v2,v3,v4,v5,hv,na⟩=>⟨v1,v2,v3,v4,v5,_,_,_,hv,fun h=>?_,fun h=>?_⟩
  ·rw [hnum,hpush] at h
   by_cases hct:c.ag.tb.canTake=true
   ·rw [if_pos hct] at h; simp at h
   ·rw [hnum,hpush,if_neg hct]
    exact bad 18 H107 (by rw [ek]; unfold addK; rw [if_pos he,hw]; simp only; rw [if_neg hct]) (Hp.le_trans nc.le (Hp.le_trans l75 na.le))
  ·rw [hnum,hpush] at h
   by_cases hct:c.ag.tb.canTake=true
   ·intro b H132 hb131 hH
    rw [hnum,hpush,if_pos hct] at na hH
    have le107:Hp.le H18 H107:=Hp.le_trans l75 na.le
    refine (append1 (k:=3) (f:=fD) (bytes:=24) (x:=(c.ct.next,nextH c.ag)) (e:=T.api_Due) (by kernel_rfl) (by decide) (fun _=>rfl) fD_one le107 (m75.le na.le) hb131 hH rfl (by have:=fk.due; omega) (by omega)).mono fun v H134 ⟨d,hv,l134,md,cd,_⟩=>⟨d,hv,?_⟩
    have e:addK c x=({ c with ct:=(addC c.ct x).1,ag:=pushedA c.ag t (addC c.ct x).2.1,due:=c.due++[((addC c.ct x).2.1,nextH c.ag)] },(addC c.ct x).2.1,0):=by unfold addK; rw [if_pos he,hw]; simp only; rw [if_pos hct]
    rw [ek,e]
    refine ⟨⟨w.f,a,v1,v2,v3,v4,v5,d⟩,rfl,Hp.le_trans nc.le l134,⟨(rw75.f.le na.le).chg cd s75,((nc.rd.le l75).le na.le).chg cd (Sep.of nc.list.isOld m75.isNew),?_,?_⟩,nw.f.low nc.le,nc.list.isNew,na.tb.uses.isNew.low (Hp.le_trans nc.le l75),na.tb.used.isNew.low (Hp.le_trans nc.le l75),na.tb.free.isNew.low (Hp.le_trans nc.le l75),na.heap.isNew.low (Hp.le_trans nc.le l75),na.wh.isNew.low (Hp.le_trans nc.le l75),md.isNew.low nc.le⟩
    ·rw [hnum]; exact RdA.chgN na cd m75.isOld
    ·rw [hnum]; exact md.rdD
   ·rw [if_neg hct] at h; simp at h

abbrev lsC (u:Lu) (l:Ls):Array Value:=#[.int .i64 l.ck.now.1,.int .i64 l.ck.now.2,u.k.f.v,.int .i64 l.ck.ct.next,u.k.cl.v,u.k.u1.v,u.k.u2.v,u.k.u3.v,u.k.u4.v,u.k.u5.v,u.k.d.v,u.o.v,u.n.v]
theorem BInv.certify {f:List Pt} {t:Int × Int} {l:Ls} (b:BInv f t l) (of:okF f) {i:Nat} (h:i<l.num.length):certifyK l.ck (pairM l.ord i)=addK l.ck (pairM l.ord i):=by
 have ho:l.ord.length=f.length:=by rw [b.ord,ordM_len]
 have hn:=b.num
 have p1:0≤posF l.ck.f (pairM l.ord i).1:=b.pos of _ (List.mem_of_getElem? (getI (xs:=l.ord) (i:=(i:Int)+1) (by omega) (by omega)))
 have p2:0≤posF l.ck.f (pairM l.ord i).2:=b.pos of _ (List.mem_of_getElem? (getI (xs:=l.ord) (i:=(i:Int)) (by omega) (by omega)))
 have hne:(pairM l.ord i).1≠(pairM l.ord i).2:=by
  have hi:=(sortM_sorted (okF_ids of) t).ids (okF_ids of)
  have hp:=List.pairwise_map.2 hi
  have eo:l.ord=(sortM f t).map (·.1):=b.ord
  rw [← eo] at hp
  have:=List.pairwise_iff_getElem.1 hp i (i+1) (by omega) (by omega) (by omega)
  unfold pairM
  rw [List.getD_eq_getElem?_getD,List.getD_eq_getElem?_getD,List.getElem?_eq_getElem (by omega),List.getElem?_eq_getElem (by omega)]
  exact fun e=>this e.symm
 have of':okF l.ck.f:=by rw [b.fe]; exact of
 have q1:=of'.pt p1; have q2:=of'.pt p2
 have r1:=(posF_range p1).2.2; have r2:=(posF_range p2).2.2
 have a1:=q1.i0; have a2:=q1.i1; have a3:=q2.i0; have a4:=q2.i1
 rw [r1] at a1 a2; rw [r2] at a3 a4
 have hv:validC (pairM l.ord i)=true:=by
  unfold validC
  simp only [Bool.and_eq_true,decide_eq_true_eq,bne_iff_ne,ne_eq]
  omega
 unfold certifyK
 rw [if_pos ⟨b.ok,hv⟩,if_neg (by omega)]

end Go.Proofs.YtlbdpklikfddlaaGreat
end
