/- The engine, parts LB, LC, M6, LN, LO, put together. Conditions: none. -/
import Derived.Test.YtjhbjjdipmpgjaaGreatPL3
import Derived.Test.YtjhbjjdipmpgjaaGreatVgClock
import Derived.Test.YtjhbjjdipmpgjaaGreatFs
import Derived.Test.YtjhbjjdipmpgjaaGreatPM2
import Derived.Test.YtjhbjjdipmpgjaaGreatVgKlist
set_option linter.unusedVariables false
section
/- Clocks: retiring, failing, moving. Conditions: none. -/
set_option maxRecDepth 100000
open Go Go.Eng Go.Proofs
namespace Go.Proofs.YtjhbjjdipmpgjaaGreat

theorem okK.dueInc {c:Ck} (ok:okK c):(c.due.map (·.1)).Pairwise (·<·):=by
 obtain ⟨ps,e⟩:=ok.evs
 have:=e.inc ok.ct
 rw [e.due,List.map_map]
 exact this
theorem zkg {H:Hp} {u:Cu} {c:Ck} {n:Int} (r:RdK H u c) (ok:okK c):∃ i b,Qf Tryz.prog F.f112 #[u.d.v,.int .i64 n] H (.tuple #[.int .i64 i,.bool b])∧(b=true→0≤yid c n∧i=yid c n)∧(b=false→yid c n<0):=by
 have hl:=ok.fit.due
 refine ⟨_,_,vc112 ⟨_,_,z9j r.due ok.dueInc (by omega),rfl,Hp.le_refl _⟩,fun hb=>?_,fun hb=>?_⟩
 ·rcases yix ok.dueInc n with ⟨h1,h2⟩ | ⟨h1,h2⟩
  ·have e:yid c n=yil (c.due.map (·.1)) n:=h2
   exact ⟨by omega,e.symm⟩
  ·rw [h1] at hb; cases hb
 ·rcases yix ok.dueInc n with ⟨h1,h2⟩ | ⟨h1,h2⟩
  ·rw [h1] at hb; cases hb
  ·have e:yid c n = -1:=h2
   omega

def zpg (c:Ck) (n:Int):Ck × (Int × Int) × Int:=if atC c.ct n<0 then (.zero,(0,0),6) else (zxm c n,(zwz c.ct.list (atC c.ct n)).2,0)
theorem okK.dueCut {c:Ck} (ok:okK c) {n:Int} (h:0≤yid c n):c.due.take (yid c n).toNat++c.due.drop ((yid c n).toNat+1)=c.due.filter fun d=>d.1 != n:=by
 obtain ⟨d,h1,h2,_,_⟩:=zzf h
 have hp:=List.pairwise_map.1 ok.dueInc
 have e:=zti hp h1
 have:d.1=n:=by simpa using h2
 rw [this] at e
 exact e
theorem yp1 {a:Ag} {x:Ev} (ok:okA a) (hx:x∈a.heap):yp0 a x.h=(yp5 a x.h,x,0):=by
 unfold yp0; rw [(ztv ok hx).1]; rfl

theorem yph {c:Ck} {n:Int} (ok:okK c):ypg c n=((zpg c n).1,(zpg c n).2.2):=by
 unfold ypg zpg
 rw [if_pos ok]
 split <;> rfl
theorem zkm {H:Hp} {u:Cu} {c:Ck} {t:Int × Int} (r:RdK H u c) (fk:zuf c) (ht:zun t):Qf Tryz.prog F.f129 #[ckV u c,raW t] H (.tuple #[.bool (decide (yyo c t=0)&&yzo c t),.int .i64 (yyo c t)]):=by
 have hm:(if zjo t>zja c then zjo t else zja c)=if okK c∧okR t then 0 else 8:=by
  by_cases h1:okK c <;> by_cases h2:okR t <;> simp [zjd,zjb,zjq,zjp,h1,h2]
 refine vc129 ⟨_,zk8 r fk,_,ylc ht,?_⟩
 rw [hm]
 by_cases h:okK c∧okR t
 ·rw [if_pos h]
  refine ⟨fun hc=>by simp at hc,fun _=>⟨_,_,yld ht fk.now,?_⟩⟩
  have ec:zm2 t c.now=(zm6 t c.now,0):=by unfold zm2; rw [if_pos ⟨h.2,h.1.now⟩]
  rw [ec]
  refine ⟨fun hq=>?_,fun hq=>?_⟩
  ·have hq:zm6 t c.now<0:=by simpa using hq
   have eu:yyo c t=44:=by unfold yyo; rw [if_pos h,if_pos hq]
   rw [eu]; exact ⟨rfl,Hp.le_refl _⟩
  ·have hq:¬ zm6 t c.now<0:=by simpa using hq
   have eu:yyo c t=0:=by unfold yyo; rw [if_pos h,if_neg hq]
   rw [eu]
   refine ⟨_,_,_,_,_,_,z4m r.ag fk.ag,?_⟩
   unfold yxt yzo
   rw [if_pos h.1.ag]
   by_cases h0:c.ag.heap.length=0
   ·rw [if_pos h0]
    refine ⟨fun _=>⟨?_,Hp.le_refl _⟩,fun hx=>by simp at hx⟩
    rw [h0]; rfl
   ·rw [if_neg h0]
    have o0:=(h.1.ag.each _ (zyy (by omega:0<c.ag.heap.length))).1
    have e2:zm2 (hp c.ag.heap 0).at_ t=(zm6 (hp c.ag.heap 0).at_ t,0):=by unfold zm2; rw [if_pos ⟨o0,h.2⟩]
    refine ⟨fun hx=>by simp at hx,fun _=>⟨_,_,yld o0.fit ht,?_,Hp.le_refl _⟩⟩
    rw [e2,decide_eq_true (show 0<c.ag.heap.length by omega)]
    rfl
 ·rw [if_neg h]
  have eu:yyo c t=8:=by unfold yyo; rw [if_neg h]
  rw [eu]
  exact ⟨fun _=>⟨rfl,Hp.le_refl _⟩,fun hx=>by simp at hx⟩

theorem okK.topCert {c:Ck} (ok:okK c) (h0:0<c.ag.heap.length):0≤atC c.ct (hp c.ag.heap 0).no:=by
 obtain ⟨ps,e⟩:=ok.evs
 obtain ⟨h,hm,h1,_⟩:=e.cert (e.heap.mem_iff.1 (zyy h0))
 obtain ⟨i,hi⟩:=List.mem_iff_getElem?.1 hm
 rw [← h1,(zww ok.ct hi).1]
 omega
theorem yzq {c:Ck} {t:Int × Int} (h:yzo c t=true):0<c.ag.heap.length:=by
 unfold yzo at h
 simp only [Bool.and_eq_true,decide_eq_true_eq] at h
 exact h.1

theorem zkd {H:Hp} {u:Cu} {c:Ck} {t:Int × Int} (r:RdK H u c) (fk:zuf c) (ht:zun t) :
  Go.Eng.Fn Tryz.prog F.f70 #[ckV u c,raW t] H fun v H'=>∃ w:Cu,v=.tuple #[ckV w (y76 c t).1,.int .i64 (y76 c t).2]∧Hp.le H H'∧RdK H' w (y76 c t).1:=by
 refine vc70 ⟨_,_,zkm r fk ht,fun hc=>⟨fun _=>?_,fun h=>by cases h⟩,fun hc=>⟨fun he=>?_,fun he=>?_⟩⟩
 ·simp only [Bool.and_eq_true,beq_iff_eq,decide_eq_true_eq] at hc
  have e:y76 c t=(.zero,36):=by unfold y76; rw [if_pos hc.1,if_pos hc.2.2]
  rw [e]; exact ⟨zu,rfl,Hp.le_refl _,RdK.zero⟩
 ·have he:yyo c t≠0:=by simpa using he
  have e:y76 c t=(.zero,yyo c t):=by unfold y76; rw [if_neg he]
  rw [e]; exact ⟨zu,rfl,Hp.le_refl _,RdK.zero⟩
 ·have he:yyo c t=0:=by simpa using he
  have hw:yzo c t=false:=by rw [he] at hc; simpa using hc
  have e:y76 c t=({ c with now:=t },0):=by unfold y76; rw [if_pos he,if_neg (by rw [hw]; simp)]
  rw [e]
  exact (zkk r fk).mono fun v H9 ⟨w,hv,l9,r9,_⟩=>⟨_,_,w.f,_,w.cl,w.u1,w.u2,w.u3,w.u4,w.u5,w.d,hv,w,rfl,l9,r9.f,r9.cl,r9.ag,r9.due⟩

theorem yks {H:Hp} {u:Cu} {c:Ck} {x:Int × Int} (r:RdK H u c) (ok:okK c) (h1:0≤yie c.f x.1) (h2:0≤yie c.f x.2) :
  Go.Eng.Fn Tryz.prog F.f146 #[ckV u c,raW x] H fun v H'=>∃ w:Cu,v=.tuple #[ckV w (z36 c x).1,.int .i64 (z36 c x).2.1,.int .i64 (z36 c x).2.2]∧Hp.le H H'∧RdK H' w (z36 c x).1:=by
 have fk:=ok.fit
 refine vc146 ((ykr (c:=c.ct) (x:=x) r.cl).mono fun v H2 ⟨a,hv,nc⟩=>⟨_,a,_,_,hv,fun he=>?_,fun he=>?_⟩)
 ·have he:(z2z c.ct x).2.2≠0:=by simpa using he
  have e:z36 c x=(.zero,0,(z2z c.ct x).2.2):=by unfold z36; rw [if_neg he]
  rw [e]; exact ⟨zu,rfl,nc.le,RdK.zero⟩
 have he:(z2z c.ct x).2.2=0:=by simpa using he
 obtain ⟨a1,a2,a3,a4,a5,a6⟩:=z32 he
 have r2:=r.le nc.le
 refine (yn6 r2 fk).mono fun v H8 ⟨w,hv,nk⟩=>⟨_,_,w.f,_,w.cl,w.u1,w.u2,w.u3,w.u4,w.u5,w.d,hv,_,_,_,yoj (x:=x) (r2.le nk.le).f ok.f ok.now h1 h2,fun hw=>?_,fun hw=>?_⟩
 ·have hw:yzu c.f x c.now=none:=by simpa using hw
  have e:z36 c x=({ c with ct:=(z2z c.ct x).1 },(z2z c.ct x).2.1,0):=by unfold z36; rw [if_pos he,hw]
  rw [e]
  exact ⟨⟨w.f,a,w.u1,w.u2,w.u3,w.u4,w.u5,w.d⟩,rfl,Hp.le_trans nc.le nk.le,nk.rd.f,nc.rd.le nk.le,nk.rd.ag,nk.rd.due⟩
 ·obtain ⟨t,hw⟩:∃ t,yzu c.f x c.now=some t:=Option.isSome_iff_exists.1 (by simpa using hw)
  have ht:okR t:=zsh (ok.f.pt h2) (ok.f.pt h1) ok.now hw
  have hnum:(z2z c.ct x).2.1=c.ct.next:=by rw [a6]
  rw [hw]
  refine ⟨_,ynv (r2.le nk.le).ag.tb ok.ag.tb,fun hc=>?_,fun hc=>?_⟩
  ·have hct:¬ c.ag.tb.canTake=true:=by simpa using hc
   have e:z36 c x=(.zero,0,18):=by unfold z36; rw [if_pos he,hw]; simp only; rw [if_neg hct]
   rw [e]; exact ⟨zu,rfl,Hp.le_trans nc.le nk.le,RdK.zero⟩
  ·have hct:c.ag.tb.canTake=true:=by simpa using hc
   have e:z36 c x=({ c with ct:=(z2z c.ct x).1,ag:=yjq c.ag t (z2z c.ct x).2.1,due:=c.due++[((z2z c.ct x).2.1,y8l c.ag)] },(z2z c.ct x).2.1,0):=by unfold z36; rw [if_pos he,hw]; simp only; rw [if_pos hct]
   rw [e]
   refine (ymh (t:=t) (n:=(z2z c.ct x).2.1) (r2.le nk.le).ag ok.ag ht hct).mono fun v H25 ⟨v1,v2,v3,v4,v5,hv,na⟩=>⟨v1,v2,v3,v4,v5,_,_,hv,fun b H34 hb hH=>?_⟩
   have le25:Hp.le H2 H25:=Hp.le_trans nk.le na.le
   refine (z6l (k:=3) (f:=fD) (bytes:=24) (x:=((z2z c.ct x).2.1,y8l c.ag)) (e:=T.api_Due) (by kernel_rfl) (by decide) (fun _=>rfl) zs2 le25 (nk.due.le na.le) hb hH rfl (by have:=fk.due; omega) (by omega)).mono fun v H36 ⟨d,hv,l36,md,cd,_⟩=>⟨d,hv,⟨w.f,a,v1,v2,v3,v4,v5,d⟩,rfl,Hp.le_trans nc.le l36,?_⟩
   have sf:Sep w.f w.d:=nk.sepFD
   exact ⟨(nk.rd.f.le na.le).chg cd sf,((nc.rd.le nk.le).le na.le).chg cd (Sep.of nc.list.isOld nk.due.isNew),RdA.chgN na cd nk.due.isOld,md.rdD⟩

theorem ykw {H:Hp} {u:Cu} {c:Ck} {n:Int} (r:RdK H u c) (ok:okK c) :
  Go.Eng.Fn Tryz.prog F.f88 #[ckV u c,.int .i64 n] H fun v H'=>∃ w:Cu,v=ckV w (zxm c n)∧Hp.le H H'∧RdK H' w (zxm c n):=by
 have fk:=ok.fit
 have f2:=fk.ct; have f3:=fk.due
 have ld:=r.due.len; have cp:=r.due.cap
 refine vc88 ((yn6 r fk).mono fun v H2 ⟨w,hv,nk⟩=>⟨_,_,w.f,_,w.cl,w.u1,w.u2,w.u3,w.u4,w.u5,w.d,hv,?_⟩)
 refine (yl3 (c:=c.ct) (n:=n) (r.le nk.le).cl (by omega)).mono fun v H15 ⟨a,hv,nc⟩=>⟨_,a,hv,_,ykv ((r.le nk.le).le nc.le) fk,fun hb=>?_,fun hb=>?_⟩
 ·have h0:0≤yid c n:=by simpa using hb
  have r15:=(r.le nk.le).le nc.le
  obtain ⟨ps,e⟩:=ok.evs
  obtain ⟨x,hx,hxn,hg,hlt⟩:=e.pos.1 h0
  have hxh:=e.mem_heap hx
  have hh:(c.due.getD (yid c n).toNat (0,0,0)).2=x.h:=by
   have:zwz c.due (yid c n)=nh x:=hg
   unfold zwz at this; rw [this]; rfl
  have g2:=r15.due.gD2 h0 hlt
  rw [hh] at g2
  refine ⟨r15.due.inS h0 hlt,_,_,g2,(yob (h:=x.h) r15.ag ok.ag (ok.live hxh)).mono fun v H22 ⟨v1,v2,v3,v4,v5,hv,na⟩=>⟨na.le,v1,v2,v3,v4,v5,hv,⟨by omega,by omega,by omega,by omega⟩,by unfold inI; omega,⟨by omega,by omega,by omega,by omega⟩,fun b H29 hb29 hH=>?_⟩⟩
  rw [zaf]
  have r22:=r15.le na.le
  have s1:=r22.due.sub (l:=0) (hi:=yid c n) (m:=u.d.c) (by omega) h0 (by omega) (by omega)
  refine (znt (k:=3) (f:=fD) (bytes:=24) (e:=T.api_Due) (s:=⟨yvk u.d.a 3 0 u.d.c,(yid c n).toNat-Int.toNat 0,((u.d.c:Int)).toNat-Int.toNat 0⟩) (by kernel_rfl) (by decide) (fun _=>rfl) zs2 hb29 hH s1 (by simp; omega) (by simp; omega)).mono fun v H31 ⟨d1,hv,l31,m1⟩=>⟨d1,hv,?_⟩
  have s2:=(r22.due.le l31).sub (l:=yid c n+1) (hi:=u.d.n) (m:=u.d.c) (by omega) (by omega) (by omega) (by omega)
  refine (z6m (k:=3) (f:=fD) (bytes:=24) (e:=T.api_Due) (q:=⟨yvk u.d.a 3 (yid c n+1) u.d.c,((u.d.n:Int)).toNat-(yid c n+1).toNat,((u.d.c:Int)).toNat-(yid c n+1).toNat⟩) (by kernel_rfl) (by decide) (fun _=>rfl) zs2 l31 m1 s2 (by simp; omega) (by simp; omega)).mono fun v H34 ⟨d2,hv,l34,m2,_⟩=>⟨d2,hv,⟨w.f,a,v1,v2,v3,v4,v5,d2⟩,?_,?_,?_⟩
  ·unfold zxm; rw [if_pos h0]; rfl
  ·exact Hp.le_trans nk.le (Hp.le_trans nc.le (Hp.le_trans na.le l34))
  ·have eg:zxm c n={ c with ct:=x0a c.ct n,ag:=yp5 c.ag x.h,due:=c.due.filter fun d=>d.1 != n }:=by
    unfold zxm; rw [if_pos h0,hg]; rfl
   rw [eg]
   refine ⟨((nk.rd.f.le nc.le).le na.le).le l34,(nc.rd.le na.le).le l34,na.rd.le l34,?_⟩
   have k:=m2.rdD
   rw [show Int.toNat 0=0 from rfl,List.drop_zero,Int.toNat_natCast,List.take_of_length_le (i:=u.d.n) (by omega),show (yid c n+1).toNat=(yid c n).toNat+1 by omega,ok.dueCut h0] at k
   exact k
 ·have h0:¬ 0≤yid c n:=by simpa using hb
  have eg:zxm c n={ c with ct:=x0a c.ct n }:=by unfold zxm; rw [if_neg h0]
  rw [eg]
  exact ⟨⟨w.f,a,w.u1,w.u2,w.u3,w.u4,w.u5,w.d⟩,rfl,Hp.le_trans nk.le nc.le,nk.rd.f.le nc.le,nc.rd,nk.rd.ag.le nc.le,nk.rd.due.le nc.le⟩


theorem ynf {H:Hp} {u:Lu} {l:Ls} (r:RdL H u l) (fl:zui l) :
  Go.Eng.Fn Tryz.prog F.f11 #[lsV u l] H fun v H'=>∃ w:Lu,v=lsV w l∧Hp.le H H'∧RdL H' w l∧Mine 1 fI 3 H H' w.n l.num∧Sep w.o w.n:=by
 have f1:=fl.o; have f2:=fl.n
 refine vc11 ((yn6 r.k fl.k).mono fun v H2 ⟨w,hv,nk⟩=>⟨nk.le,_,_,w.f,_,w.cl,w.u1,w.u2,w.u3,w.u4,w.u5,w.d,hv,fun b H15 hb hH=>?_⟩)
 have l2:=nk.le
 refine (znt (k:=1) (f:=fI) (bytes:=8) (e:=3) (by kernel_rfl) (by decide) (fun _=>rfl) (fun x v hv=>by simp [fI] at hv; subst hv; rfl) hb hH (r.o.le l2) (by omega) (by omega)).mono
  fun v H17 ⟨o,hv,l17,m1⟩=>⟨o,hv,fun b19 H20 hb19 hH20=>?_⟩
 refine (znt (k:=1) (f:=fI) (bytes:=8) (e:=3) (by kernel_rfl) (by decide) (fun _=>rfl) (fun x v hv=>by simp [fI] at hv; subst hv; rfl) hb19 hH20 ((r.n.le l2).le l17) (by omega) (by omega)).mono
  fun v H22 ⟨n,hv,l22,m2⟩=>⟨n,hv,⟨w,o,n⟩,rfl,Hp.le_trans l2 (Hp.le_trans l17 l22),⟨nk.rd.le (Hp.le_trans l17 l22),m1.rdI.le l22,m2.rdI⟩,m2.low (Hp.le_trans l2 l17),Sep.of m1.isOld m2.isNew⟩

def y55 (l:Ls) (i:Nat):Ls × Int :=
 if (z36 l.ck (ydm l.ord i)).2.2=0 then (⟨(z36 l.ck (ydm l.ord i)).1,l.ord,l.num.set i (z36 l.ck (ydm l.ord i)).2.1⟩,0) else (.zero,(z36 l.ck (ydm l.ord i)).2.2)
def zlu:Lu:=⟨zu,zs,zs⟩
theorem RdL.zero {H:Hp}:RdL H zlu .zero:=⟨RdK.zero,(Rd.nil:Rd 1 fI H ⟨none,0,0⟩ []),(Rd.nil:Rd 1 fI H ⟨none,0,0⟩ [])⟩

theorem ynq {H:Hp} {u:Lu} {l:Ls} {i:Int} (r:RdL H u l) (fl:zui l) (ok:okK l.ck) (ps:∀ x∈l.ord,0≤yie l.ck.f x) (h0:0≤i) (h1:i+1<l.ord.length) (h2:i<l.num.length) :
  Go.Eng.Fn Tryz.prog F.f89 #[lsV u l,.int .i64 i] H fun v H'=>∃ w:Lu,v=.tuple #[lsV w (y55 l i.toNat).1,.int .i64 (y55 l i.toNat).2]∧Hp.le H H'∧RdL H' w (y55 l i.toNat).1:=by
 have f1:=fl.o
 have p1:0≤yie l.ck.f (ydm l.ord i.toNat).1:=ps _ (by
  have:=zx9 (xs:=l.ord) (i:=i+1) (by omega) h1
  rw [show (i+1).toNat=i.toNat+1 by omega] at this
  exact List.mem_of_getElem? this)
 have p2:0≤yie l.ck.f (ydm l.ord i.toNat).2:=ps _ (List.mem_of_getElem? (zx9 (xs:=l.ord) h0 (by omega)))
 refine vc89 ⟨_,_,yo3 (u:=u) (l:=l) r.o h0 h1 f1,(yks r.k ok p1 p2).mono fun v H4 ⟨w,hv,l4,r4⟩=>⟨l4,_,_,w.f,_,w.cl,w.u1,w.u2,w.u3,w.u4,w.u5,w.d,_,_,hv,fun he=>?_,fun he=>?_⟩⟩
 ·have he:(z36 l.ck (ydm l.ord i.toNat)).2.2≠0:=by simpa using he
  unfold y55; rw [if_neg he]
  exact ⟨zlu,rfl,l4,RdL.zero⟩
 have he:(z36 l.ck (ydm l.ord i.toNat)).2.2=0:=by simpa using he
 unfold y55; rw [if_pos he]
 refine (ynf (r.le l4) fl).mono fun v H19 ⟨z,hv,l19,r19,m,sp⟩=>⟨_,_,z.k.f,_,z.k.cl,z.k.u1,z.k.u2,z.k.u3,z.k.u4,z.k.u5,z.k.d,z.o,z.n,hv,m.rdI.inS h0 h2,?_⟩
 refine m.setI h0 h2 _ fun H33 m' ck=>?_
 have l33:Hp.le H4 H33:=Hp.le_chg l19 ck m.isNew
 exact ⟨⟨w,z.o,z.n⟩,rfl,Hp.le_trans l4 l33,⟨r4.le l33,r19.o.chg ck sp,m'.rdI⟩⟩


structure z19 (H:Hp) (w:Cu):Prop where
 f:New H w.f
 cl:New H w.cl
 u1:New H w.u1
 u2:New H w.u2
 u3:New H w.u3
 u4:New H w.u4
 u5:New H w.u5
 d:New H w.d
theorem New.none {H:Hp}:New H zs:=fun p hp=>by cases hp
theorem z19.zero {H:Hp}:z19 H zu:=⟨New.none,New.none,New.none,New.none,New.none,New.none,New.none,New.none⟩
theorem zkl {H:Hp} {u:Cu} {c:Ck} (r:RdK H u c) (fk:zuf c) :
  Go.Eng.Fn Tryz.prog F.f110 #[ckV u c] H fun v H'=>∃ w:Cu,v=ckV w c∧Hp.le H H'∧RdK H' w c∧Mine 3 fD T.api_Due H H' w.d c.due∧Sep w.f w.d∧z19 H w:=by
 have f1:=fk.f; have f2:=fk.ct; have f3:=fk.due; have f4:=fk.ag.hl; have f5:=fk.ag.wl; have f6:=fk.ag.tb
 refine vc110 fun b1 H2 hb1 hH2=>?_
 have le2:Hp.le H H2:=Hp.le_new (Hp.le_refl _) hb1 hH2
 have c2:Cel H2 b1 (ckC c u.f u.cl u.u1 u.u2 u.u3 u.u4 u.u5 u.d) 39:=by rw [hH2]; exact Cel.put
 have r2:=r.le le2
 refine ⟨u.f,Cel.at c2 2,u.cl,Cel.at c2 4,u.d,Cel.at c2 10,(zld r2.f (by omega)).mono fun v H7 ⟨w1,hv,l7,m1⟩=>⟨l7,w1,hv,?_⟩⟩
 have k1:=Mine.kp m1 c2 fun _=>rfl
 have c7:=c2.le l7
 refine (zla (r2.le l7).cl (by omega)).mono fun v H10 ⟨w2,hv,l10,m2⟩=>⟨l10,w2,hv,?_⟩
 have k2:=Mine.kp m2 c7 fun _=>rfl
 have c10:=c7.le l10
 refine (zl8 ((r2.le l7).le l10).due (by omega)).mono fun v H13 ⟨w3,hv,l13,m3⟩=>⟨l13,w3,hv,?_⟩
 have k3:=Mine.kp m3 c10 fun _=>rfl
 have c13:=c10.le l13
 have le13:Hp.le H H13:=Hp.le_trans le2 (Hp.le_trans l7 (Hp.le_trans l10 l13))
 refine z9g (i:=2) (cs':=ckC c w1 u.cl u.u1 u.u2 u.u3 u.u4 u.u5 u.d) c13 (show 2<11 by decide) rfl fun H15 c15 o15=>z9g (i:=4) (cs':=ckC c w1 w2 u.u1 u.u2 u.u3 u.u4 u.u5 u.d) c15 (show 4<11 by decide) rfl fun H16 c16 o16=>z9g (i:=10) (cs':=ckC c w1 w2 u.u1 u.u2 u.u3 u.u4 u.u5 w3) c16 (show 10<11 by decide) rfl fun H17 c17 o17=>?_
 have k1:=((((k1.le l10).le l13).off o15).off o16).off o17
 have k2:=(((k2.le l13).off o15).off o16).off o17
 have k3:=((k3.off o15).off o16).off o17
 have le17:Hp.le H H17:=o17.le hb1 (o16.le hb1 (o15.le hb1 le13))
 have r17:=r.le le17
 refine ⟨u.u4,Cel.at c17 8,u.u5,Cel.at c17 9,(zl9 r17.ag.heap (by omega)).mono fun v H21 ⟨w4,hv,l21,m4⟩=>⟨l21,w4,hv,?_⟩⟩
 have k4:=Mine.kp m4 c17 fun _=>rfl
 have c21:=c17.le l21
 refine (zlb (r17.le l21).ag.wh (by omega)).mono fun v H24 ⟨w5,hv,l24,m5⟩=>⟨l24,w5,hv,?_⟩
 have k5:=Mine.kp m5 c21 fun _=>rfl
 have c24:=c21.le l24
 have le24:Hp.le H H24:=Hp.le_trans le17 (Hp.le_trans l21 l24)
 refine z9g (i:=8) (cs':=ckC c w1 w2 u.u1 u.u2 u.u3 w4 u.u5 w3) c24 (show 8<11 by decide) rfl fun H26 c26 o26=>z9g (i:=9) (cs':=ckC c w1 w2 u.u1 u.u2 u.u3 w4 w5 w3) c26 (show 9<11 by decide) rfl fun H27 c27 o27=>?_
 have k1:=(((k1.le l21).le l24).off o26).off o27
 have k2:=(((k2.le l21).le l24).off o26).off o27
 have k3:=(((k3.le l21).le l24).off o26).off o27
 have k4:=((k4.le l24).off o26).off o27
 have k5:=(k5.off o26).off o27
 have le27:Hp.le H H27:=o27.le hb1 (o26.le hb1 le24)
 have r27:=r.le le27
 obtain ⟨g1,g2,g3⟩:=f6
 refine ⟨u.u1,Cel.at c27 5,u.u2,Cel.at c27 6,u.u3,Cel.at c27 7,(zlb r27.ag.tb.uses (by omega)).mono fun v H32 ⟨w6,hv,l32,m6⟩=>⟨l32,w6,hv,?_⟩⟩
 have k6:=Mine.kp m6 c27 fun _=>rfl
 have c32:=c27.le l32
 refine (zl7 (r27.le l32).ag.tb.used (by omega)).mono fun v H35 ⟨w7,hv,l35,m7⟩=>⟨l35,w7,hv,?_⟩
 have k7:=Mine.kp m7 c32 fun _=>rfl
 have c35:=c32.le l35
 refine (zlb ((r27.le l32).le l35).ag.tb.free (by omega)).mono fun v H38 ⟨w8,hv,l38,m8⟩=>⟨l38,w8,hv,?_⟩
 have k8:=Mine.kp m8 c35 fun _=>rfl
 have c38:=c35.le l38
 have le38:Hp.le H H38:=Hp.le_trans le27 (Hp.le_trans l32 (Hp.le_trans l35 l38))
 refine z9g (i:=5) (cs':=ckC c w1 w2 w6 u.u2 u.u3 w4 w5 w3) c38 (show 5<11 by decide) rfl fun H40 c40 o40=>z9g (i:=6) (cs':=ckC c w1 w2 w6 w7 u.u3 w4 w5 w3) c40 (show 6<11 by decide) rfl fun H41 c41 o41=>z9g (i:=7) (cs':=ckC c w1 w2 w6 w7 w8 w4 w5 w3) c41 (show 7<11 by decide) rfl fun H42 c42 o42=>?_
 have le42:Hp.le H H42:=o42.le hb1 (o41.le hb1 (o40.le hb1 le38))
 have at42:=fun i=>Cel.at c42 i
 have sp:=k3.sep
 have s13:Sep w1 w3:=Sep.of (m1.isOld.le l10) m3.isNew
 have m17:=Mine.off (Mine.off (Mine.off (m3.low (Hp.le_trans le2 (Hp.le_trans l7 l10))) o15 sp) o16 sp) o17 sp
 have m27:=Mine.off (Mine.off ((m17.le l21).le l24) o26 sp) o27 sp
 have m42:=Mine.off (Mine.off (Mine.off (((m27.le l32).le l35).le l38) o40 sp) o41 sp) o42 sp
 refine ⟨_,_,w1,_,w2,w6,w7,w8,w4,w5,w3,⟨at42 0,at42 1,at42 2,at42 3,at42 4,at42 5,at42 6,at42 7,at42 8,at42 9,at42 10⟩,⟨w1,w2,w6,w7,w8,w4,w5,w3⟩,rfl,le42,?_,m42,s13,?_⟩
 ·have k1:=((((((k1.le l32).le l35).le l38).off o40).off o41).off o42)
  have k2:=((((((k2.le l32).le l35).le l38).off o40).off o41).off o42)
  have k3:=((((((k3.le l32).le l35).le l38).off o40).off o41).off o42)
  have k4:=((((((k4.le l32).le l35).le l38).off o40).off o41).off o42)
  have k5:=((((((k5.le l32).le l35).le l38).off o40).off o41).off o42)
  have k6:=(((((k6.le l35).le l38).off o40).off o41).off o42)
  have k7:=((((k7.le l38).off o40).off o41).off o42)
  have k8:=(((k8.off o40).off o41).off o42)
  exact ⟨k1.rd,k2.rd,⟨⟨k6.rd,k7.rd,k8.rd⟩,k4.rd,k5.rd⟩,k3.rd⟩
 ·have le24':=le24; have le38':=le38
  exact ⟨(m1.isNew).low le2,(m2.isNew).low (Hp.le_trans le2 l7),(m6.isNew).low le27,(m7.isNew).low (Hp.le_trans le27 l32),(m8.isNew).low (Hp.le_trans le27 (Hp.le_trans l32 l35)),(m4.isNew).low le17,(m5.isNew).low (Hp.le_trans le17 l21),(m3.isNew).low (Hp.le_trans le2 (Hp.le_trans l7 l10))⟩
theorem zk7 {H:Hp} {u:Cu} {c:Ck} {x:Int × Int} (r:RdK H u c) (fk:zuf c) :
  Go.Eng.Fn Tryz.prog F.f116 #[ckV u c,raW x] H fun v H'=>∃ w:Cu,v=.tuple #[ckV w (zbg c x).1,.int .i64 (zbg c x).2.1,.int .i64 (zbg c x).2.2]∧Hp.le H H'∧RdK H' w (zbg c x).1∧z19 H w:=by
 have bad:∀ (e:Int) (H1:Hp),zbg c x=(.zero,0,e)→Hp.le H H1→FnV Tryz.prog (.func (.func F.f178) #[] #[]) [.int .i64 e] H1 fun v2 H3 =>
   ∃ n4 n5:Int,∃ u6:Slc,∃ n7:Int,∃ u8 u9 u10 u11 u12 u13 u14:Slc,∃ n15 n16:Int,v2=.tuple #[vCk n4 n5 u6 n7 u8 u9 u10 u11 u12 u13 u14,.int .i64 n15,.int .i64 n16] ∧
    ∃ w:Cu,(.tuple #[vCk n4 n5 u6 n7 u8 u9 u10 u11 u12 u13 u14,.int .i64 n15,.int .i64 n16]:Value)=.tuple #[ckV w (zbg c x).1,.int .i64 (zbg c x).2.1,.int .i64 (zbg c x).2.2]∧Hp.le H H3∧RdK H3 w (zbg c x).1∧z19 H w:=by
  intro e H1 he hl
  rw [he]
  exact zbe ⟨_,_,_,_,_,_,_,_,_,_,_,_,_,rfl,zu,rfl,hl,RdK.zero,z19.zero⟩
 refine vc116 ⟨_,zk8 r fk,fun hc=>?_,fun hc=>?_⟩
 ·have hc:zja c≠0:=by simpa using hc
  have hk:¬ okK c:=fun ok=>hc (zjd ok)
  rw [zjb hk]
  exact bad 8 H (by unfold zbg; rw [if_neg fun h=>hk h.1]) (Hp.le_refl _)
 have ok:okK c:=zje.1 (by simpa using hc)
 obtain ⟨ae1,ae2⟩:=z31 (x:=x) ok.ct
 refine (zai (c:=c.ct) (x:=x) r.cl).mono fun v H18 ⟨a,hv,nc⟩=>⟨_,a,_,_,hv,fun h8=>?_,fun h8=>?_⟩
 ·have h8:(z2z c.ct x).2.2=8:=by simpa using h8
  have hv:=ae1.1 h8
  rw [h8]
  exact bad 8 H18 (by unfold zbg; rw [if_neg fun h=>by rw [hv] at h; cases h.2]) nc.le
 have h8:yz9 x=true:=by
  cases hv:yz9 x with
  | true=>rfl
  | false=>rw [ae1.2 hv] at h8; simp at h8
 have r18:=r.le nc.le
 refine ⟨_,_,_,zkh r18.f ok.f,_,_,_,fun _=>zkh r18.f ok.f,fun hb=>?_,fun hb=>?_⟩
 ·rw [yi6 ok.f,yi6 ok.f] at hb
  have hb:yie c.f x.1<0∨yie c.f x.2<0:=by simpa using hb
  exact bad 6 H18 (by unfold zbg; rw [if_pos ⟨ok,h8⟩,if_pos hb]) nc.le
 rw [yi6 ok.f,yi6 ok.f] at hb
 have hb:¬ (yie c.f x.1<0∨yie c.f x.2<0):=by simpa using hb
 have ek:zbg c x=z36 c x:=by unfold zbg; rw [if_pos ⟨ok,h8⟩,if_neg hb]
 refine ⟨fun he=>?_,fun he=>?_⟩
 ·have he:(z2z c.ct x).2.2≠0:=by simpa using he
  exact bad _ H18 (by rw [ek]; unfold z36; rw [if_neg he]) nc.le
 have he:(z2z c.ct x).2.2=0:=by simpa using he
 obtain ⟨a1,a2,a3,a4,a5,a6⟩:=z32 he
 have hne:x.1≠x.2:=by
  unfold yz9 at h8
  simp only [Bool.and_eq_true,bne_iff_ne] at h8
  exact h8.2
 refine (zkl r18 fk).mono fun v H75 ⟨w,hv,l75,rw75,m75,s75,nw⟩=>⟨_,_,w.f,_,w.cl,w.u1,w.u2,w.u3,w.u4,w.u5,w.d,hv,_,_,_,_,zkn (x:=x) (r18.le l75).f ok.f fk.now,fun h=>?_,fun _=>?_⟩
 ·rw [yzy ok.f ok.now (by omega) (by omega) hne] at h
  simp at h
 rw [yzy ok.f ok.now (by omega) (by omega) hne]
 cases hw:yzu c.f x c.now with
 | none =>
  refine ⟨fun h=>by simp at h,fun _=>?_⟩
  have e:z36 c x=({ c with ct:=(z2z c.ct x).1 },(z2z c.ct x).2.1,0):=by unfold z36; rw [if_pos he,hw]
  rw [ek,e]
  exact ⟨⟨w.f,a,w.u1,w.u2,w.u3,w.u4,w.u5,w.d⟩,rfl,Hp.le_trans nc.le l75,⟨rw75.f,nc.rd.le l75,rw75.ag,rw75.due⟩,nw.f.low nc.le,nc.list.isNew,nw.u1.low nc.le,nw.u2.low nc.le,nw.u3.low nc.le,nw.u4.low nc.le,nw.u5.low nc.le,nw.d.low nc.le⟩
 | some t =>
  refine ⟨fun _=>?_,fun h=>by simp at h⟩
  have ht:okR t:=zsh (ok.f.pt (by omega)) (ok.f.pt (by omega)) ok.now hw
  have hpush:=ok.push ht
  have hnum:(z2z c.ct x).2.1=c.ct.next:=by rw [a6]
  refine (z4f (t:=t) (n:=(z2z c.ct x).2.1) (r18.le l75).ag fk.ag ht.fit).mono fun v H107 ⟨v1,v2,v3,v4,v5,hv,na⟩=>⟨v1,v2,v3,v4,v5,_,_,_,hv,fun h=>?_,fun h=>?_⟩
  ·rw [hnum,hpush] at h
   by_cases hct:c.ag.tb.canTake=true
   ·rw [if_pos hct] at h; simp at h
   ·rw [hnum,hpush,if_neg hct]
    exact bad 18 H107 (by rw [ek]; unfold z36; rw [if_pos he,hw]; simp only; rw [if_neg hct]) (Hp.le_trans nc.le (Hp.le_trans l75 na.le))
  ·rw [hnum,hpush] at h
   by_cases hct:c.ag.tb.canTake=true
   ·intro b H132 hb131 hH
    rw [hnum,hpush,if_pos hct] at na hH
    have le107:Hp.le H18 H107:=Hp.le_trans l75 na.le
    refine (z6l (k:=3) (f:=fD) (bytes:=24) (x:=(c.ct.next,y8l c.ag)) (e:=T.api_Due) (by kernel_rfl) (by decide) (fun _=>rfl) zs2 le107 (m75.le na.le) hb131 hH rfl (by have:=fk.due; omega) (by omega)).mono fun v H134 ⟨d,hv,l134,md,cd,_⟩=>⟨d,hv,?_⟩
    have e:z36 c x=({ c with ct:=(z2z c.ct x).1,ag:=yjq c.ag t (z2z c.ct x).2.1,due:=c.due++[((z2z c.ct x).2.1,y8l c.ag)] },(z2z c.ct x).2.1,0):=by unfold z36; rw [if_pos he,hw]; simp only; rw [if_pos hct]
    rw [ek,e]
    refine ⟨⟨w.f,a,v1,v2,v3,v4,v5,d⟩,rfl,Hp.le_trans nc.le l134,⟨(rw75.f.le na.le).chg cd s75,((nc.rd.le l75).le na.le).chg cd (Sep.of nc.list.isOld m75.isNew),?_,?_⟩,nw.f.low nc.le,nc.list.isNew,na.tb.uses.isNew.low (Hp.le_trans nc.le l75),na.tb.used.isNew.low (Hp.le_trans nc.le l75),na.tb.free.isNew.low (Hp.le_trans nc.le l75),na.heap.isNew.low (Hp.le_trans nc.le l75),na.wh.isNew.low (Hp.le_trans nc.le l75),md.isNew.low nc.le⟩
    ·rw [hnum]; exact RdA.chgN na cd m75.isOld
    ·rw [hnum]; exact md.rdD
   ·rw [if_neg hct] at h; simp at h

abbrev lsC (u:Lu) (l:Ls):Array Value:=#[.int .i64 l.ck.now.1,.int .i64 l.ck.now.2,u.k.f.v,.int .i64 l.ck.ct.next,u.k.cl.v,u.k.u1.v,u.k.u2.v,u.k.u3.v,u.k.u4.v,u.k.u5.v,u.k.d.v,u.o.v,u.n.v]
end Go.Proofs.YtjhbjjdipmpgjaaGreat
end
