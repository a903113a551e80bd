/- The engine, parts LB, LC, put together. Conditions: none. -/
import Derived.Test.YtlbdpklikfddlaaGreatPL3
import Derived.Test.YtlbdpklikfddlaaGreatVgClock
import Derived.Test.YtlbdpklikfddlaaGreatFs
set_option linter.unusedVariables false
section
/- Clocks: retiring, failing, moving. Conditions: none. -/
set_option maxRecDepth 100000
open Go Go.Eng Go.Proofs
namespace Go.Proofs.YtlbdpklikfddlaaGreat

theorem okK.dueInc {c:Ck} (ok:okK c):(c.due.map (·.1)).Pairwise (·<·):=by
 obtain ⟨ps,e⟩:=ok.evs
 have:=e.inc ok.ct
 rw [e.due,List.map_map]
 exact this
theorem clockPlace {H:Hp} {u:Cu} {c:Ck} {n:Int} (r:RdK H u c) (ok:okK c):∃ i b,Qf Tryz.prog F.clock_place #[u.d.v,.int .i64 n] H (.tuple #[.int .i64 i,.bool b])∧(b=true→0≤posD c n∧i=posD c n)∧(b=false→posD c n<0):=by
 have hl:=ok.fit.due
 refine ⟨_,_,clock_place_vc ⟨_,_,bsearch_due r.due ok.dueInc (by omega),rfl,Hp.le_refl _⟩,fun hb=>?_,fun hb=>?_⟩
 ·rcases pos_dich ok.dueInc n with ⟨h1,h2⟩ | ⟨h1,h2⟩
  ·have e:posD c n=posI (c.due.map (·.1)) n:=h2
   exact ⟨by omega,e.symm⟩
  ·rw [h1] at hb; cases hb
 ·rcases pos_dich ok.dueInc n with ⟨h1,h2⟩ | ⟨h1,h2⟩
  ·rw [h1] at hb; cases hb
  ·have e:posD c n = -1:=h2
   omega

def dropK (c:Ck) (n:Int):Ck × (Int × Int) × Int:=if atC c.ct n<0 then (.zero,(0,0),6) else (goneK c n,(getD3 c.ct.list (atC c.ct n)).2,0)
theorem okK.dueCut {c:Ck} (ok:okK c) {n:Int} (h:0≤posD c n):c.due.take (posD c n).toNat++c.due.drop ((posD c n).toNat+1)=c.due.filter fun d=>d.1 != n:=by
 obtain ⟨d,h1,h2,_,_⟩:=idx_in h
 have hp:=List.pairwise_map.1 ok.dueInc
 have e:=filter_erase hp h1
 have:d.1=n:=by simpa using h2
 rw [this] at e
 exact e
theorem removeA_at {a:Ag} {x:Ev} (ok:okA a) (hx:x∈a.heap):removeA a x.h=(removedA a x.h,x,0):=by
 unfold removeA; rw [(find_eq ok hx).1]; rfl

theorem retireK_drop {c:Ck} {n:Int} (ok:okK c):retireK c n=((dropK c n).1,(dropK c n).2.2):=by
 unfold retireK dropK
 rw [if_pos ok]
 split <;> rfl
theorem clockUntil {H:Hp} {u:Cu} {c:Ck} {t:Int × Int} (r:RdK H u c) (fk:fitK c) (ht:fitR t):Qf Tryz.prog F.clock_until #[ckV u c,raW t] H (.tuple #[.bool (decide (untilK c t=0)&&waitsK c t),.int .i64 (untilK c t)]):=by
 have hm:(if chkR t>chkK c then chkR t else chkK c)=if okK c∧okR t then 0 else 8:=by
  by_cases h1:okK c <;> by_cases h2:okR t <;> simp [chkK_ok,chkK_bad,chkR_ok,chkR_bad,h1,h2]
 refine clock_until_vc ⟨_,clockCheck r fk,_,ratioCheck ht,?_⟩
 rw [hm]
 by_cases h:okK c∧okR t
 ·rw [if_pos h]
  refine ⟨fun hc=>by simp at hc,fun _=>⟨_,_,ratioCmp ht fk.now,?_⟩⟩
  have ec:cmpM t c.now=(cmpR t c.now,0):=by unfold cmpM; rw [if_pos ⟨h.2,h.1.now⟩]
  rw [ec]
  refine ⟨fun hq=>?_,fun hq=>?_⟩
  ·have hq:cmpR t c.now<0:=by simpa using hq
   have eu:untilK c t=44:=by unfold untilK; rw [if_pos h,if_pos hq]
   rw [eu]; exact ⟨rfl,Hp.le_refl _⟩
  ·have hq:¬ cmpR t c.now<0:=by simpa using hq
   have eu:untilK c t=0:=by unfold untilK; rw [if_pos h,if_neg hq]
   rw [eu]
   refine ⟨_,_,_,_,_,_,agendaTop r.ag fk.ag,?_⟩
   unfold topA waitsK
   rw [if_pos h.1.ag]
   by_cases h0:c.ag.heap.length=0
   ·rw [if_pos h0]
    refine ⟨fun _=>⟨?_,Hp.le_refl _⟩,fun hx=>by simp at hx⟩
    rw [h0]; rfl
   ·rw [if_neg h0]
    have o0:=(h.1.ag.each _ (hp_mem (by omega:0<c.ag.heap.length))).1
    have e2:cmpM (hp c.ag.heap 0).at_ t=(cmpR (hp c.ag.heap 0).at_ t,0):=by unfold cmpM; rw [if_pos ⟨o0,h.2⟩]
    refine ⟨fun hx=>by simp at hx,fun _=>⟨_,_,ratioCmp o0.fit ht,?_,Hp.le_refl _⟩⟩
    rw [e2,decide_eq_true (show 0<c.ag.heap.length by omega)]
    rfl
 ·rw [if_neg h]
  have eu:untilK c t=8:=by unfold untilK; rw [if_neg h]
  rw [eu]
  exact ⟨fun _=>⟨rfl,Hp.le_refl _⟩,fun hx=>by simp at hx⟩

theorem okK.topCert {c:Ck} (ok:okK c) (h0:0<c.ag.heap.length):0≤atC c.ct (hp c.ag.heap 0).no:=by
 obtain ⟨ps,e⟩:=ok.evs
 obtain ⟨h,hm,h1,_⟩:=e.cert (e.heap.mem_iff.1 (hp_mem h0))
 obtain ⟨i,hi⟩:=List.mem_iff_getElem?.1 hm
 rw [← h1,(getC_at ok.ct hi).1]
 omega
theorem waitsK_len {c:Ck} {t:Int × Int} (h:waitsK c t=true):0<c.ag.heap.length:=by
 unfold waitsK at h
 simp only [Bool.and_eq_true,decide_eq_true_eq] at h
 exact h.1

theorem clockMove {H:Hp} {u:Cu} {c:Ck} {t:Int × Int} (r:RdK H u c) (fk:fitK c) (ht:fitR t) :
  Go.Eng.Fn Tryz.prog F.clock_Move #[ckV u c,raW t] H fun v H'=>∃ w:Cu,v=.tuple #[ckV w (moveK c t).1,.int .i64 (moveK c t).2]∧Hp.le H H'∧RdK H' w (moveK c t).1:=by
 refine clock_Move_vc ⟨_,_,clockUntil r fk ht,fun hc=>⟨fun _=>?_,fun h=>by cases h⟩,fun hc=>⟨fun he=>?_,fun he=>?_⟩⟩
 ·simp only [Bool.and_eq_true,beq_iff_eq,decide_eq_true_eq] at hc
  have e:moveK c t=(.zero,36):=by unfold moveK; rw [if_pos hc.1,if_pos hc.2.2]
  rw [e]; exact ⟨zu,rfl,Hp.le_refl _,RdK.zero⟩
 ·have he:untilK c t≠0:=by simpa using he
  have e:moveK c t=(.zero,untilK c t):=by unfold moveK; rw [if_neg he]
  rw [e]; exact ⟨zu,rfl,Hp.le_refl _,RdK.zero⟩
 ·have he:untilK c t=0:=by simpa using he
  have hw:waitsK c t=false:=by rw [he] at hc; simpa using hc
  have e:moveK c t=({ c with now:=t },0):=by unfold moveK; rw [if_pos he,if_neg (by rw [hw]; simp)]
  rw [e]
  exact (clockTwin r fk).mono fun v H9 ⟨w,hv,l9,r9,_⟩=>⟨_,_,w.f,_,w.cl,w.u1,w.u2,w.u3,w.u4,w.u5,w.d,hv,w,rfl,l9,r9.f,r9.cl,r9.ag,r9.due⟩

theorem rAdded {H:Hp} {u:Cu} {c:Ck} {x:Int × Int} (r:RdK H u c) (ok:okK c) (h1:0≤posF c.f x.1) (h2:0≤posF c.f x.2) :
  Go.Eng.Fn Tryz.prog F.pelotonref09_Added #[ckV u c,raW x] H fun v H'=>∃ w:Cu,v=.tuple #[ckV w (addK c x).1,.int .i64 (addK c x).2.1,.int .i64 (addK c x).2.2]∧Hp.le H H'∧RdK H' w (addK c x).1:=by
 have fk:=ok.fit
 refine pelotonref09_Added_vc ((rAddC (c:=c.ct) (x:=x) r.cl).mono fun v H2 ⟨a,hv,nc⟩=>⟨_,a,_,_,hv,fun he=>?_,fun he=>?_⟩)
 ·have he:(addC c.ct x).2.2≠0:=by simpa using he
  have e:addK c x=(.zero,0,(addC c.ct x).2.2):=by unfold addK; rw [if_neg he]
  rw [e]; exact ⟨zu,rfl,nc.le,RdK.zero⟩
 have he:(addC c.ct x).2.2=0:=by simpa using he
 obtain ⟨a1,a2,a3,a4,a5,a6⟩:=addC_facts he
 have r2:=r.le nc.le
 refine (refKTwin r2 fk).mono fun v H8 ⟨w,hv,nk⟩=>⟨_,_,w.f,_,w.cl,w.u1,w.u2,w.u3,w.u4,w.u5,w.d,hv,_,_,_,refWhen (x:=x) (r2.le nk.le).f ok.f ok.now h1 h2,fun hw=>?_,fun hw=>?_⟩
 ·have hw:whenM c.f x c.now=none:=by simpa using hw
  have e:addK c x=({ c with ct:=(addC c.ct x).1 },(addC c.ct x).2.1,0):=by unfold addK; rw [if_pos he,hw]
  rw [e]
  exact ⟨⟨w.f,a,w.u1,w.u2,w.u3,w.u4,w.u5,w.d⟩,rfl,Hp.le_trans nc.le nk.le,nk.rd.f,nc.rd.le nk.le,nk.rd.ag,nk.rd.due⟩
 ·obtain ⟨t,hw⟩:∃ t,whenM c.f x c.now=some t:=Option.isSome_iff_exists.1 (by simpa using hw)
  have ht:okR t:=fail_okR (ok.f.pt h2) (ok.f.pt h1) ok.now hw
  have hnum:(addC c.ct x).2.1=c.ct.next:=by rw [a6]
  rw [hw]
  refine ⟨_,refOpen (r2.le nk.le).ag.tb ok.ag.tb,fun hc=>?_,fun hc=>?_⟩
  ·have hct:¬ c.ag.tb.canTake=true:=by simpa using hc
   have e:addK c x=(.zero,0,18):=by unfold addK; rw [if_pos he,hw]; simp only; rw [if_neg hct]
   rw [e]; exact ⟨zu,rfl,Hp.le_trans nc.le nk.le,RdK.zero⟩
  ·have hct:c.ag.tb.canTake=true:=by simpa using hc
   have e:addK c x=({ c with ct:=(addC c.ct x).1,ag:=pushedA c.ag t (addC c.ct x).2.1,due:=c.due++[((addC c.ct x).2.1,nextH c.ag)] },(addC c.ct x).2.1,0):=by unfold addK; rw [if_pos he,hw]; simp only; rw [if_pos hct]
   rw [e]
   refine (refAPushed (t:=t) (n:=(addC c.ct x).2.1) (r2.le nk.le).ag ok.ag ht hct).mono fun v H25 ⟨v1,v2,v3,v4,v5,hv,na⟩=>⟨v1,v2,v3,v4,v5,_,_,hv,fun b H34 hb hH=>?_⟩
   have le25:Hp.le H2 H25:=Hp.le_trans nk.le na.le
   refine (append1 (k:=3) (f:=fD) (bytes:=24) (x:=((addC c.ct x).2.1,nextH c.ag)) (e:=T.api_Due) (by kernel_rfl) (by decide) (fun _=>rfl) fD_one le25 (nk.due.le na.le) hb hH rfl (by have:=fk.due; omega) (by omega)).mono fun v H36 ⟨d,hv,l36,md,cd,_⟩=>⟨d,hv,⟨w.f,a,v1,v2,v3,v4,v5,d⟩,rfl,Hp.le_trans nc.le l36,?_⟩
   have sf:Sep w.f w.d:=nk.sepFD
   exact ⟨(nk.rd.f.le na.le).chg cd sf,((nc.rd.le nk.le).le na.le).chg cd (Sep.of nc.list.isOld nk.due.isNew),RdA.chgN na cd nk.due.isOld,md.rdD⟩

theorem rGone {H:Hp} {u:Cu} {c:Ck} {n:Int} (r:RdK H u c) (ok:okK c) :
  Go.Eng.Fn Tryz.prog F.pelotonref09_Gone #[ckV u c,.int .i64 n] H fun v H'=>∃ w:Cu,v=ckV w (goneK c n)∧Hp.le H H'∧RdK H' w (goneK c n):=by
 have fk:=ok.fit
 have f2:=fk.ct; have f3:=fk.due
 have ld:=r.due.len; have cp:=r.due.cap
 refine pelotonref09_Gone_vc ((refKTwin r fk).mono fun v H2 ⟨w,hv,nk⟩=>⟨_,_,w.f,_,w.cl,w.u1,w.u2,w.u3,w.u4,w.u5,w.d,hv,?_⟩)
 refine (rWithoutC (c:=c.ct) (n:=n) (r.le nk.le).cl (by omega)).mono fun v H15 ⟨a,hv,nc⟩=>⟨_,a,hv,_,rDueAt ((r.le nk.le).le nc.le) fk,fun hb=>?_,fun hb=>?_⟩
 ·have h0:0≤posD c n:=by simpa using hb
  have r15:=(r.le nk.le).le nc.le
  obtain ⟨ps,e⟩:=ok.evs
  obtain ⟨x,hx,hxn,hg,hlt⟩:=e.pos.1 h0
  have hxh:=e.mem_heap hx
  have hh:(c.due.getD (posD c n).toNat (0,0,0)).2=x.h:=by
   have:getD3 c.due (posD c n)=nh x:=hg
   unfold getD3 at this; rw [this]; rfl
  have g2:=r15.due.gD2 h0 hlt
  rw [hh] at g2
  refine ⟨r15.due.inS h0 hlt,_,_,g2,(refRemoved (h:=x.h) r15.ag ok.ag (ok.live hxh)).mono fun v H22 ⟨v1,v2,v3,v4,v5,hv,na⟩=>⟨na.le,v1,v2,v3,v4,v5,hv,⟨by omega,by omega,by omega,by omega⟩,by unfold inI; omega,⟨by omega,by omega,by omega,by omega⟩,fun b H29 hb29 hH=>?_⟩⟩
  rw [cells175]
  have r22:=r15.le na.le
  have s1:=r22.due.sub (l:=0) (hi:=posD c n) (m:=u.d.c) (by omega) h0 (by omega) (by omega)
  refine (copy_ok (k:=3) (f:=fD) (bytes:=24) (e:=T.api_Due) (s:=⟨subA u.d.a 3 0 u.d.c,(posD c n).toNat-Int.toNat 0,((u.d.c:Int)).toNat-Int.toNat 0⟩) (by kernel_rfl) (by decide) (fun _=>rfl) fD_one hb29 hH s1 (by simp; omega) (by simp; omega)).mono fun v H31 ⟨d1,hv,l31,m1⟩=>⟨d1,hv,?_⟩
  have s2:=(r22.due.le l31).sub (l:=posD c n+1) (hi:=u.d.n) (m:=u.d.c) (by omega) (by omega) (by omega) (by omega)
  refine (append_any (k:=3) (f:=fD) (bytes:=24) (e:=T.api_Due) (q:=⟨subA u.d.a 3 (posD c n+1) u.d.c,((u.d.n:Int)).toNat-(posD c n+1).toNat,((u.d.c:Int)).toNat-(posD c n+1).toNat⟩) (by kernel_rfl) (by decide) (fun _=>rfl) fD_one l31 m1 s2 (by simp; omega) (by simp; omega)).mono fun v H34 ⟨d2,hv,l34,m2,_⟩=>⟨d2,hv,⟨w.f,a,v1,v2,v3,v4,v5,d2⟩,?_,?_,?_⟩
  ·unfold goneK; rw [if_pos h0]; rfl
  ·exact Hp.le_trans nk.le (Hp.le_trans nc.le (Hp.le_trans na.le l34))
  ·have eg:goneK c n={ c with ct:=withoutC c.ct n,ag:=removedA c.ag x.h,due:=c.due.filter fun d=>d.1 != n }:=by
    unfold goneK; rw [if_pos h0,hg]; rfl
   rw [eg]
   refine ⟨((nk.rd.f.le nc.le).le na.le).le l34,(nc.rd.le na.le).le l34,na.rd.le l34,?_⟩
   have k:=m2.rdD
   rw [show Int.toNat 0=0 from rfl,List.drop_zero,Int.toNat_natCast,List.take_of_length_le (i:=u.d.n) (by omega),show (posD c n+1).toNat=(posD c n).toNat+1 by omega,ok.dueCut h0] at k
   exact k
 ·have h0:¬ 0≤posD c n:=by simpa using hb
  have eg:goneK c n={ c with ct:=withoutC c.ct n }:=by unfold goneK; rw [if_neg h0]
  rw [eg]
  exact ⟨⟨w.f,a,w.u1,w.u2,w.u3,w.u4,w.u5,w.d⟩,rfl,Hp.le_trans nk.le nc.le,nk.rd.f.le nc.le,nc.rd,nk.rd.ag.le nc.le,nk.rd.due.le nc.le⟩

theorem rUntil {H:Hp} {u:Cu} {c:Ck} {t:Int × Int} (r:RdK H u c) (fk:fitK c) (ht:fitR t):Qf Tryz.prog F.pelotonref09_Until #[ckV u c,raW t] H (.int .i64 (untilK c t)):=by
 unfold untilK
 refine pelotonref09_Until_vc ⟨_,refKCheck r fk,_,fun _=>refRCheck ht,fun hc=>?_,fun hc=>?_⟩
 ·have hk:¬ (okK c∧okR t):=fun h=>by rw [chkK_ok h.1,chkR_ok h.2] at hc; simp at hc
  rw [if_neg hk]; exact ⟨rfl,Hp.le_refl _⟩
 ·simp only [Bool.or_eq_false_iff,bne_eq_false_iff_eq] at hc
  have ok:=chkK_zero.1 hc.1
  have ot:=chkR_zero.1 hc.2
  rw [if_pos ⟨ok,ot⟩]
  refine ⟨_,refCompareR ot ok.now,fun hb=>?_,fun hb=>?_⟩
  ·rw [if_pos (by simpa using hb)]; exact ⟨rfl,Hp.le_refl _⟩
  ·rw [if_neg (by simpa using hb)]; exact ⟨rfl,Hp.le_refl _⟩
theorem rWaits {H:Hp} {u:Cu} {c:Ck} {t:Int × Int} (r:RdK H u c) (ok:okK c) (ht:okR t):Qf Tryz.prog F.pelotonref09_Waits #[ckV u c,raW t] H (.bool (waitsK c t)):=by
 have lh:=r.ag.heap.len
 have key:decide ((u.u4.n:Int)>0)=true→0<c.ag.heap.length:=fun h=>by
  have:0<u.u4.n:=by simpa using h
  omega
 refine pelotonref09_Waits_vc ⟨fun h=>r.ag.heap.inS (Int.le_refl _) (by have:=key h; omega),_,_,fun h=>?_,_,fun h=>refCompareR (ok.ag.each _ (hp_mem (key h))).1 ht,?_,Hp.le_refl _⟩
 ·have g:=r.ag.heap.gE (i:=0) (Int.le_refl _) (by have:=key h; omega)
  exact ⟨g.1,g.2.1⟩
 ·rw [lh]
  unfold waitsK
  congr 2
  simp
theorem rFailed {H:Hp} {u:Cu} {c:Ck} (r:RdK H u c) (ok:okK c) (h0:0<c.ag.heap.length) :
  Go.Eng.Fn Tryz.prog F.pelotonref09_Failed #[ckV u c] H fun v H'=>∃ w:Cu,v=.tuple #[ckV w (failedK c),evV (hp c.ag.heap 0),raW (getD3 c.ct.list (atC c.ct (hp c.ag.heap 0).no)).2]∧Hp.le H H'∧RdK H' w (failedK c):=by
 have f2:=ok.fit.ct
 have hx:=ok.topCert h0
 have hlt:=(atC_range hx).1
 refine pelotonref09_Failed_vc ⟨r.ag.heap.inS (Int.le_refl _) (by omega),_,_,_,_,_,r.ag.heap.gE (Int.le_refl _) (by omega),_,rAtC (c:=c.ct) r.cl (by omega),r.cl.inS hx hlt,_,_,r.cl.gD2 hx hlt,?_⟩
 exact (rGone (n:=(hp c.ag.heap 0).no) r ok).mono fun v H10 ⟨w,hv,l10,r10⟩=>⟨_,_,w.f,_,w.cl,w.u1,w.u2,w.u3,w.u4,w.u5,w.d,hv,w,rfl,l10,r10.f,r10.cl,r10.ag,r10.due⟩
theorem rMoved {H:Hp} {u:Cu} {c:Ck} {t:Int × Int} (r:RdK H u c) (fk:fitK c) :
  Go.Eng.Fn Tryz.prog F.pelotonref09_Moved #[ckV u c,raW t] H fun v H'=>∃ w:Cu,v=ckV w { c with now:=t }∧Hp.le H H'∧RdK H' w { c with now:=t } :=
 pelotonref09_Moved_vc ((refKTwin r fk).mono fun v H2 ⟨w,hv,nk⟩=>⟨_,_,w.f,_,w.cl,w.u1,w.u2,w.u3,w.u4,w.u5,w.d,hv,w,rfl,nk.le,nk.rd.f,nk.rd.cl,nk.rd.ag,nk.rd.due⟩)
end Go.Proofs.YtlbdpklikfddlaaGreat
end
