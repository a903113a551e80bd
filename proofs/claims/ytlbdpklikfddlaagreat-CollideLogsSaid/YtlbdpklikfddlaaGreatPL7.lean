/- The engine, parts M6, LN, LO, put together. Conditions: none. -/
import Derived.Test.YtlbdpklikfddlaaGreatPM2
import Derived.Test.YtlbdpklikfddlaaGreatPL4
import Derived.Test.YtlbdpklikfddlaaGreatVgKlist
import Derived.Test.YtlbdpklikfddlaaGreatFs
import Derived.Test.YtlbdpklikfddlaaGreatVgClock
set_option linter.unusedVariables false
section
/- Building a list, by the reference. Conditions: none. -/
set_option maxRecDepth 100000
open Go Go.Eng Go.Proofs
namespace Go.Proofs.YtlbdpklikfddlaaGreat

theorem refLTwinN {H:Hp} {u:Lu} {l:Ls} (r:RdL H u l) (fl:fitL l) :
  Go.Eng.Fn Tryz.prog F.pelotonref25_Twin #[lsV u l] H fun v H'=>∃ w:Lu,v=lsV w l∧Hp.le H H'∧RdL H' w l∧Mine 1 fI 3 H H' w.n l.num∧Sep w.o w.n:=by
 have f1:=fl.o; have f2:=fl.n
 refine pelotonref25_Twin_vc ((refKTwin r.k fl.k).mono fun v H2 ⟨w,hv,nk⟩=>⟨nk.le,_,_,w.f,_,w.cl,w.u1,w.u2,w.u3,w.u4,w.u5,w.d,hv,fun b H15 hb hH=>?_⟩)
 have l2:=nk.le
 refine (copy_ok (k:=1) (f:=fI) (bytes:=8) (e:=3) (by kernel_rfl) (by decide) (fun _=>rfl) (fun x v hv=>by simp [fI] at hv; subst hv; rfl) hb hH (r.o.le l2) (by omega) (by omega)).mono
  fun v H17 ⟨o,hv,l17,m1⟩=>⟨o,hv,fun b19 H20 hb19 hH20=>?_⟩
 refine (copy_ok (k:=1) (f:=fI) (bytes:=8) (e:=3) (by kernel_rfl) (by decide) (fun _=>rfl) (fun x v hv=>by simp [fI] at hv; subst hv; rfl) hb19 hH20 ((r.n.le l2).le l17) (by omega) (by omega)).mono
  fun v H22 ⟨n,hv,l22,m2⟩=>⟨n,hv,⟨w,o,n⟩,rfl,Hp.le_trans l2 (Hp.le_trans l17 l22),⟨nk.rd.le (Hp.le_trans l17 l22),m1.rdI.le l22,m2.rdI⟩,m2.low (Hp.le_trans l2 l17),Sep.of m1.isOld m2.isNew⟩

def madeL (l:Ls) (i:Nat):Ls × Int :=
 if (addK l.ck (pairM l.ord i)).2.2=0 then (⟨(addK l.ck (pairM l.ord i)).1,l.ord,l.num.set i (addK l.ck (pairM l.ord i)).2.1⟩,0) else (.zero,(addK l.ck (pairM l.ord i)).2.2)
def zlu:Lu:=⟨zu,zs,zs⟩
theorem RdL.zero {H:Hp}:RdL H zlu .zero:=⟨RdK.zero,(Rd.nil:Rd 1 fI H ⟨none,0,0⟩ []),(Rd.nil:Rd 1 fI H ⟨none,0,0⟩ [])⟩

theorem refMadeL {H:Hp} {u:Lu} {l:Ls} {i:Int} (r:RdL H u l) (fl:fitL l) (ok:okK l.ck) (ps:∀ x∈l.ord,0≤posF l.ck.f x) (h0:0≤i) (h1:i+1<l.ord.length) (h2:i<l.num.length) :
  Go.Eng.Fn Tryz.prog F.pelotonref25_Made #[lsV u l,.int .i64 i] H fun v H'=>∃ w:Lu,v=.tuple #[lsV w (madeL l i.toNat).1,.int .i64 (madeL l i.toNat).2]∧Hp.le H H'∧RdL H' w (madeL l i.toNat).1:=by
 have f1:=fl.o
 have p1:0≤posF l.ck.f (pairM l.ord i.toNat).1:=ps _ (by
  have:=getI (xs:=l.ord) (i:=i+1) (by omega) h1
  rw [show (i+1).toNat=i.toNat+1 by omega] at this
  exact List.mem_of_getElem? this)
 have p2:0≤posF l.ck.f (pairM l.ord i.toNat).2:=ps _ (List.mem_of_getElem? (getI (xs:=l.ord) h0 (by omega)))
 refine pelotonref25_Made_vc ⟨_,_,refPair (u:=u) (l:=l) r.o h0 h1 f1,(rAdded r.k ok p1 p2).mono fun v H4 ⟨w,hv,l4,r4⟩=>⟨l4,_,_,w.f,_,w.cl,w.u1,w.u2,w.u3,w.u4,w.u5,w.d,_,_,hv,fun he=>?_,fun he=>?_⟩⟩
 ·have he:(addK l.ck (pairM l.ord i.toNat)).2.2≠0:=by simpa using he
  unfold madeL; rw [if_neg he]
  exact ⟨zlu,rfl,l4,RdL.zero⟩
 have he:(addK l.ck (pairM l.ord i.toNat)).2.2=0:=by simpa using he
 unfold madeL; rw [if_pos he]
 refine (refLTwinN (r.le l4) fl).mono fun v H19 ⟨z,hv,l19,r19,m,sp⟩=>⟨_,_,z.k.f,_,z.k.cl,z.k.u1,z.k.u2,z.k.u3,z.k.u4,z.k.u5,z.k.d,z.o,z.n,hv,m.rdI.inS h0 h2,?_⟩
 refine m.setI h0 h2 _ fun H33 m' ck=>?_
 have l33:Hp.le H4 H33:=Hp.le_chg l19 ck m.isNew
 exact ⟨⟨w,z.o,z.n⟩,rfl,Hp.le_trans l4 l33,⟨r4.le l33,r19.o.chg ck sp,m'.rdI⟩⟩


structure NewW (H:Hp) (w:Cu):Prop where
 f:New H w.f
 cl:New H w.cl
 u1:New H w.u1
 u2:New H w.u2
 u3:New H w.u3
 u4:New H w.u4
 u5:New H w.u5
 d:New H w.d
theorem New.none {H:Hp}:New H zs:=fun p hp=>by cases hp
theorem NewW.zero {H:Hp}:NewW H zu:=⟨New.none,New.none,New.none,New.none,New.none,New.none,New.none,New.none⟩
theorem clockTwinN {H:Hp} {u:Cu} {c:Ck} (r:RdK H u c) (fk:fitK c) :
  Go.Eng.Fn Tryz.prog F.clock_twin #[ckV u c] H fun v H'=>∃ w:Cu,v=ckV w c∧Hp.le H H'∧RdK H' w c∧Mine 3 fD T.api_Due H H' w.d c.due∧Sep w.f w.d∧NewW H w:=by
 have f1:=fk.f; have f2:=fk.ct; have f3:=fk.due; have f4:=fk.ag.hl; have f5:=fk.ag.wl; have f6:=fk.ag.tb
 refine clock_twin_vc fun b1 H2 hb1 hH2=>?_
 have le2:Hp.le H H2:=Hp.le_new (Hp.le_refl _) hb1 hH2
 have c2:Cel H2 b1 (ckC c u.f u.cl u.u1 u.u2 u.u3 u.u4 u.u5 u.d) T.api_Clock:=by rw [hH2]; exact Cel.put
 have r2:=r.le le2
 refine ⟨u.f,Cel.at c2 2,u.cl,Cel.at c2 4,u.d,Cel.at c2 10,(clone_pt r2.f (by omega)).mono fun v H7 ⟨w1,hv,l7,m1⟩=>⟨l7,w1,hv,?_⟩⟩
 have k1:=Mine.kp m1 c2 fun _=>rfl
 have c7:=c2.le l7
 refine (clone_held (r2.le l7).cl (by omega)).mono fun v H10 ⟨w2,hv,l10,m2⟩=>⟨l10,w2,hv,?_⟩
 have k2:=Mine.kp m2 c7 fun _=>rfl
 have c10:=c7.le l10
 refine (clone_due ((r2.le l7).le l10).due (by omega)).mono fun v H13 ⟨w3,hv,l13,m3⟩=>⟨l13,w3,hv,?_⟩
 have k3:=Mine.kp m3 c10 fun _=>rfl
 have c13:=c10.le l13
 have le13:Hp.le H H13:=Hp.le_trans le2 (Hp.le_trans l7 (Hp.le_trans l10 l13))
 refine boxSet (i:=2) (cs':=ckC c w1 u.cl u.u1 u.u2 u.u3 u.u4 u.u5 u.d) c13 (show 2<11 by decide) rfl fun H15 c15 o15=>boxSet (i:=4) (cs':=ckC c w1 w2 u.u1 u.u2 u.u3 u.u4 u.u5 u.d) c15 (show 4<11 by decide) rfl fun H16 c16 o16=>boxSet (i:=10) (cs':=ckC c w1 w2 u.u1 u.u2 u.u3 u.u4 u.u5 w3) c16 (show 10<11 by decide) rfl fun H17 c17 o17=>?_
 have k1:=((((k1.le l10).le l13).off o15).off o16).off o17
 have k2:=(((k2.le l13).off o15).off o16).off o17
 have k3:=((k3.off o15).off o16).off o17
 have le17:Hp.le H H17:=o17.le hb1 (o16.le hb1 (o15.le hb1 le13))
 have r17:=r.le le17
 refine ⟨u.u4,Cel.at c17 8,u.u5,Cel.at c17 9,(clone_event r17.ag.heap (by omega)).mono fun v H21 ⟨w4,hv,l21,m4⟩=>⟨l21,w4,hv,?_⟩⟩
 have k4:=Mine.kp m4 c17 fun _=>rfl
 have c21:=c17.le l21
 refine (clone_int (r17.le l21).ag.wh (by omega)).mono fun v H24 ⟨w5,hv,l24,m5⟩=>⟨l24,w5,hv,?_⟩
 have k5:=Mine.kp m5 c21 fun _=>rfl
 have c24:=c21.le l24
 have le24:Hp.le H H24:=Hp.le_trans le17 (Hp.le_trans l21 l24)
 refine boxSet (i:=8) (cs':=ckC c w1 w2 u.u1 u.u2 u.u3 w4 u.u5 w3) c24 (show 8<11 by decide) rfl fun H26 c26 o26=>boxSet (i:=9) (cs':=ckC c w1 w2 u.u1 u.u2 u.u3 w4 w5 w3) c26 (show 9<11 by decide) rfl fun H27 c27 o27=>?_
 have k1:=(((k1.le l21).le l24).off o26).off o27
 have k2:=(((k2.le l21).le l24).off o26).off o27
 have k3:=(((k3.le l21).le l24).off o26).off o27
 have k4:=((k4.le l24).off o26).off o27
 have k5:=(k5.off o26).off o27
 have le27:Hp.le H H27:=o27.le hb1 (o26.le hb1 le24)
 have r27:=r.le le27
 obtain ⟨g1,g2,g3⟩:=f6
 refine ⟨u.u1,Cel.at c27 5,u.u2,Cel.at c27 6,u.u3,Cel.at c27 7,(clone_int r27.ag.tb.uses (by omega)).mono fun v H32 ⟨w6,hv,l32,m6⟩=>⟨l32,w6,hv,?_⟩⟩
 have k6:=Mine.kp m6 c27 fun _=>rfl
 have c32:=c27.le l32
 refine (clone_bool (r27.le l32).ag.tb.used (by omega)).mono fun v H35 ⟨w7,hv,l35,m7⟩=>⟨l35,w7,hv,?_⟩
 have k7:=Mine.kp m7 c32 fun _=>rfl
 have c35:=c32.le l35
 refine (clone_int ((r27.le l32).le l35).ag.tb.free (by omega)).mono fun v H38 ⟨w8,hv,l38,m8⟩=>⟨l38,w8,hv,?_⟩
 have k8:=Mine.kp m8 c35 fun _=>rfl
 have c38:=c35.le l38
 have le38:Hp.le H H38:=Hp.le_trans le27 (Hp.le_trans l32 (Hp.le_trans l35 l38))
 refine boxSet (i:=5) (cs':=ckC c w1 w2 w6 u.u2 u.u3 w4 w5 w3) c38 (show 5<11 by decide) rfl fun H40 c40 o40=>boxSet (i:=6) (cs':=ckC c w1 w2 w6 w7 u.u3 w4 w5 w3) c40 (show 6<11 by decide) rfl fun H41 c41 o41=>boxSet (i:=7) (cs':=ckC c w1 w2 w6 w7 w8 w4 w5 w3) c41 (show 7<11 by decide) rfl fun H42 c42 o42=>?_
 have le42:Hp.le H H42:=o42.le hb1 (o41.le hb1 (o40.le hb1 le38))
 have at42:=fun i=>Cel.at c42 i
 have sp:=k3.sep
 have s13:Sep w1 w3:=Sep.of (m1.isOld.le l10) m3.isNew
 have m17:=Mine.off (Mine.off (Mine.off (m3.low (Hp.le_trans le2 (Hp.le_trans l7 l10))) o15 sp) o16 sp) o17 sp
 have m27:=Mine.off (Mine.off ((m17.le l21).le l24) o26 sp) o27 sp
 have m42:=Mine.off (Mine.off (Mine.off (((m27.le l32).le l35).le l38) o40 sp) o41 sp) o42 sp
 refine ⟨_,_,w1,_,w2,w6,w7,w8,w4,w5,w3,⟨at42 0,at42 1,at42 2,at42 3,at42 4,at42 5,at42 6,at42 7,at42 8,at42 9,at42 10⟩,⟨w1,w2,w6,w7,w8,w4,w5,w3⟩,rfl,le42,?_,m42,s13,?_⟩
 ·have k1:=((((((k1.le l32).le l35).le l38).off o40).off o41).off o42)
  have k2:=((((((k2.le l32).le l35).le l38).off o40).off o41).off o42)
  have k3:=((((((k3.le l32).le l35).le l38).off o40).off o41).off o42)
  have k4:=((((((k4.le l32).le l35).le l38).off o40).off o41).off o42)
  have k5:=((((((k5.le l32).le l35).le l38).off o40).off o41).off o42)
  have k6:=(((((k6.le l35).le l38).off o40).off o41).off o42)
  have k7:=((((k7.le l38).off o40).off o41).off o42)
  have k8:=(((k8.off o40).off o41).off o42)
  exact ⟨k1.rd,k2.rd,⟨⟨k6.rd,k7.rd,k8.rd⟩,k4.rd,k5.rd⟩,k3.rd⟩
 ·have le24':=le24; have le38':=le38
  exact ⟨(m1.isNew).low le2,(m2.isNew).low (Hp.le_trans le2 l7),(m6.isNew).low le27,(m7.isNew).low (Hp.le_trans le27 l32),(m8.isNew).low (Hp.le_trans le27 (Hp.le_trans l32 l35)),(m4.isNew).low le17,(m5.isNew).low (Hp.le_trans le17 l21),(m3.isNew).low (Hp.le_trans le2 (Hp.le_trans l7 l10))⟩
theorem clockCertifyN {H:Hp} {u:Cu} {c:Ck} {x:Int × Int} (r:RdK H u c) (fk:fitK c) :
  Go.Eng.Fn Tryz.prog F.clock_Certify #[ckV u c,raW x] H fun v H'=>∃ w:Cu,v=.tuple #[ckV w (certifyK c x).1,.int .i64 (certifyK c x).2.1,.int .i64 (certifyK c x).2.2]∧Hp.le H H'∧RdK H' w (certifyK c x).1∧NewW H w:=by
 have bad:∀ (e:Int) (H1:Hp),certifyK c x=(.zero,0,e)→Hp.le H H1→FnV Tryz.prog (.func (.func F.clock_Certify_1) #[] #[]) [.int .i64 e] H1 fun v2 H3 =>
   ∃ n4 n5:Int,∃ u6:Slc,∃ n7:Int,∃ u8 u9 u10 u11 u12 u13 u14:Slc,∃ n15 n16:Int,v2=.tuple #[vCk n4 n5 u6 n7 u8 u9 u10 u11 u12 u13 u14,.int .i64 n15,.int .i64 n16] ∧
    ∃ w:Cu,(.tuple #[vCk n4 n5 u6 n7 u8 u9 u10 u11 u12 u13 u14,.int .i64 n15,.int .i64 n16]:Value)=.tuple #[ckV w (certifyK c x).1,.int .i64 (certifyK c x).2.1,.int .i64 (certifyK c x).2.2]∧Hp.le H H3∧RdK H3 w (certifyK c x).1∧NewW H w:=by
  intro e H1 he hl
  rw [he]
  exact certify1 ⟨_,_,_,_,_,_,_,_,_,_,_,_,_,rfl,zu,rfl,hl,RdK.zero,NewW.zero⟩
 refine clock_Certify_vc ⟨_,clockCheck r fk,fun hc=>?_,fun hc=>?_⟩
 ·have hc:chkK c≠0:=by simpa using hc
  have hk:¬ okK c:=fun ok=>hc (chkK_ok ok)
  rw [chkK_bad hk]
  exact bad 8 H (by unfold certifyK; rw [if_neg fun h=>hk h.1]) (Hp.le_refl _)
 have ok:okK c:=chkK_zero.1 (by simpa using hc)
 obtain ⟨ae1,ae2⟩:=addC_err (x:=x) ok.ct
 refine (certAdd (c:=c.ct) (x:=x) r.cl).mono fun v H18 ⟨a,hv,nc⟩=>⟨_,a,_,_,hv,fun h8=>?_,fun h8=>?_⟩
 ·have h8:(addC c.ct x).2.2=8:=by simpa using h8
  have hv:=ae1.1 h8
  rw [h8]
  exact bad 8 H18 (by unfold certifyK; rw [if_neg fun h=>by rw [hv] at h; cases h.2]) nc.le
 have h8:validC x=true:=by
  cases hv:validC x with
  | true=>rfl
  | false=>rw [ae1.2 hv] at h8; simp at h8
 have r18:=r.le nc.le
 refine ⟨_,_,_,clockPoint r18.f ok.f,_,_,_,fun _=>clockPoint r18.f ok.f,fun hb=>?_,fun hb=>?_⟩
 ·rw [pointM_neg ok.f,pointM_neg ok.f] at hb
  have hb:posF c.f x.1<0∨posF c.f x.2<0:=by simpa using hb
  exact bad 6 H18 (by unfold certifyK; rw [if_pos ⟨ok,h8⟩,if_pos hb]) nc.le
 rw [pointM_neg ok.f,pointM_neg ok.f] at hb
 have hb:¬ (posF c.f x.1<0∨posF c.f x.2<0):=by simpa using hb
 have ek:certifyK c x=addK c x:=by unfold certifyK; rw [if_pos ⟨ok,h8⟩,if_neg hb]
 refine ⟨fun he=>?_,fun he=>?_⟩
 ·have he:(addC c.ct x).2.2≠0:=by simpa using he
  exact bad _ H18 (by rw [ek]; unfold addK; rw [if_neg he]) nc.le
 have he:(addC c.ct x).2.2=0:=by simpa using he
 obtain ⟨a1,a2,a3,a4,a5,a6⟩:=addC_facts he
 have hne:x.1≠x.2:=by
  unfold validC at h8
  simp only [Bool.and_eq_true,bne_iff_ne] at h8
  exact h8.2
 refine (clockTwinN r18 fk).mono fun v H75 ⟨w,hv,l75,rw75,m75,s75,nw⟩=>⟨_,_,w.f,_,w.cl,w.u1,w.u2,w.u3,w.u4,w.u5,w.d,hv,_,_,_,_,clockWhen (x:=x) (r18.le l75).f ok.f fk.now,fun h=>?_,fun _=>?_⟩
 ·rw [whenP_known ok.f ok.now (by omega) (by omega) hne] at h
  simp at h
 rw [whenP_known ok.f ok.now (by omega) (by omega) hne]
 cases hw:whenM c.f x c.now with
 | none =>
  refine ⟨fun h=>by simp at h,fun _=>?_⟩
  have e:addK c x=({ c with ct:=(addC c.ct x).1 },(addC c.ct x).2.1,0):=by unfold addK; rw [if_pos he,hw]
  rw [ek,e]
  exact ⟨⟨w.f,a,w.u1,w.u2,w.u3,w.u4,w.u5,w.d⟩,rfl,Hp.le_trans nc.le l75,⟨rw75.f,nc.rd.le l75,rw75.ag,rw75.due⟩,nw.f.low nc.le,nc.list.isNew,nw.u1.low nc.le,nw.u2.low nc.le,nw.u3.low nc.le,nw.u4.low nc.le,nw.u5.low nc.le,nw.d.low nc.le⟩
 | some t =>
  refine ⟨fun _=>?_,fun h=>by simp at h⟩
  have ht:okR t:=fail_okR (ok.f.pt (by omega)) (ok.f.pt (by omega)) ok.now hw
  have hpush:=ok.push ht
  have hnum:(addC c.ct x).2.1=c.ct.next:=by rw [a6]
  refine (agendaPush (t:=t) (n:=(addC c.ct x).2.1) (r18.le l75).ag fk.ag ht.fit).mono fun v H107 ⟨v1,v2,v3,v4,v5,hv,na⟩=>⟨v1,v2,v3,v4,v5,_,_,_,hv,fun h=>?_,fun h=>?_⟩
  ·rw [hnum,hpush] at h
   by_cases hct:c.ag.tb.canTake=true
   ·rw [if_pos hct] at h; simp at h
   ·rw [hnum,hpush,if_neg hct]
    exact bad 18 H107 (by rw [ek]; unfold addK; rw [if_pos he,hw]; simp only; rw [if_neg hct]) (Hp.le_trans nc.le (Hp.le_trans l75 na.le))
  ·rw [hnum,hpush] at h
   by_cases hct:c.ag.tb.canTake=true
   ·intro b H132 hb131 hH
    rw [hnum,hpush,if_pos hct] at na hH
    have le107:Hp.le H18 H107:=Hp.le_trans l75 na.le
    refine (append1 (k:=3) (f:=fD) (bytes:=24) (x:=(c.ct.next,nextH c.ag)) (e:=T.api_Due) (by kernel_rfl) (by decide) (fun _=>rfl) fD_one le107 (m75.le na.le) hb131 hH rfl (by have:=fk.due; omega) (by omega)).mono fun v H134 ⟨d,hv,l134,md,cd,_⟩=>⟨d,hv,?_⟩
    have e:addK c x=({ c with ct:=(addC c.ct x).1,ag:=pushedA c.ag t (addC c.ct x).2.1,due:=c.due++[((addC c.ct x).2.1,nextH c.ag)] },(addC c.ct x).2.1,0):=by unfold addK; rw [if_pos he,hw]; simp only; rw [if_pos hct]
    rw [ek,e]
    refine ⟨⟨w.f,a,v1,v2,v3,v4,v5,d⟩,rfl,Hp.le_trans nc.le l134,⟨(rw75.f.le na.le).chg cd s75,((nc.rd.le l75).le na.le).chg cd (Sep.of nc.list.isOld m75.isNew),?_,?_⟩,nw.f.low nc.le,nc.list.isNew,na.tb.uses.isNew.low (Hp.le_trans nc.le l75),na.tb.used.isNew.low (Hp.le_trans nc.le l75),na.tb.free.isNew.low (Hp.le_trans nc.le l75),na.heap.isNew.low (Hp.le_trans nc.le l75),na.wh.isNew.low (Hp.le_trans nc.le l75),md.isNew.low nc.le⟩
    ·rw [hnum]; exact RdA.chgN na cd m75.isOld
    ·rw [hnum]; exact md.rdD
   ·rw [if_neg hct] at h; simp at h

abbrev lsC (u:Lu) (l:Ls):Array Value:=#[.int .i64 l.ck.now.1,.int .i64 l.ck.now.2,u.k.f.v,.int .i64 l.ck.ct.next,u.k.cl.v,u.k.u1.v,u.k.u2.v,u.k.u3.v,u.k.u4.v,u.k.u5.v,u.k.d.v,u.o.v,u.n.v]
end Go.Proofs.YtlbdpklikfddlaaGreat
end
