/- The engine, parts M6, LN, LO, put together. Conditions: none. -/
import Derived.Test.YtlbdpklikfddlaaGreatPM2
import Derived.Test.YtlbdpklikfddlaaGreatPL4
import Derived.Test.YtlbdpklikfddlaaGreatVgKlist
import Derived.Test.YtlbdpklikfddlaaGreatFs
import Derived.Test.YtlbdpklikfddlaaGreatVgClock
set_option linter.unusedVariables false
section
/- Building a list, by the reference. Conditions: none. -/
set_option maxRecDepth 100000
open Go Go.Eng Go.Proofs
namespace Go.Proofs.YtlbdpklikfddlaaGreat

def madeL (l:Ls) (i:Nat):Ls × Int :=
 if (addK l.ck (pairM l.ord i)).2.2=0 then (⟨(addK l.ck (pairM l.ord i)).1,l.ord,l.num.set i (addK l.ck (pairM l.ord i)).2.1⟩,0) else (.zero,(addK l.ck (pairM l.ord i)).2.2)
def zlu:Lu:=⟨zu,zs,zs⟩
theorem RdL.zero {H:Hp}:RdL H zlu .zero:=⟨RdK.zero,(Rd.nil:Rd 1 fI H ⟨none,0,0⟩ []),(Rd.nil:Rd 1 fI H ⟨none,0,0⟩ [])⟩

def buildN (f:List Pt) (t:Int × Int):Nat→Ls × Int
 | 0=>(⟨(newK f t).1,ordM f t,List.replicate (f.length-1) 0⟩,0)
 | n+1=>if (buildN f t n).2=0 then madeL (buildN f t n).1 n else buildN f t n
def buildL (f:List Pt) (t:Int × Int):Ls × Int:=if timedF f t=0 then buildN f t (f.length-1) else (.zero,timedF f t)
theorem buildN_err {f:List Pt} {t:Int × Int} {n:Nat} (h:(buildN f t n).2≠0):∀ m,n≤m→buildN f t m=buildN f t n
 | 0,hm=>by rw [show n=0 by omega]
 | m+1,hm=>by
  by_cases e:n=m+1
  ·rw [e]
  ·have ih:=buildN_err h m (by omega)
   show (if (buildN f t m).2=0 then madeL (buildN f t m).1 m else buildN f t m)=_
   rw [ih,if_neg h]
structure BInv (f:List Pt) (t:Int × Int) (l:Ls):Prop where
 ok:okK l.ck
 fe:l.ck.f=f
 ord:l.ord=ordM f t
 num:l.num.length=f.length-1
theorem BInv.fit {f:List Pt} {t:Int × Int} {l:Ls} (b:BInv f t l) (of:okF f):fitL l:=by
 have:=of.small
 exact ⟨b.ok.fit,by rw [b.ord,ordM_len]; exact this,by rw [b.num]; omega⟩
theorem BInv.pos {f:List Pt} {t:Int × Int} {l:Ls} (b:BInv f t l) (of:okF f):∀ x∈l.ord,0≤posF l.ck.f x:=fun x hx=>by
 rw [b.fe]; rw [b.ord] at hx; exact ord_pos of hx
theorem BInv.made {f:List Pt} {t:Int × Int} {l:Ls} (b:BInv f t l) (of:okF f) {i:Nat} (h:i<l.num.length) (hz:(madeL l i).2=0):BInv f t (madeL l i).1:=by
 have ho:l.ord.length=f.length:=by rw [b.ord,ordM_len]
 have hn:=b.num
 unfold madeL at hz ⊢
 split at hz
 ·rename_i he
  rw [if_pos he]
  have p1:0≤posF l.ck.f (pairM l.ord i).1:=b.pos of _ (List.mem_of_getElem? (getI (xs:=l.ord) (i:=(i:Int)+1) (by omega) (by omega)))
  have p2:0≤posF l.ck.f (pairM l.ord i).2:=b.pos of _ (List.mem_of_getElem? (getI (xs:=l.ord) (i:=(i:Int)) (by omega) (by omega)))
  obtain ⟨o1,_,_,o4,_⟩:=b.ok.add p1 p2 he
  exact ⟨o1,by rw [o4]; exact b.fe,b.ord,by rw [List.length_set]; exact hn⟩
 ·rename_i he; exact absurd hz he
theorem BInv.start {f:List Pt} {t:Int × Int} (h:timedF f t=0):BInv f t (buildN f t 0).1:=by
 have e:newK f t=(⟨t,f,.zero,beginA 200,[]⟩,0):=by unfold newK; rw [if_pos h]
 obtain ⟨of,ot⟩:=timedF_zero.1 h
 refine ⟨?_,?_,rfl,by show (List.replicate _ _).length=_; rw [List.length_replicate]⟩
 ·show okK (newK f t).1
  rw [e]
  exact ⟨ot,of,(show okC Ct.zero by decide),rfl,okA.begin (by omega) (by omega),rfl,rfl,rfl⟩
 ·show (newK f t).1.f=f
  rw [e]


structure NewW (H:Hp) (w:Cu):Prop where
 f:New H w.f
 cl:New H w.cl
 u1:New H w.u1
 u2:New H w.u2
 u3:New H w.u3
 u4:New H w.u4
 u5:New H w.u5
 d:New H w.d
theorem New.none {H:Hp}:New H zs:=fun p hp=>by cases hp
theorem NewW.zero {H:Hp}:NewW H zu:=⟨New.none,New.none,New.none,New.none,New.none,New.none,New.none,New.none⟩
theorem clockTwinN {H:Hp} {u:Cu} {c:Ck} (r:RdK H u c) (fk:fitK c) :
  Go.Eng.Fn Tryz.prog F.clock_twin #[ckV u c] H fun v H'=>∃ w:Cu,v=ckV w c∧Hp.le H H'∧RdK H' w c∧Mine 3 fD T.api_Due H H' w.d c.due∧Sep w.f w.d∧NewW H w:=by
 have f1:=fk.f; have f2:=fk.ct; have f3:=fk.due; have f4:=fk.ag.hl; have f5:=fk.ag.wl; have f6:=fk.ag.tb
 refine clock_twin_vc fun b1 H2 hb1 hH2=>?_
 have le2:Hp.le H H2:=Hp.le_new (Hp.le_refl _) hb1 hH2
 have c2:Cel H2 b1 (ckC c u.f u.cl u.u1 u.u2 u.u3 u.u4 u.u5 u.d) T.api_Clock:=by rw [hH2]; exact Cel.put
 have r2:=r.le le2
 refine ⟨u.f,Cel.at c2 2,u.cl,Cel.at c2 4,u.d,Cel.at c2 10,(clone_pt r2.f (by omega)).mono fun v H7 ⟨w1,hv,l7,m1⟩=>⟨l7,w1,hv,?_⟩⟩
 have k1:=Mine.kp m1 c2 fun _=>rfl
 have c7:=c2.le l7
 refine (clone_held (r2.le l7).cl (by omega)).mono fun v H10 ⟨w2,hv,l10,m2⟩=>⟨l10,w2,hv,?_⟩
 have k2:=Mine.kp m2 c7 fun _=>rfl
 have c10:=c7.le l10
 refine (clone_due ((r2.le l7).le l10).due (by omega)).mono fun v H13 ⟨w3,hv,l13,m3⟩=>⟨l13,w3,hv,?_⟩
 have k3:=Mine.kp m3 c10 fun _=>rfl
 have c13:=c10.le l13
 have le13:Hp.le H H13:=Hp.le_trans le2 (Hp.le_trans l7 (Hp.le_trans l10 l13))
 refine boxSet (i:=2) (cs':=ckC c w1 u.cl u.u1 u.u2 u.u3 u.u4 u.u5 u.d) c13 (show 2<11 by decide) rfl fun H15 c15 o15=>boxSet (i:=4) (cs':=ckC c w1 w2 u.u1 u.u2 u.u3 u.u4 u.u5 u.d) c15 (show 4<11 by decide) rfl fun H16 c16 o16=>boxSet (i:=10) (cs':=ckC c w1 w2 u.u1 u.u2 u.u3 u.u4 u.u5 w3) c16 (show 10<11 by decide) rfl fun H17 c17 o17=>?_
 have k1:=((((k1.le l10).le l13).off o15).off o16).off o17
 have k2:=(((k2.le l13).off o15).off o16).off o17
 have k3:=((k3.off o15).off o16).off o17
 have le17:Hp.le H H17:=o17.le hb1 (o16.le hb1 (o15.le hb1 le13))
 have r17:=r.le le17
 refine ⟨u.u4,Cel.at c17 8,u.u5,Cel.at c17 9,(clone_event r17.ag.heap (by omega)).mono fun v H21 ⟨w4,hv,l21,m4⟩=>⟨l21,w4,hv,?_⟩⟩
 have k4:=Mine.kp m4 c17 fun _=>rfl
 have c21:=c17.le l21
 refine (clone_int (r17.le l21).ag.wh (by omega)).mono fun v H24 ⟨w5,hv,l24,m5⟩=>⟨l24,w5,hv,?_⟩
 have k5:=Mine.kp m5 c21 fun _=>rfl
 have c24:=c21.le l24
 have le24:Hp.le H H24:=Hp.le_trans le17 (Hp.le_trans l21 l24)
 refine boxSet (i:=8) (cs':=ckC c w1 w2 u.u1 u.u2 u.u3 w4 u.u5 w3) c24 (show 8<11 by decide) rfl fun H26 c26 o26=>boxSet (i:=9) (cs':=ckC c w1 w2 u.u1 u.u2 u.u3 w4 w5 w3) c26 (show 9<11 by decide) rfl fun H27 c27 o27=>?_
 have k1:=(((k1.le l21).le l24).off o26).off o27
 have k2:=(((k2.le l21).le l24).off o26).off o27
 have k3:=(((k3.le l21).le l24).off o26).off o27
 have k4:=((k4.le l24).off o26).off o27
 have k5:=(k5.off o26).off o27
 have le27:Hp.le H H27:=o27.le hb1 (o26.le hb1 le24)
 have r27:=r.le le27
 obtain ⟨g1,g2,g3⟩:=f6
 refine ⟨u.u1,Cel.at c27 5,u.u2,Cel.at c27 6,u.u3,Cel.at c27 7,(clone_int r27.ag.tb.uses (by omega)).mono fun v H32 ⟨w6,hv,l32,m6⟩=>⟨l32,w6,hv,?_⟩⟩
 have k6:=Mine.kp m6 c27 fun _=>rfl
 have c32:=c27.le l32
 refine (clone_bool (r27.le l32).ag.tb.used (by omega)).mono fun v H35 ⟨w7,hv,l35,m7⟩=>⟨l35,w7,hv,?_⟩
 have k7:=Mine.kp m7 c32 fun _=>rfl
 have c35:=c32.le l35
 refine (clone_int ((r27.le l32).le l35).ag.tb.free (by omega)).mono fun v H38 ⟨w8,hv,l38,m8⟩=>⟨l38,w8,hv,?_⟩
 have k8:=Mine.kp m8 c35 fun _=>rfl
 have c38:=c35.le l38
 have le38:Hp.le H H38:=Hp.le_trans le27 (Hp.le_trans l32 (Hp.le_trans l35 l38))
 refine boxSet (i:=5) (cs':=ckC c w1 w2 w6 u.u2 u.u3 w4 w5 w3) c38 (show 5<11 by decide) rfl fun H40 c40 o40=>boxSet (i:=6) (cs':=ckC c w1 w2 w6 w7 u.u3 w4 w5 w3) c40 (show 6<11 by decide) rfl fun H41 c41 o41=>boxSet (i:=7) (cs':=ckC c w1 w2 w6 w7 w8 w4 w5 w3) c41 (show 7<11 by decide) rfl fun H42 c42 o42=>?_
 have le42:Hp.le H H42:=o42.le hb1 (o41.le hb1 (o40.le hb1 le38))
 have at42:=fun i=>Cel.at c42 i
 have sp:=k3.sep
 have s13:Sep w1 w3:=Sep.of (m1.isOld.le l10) m3.isNew
 have m17:=Mine.off (Mine.off (Mine.off (m3.low (Hp.le_trans le2 (Hp.le_trans l7 l10))) o15 sp) o16 sp) o17 sp
 have m27:=Mine.off (Mine.off ((m17.le l21).le l24) o26 sp) o27 sp
 have m42:=Mine.off (Mine.off (Mine.off (((m27.le l32).le l35).le l38) o40 sp) o41 sp) o42 sp
 refine ⟨_,_,w1,_,w2,w6,w7,w8,w4,w5,w3,⟨at42 0,at42 1,at42 2,at42 3,at42 4,at42 5,at42 6,at42 7,at42 8,at42 9,at42 10⟩,⟨w1,w2,w6,w7,w8,w4,w5,w3⟩,rfl,le42,?_,m42,s13,?_⟩
 ·have k1:=((((((k1.le l32).le l35).le l38).off o40).off o41).off o42)
  have k2:=((((((k2.le l32).le l35).le l38).off o40).off o41).off o42)
  have k3:=((((((k3.le l32).le l35).le l38).off o40).off o41).off o42)
  have k4:=((((((k4.le l32).le l35).le l38).off o40).off o41).off o42)
  have k5:=((((((k5.le l32).le l35).le l38).off o40).off o41).off o42)
  have k6:=(((((k6.le l35).le l38).off o40).off o41).off o42)
  have k7:=((((k7.le l38).off o40).off o41).off o42)
  have k8:=(((k8.off o40).off o41).off o42)
  exact ⟨k1.rd,k2.rd,⟨⟨k6.rd,k7.rd,k8.rd⟩,k4.rd,k5.rd⟩,k3.rd⟩
 ·have le24':=le24; have le38':=le38
  exact ⟨(m1.isNew).low le2,(m2.isNew).low (Hp.le_trans le2 l7),(m6.isNew).low le27,(m7.isNew).low (Hp.le_trans le27 l32),(m8.isNew).low (Hp.le_trans le27 (Hp.le_trans l32 l35)),(m4.isNew).low le17,(m5.isNew).low (Hp.le_trans le17 l21),(m3.isNew).low (Hp.le_trans le2 (Hp.le_trans l7 l10))⟩
theorem clockCertifyN {H:Hp} {u:Cu} {c:Ck} {x:Int × Int} (r:RdK H u c) (fk:fitK c) :
  Go.Eng.Fn Tryz.prog F.clock_Certify #[ckV u c,raW x] H fun v H'=>∃ w:Cu,v=.tuple #[ckV w (certifyK c x).1,.int .i64 (certifyK c x).2.1,.int .i64 (certifyK c x).2.2]∧Hp.le H H'∧RdK H' w (certifyK c x).1∧NewW H w:=by
 have bad:∀ (e:Int) (H1:Hp),certifyK c x=(.zero,0,e)→Hp.le H H1→FnV Tryz.prog (.func (.func F.clock_Certify_1) #[] #[]) [.int .i64 e] H1 fun v2 H3 =>
   ∃ n4 n5:Int,∃ u6:Slc,∃ n7:Int,∃ u8 u9 u10 u11 u12 u13 u14:Slc,∃ n15 n16:Int,v2=.tuple #[vCk n4 n5 u6 n7 u8 u9 u10 u11 u12 u13 u14,.int .i64 n15,.int .i64 n16] ∧
    ∃ w:Cu,(.tuple #[vCk n4 n5 u6 n7 u8 u9 u10 u11 u12 u13 u14,.int .i64 n15,.int .i64 n16]:Value)=.tuple #[ckV w (certifyK c x).1,.int .i64 (certifyK c x).2.1,.int .i64 (certifyK c x).2.2]∧Hp.le H H3∧RdK H3 w (certifyK c x).1∧NewW H w:=by
  intro e H1 he hl
  rw [he]
  exact certify1 ⟨_,_,_,_,_,_,_,_,_,_,_,_,_,rfl,zu,rfl,hl,RdK.zero,NewW.zero⟩
 refine clock_Certify_vc ⟨_,clockCheck r fk,fun hc=>?_,fun hc=>?_⟩
 ·have hc:chkK c≠0:=by simpa using hc
  have hk:¬ okK c:=fun ok=>hc (chkK_ok ok)
  rw [chkK_bad hk]
  exact bad 8 H (by unfold certifyK; rw [if_neg fun h=>hk h.1]) (Hp.le_refl _)
 have ok:okK c:=chkK_zero.1 (by simpa using hc)
 obtain ⟨ae1,ae2⟩:=addC_err (x:=x) ok.ct
 refine (certAdd (c:=c.ct) (x:=x) r.cl).mono fun v H18 ⟨a,hv,nc⟩=>⟨_,a,_,_,hv,fun h8=>?_,fun h8=>?_⟩
 ·have h8:(addC c.ct x).2.2=8:=by simpa using h8
  have hv:=ae1.1 h8
  rw [h8]
  exact bad 8 H18 (by unfold certifyK; rw [if_neg fun h=>by rw [hv] at h; cases h.2]) nc.le
 have h8:validC x=true:=by
  cases hv:validC x with
  | true=>rfl
  | false=>rw [ae1.2 hv] at h8; simp at h8
 have r18:=r.le nc.le
 refine ⟨_,_,_,clockPoint r18.f ok.f,_,_,_,fun _=>clockPoint r18.f ok.f,fun hb=>?_,fun hb=>?_⟩
 ·rw [pointM_neg ok.f,pointM_neg ok.f] at hb
  have hb:posF c.f x.1<0∨posF c.f x.2<0:=by simpa using hb
  exact bad 6 H18 (by unfold certifyK; rw [if_pos ⟨ok,h8⟩,if_pos hb]) nc.le
 rw [pointM_neg ok.f,pointM_neg ok.f] at hb
 have hb:¬ (posF c.f x.1<0∨posF c.f x.2<0):=by simpa using hb
 have ek:certifyK c x=addK c x:=by unfold certifyK; rw [if_pos ⟨ok,h8⟩,if_neg hb]
 refine ⟨fun he=>?_,fun he=>?_⟩
 ·have he:(addC c.ct x).2.2≠0:=by simpa using he
  exact bad _ H18 (by rw [ek]; unfold addK; rw [if_neg he]) nc.le
 have he:(addC c.ct x).2.2=0:=by simpa using he
 obtain ⟨a1,a2,a3,a4,a5,a6⟩:=addC_facts he
 have hne:x.1≠x.2:=by
  unfold validC at h8
  simp only [Bool.and_eq_true,bne_iff_ne] at h8
  exact h8.2
 refine (clockTwinN r18 fk).mono fun v H75 ⟨w,hv,l75,rw75,m75,s75,nw⟩=>⟨_,_,w.f,_,w.cl,w.u1,w.u2,w.u3,w.u4,w.u5,w.d,hv,_,_,_,_,clockWhen (x:=x) (r18.le l75).f ok.f fk.now,fun h=>?_,fun _=>?_⟩
 ·rw [whenP_known ok.f ok.now (by omega) (by omega) hne] at h
  simp at h
 rw [whenP_known ok.f ok.now (by omega) (by omega) hne]
 cases hw:whenM c.f x c.now with
 | none =>
  refine ⟨fun h=>by simp at h,fun _=>?_⟩
  have e:addK c x=({ c with ct:=(addC c.ct x).1 },(addC c.ct x).2.1,0):=by unfold addK; rw [if_pos he,hw]
  rw [ek,e]
  exact ⟨⟨w.f,a,w.u1,w.u2,w.u3,w.u4,w.u5,w.d⟩,rfl,Hp.le_trans nc.le l75,⟨rw75.f,nc.rd.le l75,rw75.ag,rw75.due⟩,nw.f.low nc.le,nc.list.isNew,nw.u1.low nc.le,nw.u2.low nc.le,nw.u3.low nc.le,nw.u4.low nc.le,nw.u5.low nc.le,nw.d.low nc.le⟩
 | some t =>
  refine ⟨fun _=>?_,fun h=>by simp at h⟩
  have ht:okR t:=fail_okR (ok.f.pt (by omega)) (ok.f.pt (by omega)) ok.now hw
  have hpush:=ok.push ht
  have hnum:(addC c.ct x).2.1=c.ct.next:=by rw [a6]
  refine (agendaPush (t:=t) (n:=(addC c.ct x).2.1) (r18.le l75).ag fk.ag ht.fit).mono fun v H107 ⟨v1,v2,v3,v4,v5,hv,na⟩=>⟨v1,v2,v3,v4,v5,_,_,_,hv,fun h=>?_,fun h=>?_⟩
  ·rw [hnum,hpush] at h
   by_cases hct:c.ag.tb.canTake=true
   ·rw [if_pos hct] at h; simp at h
   ·rw [hnum,hpush,if_neg hct]
    exact bad 18 H107 (by rw [ek]; unfold addK; rw [if_pos he,hw]; simp only; rw [if_neg hct]) (Hp.le_trans nc.le (Hp.le_trans l75 na.le))
  ·rw [hnum,hpush] at h
   by_cases hct:c.ag.tb.canTake=true
   ·intro b H132 hb131 hH
    rw [hnum,hpush,if_pos hct] at na hH
    have le107:Hp.le H18 H107:=Hp.le_trans l75 na.le
    refine (append1 (k:=3) (f:=fD) (bytes:=24) (x:=(c.ct.next,nextH c.ag)) (e:=T.api_Due) (by kernel_rfl) (by decide) (fun _=>rfl) fD_one le107 (m75.le na.le) hb131 hH rfl (by have:=fk.due; omega) (by omega)).mono fun v H134 ⟨d,hv,l134,md,cd,_⟩=>⟨d,hv,?_⟩
    have e:addK c x=({ c with ct:=(addC c.ct x).1,ag:=pushedA c.ag t (addC c.ct x).2.1,due:=c.due++[((addC c.ct x).2.1,nextH c.ag)] },(addC c.ct x).2.1,0):=by unfold addK; rw [if_pos he,hw]; simp only; rw [if_pos hct]
    rw [ek,e]
    refine ⟨⟨w.f,a,v1,v2,v3,v4,v5,d⟩,rfl,Hp.le_trans nc.le l134,⟨(rw75.f.le na.le).chg cd s75,((nc.rd.le l75).le na.le).chg cd (Sep.of nc.list.isOld m75.isNew),?_,?_⟩,nw.f.low nc.le,nc.list.isNew,na.tb.uses.isNew.low (Hp.le_trans nc.le l75),na.tb.used.isNew.low (Hp.le_trans nc.le l75),na.tb.free.isNew.low (Hp.le_trans nc.le l75),na.heap.isNew.low (Hp.le_trans nc.le l75),na.wh.isNew.low (Hp.le_trans nc.le l75),md.isNew.low nc.le⟩
    ·rw [hnum]; exact RdA.chgN na cd m75.isOld
    ·rw [hnum]; exact md.rdD
   ·rw [if_neg hct] at h; simp at h

abbrev lsC (u:Lu) (l:Ls):Array Value:=#[.int .i64 l.ck.now.1,.int .i64 l.ck.now.2,u.k.f.v,.int .i64 l.ck.ct.next,u.k.cl.v,u.k.u1.v,u.k.u2.v,u.k.u3.v,u.k.u4.v,u.k.u5.v,u.k.d.v,u.o.v,u.n.v]
def hide (H:Hp) (b c:Nat):Hp:=fun k=>if k=b∨k=c then none else H k
theorem hide_b (H:Hp) (b c:Nat):hide H b c b=none:=if_pos (.inl rfl)
theorem hide_c (H:Hp) (b c:Nat):hide H b c c=none:=if_pos (.inr rfl)
theorem hide_ne {H:Hp} {b c k:Nat} (h1:k≠b) (h2:k≠c):hide H b c k=H k:=if_neg fun h=>h.elim h1 h2
theorem _root_.Go.Eng.Rd.hide {α:Type} {k:Nat} {f:α→List Value} {H:Hp} {u:Slc} {xs:List α} {b c:Nat} (h:Rd k f H u xs) (hs:∀ p,u.a=some p→p.block≠b∧p.block≠c):Rd k f (hide H b c) u xs:=by
 refine ⟨h.len,h.cap,h.isS,fun i x hx j v hv=>?_⟩
 have hc:=h.cell i x hx j v hv
 obtain ⟨p,hp⟩:=Option.isSome_iff_exists.1 (h.isS (by intro e; rw [e] at hx; simp at hx))
 have hb:((eaddr u.a k i).add j).block=p.block:=by
  rw [hp]; unfold eaddr Addr.add; simp only; split <;> (try split) <;> rfl
 rw [Hp.at_eq (H':=Go.Proofs.YtlbdpklikfddlaaGreat.hide H b c) (H:=H) (by rw [hb]; exact hide_ne (hs p hp).1 (hs p hp).2)]
 exact hc
theorem RdK.hide {H0 H:Hp} {u:Cu} {c:Ck} {b d:Nat} (r:RdK H u c) (n:NewW H0 u) (hb:H0 b≠none) (hd:H0 d≠none):RdK (hide H b d) u c:=by
 have s:∀ {v:Slc},New H0 v→∀ p,v.a=some p→p.block≠b∧p.block≠d:=fun {v} nv p hp=>⟨fun e=>hb (by rw [← e]; exact nv p hp),fun e=>hd (by rw [← e]; exact nv p hp)⟩
 exact ⟨r.f.hide (s n.f),r.cl.hide (s n.cl),⟨⟨r.ag.tb.uses.hide (s n.u1),r.ag.tb.used.hide (s n.u2),r.ag.tb.free.hide (s n.u3)⟩,r.ag.heap.hide (s n.u4),r.ag.wh.hide (s n.u5)⟩,r.due.hide (s n.d)⟩
theorem le_hide {G H:Hp} {b c:Nat} (h:Hp.le G H) (h1:G b=none) (h2:G c=none):Hp.le G (hide H b c):=fun k o hk=>by
 rw [hide_ne (fun e=>by rw [e,h1] at hk; cases hk) (fun e=>by rw [e,h2] at hk; cases hk)]
 exact h k o hk

set_option maxHeartbeats 1000000 in
theorem klistMake1 {H H0 G:Hp} {b bn n:Nat} {k:Cu} {o:Slc} {l:Ls} {i:Int} (box:Cel H b (lsC ⟨k,o,⟨some ⟨bn,0,none⟩,n,n⟩⟩ l) 46) (hne:bn≠b) (g1:Hp.le G H) (g2:G b=none) (g3:G bn=none) (rk:RdK G k l.ck) (ro:RdI G o l.ord)
  (mn:Mine 1 fI 3 H0 H ⟨some ⟨bn,0,none⟩,n,n⟩ l.num) (hl:Hp.le H0 H) (hb:H0 b=none) (fl:fitL l) (h0:0≤i) (h1:i+1<l.ord.length) (h2:i<l.num.length) (hbn:H bn≠none) :
  Go.Eng.Fn Tryz.prog F.klist_make1 #[.pointer (some ⟨b,0,none⟩),.int .i64 i] H fun v H'=>v=.int .i64 (certifyK l.ck (pairM l.ord i.toNat)).2.2∧Hp.le H0 H'∧((certifyK l.ck (pairM l.ord i.toNat)).2.2=0 →
   ∃ (w:Cu) (G':Hp),Cel H' b (lsC ⟨w,o,⟨some ⟨bn,0,none⟩,n,n⟩⟩ ⟨(certifyK l.ck (pairM l.ord i.toNat)).1,l.ord,l.num.set i.toNat (certifyK l.ck (pairM l.ord i.toNat)).2.1⟩) 46∧Hp.le G' H'∧G' b=none∧G' bn=none∧RdK G' w (certifyK l.ck (pairM l.ord i.toNat)).1∧RdI G' o l.ord ∧
    Mine 1 fI 3 H0 H' ⟨some ⟨bn,0,none⟩,n,n⟩ (l.num.set i.toNat (certifyK l.ck (pairM l.ord i.toNat)).2.1)∧H' bn≠none):=by
 have f1:=fl.o
 have hbb:H b≠none:=by rw [box]; simp
 refine klist_make1_vc ⟨_,_,k.f,_,k.cl,k.u1,k.u2,k.u3,k.u4,k.u5,k.d,⟨Cel.at box 0,Cel.at box 1,Cel.at box 2,Cel.at box 3,Cel.at box 4,Cel.at box 5,Cel.at box 6,Cel.at box 7,Cel.at box 8,Cel.at box 9,Cel.at box 10⟩,o,Cel.at box 11,_,_,klistPair (ro.le g1) h0 h1 f1,
  (clockCertifyN (rk.le g1) fl.k).mono fun v H16 ⟨w,hv,l16,rw',nw⟩=>⟨l16,_,_,w.f,_,w.cl,w.u1,w.u2,w.u3,w.u4,w.u5,w.d,_,_,hv,fun he=>?_,fun he=>?_⟩⟩
 ·exact ⟨rfl,Hp.le_trans hl l16,fun h=>by rw [h] at he; simp at he⟩
 have he:(certifyK l.ck (pairM l.ord i.toNat)).2.2=0:=by simpa using he
 rw [he]
 generalize certifyK l.ck (pairM l.ord i.toNat)=r at *
 have box16:=box.le l16
 obtain ⟨can,st⟩:=store_row (b:=b) (off:=0) (T:=46) [.int .i64 r.1.now.1,.int .i64 r.1.now.2,w.f.v,.int .i64 r.1.ct.next,w.cl.v,w.u1.v,w.u2.v,w.u3.v,w.u4.v,w.u5.v,w.d.v] 0 H16 _ box16 (by show 0+0+11≤13; omega)
 refine ⟨_,Cel.at box16 12,can,fun H31 e31=>?_⟩
 have e31:H31=H16.put b (.cells (lsC ⟨w,o,⟨some ⟨bn,0,none⟩,n,n⟩⟩ ⟨r.1,l.ord,l.num⟩) 46 (0,0)):=e31.trans st
 have c31:Cel H31 b (lsC ⟨w,o,⟨some ⟨bn,0,none⟩,n,n⟩⟩ ⟨r.1,l.ord,l.num⟩) 46:=by rw [e31]; exact Cel.put
 have ch31:Chg H16 H31 ⟨some ⟨b,0,none⟩,0,0⟩:=fun c hc hn=>by rw [e31]; exact Hp.put_ne _ _ fun e=>hn _ rfl e.symm
 have m31:=(mn.le l16).chg ch31 (fun p q hp hq=>by cases hp; cases hq; exact hne)
 refine ⟨m31.rdI.inS h0 h2,?_⟩
 refine m31.setI h0 h2 r.2.1 fun H32 m32 ch32=>?_
 have le31:Hp.le H0 H31:=Hp.le_chg (Hp.le_trans hl l16) ch31 fun p hp=>by cases hp; exact hb
 have le32:Hp.le H0 H32:=Hp.le_chg le31 ch32 mn.isNew
 have same:∀ c,c≠b→c≠bn→H16 c≠none→H32 c=H16 c:=fun c c1 c2 hc=>by
  have e1:H31 c=H16 c:=ch31 c hc fun p hp e=>by cases hp; exact c1 e.symm
  rw [ch32 c (by rw [e1]; exact hc) fun p hp e=>by cases hp; exact c2 e.symm,e1]
 refine ⟨rfl,le32,fun _=>⟨w,hide H16 b bn,?_,fun c x hc=>?_,hide_b _ _ _,hide_c _ _ _,RdK.hide rw' nw hbb hbn,ro.le (le_hide (Hp.le_trans g1 l16) g2 g3),m32,?_⟩⟩
 ·unfold Cel at c31 ⊢
  rw [ch32 b (by rw [c31]; simp) fun p hp e=>by cases hp; exact hne e]; exact c31
 ·unfold hide at hc
  split at hc
  ·cases hc
  ·rename_i hh
   rw [same c (fun e=>hh (.inl e)) (fun e=>hh (.inr e)) (by rw [hc]; simp)]; exact hc
 ·exact m32.isOld _ rfl

theorem BInv.certify {f:List Pt} {t:Int × Int} {l:Ls} (b:BInv f t l) (of:okF f) {i:Nat} (h:i<l.num.length):certifyK l.ck (pairM l.ord i)=addK l.ck (pairM l.ord i):=by
 have ho:l.ord.length=f.length:=by rw [b.ord,ordM_len]
 have hn:=b.num
 have p1:0≤posF l.ck.f (pairM l.ord i).1:=b.pos of _ (List.mem_of_getElem? (getI (xs:=l.ord) (i:=(i:Int)+1) (by omega) (by omega)))
 have p2:0≤posF l.ck.f (pairM l.ord i).2:=b.pos of _ (List.mem_of_getElem? (getI (xs:=l.ord) (i:=(i:Int)) (by omega) (by omega)))
 have hne:(pairM l.ord i).1≠(pairM l.ord i).2:=by
  have hi:=(sortM_sorted (okF_ids of) t).ids (okF_ids of)
  have hp:=List.pairwise_map.2 hi
  have eo:l.ord=(sortM f t).map (·.1):=b.ord
  rw [← eo] at hp
  have:=List.pairwise_iff_getElem.1 hp i (i+1) (by omega) (by omega) (by omega)
  unfold pairM
  rw [List.getD_eq_getElem?_getD,List.getD_eq_getElem?_getD,List.getElem?_eq_getElem (by omega),List.getElem?_eq_getElem (by omega)]
  exact fun e=>this e.symm
 have of':okF l.ck.f:=by rw [b.fe]; exact of
 have q1:=of'.pt p1; have q2:=of'.pt p2
 have r1:=(posF_range p1).2.2; have r2:=(posF_range p2).2.2
 have a1:=q1.i0; have a2:=q1.i1; have a3:=q2.i0; have a4:=q2.i1
 rw [r1] at a1 a2; rw [r2] at a3 a4
 have hv:validC (pairM l.ord i)=true:=by
  unfold validC
  simp only [Bool.and_eq_true,decide_eq_true_eq,bne_iff_ne,ne_eq]
  omega
 unfold certifyK
 rw [if_pos ⟨b.ok,hv⟩,if_neg (by omega)]

set_option maxHeartbeats 2000000 in
theorem klistBuild {H:Hp} {w:Slc} {f:List Pt} {t:Int × Int} (hf:Rd 3 fD H w f) (ht:fitR t) :
    Go.Eng.Fn Tryz.prog F.klist_Build #[vFd w,raW t] H fun v H'=>∃ u:Lu,v=.tuple #[lsV u (buildL f t).1,.int .i64 (buildL f t).2]∧Hp.le H H'∧RdL H' u (buildL f t).1:=by
  refine klist_Build_vc ((clockNew hf ht).mono fun v H2 ⟨k,hv,l2,rk⟩=>⟨_,_,k.f,_,k.cl,k.u1,k.u2,k.u3,k.u4,k.u5,k.d,_,hv,fun hc=>?_,fun hc=>?_⟩)
  · have hc:(newK f t).2≠0:=by simpa using hc
    have h:timedF f t≠0:=fun h=>by unfold newK at hc; rw [if_pos h] at hc; exact hc rfl
    have e:newK f t=(.zero,timedF f t):=by unfold newK; rw [if_neg h]
    unfold buildL; rw [if_neg h,e]
    exact ⟨zlu,rfl,l2,RdL.zero⟩
  have h:timedF f t=0:=by
    have hc:(newK f t).2=0:=by simpa using hc
    by_cases h:timedF f t=0
    · exact h
    · unfold newK at hc; rw [if_neg h] at hc; exact absurd hc h
  obtain ⟨of,ot⟩:=timedF_zero.1 h
  have lf:=of.small
  unfold buildL; rw [if_pos h]
  refine (fieldOrder (hf.le l2) ht).mono fun v H16 ⟨o,hv,l16,mo⟩=>⟨o,_,hv,?_⟩
  have eo:orderM f t=(ordM f t,0):=by unfold orderM; rw [if_pos h]
  rw [eo] at mo
  have lo:=mo.rdI.len
  rw [ordM_len] at lo
  rw [less1,lo]
  refine ⟨by unfold inI; omega,⟨rfl,by omega,by omega⟩,fun b19 H20 hb19 hH20 b21 H22 hb21 hH22=>?_⟩
  have m20:=made_mine (g:=fun x=>Value.int .i64 x) (e:=3) hfI (n:=((f.length-1:Nat):Int)) (z:=0) hb19 hH20 rfl
  rw [Int.toNat_natCast] at m20 hH22
  have l20:Hp.le H16 H20:=Hp.le_new (Hp.le_refl _) hb19 hH20
  have l22:Hp.le H20 H22:=Hp.le_new (Hp.le_refl _) hb21 hH22
  have lH16:Hp.le H H16:=Hp.le_trans l2 l16
  have n19:H20 b19≠none:=by rw [hH20]; simp
  have hne:b19≠b21:=fun e=>by rw [e] at n19; exact n19 hb21
  have hb21':H16 b21=none:=by
    cases hx:H16 b21 with
    | none=>rfl
    | some x=>rw [l20 _ _ hx] at hb21; cases hb21
  have n19':H22 b19≠none:=by
    intro e
    cases hx:H20 b19 with
    | none=>exact n19 hx
    | some x=>rw [l22 _ _ hx] at e; cases e
  have box:Cel H22 b21 (lsC ⟨k,o,⟨some ⟨b19,0,none⟩,f.length-1,f.length-1⟩⟩ (buildN f t 0).1) 46:=by rw [hH22]; exact Cel.put
  refine ⟨⟨some ⟨b19,0,none⟩,f.length-1,f.length-1⟩,Cel.at box 12,fun i H'=>0≤i∧i≤(f.length-1:Nat)∧Hp.le H16 H'∧(buildN f t i.toNat).2=0∧BInv f t (buildN f t i.toNat).1∧∃ (w:Cu) (G:Hp),Cel H' b21 (lsC ⟨w,o,⟨some ⟨b19,0,none⟩,f.length-1,f.length-1⟩⟩ (buildN f t i.toNat).1) 46∧Hp.le G H'∧G b21=none∧G b19=none∧RdK G w (buildN f t i.toNat).1.ck∧RdI G o (buildN f t i.toNat).1.ord ∧
      Mine 1 fI 3 H16 H' ⟨some ⟨b19,0,none⟩,f.length-1,f.length-1⟩ (buildN f t i.toNat).1.num∧H' b19≠none,
    fun i _=>(((f.length-1:Nat):Int)-i).toNat,⟨Int.le_refl _,by omega,Hp.le_trans l20 l22,rfl,BInv.start h,k,H16,box,Hp.le_trans l20 l22,hb21',hb19,rk.le l16,mo.rdI,m20.le l22,n19'⟩,
    fun i H' ⟨i0,i1,le,z,bi,w',G,bx,g1,g2,g3,rk',ro',mn,hn'⟩=>⟨fun hn=>?_,fun hn=>?_⟩⟩
  · have hi:i<(f.length-1:Nat):=by simpa using hn
    have ho:(buildN f t i.toNat).1.ord.length=f.length:=by rw [bi.ord,ordM_len]
    have hnn:=bi.num
    have ec:=bi.certify of (i:=i.toNat) (by omega)
    refine (klistMake1 (i:=i) bx hne g1 g2 g3 rk' ro' mn le hb21' (bi.fit of) i0 (by omega) (by omega) hn').mono fun v H29 ⟨hv,l29,hok⟩=>⟨_,hv,fun he=>?_,fun he=>?_⟩
    · rw [ec] at he
      have he:(addK (buildN f t i.toNat).1.ck (pairM (buildN f t i.toNat).1.ord i.toNat)).2.2≠0:=by simpa using he
      have em:madeL (buildN f t i.toNat).1 i.toNat=(.zero,(addK (buildN f t i.toNat).1.ck (pairM (buildN f t i.toNat).1.ord i.toNat)).2.2):=by unfold madeL; rw [if_neg he]
      have es:buildN f t (i.toNat+1)=madeL (buildN f t i.toNat).1 i.toNat:=by
        show (if (buildN f t i.toNat).2=0 then _ else _)=_
        rw [if_pos z]
      have e9:=buildN_err (f:=f) (t:=t) (n:=i.toNat+1) (by rw [es,em]; exact he) (f.length-1) (by omega)
      rw [e9,es,em,ec]
      exact ⟨zlu,rfl,Hp.le_trans lH16 l29,RdL.zero⟩
    · rw [ec] at he hok
      have he:(addK (buildN f t i.toNat).1.ck (pairM (buildN f t i.toNat).1.ord i.toNat)).2.2=0:=by simpa using he
      obtain ⟨w2,G2,c2,q1,q2,q3,q4,q5,q6,q7⟩:=hok he
      have em:madeL (buildN f t i.toNat).1 i.toNat=(⟨(addK (buildN f t i.toNat).1.ck (pairM (buildN f t i.toNat).1.ord i.toNat)).1,(buildN f t i.toNat).1.ord,(buildN f t i.toNat).1.num.set i.toNat (addK (buildN f t i.toNat).1.ck (pairM (buildN f t i.toNat).1.ord i.toNat)).2.1⟩,0):=by unfold madeL; rw [if_pos he]
      have es:buildN f t (i+1).toNat=madeL (buildN f t i.toNat).1 i.toNat:=by
        rw [show (i+1).toNat=i.toNat+1 by omega]
        show (if (buildN f t i.toNat).2=0 then _ else _)=_
        rw [if_pos z]
      have bm:=bi.made of (i:=i.toNat) (by omega) (by rw [em])
      rw [em] at es bm
      refine ⟨by unfold inI; omega,⟨by omega,by omega,l29,by rw [es],by rw [es]; exact bm,w2,G2,?_,q1,q2,q3,?_,?_,?_,q7⟩,?_⟩
      · rw [es]; exact c2
      · rw [es]; exact q4
      · rw [es]; exact q5
      · rw [es]; exact q6
      · show (((f.length-1:Nat):Int)-(i+1)).toNat<(((f.length-1:Nat):Int)-i).toNat; omega
  · have hi:i=(f.length-1:Nat):=by have:¬ i<((f.length-1:Nat):Int):=by simpa using hn
                                   omega
    subst hi
    rw [Int.toNat_natCast] at z bx rk' ro' mn
    refine ⟨_,_,w'.f,_,w'.cl,w'.u1,w'.u2,w'.u3,w'.u4,w'.u5,w'.d,o,⟨some ⟨b19,0,none⟩,f.length-1,f.length-1⟩,⟨Cel.at bx 0,Cel.at bx 1,Cel.at bx 2,Cel.at bx 3,Cel.at bx 4,Cel.at bx 5,Cel.at bx 6,Cel.at bx 7,Cel.at bx 8,Cel.at bx 9,Cel.at bx 10,Cel.at bx 11,Cel.at bx 12⟩,?_⟩
    rw [z]
    exact ⟨⟨w',o,⟨some ⟨b19,0,none⟩,f.length-1,f.length-1⟩⟩,rfl,Hp.le_trans lH16 le,⟨rk'.le g1,ro'.le g1,mn.rdI⟩⟩
end Go.Proofs.YtlbdpklikfddlaaGreat
end
