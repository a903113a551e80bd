/- The engine, parts LP, LR, LS, LT, LU, put together. Conditions: none. -/
import Derived.Test.YtlbdpklikfddlaaGreatPL4
import Derived.Test.YtlbdpklikfddlaaGreatVgClock
import Derived.Test.YtlbdpklikfddlaaGreatVgKlist
import Derived.Test.YtlbdpklikfddlaaGreatFs
import Derived.Test.YtlbdpklikfddlaaGreatPA1
import Derived.Test.YtlbdpklikfddlaaGreatPN2
set_option linter.unusedVariables false
section
/- Clocks' results are slices of their own; a list in a box whose slices are its own; make1 on it. Conditions: none. -/
set_option maxRecDepth 100000
open Go Go.Eng Go.Proofs
namespace Go.Proofs.YtlbdpklikfddlaaGreat

theorem NewW.low {H H':Hp} {w:Cu} (n:NewW H' w) (hl:Hp.le H H'):NewW H w:=⟨n.f.low hl,n.cl.low hl,n.u1.low hl,n.u2.low hl,n.u3.low hl,n.u4.low hl,n.u5.low hl,n.d.low hl⟩
theorem clockDropN {H:Hp} {u:Cu} {c:Ck} {n:Int} (r:RdK H u c) (ok:okK c) :
  Go.Eng.Fn Tryz.prog F.clock_drop #[ckV u c,.int .i64 n] H fun v H'=>∃ w:Cu,v=.tuple #[ckV w (dropK c n).1,raW (dropK c n).2.1,.int .i64 (dropK c n).2.2]∧Hp.le H H'∧RdK H' w (dropK c n).1∧NewW H w:=by
 have fk:=ok.fit
 have hr:removeC c.ct n=if atC c.ct n<0 then (.zero,(0,0),6) else (withoutC c.ct n,(getD3 c.ct.list (atC c.ct n)).2,0):=by
  unfold removeC getC
  rw [if_pos ok.ct]
  split <;> rfl
 refine clock_drop_vc ((certRemove (c:=c.ct) (n:=n) r.cl).mono fun v H2 ⟨a,hv,nc⟩=>⟨_,a,_,_,_,hv,?_⟩)
 unfold dropK
 by_cases hat:atC c.ct n<0
 ·rw [hr,if_pos hat] at nc ⊢
  rw [if_pos hat]
  exact ⟨fun _=>⟨zu,rfl,nc.le,RdK.zero,NewW.zero⟩,fun h=>by simp at h⟩
 rw [hr,if_neg hat] at nc ⊢
 rw [if_neg hat]
 refine ⟨fun h=>by simp at h,fun _=>?_⟩
 have r2:=r.le nc.le
 refine (clockTwinN r2 fk).mono fun v H9 ⟨w,hv,l9,rw9,m9,s9,nw⟩=>⟨_,_,w.f,_,w.cl,w.u1,w.u2,w.u3,w.u4,w.u5,w.d,hv,?_⟩
 have r9:=r2.le l9
 have nw:=nw.low nc.le
 obtain ⟨i,b,hq,hb1,hb2⟩:=clockPlace (n:=n) r9 ok
 refine ⟨i,b,hq,fun hb=>?_,fun hb=>?_⟩
 ·obtain ⟨h0,rfl⟩:=hb1 hb
  obtain ⟨ps,e⟩:=ok.evs
  obtain ⟨x,hx,hxn,hg,hlt⟩:=e.pos.1 h0
  have hxh:=e.mem_heap hx
  have hh:(c.due.getD (posD c n).toNat (0,0,0)).2=x.h:=by
   have:getD3 c.due (posD c n)=nh x:=hg
   unfold getD3 at this; rw [this]; rfl
  have g2:=r9.due.gD2 h0 hlt
  rw [hh] at g2
  have hrem:=removeA_at ok.ag hxh
  refine ⟨r9.due.inS h0 hlt,_,_,g2,(agendaRemove (h:=x.h) r9.ag fk.ag).mono fun v H26 ⟨v1,v2,v3,v4,v5,hv,na⟩=>⟨na.le,v1,v2,v3,v4,v5,_,_,_,_,_,_,hv,?_⟩⟩
  rw [hrem] at na ⊢
  refine ⟨fun h=>by simp at h,fun _=>⟨by have:=fk.due; unfold inI; omega,?_⟩⟩
  refine (delete_due (Hp.le_trans l9 na.le) (m9.le na.le) h0 hlt).mono fun v H39 ⟨d,hv,l39,md,cd⟩=>⟨d,hv,⟨w.f,a,v1,v2,v3,v4,v5,d⟩,?_,Hp.le_trans nc.le l39,?_,?_⟩
  ·unfold goneK; rw [if_pos h0]
  ·have eg:goneK c n={ c with ct:=withoutC c.ct n,ag:=removedA c.ag x.h,due:=c.due.filter fun d=>d.1 != n }:=by
    unfold goneK; rw [if_pos h0,hg]; rfl
   rw [eg]
   refine ⟨(rw9.f.le na.le).chg cd s9,((nc.rd.le l9).le na.le).chg cd (Sep.of nc.list.isOld m9.isNew),RdA.chgN na cd m9.isOld,?_⟩
   have:=md.rdD
   rw [ok.dueCut h0] at this
   exact this
  ·have l09:=Hp.le_trans nc.le l9
   exact ⟨nw.f,nc.list.isNew,na.tb.uses.isNew.low l09,na.tb.used.isNew.low l09,na.tb.free.isNew.low l09,na.heap.isNew.low l09,na.wh.isNew.low l09,md.isNew.low nc.le⟩
 ·have hb:=hb2 hb
  have eg:goneK c n={ c with ct:=withoutC c.ct n }:=by unfold goneK; rw [if_neg (by omega)]
  rw [eg]
  exact ⟨⟨w.f,a,w.u1,w.u2,w.u3,w.u4,w.u5,w.d⟩,rfl,Hp.le_trans nc.le l9,⟨rw9.f,nc.rd.le l9,rw9.ag,rw9.due⟩,nw.f,nc.list.isNew,nw.u1,nw.u2,nw.u3,nw.u4,nw.u5,nw.d⟩
theorem clockRetireN {H:Hp} {u:Cu} {c:Ck} {n:Int} (r:RdK H u c) (fk:fitK c) :
  Go.Eng.Fn Tryz.prog F.clock_Retire #[ckV u c,.int .i64 n] H fun v H'=>∃ w:Cu,v=.tuple #[ckV w (retireK c n).1,.int .i64 (retireK c n).2]∧Hp.le H H'∧RdK H' w (retireK c n).1∧NewW H w:=by
 refine clock_Retire_vc ⟨_,clockCheck r fk,fun hc=>?_,fun hc=>?_⟩
 ·have hk:¬ okK c:=fun ok=>by rw [chkK_ok ok] at hc; simp at hc
  rw [chkK_bad hk]
  unfold retireK; rw [if_neg hk]
  exact ⟨zu,rfl,Hp.le_refl _,RdK.zero,NewW.zero⟩
 ·have ok:okK c:=chkK_zero.1 (by simpa using hc)
  rw [retireK_drop ok]
  exact (clockDropN r ok).mono fun v H3 ⟨w,hv,l3,r3,n3⟩=>⟨_,_,w.f,_,w.cl,w.u1,w.u2,w.u3,w.u4,w.u5,w.d,_,_,_,hv,w,rfl,l3,r3,n3⟩
theorem clockFailN {H:Hp} {u:Cu} {c:Ck} {t:Int × Int} (r:RdK H u c) (fk:fitK c) (ht:fitR t) :
  Go.Eng.Fn Tryz.prog F.clock_Fail #[ckV u c,raW t] H fun v H'=>∃ w:Cu,v=.tuple #[ckV w (failK c t).1,evV (failK c t).2.1,raW (failK c t).2.2.1,.int .i64 (failK c t).2.2.2]∧Hp.le H H'∧RdK H' w (failK c t).1∧NewW H w:=by
 refine clock_Fail_vc ⟨_,_,clockUntil r fk ht,fun hc=>⟨fun _=>?_,fun h=>by cases h⟩,fun hc=>⟨fun he=>?_,fun he=>?_⟩⟩
 ·simp only [Bool.and_eq_true,beq_iff_eq,Bool.not_eq_true',Bool.and_eq_false_iff,decide_eq_false_iff_not] at hc
  have hw:waitsK c t=false:=hc.2.resolve_left fun h=>h hc.1
  have e:failK c t=(.zero,e0,(0,0),6):=by unfold failK; rw [if_pos hc.1,if_neg (by rw [hw]; simp)]
  rw [e]; exact ⟨zu,rfl,Hp.le_refl _,RdK.zero,NewW.zero⟩
 ·have he:untilK c t≠0:=by simpa using he
  have e:failK c t=(.zero,e0,(0,0),untilK c t):=by unfold failK; rw [if_neg he]
  rw [e]; exact ⟨zu,rfl,Hp.le_refl _,RdK.zero,NewW.zero⟩
 ·have he:untilK c t=0:=by simpa using he
  have hw:waitsK c t=true:=by rw [he] at hc; simpa using hc
  obtain ⟨ok,ot,_⟩:=untilK_zero.1 he
  have h0:=waitsK_len hw
  have hx:=ok.topCert h0
  have e:failK c t=(failedK c,hp c.ag.heap 0,(getD3 c.ct.list (atC c.ct (hp c.ag.heap 0).no)).2,0):=by unfold failK; rw [if_pos he,if_pos hw]
  have ed:dropK c (hp c.ag.heap 0).no=(goneK c (hp c.ag.heap 0).no,(getD3 c.ct.list (atC c.ct (hp c.ag.heap 0).no)).2,0):=by unfold dropK; rw [if_neg (by omega)]
  rw [e]
  refine ⟨r.ag.heap.inS (Int.le_refl _) (by omega),_,_,_,_,_,r.ag.heap.gE (Int.le_refl _) (by omega),?_⟩
  refine (clockDropN (n:=(hp c.ag.heap 0).no) r ok).mono fun v H9 ⟨w,hv,l9,r9,n9⟩=>⟨_,_,w.f,_,w.cl,w.u1,w.u2,w.u3,w.u4,w.u5,w.d,_,_,_,hv,fun h=>?_,fun _=>⟨w,?_,l9,?_,n9⟩⟩
  ·rw [ed] at h; simp at h
  ·rw [ed]; rfl
  ·rw [ed] at r9
   exact ⟨r9.f,r9.cl,r9.ag,r9.due⟩
theorem clockMoveN {H:Hp} {u:Cu} {c:Ck} {t:Int × Int} (r:RdK H u c) (fk:fitK c) (ht:fitR t) :
  Go.Eng.Fn Tryz.prog F.clock_Move #[ckV u c,raW t] H fun v H'=>∃ w:Cu,v=.tuple #[ckV w (moveK c t).1,.int .i64 (moveK c t).2]∧Hp.le H H'∧RdK H' w (moveK c t).1∧NewW H w:=by
 refine clock_Move_vc ⟨_,_,clockUntil r fk ht,fun hc=>⟨fun _=>?_,fun h=>by cases h⟩,fun hc=>⟨fun he=>?_,fun he=>?_⟩⟩
 ·simp only [Bool.and_eq_true,beq_iff_eq,decide_eq_true_eq] at hc
  have e:moveK c t=(.zero,36):=by unfold moveK; rw [if_pos hc.1,if_pos hc.2.2]
  rw [e]; exact ⟨zu,rfl,Hp.le_refl _,RdK.zero,NewW.zero⟩
 ·have he:untilK c t≠0:=by simpa using he
  have e:moveK c t=(.zero,untilK c t):=by unfold moveK; rw [if_neg he]
  rw [e]; exact ⟨zu,rfl,Hp.le_refl _,RdK.zero,NewW.zero⟩
 ·have he:untilK c t=0:=by simpa using he
  have hw:waitsK c t=false:=by rw [he] at hc; simpa using hc
  have e:moveK c t=({ c with now:=t },0):=by unfold moveK; rw [if_pos he,if_neg (by rw [hw]; simp)]
  rw [e]
  exact (clockTwinN r fk).mono fun v H9 ⟨w,hv,l9,r9,_,_,n9⟩=>⟨_,_,w.f,_,w.cl,w.u1,w.u2,w.u3,w.u4,w.u5,w.d,hv,w,rfl,l9,⟨r9.f,r9.cl,r9.ag,r9.due⟩,n9⟩

/-! ### A list in a box -/
noncomputable def hideP (S:Nat→Prop) (H:Hp):Hp:=fun k=>@ite _ (S k) (Classical.propDecidable _) none (H k)
theorem hideP_in {S:Nat→Prop} {H:Hp} {k:Nat} (h:S k):hideP S H k=none:=if_pos h
theorem hideP_out {S:Nat→Prop} {H:Hp} {k:Nat} (h:¬ S k):hideP S H k=H k:=if_neg h
theorem _root_.Go.Eng.Rd.hideP {α:Type} {k:Nat} {f:α→List Value} {H:Hp} {u:Slc} {xs:List α} {S:Nat→Prop} (h:Rd k f H u xs) (hs:∀ p,u.a=some p→¬ S p.block):Rd k f (Go.Proofs.YtlbdpklikfddlaaGreat.hideP S H) u xs:=by
 refine ⟨h.len,h.cap,h.isS,fun i x hx j v hv=>?_⟩
 have hc:=h.cell i x hx j v hv
 obtain ⟨p,hp⟩:=Option.isSome_iff_exists.1 (h.isS (by intro e; rw [e] at hx; simp at hx))
 have hb:((eaddr u.a k i).add j).block=p.block:=by
  rw [hp]; unfold eaddr Addr.add; simp only; split <;> (try split) <;> rfl
 rw [Hp.at_eq (H':=Go.Proofs.YtlbdpklikfddlaaGreat.hideP S H) (H:=H) (by rw [hb]; exact hideP_out (hs p hp))]
 exact hc
theorem RdK.hideP {H0 H:Hp} {u:Cu} {c:Ck} {S:Nat→Prop} (r:RdK H u c) (n:NewW H0 u) (hS:∀ b,S b→H0 b≠none):RdK (Go.Proofs.YtlbdpklikfddlaaGreat.hideP S H) u c:=by
 have s:∀ {v:Slc},New H0 v→∀ p,v.a=some p→¬ S p.block:=fun {v} nv p hp hb=>hS _ hb (nv p hp)
 exact ⟨r.f.hideP (s n.f),r.cl.hideP (s n.cl),⟨⟨r.ag.tb.uses.hideP (s n.u1),r.ag.tb.used.hideP (s n.u2),r.ag.tb.free.hideP (s n.u3)⟩,r.ag.heap.hideP (s n.u4),r.ag.wh.hideP (s n.u5)⟩,r.due.hideP (s n.d)⟩
def prot (b:Nat) (o n:Slc) (x:Nat):Prop:=x=b∨(∃ p,o.a=some p∧p.block=x)∨(∃ p,n.a=some p∧p.block=x)
structure BoxL (H0 H:Hp) (b:Nat) (u:Lu) (l:Ls):Prop where
 box:Cel H b (lsC u l) 46
 k:∃ G,Hp.le G H∧(∀ x,prot b u.o u.n x→G x=none)∧RdK G u.k l.ck
 o:Mine 1 fI 3 H0 H u.o l.ord
 n:Mine 1 fI 3 H0 H u.n l.num
 sep:Sep u.o u.n
 le:Hp.le H0 H
 nb:H0 b=none
 ob:∀ p,u.o.a=some p→p.block≠b
 nn:∀ p,u.n.a=some p→p.block≠b
theorem BoxL.rk {H0 H:Hp} {b:Nat} {u:Lu} {l:Ls} (B:BoxL H0 H b u l):RdK H u.k l.ck:=by
 obtain ⟨G,h1,_,h3⟩:=B.k
 exact h3.le h1
theorem BoxL.up {H0 H H':Hp} {b:Nat} {u:Lu} {l:Ls} (B:BoxL H0 H b u l) (h:Hp.le H H'):BoxL H0 H' b u l:=by
 obtain ⟨G,h1,h2,h3⟩:=B.k
 exact ⟨B.box.le h,⟨G,Hp.le_trans h1 h,h2,h3⟩,B.o.le h,B.n.le h,B.sep,Hp.le_trans B.le h,B.nb,B.ob,B.nn⟩
theorem BoxL.used {H0 H:Hp} {b:Nat} {u:Lu} {l:Ls} (B:BoxL H0 H b u l):∀ x,prot b u.o u.n x→H x≠none:=by
 rintro x (rfl | ⟨p,hp,rfl⟩ | ⟨p,hp,rfl⟩)
 ·rw [B.box]; simp
 ·exact B.o.isOld p hp
 ·exact B.n.isOld p hp
theorem BoxL.clock {H0 H H1:Hp} {b:Nat} {u:Lu} {l:Ls} (B:BoxL H0 H b u l) {w:Cu} {c:Ck} (hl:Hp.le H H1) (rw':RdK H1 w c) (nw:NewW H w) {Q:Hp→Prop}
  (hQ:∀ H',BoxL H0 H' b ⟨w,u.o,u.n⟩ ⟨c,l.ord,l.num⟩→Q H') :
  H1.canStore ⟨b,0,none⟩ 0 [.int .i64 c.now.1,.int .i64 c.now.2,w.f.v,.int .i64 c.ct.next,w.cl.v,w.u1.v,w.u2.v,w.u3.v,w.u4.v,w.u5.v,w.d.v]∧∀ H',H'=H1.store ⟨b,0,none⟩ 0 [.int .i64 c.now.1,.int .i64 c.now.2,w.f.v,.int .i64 c.ct.next,w.cl.v,w.u1.v,w.u2.v,w.u3.v,w.u4.v,w.u5.v,w.d.v]→Q H':=by
 have B1:=B.up hl
 obtain ⟨can,st⟩:=store_row (b:=b) (off:=0) (T:=46) [.int .i64 c.now.1,.int .i64 c.now.2,w.f.v,.int .i64 c.ct.next,w.cl.v,w.u1.v,w.u2.v,w.u3.v,w.u4.v,w.u5.v,w.d.v] 0 H1 _ B1.box (by show 0+0+11≤13; omega)
 refine ⟨can,fun H' e=>hQ H' ?_⟩
 have e':H'=H1.put b (.cells (lsC ⟨w,u.o,u.n⟩ ⟨c,l.ord,l.num⟩) 46 (0,0)):=e.trans st
 have ch:Chg H1 H' ⟨some ⟨b,0,none⟩,0,0⟩:=fun x hx hn=>by rw [e']; exact Hp.put_ne _ _ fun e=>hn _ rfl e.symm
 refine ⟨by rw [e']; exact Cel.put,⟨hideP (prot b u.o u.n) H1,?_,fun x hx=>hideP_in hx,RdK.hideP rw' nw B.used⟩,B1.o.chg ch (fun p q hp hq=>by cases hq; exact B.ob p hp),B1.n.chg ch (fun p q hp hq=>by cases hq; exact B.nn p hp),B.sep,Hp.le_chg B1.le ch (fun p hp=>by cases hp; exact B.nb),B.nb,B.ob,B.nn⟩
 intro x o hx
 by_cases hs:prot b u.o u.n x
 ·rw [hideP_in hs] at hx; cases hx
 ·rw [hideP_out hs] at hx
  rw [e',Hp.put_ne _ _ (fun e=>hs (.inl e))]; exact hx
theorem BoxL.chg {H0 H H':Hp} {b:Nat} {u:Lu} {l:Ls} (B:BoxL H0 H b u l) {v:Slc} (ch:Chg H H' v) (hv:∀ p,v.a=some p→p.block≠b) (hp:∀ p,v.a=some p→prot b u.o u.n p.block):Cel H' b (lsC u l) 46∧∃ G,Hp.le G H'∧(∀ x,prot b u.o u.n x→G x=none)∧RdK G u.k l.ck:=by
 obtain ⟨G,h1,h2,h3⟩:=B.k
 refine ⟨?_,G,fun x o hx=>?_,h2,h3⟩
 ·have:=B.box
  unfold Cel at this ⊢
  rw [ch b (by rw [this]; simp) hv]; exact this
 ·have hx1:=h1 x o hx
  rw [ch x (by rw [hx1]; simp) fun p hp' e=>by
   have:=h2 _ (hp p hp')
   rw [e,hx] at this; cases this]
  exact hx1
theorem BoxL.setN {H0 H:Hp} {b:Nat} {u:Lu} {l:Ls} (B:BoxL H0 H b u l) {i:Int} (h0:0≤i) (h1:i<l.num.length) (y:Int) {H':Hp} (m:Mine 1 fI 3 H0 H' u.n (l.num.set i.toNat y)) (ch:Chg H H' u.n):BoxL H0 H' b u ⟨l.ck,l.ord,l.num.set i.toNat y⟩:=by
 obtain ⟨c1,c2⟩:=B.chg ch B.nn fun p hp=>.inr (.inr ⟨p,hp,rfl⟩)
 exact ⟨c1,c2,B.o.chg ch B.sep,m,B.sep,Hp.le_chg B.le ch B.n.isNew,B.nb,B.ob,B.nn⟩
theorem BoxL.setO {H0 H:Hp} {b:Nat} {u:Lu} {l:Ls} (B:BoxL H0 H b u l) {o':List Int} {H':Hp} (m:Mine 1 fI 3 H0 H' u.o o') (ch:Chg H H' u.o):BoxL H0 H' b u ⟨l.ck,o',l.num⟩:=by
 obtain ⟨c1,c2⟩:=B.chg ch B.ob fun p hp=>.inr (.inl ⟨p,hp,rfl⟩)
 exact ⟨c1,c2,m,B.n.chg ch B.sep.symm,B.sep,Hp.le_chg B.le ch B.o.isNew,B.nb,B.ob,B.nn⟩
set_option maxHeartbeats 1000000 in
theorem make1B {H0 H:Hp} {b:Nat} {u:Lu} {l:Ls} {i:Int} (B:BoxL H0 H b u l) (fl:fitL l) (h0:0≤i) (h1:i+1<l.ord.length) (h2:i<l.num.length) :
  Go.Eng.Fn Tryz.prog F.klist_make1 #[.pointer (some ⟨b,0,none⟩),.int .i64 i] H fun v H'=>v=.int .i64 (certifyK l.ck (pairM l.ord i.toNat)).2.2∧Hp.le H0 H'∧((certifyK l.ck (pairM l.ord i.toNat)).2.2=0 →
   ∃ w:Cu,BoxL H0 H' b ⟨w,u.o,u.n⟩ ⟨(certifyK l.ck (pairM l.ord i.toNat)).1,l.ord,l.num.set i.toNat (certifyK l.ck (pairM l.ord i.toNat)).2.1⟩):=by
 have f1:=fl.o
 have box:=B.box
 refine klist_make1_vc ⟨_,_,u.k.f,_,u.k.cl,u.k.u1,u.k.u2,u.k.u3,u.k.u4,u.k.u5,u.k.d,⟨Cel.at box 0,Cel.at box 1,Cel.at box 2,Cel.at box 3,Cel.at box 4,Cel.at box 5,Cel.at box 6,Cel.at box 7,Cel.at box 8,Cel.at box 9,Cel.at box 10⟩,u.o,Cel.at box 11,_,_,klistPair B.o.rdI h0 h1 f1,
  (clockCertifyN B.rk fl.k).mono fun v H16 ⟨w,hv,l16,rw',nw⟩=>⟨l16,_,_,w.f,_,w.cl,w.u1,w.u2,w.u3,w.u4,w.u5,w.d,_,_,hv,fun he=>?_,fun he=>?_⟩⟩
 ·exact ⟨rfl,Hp.le_trans B.le l16,fun h=>by rw [h] at he; simp at he⟩
 have he:(certifyK l.ck (pairM l.ord i.toNat)).2.2=0:=by simpa using he
 rw [he]
 generalize certifyK l.ck (pairM l.ord i.toNat)=r at *
 refine ⟨u.n,Cel.at (box.le l16) 12,B.clock l16 rw' nw fun H31 B31=>?_⟩
 refine ⟨B31.n.rdI.inS h0 h2,?_⟩
 refine B31.n.setI h0 h2 r.2.1 fun H32 m32 ch32=>?_
 have B32:=B31.setN h0 h2 r.2.1 m32 ch32
 exact ⟨rfl,B32.le,fun _=>⟨w,B32⟩⟩

theorem BoxL.clockC {H0 H H1:Hp} {b:Nat} {u:Lu} {l:Ls} (B:BoxL H0 H b u l) {w:Cu} {c:Ck} (hl:Hp.le H H1) (rw':RdK H1 w c) (nw:NewW H w) {Q:Hp→Prop}
  (hQ:∀ H',BoxL H0 H' b ⟨w,u.o,u.n⟩ ⟨c,l.ord,l.num⟩→Chg H1 H' ⟨some ⟨b,0,none⟩,0,0⟩→Q H') :
  H1.canStore ⟨b,0,none⟩ 0 [.int .i64 c.now.1,.int .i64 c.now.2,w.f.v,.int .i64 c.ct.next,w.cl.v,w.u1.v,w.u2.v,w.u3.v,w.u4.v,w.u5.v,w.d.v]∧∀ H',H'=H1.store ⟨b,0,none⟩ 0 [.int .i64 c.now.1,.int .i64 c.now.2,w.f.v,.int .i64 c.ct.next,w.cl.v,w.u1.v,w.u2.v,w.u3.v,w.u4.v,w.u5.v,w.d.v]→Q H':=by
 obtain ⟨can,st⟩:=store_row (b:=b) (off:=0) [.int .i64 c.now.1,.int .i64 c.now.2,w.f.v,.int .i64 c.ct.next,w.cl.v,w.u1.v,w.u2.v,w.u3.v,w.u4.v,w.u5.v,w.d.v] 0 H1 _ (B.up hl).box (by show 0+0+11≤13; omega)
 obtain ⟨q1,q2⟩:=B.clock hl rw' nw (Q:=fun H'=>BoxL H0 H' b ⟨w,u.o,u.n⟩ ⟨c,l.ord,l.num⟩) fun _ h=>h
 exact ⟨can,fun H' e=>hQ H' (q2 H' e) fun x hx hn=>by rw [e,st]; exact Hp.put_ne _ _ fun e=>hn _ rfl e.symm⟩
theorem retireK_held {c:Ck} {n:Int} (ok:okK c) (h:0≤atC c.ct n):retireK c n=(goneK c n,0):=by
 unfold retireK; rw [if_pos ok,if_neg (by omega)]
def stepC (l:Ls) (i:Nat) (n:Int):Ck:=if n=0 then failedK l.ck else if n=1 then goneIf (failedK l.ck) (decide (0<i)) (l.num.getD (i-1) 0) else swapC l i
theorem BoxL.retire {H0 H:Hp} {b:Nat} {u:Lu} {l:Ls} (B:BoxL H0 H b u l) (fl:fitL l) {n:Int} (ok:okK l.ck) (h:0≤atC l.ck.ct n) {rs:Slc} {xs:List Int} (rr:RdI H rs xs) (sb:∀ p,rs.a=some p→p.block≠b) {Q:Hp→Prop}
    (hQ:∀ w H',BoxL H0 H' b ⟨w,u.o,u.n⟩ ⟨goneK l.ck n,l.ord,l.num⟩→RdI H' rs xs→Q H') :
    Go.Eng.Fn Tryz.prog F.clock_Retire #[ckV u.k l.ck,.int .i64 n] H fun v57 H58=>Hp.le H H58 ∧
    ∃ n59 n60:Int,∃ u61:Slc,∃ n62:Int,∃ u63 u64 u65 u66 u67 u68 u69:Slc,∃ n70:Int,v57=.tuple #[vCk n59 n60 u61 n62 u63 u64 u65 u66 u67 u68 u69,.int .i64 n70] ∧
     H58.canStore ⟨b,0,none⟩ 0 [.int .i64 n59,.int .i64 n60,u61.v,.int .i64 n62,u63.v,u64.v,u65.v,u66.v,u67.v,u68.v,u69.v]∧∀ H71,H71=H58.store ⟨b,0,none⟩ 0 [.int .i64 n59,.int .i64 n60,u61.v,.int .i64 n62,u63.v,u64.v,u65.v,u66.v,u67.v,u68.v,u69.v]→Q H71:=by
  have q:=clockRetireN (n:=n) B.rk fl.k
  rw [retireK_held ok h] at q
  refine q.mono fun v H58 ⟨w,hv,l58,rw',nw⟩=>⟨l58,_,_,w.f,_,w.cl,w.u1,w.u2,w.u3,w.u4,w.u5,w.d,_,hv,?_⟩
  exact B.clockC l58 rw' nw fun H71 B71 ch=>hQ w H71 B71 ((rr.le l58).chg ch fun p q hp hq=>by cases hq; exact sb p hp)
theorem makesN_succ {l:Ls} {a n:Nat} (h:(makesN l a n).2=0):makesN l a (n+1)=madeL (makesN l a n).1 (a+n):=by
 show (if (makesN l a n).2=0 then _ else _)=_
 rw [if_pos h]

set_option maxHeartbeats 2000000 in
theorem swapB {H0 H:Hp} {b:Nat} {u:Lu} {l:Ls} {to:Int × Int} (B:BoxL H0 H b u l) (w:okM l) (hu:untilK l.ck to=0) (ht:fitR to) :
  Go.Eng.Fn Tryz.prog F.klist_swap #[.pointer (some ⟨b,0,none⟩),raW to] H fun v H'=>∃ (c:Bool) (e:Int),v=.tuple #[.bool c,.int .i64 e] ∧
   (waitsK l.ck to=false→c=false∧e=0∧BoxL H0 H' b u l) ∧
   (waitsK l.ck to=true→∃ i,SwapOk l to i∧e=(swapL l i).2∧Hp.le H0 H'∧(e=0→c=true∧∃ w,BoxL H0 H' b ⟨w,u.o,u.n⟩ (swapL l i).1)):=by
 have box:=B.box
 have fl:=w.fit
 have f1:=fl.o
 obtain ⟨_,ot,hle⟩:=untilK_zero.1 hu
 cases hw:waitsK l.ck to with
 | false =>
  have e:failK l.ck to=(.zero,e0,(0,0),6):=by unfold failK; rw [if_pos hu,if_neg (by rw [hw]; simp)]
  have q:=clockFailN B.rk fl.k ht
  rw [e] at q
  dsimp only at q
  refine klist_swap_vc ⟨_,_,u.k.f,_,u.k.cl,u.k.u1,u.k.u2,u.k.u3,u.k.u4,u.k.u5,u.k.d,⟨Cel.at box 0,Cel.at box 1,Cel.at box 2,Cel.at box 3,Cel.at box 4,Cel.at box 5,Cel.at box 6,Cel.at box 7,Cel.at box 8,Cel.at box 9,Cel.at box 10⟩,
   q.mono fun v H13 ⟨w1,hv,l13,_,_⟩=>⟨l13,_,_,w1.f,_,w1.cl,w1.u1,w1.u2,w1.u3,w1.u4,w1.u5,w1.d,_,_,_,_,_,_,_,_,hv,fun _=>⟨_,_,rfl,fun _=>⟨rfl,rfl,B.up l13⟩,fun h=>by cases h⟩,fun h=>by simp at h⟩⟩
 | true =>
  obtain ⟨i,s⟩:=swap_ok w ot hw
  have nl:=w.nl
  have slt:=s.lt
  have e:failK l.ck to=(failedK l.ck,hp l.ck.ag.heap 0,topX l,0):=by unfold failK; rw [if_pos hu,if_pos hw]; rfl
  have q:=clockFailN B.rk fl.k ht
  rw [e] at q
  dsimp only at q
  refine klist_swap_vc ⟨_,_,u.k.f,_,u.k.cl,u.k.u1,u.k.u2,u.k.u3,u.k.u4,u.k.u5,u.k.d,⟨Cel.at box 0,Cel.at box 1,Cel.at box 2,Cel.at box 3,Cel.at box 4,Cel.at box 5,Cel.at box 6,Cel.at box 7,Cel.at box 8,Cel.at box 9,Cel.at box 10⟩,
   q.mono fun v H13 ⟨w1,hv,l13,rw1,nw1⟩=>⟨l13,_,_,w1.f,_,w1.cl,w1.u1,w1.u2,w1.u3,w1.u4,w1.u5,w1.d,_,_,_,_,_,_,_,_,hv,fun h=>by simp at h,fun _=>?_⟩⟩
  refine B.clock l13 rw1 nw1 fun H33 B33=>?_
  have Bo33:Mine 1 fI 3 H0 H33 u.o l.ord:=B33.o
  have qi:=indexInts (id:=(topX l).2) Bo33.rdI (by omega)
  rw [s.pos] at qi
  refine ⟨u.o,Cel.at B33.box 11,_,qi,by unfold inI; omega,by unfold inI; omega,fun b36 H37 hb36 hH37=>?_⟩
  have l37:Hp.le H33 H37:=Hp.le_new (Hp.le_refl _) hb36 hH37
  have rw36:RdI H37 ⟨some ⟨b36,0,none⟩,2,2⟩ [(i:Int)-1,(i:Int)+1]:=rdConst (k:=1) (f:=fI) (fun _=>rfl) hH37 rfl rfl
  have hbb:b36≠b:=fun e=>by rw [e] at hb36; have:=B33.box; unfold Cel at this; rw [this] at hb36; cases hb36
  have sb:∀ p,(⟨some ⟨b36,0,none⟩,2,2⟩:Slc).a=some p→p.block≠b:=fun p hp=>by cases hp; exact hbb
  refine ⟨fun n H'=>0≤n∧n≤2∧(∃ w2,BoxL H0 H' b ⟨w2,u.o,u.n⟩ ⟨stepC l i n,l.ord,l.num⟩)∧RdI H' ⟨some ⟨b36,0,none⟩,2,2⟩ [(i:Int)-1,(i:Int)+1],fun n _=>(2-n).toNat,⟨by omega,by omega,⟨w1,B33.up l37⟩,rw36⟩,fun n H41 ⟨n0,n1,⟨w2,B2⟩,r2⟩=>⟨fun hn=>?_,fun hn=>?_⟩⟩
  ·have hn:n<2:=of_decide_eq_true hn
   have Bn:Mine 1 fI 3 H0 H41 u.n l.num:=B2.n
   have lN:(u.n.n:Int)=l.num.length:=congrArg Nat.cast Bn.rdI.len
   refine ⟨r2.inS n0 (by simp; omega),_,RdI.get r2 n0 (by simp; omega),u.n,fun _=>Cel.at B2.box 12,?_⟩
   have hcase:n=0∨n=1:=by omega
   rcases hcase with rfl | rfl
   ·have ev:([(i:Int)-1,(i:Int)+1]:List Int).getD (0:Int).toNat 0=(i:Int)-1:=rfl
    rw [ev,lN]
    have ec:stepC l i 1=goneIf (failedK l.ck) (decide (0<i)) (l.num.getD (i-1) 0):=rfl
    refine ⟨fun hc=>?_,fun hc=>?_⟩
    ·simp only [Bool.and_eq_true,decide_eq_true_eq] at hc
     have h0:0<i:=by omega
     have box2:=B2.box
     refine ⟨_,_,w2.f,_,w2.cl,w2.u1,w2.u2,w2.u3,w2.u4,w2.u5,w2.d,⟨Cel.at box2 0,Cel.at box2 1,Cel.at box2 2,Cel.at box2 3,Cel.at box2 4,Cel.at box2 5,Cel.at box2 6,Cel.at box2 7,Cel.at box2 8,Cel.at box2 9,Cel.at box2 10⟩,u.n,Cel.at box2 12,Bn.rdI.inS (by omega) (by omega),_,RdI.get Bn.rdI (by omega) (by omega),?_⟩
     rw [show ((i:Int)-1).toNat=i-1 by omega]
     have fl2:fitL ⟨failedK l.ck,l.ord,l.num⟩:=⟨s.held0.fit,fl.o,fl.n⟩
     refine B2.retire (n:=l.num.getD (i-1) 0) fl2 s.held0 (s.held1 h0) r2 sb fun w3 H71 B71 r71=>⟨by unfold inI; omega,⟨by omega,by omega,⟨w3,?_⟩,r71⟩,by show (2-(0+1):Int).toNat<(2-0:Int).toNat; omega⟩
     show BoxL H0 H71 b _ ⟨stepC l i 1,l.ord,l.num⟩
     rw [ec,decide_eq_true h0]
     exact B71
    ·have h0:¬ 0<i:=fun h0=>by
      have:(decide ((i:Int)-1≥0)&&decide ((i:Int)-1<l.num.length))=true:=by simp only [Bool.and_eq_true,decide_eq_true_eq]; omega
      rw [this] at hc; cases hc
     refine ⟨by unfold inI; omega,⟨by omega,by omega,⟨w2,?_⟩,r2⟩,by show (2-(0+1):Int).toNat<(2-0:Int).toNat; omega⟩
     show BoxL H0 H41 b _ ⟨stepC l i 1,l.ord,l.num⟩
     rw [ec,decide_eq_false h0]
     exact B2
   ·have ev:([(i:Int)-1,(i:Int)+1]:List Int).getD (1:Int).toNat 0=(i:Int)+1:=rfl
    rw [ev,lN]
    have ec:stepC l i 2=goneIf (goneIf (failedK l.ck) (decide (0<i)) (l.num.getD (i-1) 0)) (decide (i+1<l.num.length)) (l.num.getD (i+1) 0):=rfl
    refine ⟨fun hc=>?_,fun hc=>?_⟩
    ·simp only [Bool.and_eq_true,decide_eq_true_eq] at hc
     have h0:i+1<l.num.length:=by omega
     have box2:=B2.box
     refine ⟨_,_,w2.f,_,w2.cl,w2.u1,w2.u2,w2.u3,w2.u4,w2.u5,w2.d,⟨Cel.at box2 0,Cel.at box2 1,Cel.at box2 2,Cel.at box2 3,Cel.at box2 4,Cel.at box2 5,Cel.at box2 6,Cel.at box2 7,Cel.at box2 8,Cel.at box2 9,Cel.at box2 10⟩,u.n,Cel.at box2 12,Bn.rdI.inS (by omega) (by omega),_,RdI.get Bn.rdI (by omega) (by omega),?_⟩
     rw [show ((i:Int)+1).toNat=i+1 by omega]
     obtain ⟨k1,k2⟩:=s.held2 h0
     have fl2:fitL ⟨goneIf (failedK l.ck) (decide (0<i)) (l.num.getD (i-1) 0),l.ord,l.num⟩:=⟨k1.fit,fl.o,fl.n⟩
     refine B2.retire (l:=⟨goneIf (failedK l.ck) (decide (0<i)) (l.num.getD (i-1) 0),l.ord,l.num⟩) (n:=l.num.getD (i+1) 0) fl2 k1 k2 r2 sb fun w3 H71 B71 r71=>⟨by unfold inI; omega,⟨by omega,by omega,⟨w3,?_⟩,r71⟩,by show (2-(1+1):Int).toNat<(2-1:Int).toNat; omega⟩
     show BoxL H0 H71 b _ ⟨stepC l i 2,l.ord,l.num⟩
     rw [ec,decide_eq_true h0]
     exact B71
    ·have h0:¬ i+1<l.num.length:=fun h0=>by
      have:(decide ((i:Int)+1≥0)&&decide ((i:Int)+1<l.num.length))=true:=by simp only [Bool.and_eq_true,decide_eq_true_eq]; omega
      rw [this] at hc; cases hc
     refine ⟨by unfold inI; omega,⟨by omega,by omega,⟨w2,?_⟩,r2⟩,by show (2-(1+1):Int).toNat<(2-1:Int).toNat; omega⟩
     show BoxL H0 H41 b _ ⟨stepC l i 2,l.ord,l.num⟩
     rw [ec,decide_eq_false h0]
     exact B2
  ·have hn:n=2:=by
    have:¬ n<2:=of_decide_eq_false hn
    omega
   subst hn
   have B2:BoxL H0 H41 b ⟨w2,u.o,u.n⟩ ⟨swapC l i,l.ord,l.num⟩:=B2
   clear r2
   have box2:=B2.box
   have Bo:Mine 1 fI 3 H0 H41 u.o l.ord:=B2.o
   refine ⟨u.o,Cel.at box2 11,u.o,Cel.at box2 11,by unfold inI; omega,u.o,Cel.at box2 11,by unfold inI; omega,Bo.rdI.inS (by omega) (by omega),_,RdI.get Bo.rdI (by omega) (by omega),u.o,Cel.at box2 11,Bo.rdI.inS (by omega) (by omega),_,RdI.get Bo.rdI (by omega) (by omega),Bo.rdI.inS (by omega) (by omega),?_⟩
   rw [show ((i:Int)+1).toNat=i+1 by omega,Int.toNat_natCast]
   refine Bo.setI (by omega) (by omega) _ fun H78 m78 ch78=>?_
   have B78:=B2.setO m78 ch78
   rw [Int.toNat_natCast] at B78
   have Bo78:Mine 1 fI 3 H0 H78 u.o (l.ord.set i (l.ord.getD (i+1) 0)):=B78.o
   refine ⟨Bo78.rdI.inS (by omega) (by simp; omega),Bo78.setI (by omega) (by simp; omega) _ fun H79 m79 ch79=>?_⟩
   have B79:=B78.setO m79 ch79
   rw [show ((i:Int)+1).toNat=i+1 by omega] at B79
   have B79:BoxL H0 H79 b ⟨w2,u.o,u.n⟩ ⟨swapC l i,swapO l.ord i,l.num⟩:=B79
   have em:(if (i:Int)-1>0 then (i:Int)-1 else 0)=((i-1:Nat):Int):=by split <;> omega
   rw [em]
   have mle:=s.mid.le
   have mhl:=s.mid.hl
   have mhl:min (i+2) l.num.length≤l.num.length:=mhl
   refine ⟨by unfold inI; omega,fun k H'=>((i-1:Nat):Int)≤k∧k≤(min (i+2) l.num.length:Nat)∧(makesN ⟨swapC l i,swapO l.ord i,l.num⟩ (i-1) (k.toNat-(i-1))).2=0∧∃ w3,BoxL H0 H' b ⟨w3,u.o,u.n⟩ (makesN ⟨swapC l i,swapO l.ord i,l.num⟩ (i-1) (k.toNat-(i-1))).1,fun k _=>((min (i+2) l.num.length:Nat)-k).toNat,⟨Int.le_refl _,by omega,?_,w2,?_⟩,fun k H83 ⟨k0,k1,kz,w3,B3⟩=>⟨by unfold inI; omega,?_⟩⟩
   ·rw [Int.toNat_natCast,Nat.sub_self]; rfl
   ·rw [Int.toNat_natCast,Nat.sub_self]; exact B79
   obtain ⟨kn,rfl⟩:∃ kn:Nat,k=kn:=⟨k.toNat,by omega⟩
   rw [Int.toNat_natCast] at kz B3
   obtain ⟨a1,a2,a3,a4,a5⟩:=s.mid.makes (kn-(i-1)) (by omega) kz
   rw [show i-1+(kn-(i-1))=kn by omega] at a1
   have a5n:(makesN ⟨swapC l i,swapO l.ord i,l.num⟩ (i-1) (kn-(i-1))).1.num.length=l.num.length:=a5
   have lN:(u.n.n:Int)=l.num.length:=congrArg Nat.cast ((show u.n.n=_ from B3.n.rdI.len).trans a5n)
   refine ⟨u.n,Cel.at B3.box 12,?_⟩
   rw [lN]
   have emin:(if (l.num.length:Int)<(i:Int)+2 then (l.num.length:Int) else (i:Int)+2)=((min (i+2) l.num.length:Nat):Int):=by split <;> omega
   rw [emin]
   refine ⟨fun hk=>?_,fun hk=>?_⟩
   ·have hk:(kn:Int)<(min (i+2) l.num.length:Nat):=of_decide_eq_true hk
    have a5':(makesN ⟨swapC l i,swapO l.ord i,l.num⟩ (i-1) (kn-(i-1))).1.num.length=l.num.length:=a5
    have a4':(makesN ⟨swapC l i,swapO l.ord i,l.num⟩ (i-1) (kn-(i-1))).1.ord.length=l.ord.length:=by rw [a4]; exact swapO_len _ _
    have ec:=a1.certify (i:=kn) (by omega)
    refine (make1B B3 a1.fit (i:=(kn:Int)) (by omega) (by omega) (by omega)).mono fun v H86 ⟨hv,l86,hok⟩=>⟨_,hv,?_⟩
    rw [Int.toNat_natCast,ec] at hok ⊢
    have es:=makesN_succ kz
    rw [show i-1+(kn-(i-1))=kn by omega] at es
    refine ⟨fun he=>⟨_,_,rfl,fun h=>(by cases h),fun _=>⟨i,s,?_,l86,fun h0=>?_⟩⟩,fun he=>?_⟩
    ·have he:(addK (makesN ⟨swapC l i,swapO l.ord i,l.num⟩ (i-1) (kn-(i-1))).1.ck (pairM (makesN ⟨swapC l i,swapO l.ord i,l.num⟩ (i-1) (kn-(i-1))).1.ord kn)).2.2≠0:=by simpa using he
     have em:(madeL (makesN ⟨swapC l i,swapO l.ord i,l.num⟩ (i-1) (kn-(i-1))).1 kn).2=(addK (makesN ⟨swapC l i,swapO l.ord i,l.num⟩ (i-1) (kn-(i-1))).1.ck (pairM (makesN ⟨swapC l i,swapO l.ord i,l.num⟩ (i-1) (kn-(i-1))).1.ord kn)).2.2:=by unfold madeL; rw [if_neg he]
     have e9:swapL l i=makesN ⟨swapC l i,swapO l.ord i,l.num⟩ (i-1) (kn-(i-1)+1):=makesN_err (n:=kn-(i-1)+1) (by rw [es,em]; exact he) _ (by omega)
     rw [e9,es,em]
    ·rw [h0] at he; simp at he
    ·have he:(addK (makesN ⟨swapC l i,swapO l.ord i,l.num⟩ (i-1) (kn-(i-1))).1.ck (pairM (makesN ⟨swapC l i,swapO l.ord i,l.num⟩ (i-1) (kn-(i-1))).1.ord kn)).2.2=0:=by simpa using he
     obtain ⟨w4,B4⟩:=hok he
     have em:madeL (makesN ⟨swapC l i,swapO l.ord i,l.num⟩ (i-1) (kn-(i-1))).1 kn=(⟨(addK (makesN ⟨swapC l i,swapO l.ord i,l.num⟩ (i-1) (kn-(i-1))).1.ck (pairM (makesN ⟨swapC l i,swapO l.ord i,l.num⟩ (i-1) (kn-(i-1))).1.ord kn)).1,(makesN ⟨swapC l i,swapO l.ord i,l.num⟩ (i-1) (kn-(i-1))).1.ord,(makesN ⟨swapC l i,swapO l.ord i,l.num⟩ (i-1) (kn-(i-1))).1.num.set kn (addK (makesN ⟨swapC l i,swapO l.ord i,l.num⟩ (i-1) (kn-(i-1))).1.ck (pairM (makesN ⟨swapC l i,swapO l.ord i,l.num⟩ (i-1) (kn-(i-1))).1.ord kn)).2.1⟩,0):=by unfold madeL; rw [if_pos he]
     refine ⟨by unfold inI; omega,⟨by omega,by omega,?_,w4,?_⟩,by show (((min (i+2) l.num.length:Nat):Int)-((kn:Int)+1)).toNat<(((min (i+2) l.num.length:Nat):Int)-(kn:Int)).toNat; omega⟩
     ·rw [show ((kn:Int)+1).toNat-(i-1)=kn-(i-1)+1 by omega,es,em]
     ·rw [show ((kn:Int)+1).toNat-(i-1)=kn-(i-1)+1 by omega,es,em]
      exact B4
   ·have hk:kn=min (i+2) l.num.length:=by
     have:¬ (kn:Int)<(min (i+2) l.num.length:Nat):=of_decide_eq_false hk
     omega
    subst hk
    exact ⟨_,_,rfl,fun h=>(by cases h),fun _=>⟨i,s,kz.symm,B3.le,fun _=>⟨rfl,w3,B3⟩⟩⟩

theorem _root_.Go.Eng.Fn.frame {P:Program} {f:FuncId} {args:Array Value} {H Hb:Hp} {post:Value→Hp→Prop} (h:Go.Eng.Fn P f args H post) (hl:Hp.le H Hb) :
  Go.Eng.Fn P f args Hb fun v H''=>∃ H',post v H'∧Hp.le H' H''∧(∀ b,H b=none→Hb b≠none→H' b=none)∧(Hp.le H H'→Hp.le Hb H''):=by
 intro w hv
 refine (h w (hv.mono hl)).mono fun e w' ⟨v,H',he,ht,hq⟩=>?_
 have hn:∀ b,H b=none→Hb b≠none→H' b=none:=fun b h1 h2=>ht.none (hv.lt h2) h1
 refine ⟨v,fun k=>if (H k).isNone&&(Hb k).isSome then Hb k else H' k,he,⟨fun b o hb=>?_,fun b hb hbn=>?_,fun b hb=>?_,ht.size,ht.os,ht.tape,ht.output,ht.drawn⟩,H',hq,fun b o hb=>?_,hn,fun hle b o hb=>?_⟩
 ·split at hb
  ·rename_i hc
   simp only [Bool.and_eq_true,Option.isNone_iff_eq_none] at hc
   rw [ht.frame b (hv.lt (by rw [hb]; simp)) hc.1]; exact hv b o hb
  ·exact ht.view b o hb
 ·have:H b=none:=by
   cases hx:H b with
   | none=>rfl
   | some o=>rw [hl b o hx] at hbn; cases hbn
  exact ht.frame b hb this
 ·split at hb
  ·exact .inl hb
  ·rcases ht.fresh b hb with h1 | h1
   ·left
    cases hx:H b with
    | none=>exact absurd hx h1
    | some o=>rw [hl b o hx]; simp
   ·exact .inr h1
 ·show (if (H b).isNone&&(Hb b).isSome then Hb b else H' b)=some o
  split
  ·rename_i hc
   simp only [Bool.and_eq_true,Option.isNone_iff_eq_none] at hc
   have:=hn b hc.1 (by intro e; rw [e] at hc; simp at hc)
   rw [this] at hb; cases hb
  ·exact hb
 ·show (if (H b).isNone&&(Hb b).isSome then Hb b else H' b)=some o
  split
  ·exact hb
  ·rename_i hc
   cases hx:H b with
   | none=>rw [hx,hb] at hc; simp at hc
   | some o'=>have:=hl b o' hx; rw [hb] at this; cases this; exact hle b o hx


theorem untilK_vals (c:Ck) (t:Int × Int):untilK c t=0∨untilK c t=44∨untilK c t=8:=by
 unfold untilK; split
 ·split
  ·exact .inr (.inl rfl)
  ·exact .inl rfl
 ·exact .inr (.inr rfl)
theorem advM_bad {l:Ls} {to:Int × Int} (h:¬ okLs l):advM l to=(.zero,0,8):=by unfold advM; rw [if_neg h]
theorem advM_until {l:Ls} {to:Int × Int} (ok:okLs l) (h:untilK l.ck to≠0):advM l to=(.zero,0,untilK l.ck to):=by unfold advM; rw [if_pos ok,if_neg h]
theorem advM_go {l:Ls} {to:Int × Int} (ok:okLs l) (h:untilK l.ck to=0):advM l to=if (advR l to).2.2=0 then (movedL (advR l to).1 to,(advR l to).2.1,0) else (.zero,0,(advR l to).2.2):=by unfold advM; rw [if_pos ok,if_pos h]

set_option maxHeartbeats 2000000 in
theorem klistAdvance {H:Hp} {u:Lu} {l:Ls} {to:Int × Int} (r:RdL H u l) (fl:fitL l) (ht:fitR to) :
  Go.Eng.Fn Tryz.prog F.klist_Advance #[lsV u l,raW to] H fun v H'=>∃ w:Lu,v=.tuple #[lsV w (advM l to).1,.int .i64 (advM l to).2.1,.int .i64 (advM l to).2.2]∧Hp.le H H'∧RdL H' w (advM l to).1:=by
 have f1:=fl.o; have f2:=fl.n
 refine klist_Advance_vc ⟨_,klistCheck r fl,fun hc=>?_,fun hc=>?_⟩
 ·have hn:¬ okLs l:=fun ok=>by rw [chkLs_ok ok] at hc; simp at hc
  rw [advM_bad hn,chkLs_bad hn]
  exact ⟨zlu,rfl,Hp.le_refl _,RdL.zero⟩
 have ok:okLs l:=chkLs_zero.1 (by simpa using hc)
 refine (clockMove r.k fl.k ht).mono fun v H3 ⟨w0,hv,l3,r3⟩=>⟨_,_,w0.f,_,w0.cl,w0.u1,w0.u2,w0.u3,w0.u4,w0.u5,w0.d,_,hv,fun he=>?_,fun he=>?_⟩
 ·have hu:untilK l.ck to≠0:=fun hu=>by
   unfold moveK at he
   rw [if_pos hu] at he
   by_cases hw:waitsK l.ck to=true
   ·rw [if_pos hw] at he; simp at he
   ·rw [if_neg hw] at he; simp at he
  have em:(moveK l.ck to).2=untilK l.ck to:=by unfold moveK; rw [if_neg hu]
  rw [em,advM_until ok hu]
  exact ⟨zlu,rfl,l3,RdL.zero⟩
 have hu:untilK l.ck to=0:=by
  by_cases hu:untilK l.ck to=0
  ·exact hu
  ·exfalso
   have em:(moveK l.ck to).2=untilK l.ck to:=by unfold moveK; rw [if_neg hu]
   rw [em] at he
   rcases untilK_vals l.ck to with h | h | h
   ·exact hu h
   ·rw [h] at he; simp at he
   ·rw [h] at he; simp at he
 obtain ⟨_,ot,_⟩:=untilK_zero.1 hu
 rw [advM_go ok hu]
 refine (clone_int (r.o.le l3) (by omega)).mono fun v H17 ⟨so,hv,l17,m1⟩=>⟨l17,so,hv,?_⟩
 refine (clone_int (r.n.le (Hp.le_trans l3 l17)) (by omega)).mono fun v H20 ⟨sn,hv,l20,m2⟩=>⟨l20,sn,hv,fun b22 H23 hb22 hH23=>?_⟩
 have l23:Hp.le H20 H23:=Hp.le_new (Hp.le_refl _) hb22 hH23
 have down:∀ {G:Hp} {x:Nat},Hp.le G H20→H20 x=none→G x=none:=fun {G x} hl hx=>by
  cases hy:G x with
  | none=>rfl
  | some o=>rw [hl x o hy] at hx; cases hx
 have l320:=Hp.le_trans l17 l20
 have B0:BoxL H3 H23 b22 ⟨u.k,so,sn⟩ l:=by
  refine ⟨by rw [hH23]; exact Cel.put,⟨H3,Hp.le_trans l320 l23,fun x hx=>?_,r.k.le l3⟩,(m1.le l20).le l23,(m2.low l17).le l23,Sep.of m1.isOld m2.isNew,Hp.le_trans l320 l23,down l320 hb22,fun p hp e=>?_,fun p hp e=>?_⟩
  ·rcases hx with rfl | ⟨p,hp,rfl⟩ | ⟨p,hp,rfl⟩
   ·exact down l320 hb22
   ·exact m1.isNew p hp
   ·exact (m2.low l17).isNew p hp
  ·have:=(m1.le l20).isOld p hp; rw [e] at this; exact this hb22
  ·have:=m2.isOld p hp; rw [e] at this; exact this hb22
 have lH3:∀ {H':Hp},Hp.le H3 H'→Hp.le H H':=fun h=>Hp.le_trans l3 h
 refine ⟨fun n H'=>∃ l' w,AdvInv l to n l'∧BoxL H3 H' b22 ⟨w,so,sn⟩ l',fun n _=>((potL l to:Int)-n).toNat,⟨l,u.k,AdvInv.start ok hu,B0⟩,fun n H27 ⟨l',w,a,B⟩=>?_⟩
 have n0:=a.n0; have pt:=a.pot
 have ps:=potL_small ok.weak to
 refine (swapB B a.m a.u ht).mono fun v H29 ⟨c,e,hv,q1,q2⟩=>⟨c,e,hv,?_⟩
 cases hw:waitsK l'.ck to with
 | false =>
  obtain ⟨rfl,rfl,B1⟩:=q1 hw
  have B1:BoxL H3 H29 b22 ⟨w,so,sn⟩ l':=B1
  refine ⟨fun h=>by simp at h,fun _=>⟨fun _=>?_,fun h=>(by cases h)⟩⟩
  have box:=B1.box
  have fl':=a.m.fit
  have em:moveK l'.ck to=({ l'.ck with now:=to },0):=by unfold moveK; rw [if_pos a.u,if_neg (by rw [hw]; simp)]
  have q:=clockMoveN B1.rk fl'.k ht
  rw [em] at q
  refine ⟨_,_,w.f,_,w.cl,w.u1,w.u2,w.u3,w.u4,w.u5,w.d,⟨Cel.at box 0,Cel.at box 1,Cel.at box 2,Cel.at box 3,Cel.at box 4,Cel.at box 5,Cel.at box 6,Cel.at box 7,Cel.at box 8,Cel.at box 9,Cel.at box 10⟩,q.mono fun v H44 ⟨w1,hv,l44,rw1,nw1⟩=>⟨l44,_,_,w1.f,_,w1.cl,w1.u1,w1.u2,w1.u3,w1.u4,w1.u5,w1.d,_,hv,B1.clock l44 rw1 nw1 fun H57 B57=>?_⟩⟩
  have bx:=B57.box
  refine ⟨_,_,w1.f,_,w1.cl,w1.u1,w1.u2,w1.u3,w1.u4,w1.u5,w1.d,so,sn,⟨Cel.at bx 0,Cel.at bx 1,Cel.at bx 2,Cel.at bx 3,Cel.at bx 4,Cel.at bx 5,Cel.at bx 6,Cel.at bx 7,Cel.at bx 8,Cel.at bx 9,Cel.at bx 10,Cel.at bx 11,Cel.at bx 12⟩,?_⟩
  have ea:=a.stop hw
  rw [ea,if_pos rfl]
  exact ⟨⟨w1,so,sn⟩,rfl,lH3 B57.le,⟨B57.rk,B57.o.rdI,B57.n.rdI⟩⟩
 | true =>
  obtain ⟨i,s,es,le,q3⟩:=q2 hw
  refine ⟨fun h=>?_,fun h=>?_⟩
  ·have h:e≠0:=by simpa using h
   have ea:=a.fail hw s (by rw [← es]; exact h)
   rw [ea,← es,if_neg h]
   exact ⟨zlu,rfl,lH3 le,RdL.zero⟩
  ·have h:e=0:=by simpa using h
   obtain ⟨rfl,w1,B1⟩:=q3 h
   obtain ⟨a1,pl⟩:=a.next hw s (by rw [← es]; exact h)
   have a1p:=a1.pot
   refine ⟨fun h=>(by cases h),fun _=>⟨by unfold inI; omega,⟨_,w1,a1,B1⟩,by show ((potL l to:Int)-(n+1)).toNat<((potL l to:Int)-n).toNat; omega⟩⟩


/-! ### Step -/
end Go.Proofs.YtlbdpklikfddlaaGreat
end
