/- The engine, parts LP, LR, LS, LT, LU, put together. Conditions: none. -/
import Derived.Test.YtjhbjjdipmpgjaaGreatPL4
import Derived.Test.YtjhbjjdipmpgjaaGreatVgClock
import Derived.Test.YtjhbjjdipmpgjaaGreatVgKlist
import Derived.Test.YtjhbjjdipmpgjaaGreatFs
import Derived.Test.YtjhbjjdipmpgjaaGreatPA1
import Derived.Test.YtjhbjjdipmpgjaaGreatPN2
set_option linter.unusedVariables false
section
/- Clocks' results are slices of their own; a list in a box whose slices are its own; make1 on it. Conditions: none. -/
set_option maxRecDepth 100000
open Go Go.Eng Go.Proofs
namespace Go.Proofs.YtjhbjjdipmpgjaaGreat

theorem NewW.low {H H':Hp} {w:Cu} (n:NewW H' w) (hl:Hp.le H H'):NewW H w:=⟨n.f.low hl,n.cl.low hl,n.u1.low hl,n.u2.low hl,n.u3.low hl,n.u4.low hl,n.u5.low hl,n.d.low hl⟩
theorem clockDropN {H:Hp} {u:Cu} {c:Ck} {n:Int} (r:RdK H u c) (ok:okK c) :
  Go.Eng.Fn Tryz.prog F.clock_drop #[ckV u c,.int .i64 n] H fun v H'=>∃ w:Cu,v=.tuple #[ckV w (dropK c n).1,raW (dropK c n).2.1,.int .i64 (dropK c n).2.2]∧Hp.le H H'∧RdK H' w (dropK c n).1∧NewW H w:=by
 have fk:=ok.fit
 have hr:removeC c.ct n=if atC c.ct n<0 then (.zero,(0,0),6) else (withoutC c.ct n,(getD3 c.ct.list (atC c.ct n)).2,0):=by
  unfold removeC getC
  rw [if_pos ok.ct]
  split <;> rfl
 refine clock_drop_vc ((certRemove (c:=c.ct) (n:=n) r.cl).mono fun v H2 ⟨a,hv,nc⟩=>⟨_,a,_,_,_,hv,?_⟩)
 unfold dropK
 by_cases hat:atC c.ct n<0
 ·rw [hr,if_pos hat] at nc ⊢
  rw [if_pos hat]
  exact ⟨fun _=>⟨zu,rfl,nc.le,RdK.zero,NewW.zero⟩,fun h=>by simp at h⟩
 rw [hr,if_neg hat] at nc ⊢
 rw [if_neg hat]
 refine ⟨fun h=>by simp at h,fun _=>?_⟩
 have r2:=r.le nc.le
 refine (clockTwinN r2 fk).mono fun v H9 ⟨w,hv,l9,rw9,m9,s9,nw⟩=>⟨_,_,w.f,_,w.cl,w.u1,w.u2,w.u3,w.u4,w.u5,w.d,hv,?_⟩
 have r9:=r2.le l9
 have nw:=nw.low nc.le
 obtain ⟨i,b,hq,hb1,hb2⟩:=clockPlace (n:=n) r9 ok
 refine ⟨i,b,hq,fun hb=>?_,fun hb=>?_⟩
 ·obtain ⟨h0,rfl⟩:=hb1 hb
  obtain ⟨ps,e⟩:=ok.evs
  obtain ⟨x,hx,hxn,hg,hlt⟩:=e.pos.1 h0
  have hxh:=e.mem_heap hx
  have hh:(c.due.getD (posD c n).toNat (0,0,0)).2=x.h:=by
   have:getD3 c.due (posD c n)=nh x:=hg
   unfold getD3 at this; rw [this]; rfl
  have g2:=r9.due.gD2 h0 hlt
  rw [hh] at g2
  have hrem:=removeA_at ok.ag hxh
  refine ⟨r9.due.inS h0 hlt,_,_,g2,(agendaRemove (h:=x.h) r9.ag fk.ag).mono fun v H26 ⟨v1,v2,v3,v4,v5,hv,na⟩=>⟨na.le,v1,v2,v3,v4,v5,_,_,_,_,_,_,hv,?_⟩⟩
  rw [hrem] at na ⊢
  refine ⟨fun h=>by simp at h,fun _=>⟨by have:=fk.due; unfold inI; omega,?_⟩⟩
  refine (delete_due (Hp.le_trans l9 na.le) (m9.le na.le) h0 hlt).mono fun v H39 ⟨d,hv,l39,md,cd⟩=>⟨d,hv,⟨w.f,a,v1,v2,v3,v4,v5,d⟩,?_,Hp.le_trans nc.le l39,?_,?_⟩
  ·unfold goneK; rw [if_pos h0]
  ·have eg:goneK c n={ c with ct:=withoutC c.ct n,ag:=removedA c.ag x.h,due:=c.due.filter fun d=>d.1 != n }:=by
    unfold goneK; rw [if_pos h0,hg]; rfl
   rw [eg]
   refine ⟨(rw9.f.le na.le).chg cd s9,((nc.rd.le l9).le na.le).chg cd (Sep.of nc.list.isOld m9.isNew),RdA.chgN na cd m9.isOld,?_⟩
   have:=md.rdD
   rw [ok.dueCut h0] at this
   exact this
  ·have l09:=Hp.le_trans nc.le l9
   exact ⟨nw.f,nc.list.isNew,na.tb.uses.isNew.low l09,na.tb.used.isNew.low l09,na.tb.free.isNew.low l09,na.heap.isNew.low l09,na.wh.isNew.low l09,md.isNew.low nc.le⟩
 ·have hb:=hb2 hb
  have eg:goneK c n={ c with ct:=withoutC c.ct n }:=by unfold goneK; rw [if_neg (by omega)]
  rw [eg]
  exact ⟨⟨w.f,a,w.u1,w.u2,w.u3,w.u4,w.u5,w.d⟩,rfl,Hp.le_trans nc.le l9,⟨rw9.f,nc.rd.le l9,rw9.ag,rw9.due⟩,nw.f,nc.list.isNew,nw.u1,nw.u2,nw.u3,nw.u4,nw.u5,nw.d⟩
theorem clockRetireN {H:Hp} {u:Cu} {c:Ck} {n:Int} (r:RdK H u c) (fk:fitK c) :
  Go.Eng.Fn Tryz.prog F.clock_Retire #[ckV u c,.int .i64 n] H fun v H'=>∃ w:Cu,v=.tuple #[ckV w (retireK c n).1,.int .i64 (retireK c n).2]∧Hp.le H H'∧RdK H' w (retireK c n).1∧NewW H w:=by
 refine clock_Retire_vc ⟨_,clockCheck r fk,fun hc=>?_,fun hc=>?_⟩
 ·have hk:¬ okK c:=fun ok=>by rw [chkK_ok ok] at hc; simp at hc
  rw [chkK_bad hk]
  unfold retireK; rw [if_neg hk]
  exact ⟨zu,rfl,Hp.le_refl _,RdK.zero,NewW.zero⟩
 ·have ok:okK c:=chkK_zero.1 (by simpa using hc)
  rw [retireK_drop ok]
  exact (clockDropN r ok).mono fun v H3 ⟨w,hv,l3,r3,n3⟩=>⟨_,_,w.f,_,w.cl,w.u1,w.u2,w.u3,w.u4,w.u5,w.d,_,_,_,hv,w,rfl,l3,r3,n3⟩
/-! ### A list in a box -/
noncomputable def hideP (S:Nat→Prop) (H:Hp):Hp:=fun k=>@ite _ (S k) (Classical.propDecidable _) none (H k)
theorem hideP_in {S:Nat→Prop} {H:Hp} {k:Nat} (h:S k):hideP S H k=none:=if_pos h
theorem hideP_out {S:Nat→Prop} {H:Hp} {k:Nat} (h:¬ S k):hideP S H k=H k:=if_neg h
theorem hideP_le (S:Nat→Prop) (H:Hp):Hp.le (hideP S H) H:=fun k o hk=>by
 by_cases h:S k
 ·rw [hideP_in h] at hk; cases hk
 ·rw [hideP_out h] at hk; exact hk
theorem _root_.Go.Eng.Rd.hideP {α:Type} {k:Nat} {f:α→List Value} {H:Hp} {u:Slc} {xs:List α} {S:Nat→Prop} (h:Rd k f H u xs) (hs:∀ p,u.a=some p→¬ S p.block):Rd k f (Go.Proofs.YtjhbjjdipmpgjaaGreat.hideP S H) u xs:=by
 refine ⟨h.len,h.cap,h.isS,fun i x hx j v hv=>?_⟩
 have hc:=h.cell i x hx j v hv
 obtain ⟨p,hp⟩:=Option.isSome_iff_exists.1 (h.isS (by intro e; rw [e] at hx; simp at hx))
 have hb:((eaddr u.a k i).add j).block=p.block:=by
  rw [hp]; unfold eaddr Addr.add; simp only; split <;> (try split) <;> rfl
 rw [Hp.at_eq (H':=Go.Proofs.YtjhbjjdipmpgjaaGreat.hideP S H) (H:=H) (by rw [hb]; exact hideP_out (hs p hp))]
 exact hc
theorem RdK.hideP {H0 H:Hp} {u:Cu} {c:Ck} {S:Nat→Prop} (r:RdK H u c) (n:NewW H0 u) (hS:∀ b,S b→H0 b≠none):RdK (Go.Proofs.YtjhbjjdipmpgjaaGreat.hideP S H) u c:=by
 have s:∀ {v:Slc},New H0 v→∀ p,v.a=some p→¬ S p.block:=fun {v} nv p hp hb=>hS _ hb (nv p hp)
 exact ⟨r.f.hideP (s n.f),r.cl.hideP (s n.cl),⟨⟨r.ag.tb.uses.hideP (s n.u1),r.ag.tb.used.hideP (s n.u2),r.ag.tb.free.hideP (s n.u3)⟩,r.ag.heap.hideP (s n.u4),r.ag.wh.hideP (s n.u5)⟩,r.due.hideP (s n.d)⟩
def prot (b:Nat) (o n:Slc) (x:Nat):Prop:=x=b∨(∃ p,o.a=some p∧p.block=x)∨(∃ p,n.a=some p∧p.block=x)
structure BoxL (H0 H:Hp) (b:Nat) (u:Lu) (l:Ls):Prop where
 box:Cel H b (lsC u l) 41
 k:∃ G,Hp.le G H∧(∀ x,prot b u.o u.n x→G x=none)∧RdK G u.k l.ck
 o:Mine 1 fI 3 H0 H u.o l.ord
 n:Mine 1 fI 3 H0 H u.n l.num
 sep:Sep u.o u.n
 le:Hp.le H0 H
 nb:H0 b=none
 ob:∀ p,u.o.a=some p→p.block≠b
 nn:∀ p,u.n.a=some p→p.block≠b
theorem BoxL.rk {H0 H:Hp} {b:Nat} {u:Lu} {l:Ls} (B:BoxL H0 H b u l):RdK H u.k l.ck:=by
 obtain ⟨G,h1,_,h3⟩:=B.k
 exact h3.le h1
theorem BoxL.up {H0 H H':Hp} {b:Nat} {u:Lu} {l:Ls} (B:BoxL H0 H b u l) (h:Hp.le H H'):BoxL H0 H' b u l:=by
 obtain ⟨G,h1,h2,h3⟩:=B.k
 exact ⟨B.box.le h,⟨G,Hp.le_trans h1 h,h2,h3⟩,B.o.le h,B.n.le h,B.sep,Hp.le_trans B.le h,B.nb,B.ob,B.nn⟩
theorem BoxL.used {H0 H:Hp} {b:Nat} {u:Lu} {l:Ls} (B:BoxL H0 H b u l):∀ x,prot b u.o u.n x→H x≠none:=by
 rintro x (rfl | ⟨p,hp,rfl⟩ | ⟨p,hp,rfl⟩)
 ·rw [B.box]; simp
 ·exact B.o.isOld p hp
 ·exact B.n.isOld p hp
theorem BoxL.clock {H0 H H1:Hp} {b:Nat} {u:Lu} {l:Ls} (B:BoxL H0 H b u l) {w:Cu} {c:Ck} (hl:Hp.le H H1) (rw':RdK H1 w c) (nw:NewW H w) {Q:Hp→Prop}
  (hQ:∀ H',BoxL H0 H' b ⟨w,u.o,u.n⟩ ⟨c,l.ord,l.num⟩→Q H') :
  H1.canStore ⟨b,0,none⟩ 0 [.int .i64 c.now.1,.int .i64 c.now.2,w.f.v,.int .i64 c.ct.next,w.cl.v,w.u1.v,w.u2.v,w.u3.v,w.u4.v,w.u5.v,w.d.v]∧∀ H',H'=H1.store ⟨b,0,none⟩ 0 [.int .i64 c.now.1,.int .i64 c.now.2,w.f.v,.int .i64 c.ct.next,w.cl.v,w.u1.v,w.u2.v,w.u3.v,w.u4.v,w.u5.v,w.d.v]→Q H':=by
 have B1:=B.up hl
 obtain ⟨can,st⟩:=store_row (b:=b) (off:=0) (T:=41) [.int .i64 c.now.1,.int .i64 c.now.2,w.f.v,.int .i64 c.ct.next,w.cl.v,w.u1.v,w.u2.v,w.u3.v,w.u4.v,w.u5.v,w.d.v] 0 H1 _ B1.box (by show 0+0+11≤13; omega)
 refine ⟨can,fun H' e=>hQ H' ?_⟩
 have e':H'=H1.put b (.cells (lsC ⟨w,u.o,u.n⟩ ⟨c,l.ord,l.num⟩) 41 (0,0)):=e.trans st
 have ch:Chg H1 H' ⟨some ⟨b,0,none⟩,0,0⟩:=fun x hx hn=>by rw [e']; exact Hp.put_ne _ _ fun e=>hn _ rfl e.symm
 refine ⟨by rw [e']; exact Cel.put,⟨hideP (prot b u.o u.n) H1,?_,fun x hx=>hideP_in hx,RdK.hideP rw' nw B.used⟩,B1.o.chg ch (fun p q hp hq=>by cases hq; exact B.ob p hp),B1.n.chg ch (fun p q hp hq=>by cases hq; exact B.nn p hp),B.sep,Hp.le_chg B1.le ch (fun p hp=>by cases hp; exact B.nb),B.nb,B.ob,B.nn⟩
 intro x o hx
 by_cases hs:prot b u.o u.n x
 ·rw [hideP_in hs] at hx; cases hx
 ·rw [hideP_out hs] at hx
  rw [e',Hp.put_ne _ _ (fun e=>hs (.inl e))]; exact hx
theorem BoxL.chg {H0 H H':Hp} {b:Nat} {u:Lu} {l:Ls} (B:BoxL H0 H b u l) {v:Slc} (ch:Chg H H' v) (hv:∀ p,v.a=some p→p.block≠b) (hp:∀ p,v.a=some p→prot b u.o u.n p.block):Cel H' b (lsC u l) 41∧∃ G,Hp.le G H'∧(∀ x,prot b u.o u.n x→G x=none)∧RdK G u.k l.ck:=by
 obtain ⟨G,h1,h2,h3⟩:=B.k
 refine ⟨?_,G,fun x o hx=>?_,h2,h3⟩
 ·have:=B.box
  unfold Cel at this ⊢
  rw [ch b (by rw [this]; simp) hv]; exact this
 ·have hx1:=h1 x o hx
  rw [ch x (by rw [hx1]; simp) fun p hp' e=>by
   have:=h2 _ (hp p hp')
   rw [e,hx] at this; cases this]
  exact hx1
theorem BoxL.setN {H0 H:Hp} {b:Nat} {u:Lu} {l:Ls} (B:BoxL H0 H b u l) {i:Int} (h0:0≤i) (h1:i<l.num.length) (y:Int) {H':Hp} (m:Mine 1 fI 3 H0 H' u.n (l.num.set i.toNat y)) (ch:Chg H H' u.n):BoxL H0 H' b u ⟨l.ck,l.ord,l.num.set i.toNat y⟩:=by
 obtain ⟨c1,c2⟩:=B.chg ch B.nn fun p hp=>.inr (.inr ⟨p,hp,rfl⟩)
 exact ⟨c1,c2,B.o.chg ch B.sep,m,B.sep,Hp.le_chg B.le ch B.n.isNew,B.nb,B.ob,B.nn⟩

theorem BoxL.clockC {H0 H H1:Hp} {b:Nat} {u:Lu} {l:Ls} (B:BoxL H0 H b u l) {w:Cu} {c:Ck} (hl:Hp.le H H1) (rw':RdK H1 w c) (nw:NewW H w) {Q:Hp→Prop}
  (hQ:∀ H',BoxL H0 H' b ⟨w,u.o,u.n⟩ ⟨c,l.ord,l.num⟩→Chg H1 H' ⟨some ⟨b,0,none⟩,0,0⟩→Q H') :
  H1.canStore ⟨b,0,none⟩ 0 [.int .i64 c.now.1,.int .i64 c.now.2,w.f.v,.int .i64 c.ct.next,w.cl.v,w.u1.v,w.u2.v,w.u3.v,w.u4.v,w.u5.v,w.d.v]∧∀ H',H'=H1.store ⟨b,0,none⟩ 0 [.int .i64 c.now.1,.int .i64 c.now.2,w.f.v,.int .i64 c.ct.next,w.cl.v,w.u1.v,w.u2.v,w.u3.v,w.u4.v,w.u5.v,w.d.v]→Q H':=by
 obtain ⟨can,st⟩:=store_row (b:=b) (off:=0) [.int .i64 c.now.1,.int .i64 c.now.2,w.f.v,.int .i64 c.ct.next,w.cl.v,w.u1.v,w.u2.v,w.u3.v,w.u4.v,w.u5.v,w.d.v] 0 H1 _ (B.up hl).box (by show 0+0+11≤13; omega)
 obtain ⟨q1,q2⟩:=B.clock hl rw' nw (Q:=fun H'=>BoxL H0 H' b ⟨w,u.o,u.n⟩ ⟨c,l.ord,l.num⟩) fun _ h=>h
 exact ⟨can,fun H' e=>hQ H' (q2 H' e) fun x hx hn=>by rw [e,st]; exact Hp.put_ne _ _ fun e=>hn _ rfl e.symm⟩
theorem retireK_held {c:Ck} {n:Int} (ok:okK c) (h:0≤atC c.ct n):retireK c n=(goneK c n,0):=by
 unfold retireK; rw [if_pos ok,if_neg (by omega)]
theorem BoxL.retire {H0 H:Hp} {b:Nat} {u:Lu} {l:Ls} (B:BoxL H0 H b u l) (fl:fitL l) {n:Int} (ok:okK l.ck) (h:0≤atC l.ck.ct n) {rs:Slc} {xs:List Int} (rr:RdI H rs xs) (sb:∀ p,rs.a=some p→p.block≠b) {Q:Hp→Prop}
    (hQ:∀ w H',BoxL H0 H' b ⟨w,u.o,u.n⟩ ⟨goneK l.ck n,l.ord,l.num⟩→RdI H' rs xs→Q H') :
    Go.Eng.Fn Tryz.prog F.clock_Retire #[ckV u.k l.ck,.int .i64 n] H fun v57 H58=>Hp.le H H58 ∧
    ∃ n59 n60:Int,∃ u61:Slc,∃ n62:Int,∃ u63 u64 u65 u66 u67 u68 u69:Slc,∃ n70:Int,v57=.tuple #[vCk n59 n60 u61 n62 u63 u64 u65 u66 u67 u68 u69,.int .i64 n70] ∧
     H58.canStore ⟨b,0,none⟩ 0 [.int .i64 n59,.int .i64 n60,u61.v,.int .i64 n62,u63.v,u64.v,u65.v,u66.v,u67.v,u68.v,u69.v]∧∀ H71,H71=H58.store ⟨b,0,none⟩ 0 [.int .i64 n59,.int .i64 n60,u61.v,.int .i64 n62,u63.v,u64.v,u65.v,u66.v,u67.v,u68.v,u69.v]→Q H71:=by
  have q:=clockRetireN (n:=n) B.rk fl.k
  rw [retireK_held ok h] at q
  refine q.mono fun v H58 ⟨w,hv,l58,rw',nw⟩=>⟨l58,_,_,w.f,_,w.cl,w.u1,w.u2,w.u3,w.u4,w.u5,w.d,_,hv,?_⟩
  exact B.clockC l58 rw' nw fun H71 B71 ch=>hQ w H71 B71 ((rr.le l58).chg ch fun p q hp hq=>by cases hq; exact sb p hp)
theorem makesN_succ {l:Ls} {a n:Nat} (h:(makesN l a n).2=0):makesN l a (n+1)=madeL (makesN l a n).1 (a+n):=by
 show (if (makesN l a n).2=0 then _ else _)=_
 rw [if_pos h]


theorem _root_.Go.Eng.Fn.frame {P:Program} {f:FuncId} {args:Array Value} {H Hb:Hp} {post:Value→Hp→Prop} (h:Go.Eng.Fn P f args H post) (hl:Hp.le H Hb) :
  Go.Eng.Fn P f args Hb fun v H''=>∃ H',post v H'∧Hp.le H' H''∧(∀ b,H b=none→Hb b≠none→H' b=none)∧(Hp.le H H'→Hp.le Hb H''):=by
 intro w hv
 refine (h w (hv.mono hl)).mono fun e w' ⟨v,H',he,ht,hq⟩=>?_
 have hn:∀ b,H b=none→Hb b≠none→H' b=none:=fun b h1 h2=>ht.none (hv.lt h2) h1
 refine ⟨v,fun k=>if (H k).isNone&&(Hb k).isSome then Hb k else H' k,he,⟨fun b o hb=>?_,fun b hb hbn=>?_,fun b hb=>?_,ht.size,ht.os,ht.tape,ht.output,ht.drawn⟩,H',hq,fun b o hb=>?_,hn,fun hle b o hb=>?_⟩
 ·split at hb
  ·rename_i hc
   simp only [Bool.and_eq_true,Option.isNone_iff_eq_none] at hc
   rw [ht.frame b (hv.lt (by rw [hb]; simp)) hc.1]; exact hv b o hb
  ·exact ht.view b o hb
 ·have:H b=none:=by
   cases hx:H b with
   | none=>rfl
   | some o=>rw [hl b o hx] at hbn; cases hbn
  exact ht.frame b hb this
 ·split at hb
  ·exact .inl hb
  ·rcases ht.fresh b hb with h1 | h1
   ·left
    cases hx:H b with
    | none=>exact absurd hx h1
    | some o=>rw [hl b o hx]; simp
   ·exact .inr h1
 ·show (if (H b).isNone&&(Hb b).isSome then Hb b else H' b)=some o
  split
  ·rename_i hc
   simp only [Bool.and_eq_true,Option.isNone_iff_eq_none] at hc
   have:=hn b hc.1 (by intro e; rw [e] at hc; simp at hc)
   rw [this] at hb; cases hb
  ·exact hb
 ·show (if (H b).isNone&&(Hb b).isSome then Hb b else H' b)=some o
  split
  ·exact hb
  ·rename_i hc
   cases hx:H b with
   | none=>rw [hx,hb] at hc; simp at hc
   | some o'=>have:=hl b o' hx; rw [hb] at this; cases this; exact hle b o hx



/-! ### Step -/
end Go.Proofs.YtjhbjjdipmpgjaaGreat
end
