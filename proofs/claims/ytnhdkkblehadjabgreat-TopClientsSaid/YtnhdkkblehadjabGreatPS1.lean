/- The engine, parts LP, LR, LS, LT, LU, put together. Conditions: none. -/
import Derived.Test.YtnhdkkblehadjabGreatPL4
import Derived.Test.YtnhdkkblehadjabGreatVgClock
import Derived.Test.YtnhdkkblehadjabGreatVgKlist
import Derived.Test.YtnhdkkblehadjabGreatFs
import Derived.Test.YtnhdkkblehadjabGreatPA1
import Derived.Test.YtnhdkkblehadjabGreatPN2
set_option linter.unusedVariables false
section
/- Clocks' results are slices of their own; a list in a box whose slices are its own; make1 on it. Conditions: none. -/
set_option maxRecDepth 100000
open Go Go.Eng Go.Proofs
namespace Go.Proofs.YtnhdkkblehadjabGreat

theorem z1h.low{H H':Hp}{w:Cu}(n:z1h H' w)(hl:Hp.le H H'):z1h H w:=⟨n.f.low hl,n.cl.low hl,n.u1.low hl,n.u2.low hl,n.u3.low hl,n.u4.low hl,n.u5.low hl,n.d.low hl⟩
theorem zln{H:Hp}{u:Cu}{c:Ck}{n:Int}(r:RdK H u c)(ok:okK c) :
  Go.Eng.Fn Tryz.prog F.f126 #[ckV u c,.int .i64 n] H λv H'=>∃w:Cu,v=.tuple #[ckV w (zrb c n).1,raW (zrb c n).2.1,.int .i64 (zrb c n).2.2]/\Hp.le H H'/\RdK H' w (zrb c n).1/\z1h H w:=by
 have fk:=ok.fit
 have hr:yt7 c.ct n=if atC c.ct n<0 then (.zero,(0,0),6) else (x8h c.ct n,(y01 c.ct.list (atC c.ct n)).2,0):=by
  unfold yt7 zzx
  rw[if_pos ok.ct]
  split <;> rfl
 refine vc126 ((zd8 (c:=c.ct) (n:=n) r.cl).mono λv H2 ⟨a,hv,nc⟩=>⟨_,a,_,_,_,hv,?_⟩)
 unfold zrb
 by_cases hat:atC c.ct n<0
 ·rw[hr,if_pos hat] at nc ⊢
  rw[if_pos hat]
  exact⟨λ_=>⟨zu,rfl,nc.le,RdK.zero,z1h.zero⟩,λh=>by simp at h⟩
 rw[hr,if_neg hat] at nc ⊢
 rw[if_neg hat]
 refine⟨λh=>by simp at h,λ_=>?_⟩
 have r2:=r.le nc.le
 refine(zlz r2 fk).mono λv H9 ⟨w,hv,l9,rw9,m9,s9,nw⟩=>⟨_,_,w.f,_,w.cl,w.u1,w.u2,w.u3,w.u4,w.u5,w.d,hv,?_⟩
 have r9:=r2.le l9
 have nw:=nw.low nc.le
 obtain⟨i,b,hq,hb1,hb2⟩:=zlt (n:=n) r9 ok
 refine⟨i,b,hq,λhb=>?_,λhb=>?_⟩
 ·obtain⟨h0,rfl⟩:=hb1 hb
  obtain⟨ps,e⟩:=ok.evs
  obtain⟨x,hx,hxn,hg,hlt⟩:=e.pos.1 h0
  have hxh:=e.mem_heap hx
  have hh:(c.due.getD (ynj c n).toNat (0,0,0)).2=x.h:=by
   have:y01 c.due (ynj c n)=nh x:=hg
   unfold y01 at this;rw[this];rfl
  have g2:=r9.due.gD2 h0 hlt
  rw[hh] at g2
  have hrem:=yt5 ok.ag hxh
  refine⟨r9.due.inS h0 hlt,_,_,g2,(z4z (h:=x.h) r9.ag fk.ag).mono λv H26 ⟨v1,v2,v3,v4,v5,hv,na⟩=>⟨na.le,v1,v2,v3,v4,v5,_,_,_,_,_,_,hv,?_⟩⟩
  rw[hrem] at na ⊢
  refine⟨λh=>by simp at h,λ_=>⟨by have:=fk.due;unfold inI;omega,?_⟩⟩
  refine(zqk (Hp.le_trans l9 na.le) (m9.le na.le) h0 hlt).mono λv H39 ⟨d,hv,l39,md,cd⟩=>⟨d,hv,⟨w.f,a,v1,v2,v3,v4,v5,d⟩,?_,Hp.le_trans nc.le l39,?_,?_⟩
  ·unfold y10;rw[if_pos h0]
  ·have eg:y10 c n={ c with ct:=x8h c.ct n,ag:=yt9 c.ag x.h,due:=c.due.filter λd=>d.1 != n }:=by
    unfold y10;rw[if_pos h0,hg];rfl
   rw[eg]
   refine⟨(rw9.f.le na.le).chg cd s9,((nc.rd.le l9).le na.le).chg cd (Sep.of nc.list.isOld m9.isNew),RdA.chgN na cd m9.isOld,?_⟩
   have:=md.rdD
   rw[ok.dueCut h0] at this
   exact this
  ·have l09:=Hp.le_trans nc.le l9
   exact⟨nw.f,nc.list.isNew,na.tb.uses.isNew.low l09,na.tb.used.isNew.low l09,na.tb.free.isNew.low l09,na.heap.isNew.low l09,na.wh.isNew.low l09,md.isNew.low nc.le⟩
 ·have hb:=hb2 hb
  have eg:y10 c n={ c with ct:=x8h c.ct n }:=by unfold y10;rw[if_neg (by omega)]
  rw[eg]
  exact⟨⟨w.f,a,w.u1,w.u2,w.u3,w.u4,w.u5,w.d⟩,rfl,Hp.le_trans nc.le l9,⟨rw9.f,nc.rd.le l9,rw9.ag,rw9.due⟩,nw.f,nc.list.isNew,nw.u1,nw.u2,nw.u3,nw.u4,nw.u5,nw.d⟩
theorem zlx{H:Hp}{u:Cu}{c:Ck}{n:Int}(r:RdK H u c)(fk:zx9 c) :
  Go.Eng.Fn Tryz.prog F.f70 #[ckV u c,.int .i64 n] H λv H'=>∃w:Cu,v=.tuple #[ckV w (ytm c n).1,.int .i64 (ytm c n).2]/\Hp.le H H'/\RdK H' w (ytm c n).1/\z1h H w:=by
 refine vc70 ⟨_,zll r fk,λhc=>?_,λhc=>?_⟩
 ·have hk:¬ okK c:=λok=>by rw[zkr ok] at hc;simp at hc
  rw[zkp hk]
  unfold ytm;rw[if_neg hk]
  exact⟨zu,rfl,Hp.le_refl _,RdK.zero,z1h.zero⟩
 ·have ok:okK c:=zks.1 (by simpa using hc)
  rw[ytn ok]
  exact(zln r ok).mono λv H3 ⟨w,hv,l3,r3,n3⟩=>⟨_,_,w.f,_,w.cl,w.u1,w.u2,w.u3,w.u4,w.u5,w.d,_,_,_,hv,w,rfl,l3,r3,n3⟩
theorem zlp{H:Hp}{u:Cu}{c:Ck}{t:Int×Int}(r:RdK H u c)(fk:zx9 c)(ht:zxh t) :
  Go.Eng.Fn Tryz.prog F.f68 #[ckV u c,raW t] H λv H'=>∃w:Cu,v=.tuple #[ckV w (zuu c t).1,evV (zuu c t).2.1,raW (zuu c t).2.2.1,.int .i64 (zuu c t).2.2.2]/\Hp.le H H'/\RdK H' w (zuu c t).1/\z1h H w:=by
 refine vc68 ⟨_,_,zm0 r fk ht,λhc=>⟨λ_=>?_,λh=>by cases h⟩,λhc=>⟨λhe=>?_,λhe=>?_⟩⟩
 ·simp only[Bool.and_eq_true,beq_iff_eq,Bool.not_eq_true',Bool.and_eq_false_iff,decide_eq_false_iff_not] at hc
  have hw:x7r c t=false:=hc.2.resolve_left λh=>h hc.1
  have e:zuu c t=(.zero,e0,(0,0),6):=by unfold zuu;rw[if_pos hc.1,if_neg (by rw[hw];simp)]
  rw[e];exact⟨zu,rfl,Hp.le_refl _,RdK.zero,z1h.zero⟩
 ·have he:x6i c t≠0:=by simpa using he
  have e:zuu c t=(.zero,e0,(0,0),x6i c t):=by unfold zuu;rw[if_neg he]
  rw[e];exact⟨zu,rfl,Hp.le_refl _,RdK.zero,z1h.zero⟩
 ·have he:x6i c t=0:=by simpa using he
  have hw:x7r c t=true:=by rw[he] at hc;simpa using hc
  obtain⟨ok,ot,_⟩:=x6l.1 he
  have h0:=x7t hw
  have hx:=ok.topCert h0
  have e:zuu c t=(zv4 c,hp c.ag.heap 0,(y01 c.ct.list (atC c.ct (hp c.ag.heap 0).no)).2,0):=by unfold zuu;rw[if_pos he,if_pos hw]
  have ed:zrb c (hp c.ag.heap 0).no=(y10 c (hp c.ag.heap 0).no,(y01 c.ct.list (atC c.ct (hp c.ag.heap 0).no)).2,0):=by unfold zrb;rw[if_neg (by omega)]
  rw[e]
  refine⟨r.ag.heap.inS (Int.le_refl _) (by omega),_,_,_,_,_,r.ag.heap.gE (Int.le_refl _) (by omega),?_⟩
  refine(zln (n:=(hp c.ag.heap 0).no) r ok).mono λv H9 ⟨w,hv,l9,r9,n9⟩=>⟨_,_,w.f,_,w.cl,w.u1,w.u2,w.u3,w.u4,w.u5,w.d,_,_,_,hv,λh=>?_,λ_=>⟨w,?_,l9,?_,n9⟩⟩
  ·rw[ed] at h;simp at h
  ·rw[ed];rfl
  ·rw[ed] at r9
   exact⟨r9.f,r9.cl,r9.ag,r9.due⟩
theorem zlr{H:Hp}{u:Cu}{c:Ck}{t:Int×Int}(r:RdK H u c)(fk:zx9 c)(ht:zxh t) :
  Go.Eng.Fn Tryz.prog F.f26 #[ckV u c,raW t] H λv H'=>∃w:Cu,v=.tuple #[ckV w (ycg c t).1,.int .i64 (ycg c t).2]/\Hp.le H H'/\RdK H' w (ycg c t).1/\z1h H w:=by
 refine vc26 ⟨_,_,zm0 r fk ht,λhc=>⟨λ_=>?_,λh=>by cases h⟩,λhc=>⟨λhe=>?_,λhe=>?_⟩⟩
 ·simp only[Bool.and_eq_true,beq_iff_eq,decide_eq_true_eq] at hc
  have e:ycg c t=(.zero,36):=by unfold ycg;rw[if_pos hc.1,if_pos hc.2.2]
  rw[e];exact⟨zu,rfl,Hp.le_refl _,RdK.zero,z1h.zero⟩
 ·have he:x6i c t≠0:=by simpa using he
  have e:ycg c t=(.zero,x6i c t):=by unfold ycg;rw[if_neg he]
  rw[e];exact⟨zu,rfl,Hp.le_refl _,RdK.zero,z1h.zero⟩
 ·have he:x6i c t=0:=by simpa using he
  have hw:x7r c t=false:=by rw[he] at hc;simpa using hc
  have e:ycg c t=({ c with now:=t },0):=by unfold ycg;rw[if_pos he,if_neg (by rw[hw];simp)]
  rw[e]
  exact(zlz r fk).mono λv H9 ⟨w,hv,l9,r9,_,_,n9⟩=>⟨_,_,w.f,_,w.cl,w.u1,w.u2,w.u3,w.u4,w.u5,w.d,hv,w,rfl,l9,⟨r9.f,r9.cl,r9.ag,r9.due⟩,n9⟩

/-! ### A list in a box -/
noncomputable def hideP(S:Nat->Prop)(H:Hp):Hp:=λk=>@ite _ (S k) (Classical.propDecidable _) none (H k)
theorem y2k{S:Nat->Prop}{H:Hp}{k:Nat}(h:S k):hideP S H k=none:=if_pos h
theorem y2m{S:Nat->Prop}{H:Hp}{k:Nat}(h:¬ S k):hideP S H k=H k:=if_neg h
theorem _root_.Go.Eng.Rd.hideP{α:Type}{k:Nat}{f:α->List Value}{H:Hp}{u:Slc}{xs:List α}{S:Nat->Prop}(h:Rd k f H u xs)(hs:∀p,u.a=some p->¬ S p.block):Rd k f (Go.Proofs.YtnhdkkblehadjabGreat.hideP S H) u xs:=by
 refine⟨h.len,h.cap,h.isS,λi x hx j v hv=>?_⟩
 have hc:=h.cell i x hx j v hv
 obtain⟨p,hp⟩:=Option.isSome_iff_exists.1 (h.isS (by intro e;rw[e] at hx;simp at hx))
 have hb:((zrr u.a k i).add j).block=p.block:=by
  rw[hp];unfold zrr Addr.add;simp only;split <;> (try split) <;> rfl
 rw[Hp.at_eq (H':=Go.Proofs.YtnhdkkblehadjabGreat.hideP S H) (H:=H) (by rw[hb];exact y2m (hs p hp))]
 exact hc
theorem RdK.hideP{H0 H:Hp}{u:Cu}{c:Ck}{S:Nat->Prop}(r:RdK H u c)(n:z1h H0 u)(hS:∀b,S b->H0 b≠none):RdK (Go.Proofs.YtnhdkkblehadjabGreat.hideP S H) u c:=by
 have s:∀{v:Slc},New H0 v->∀p,v.a=some p->¬ S p.block:=λ{v} nv p hp hb=>hS _ hb (nv p hp)
 exact⟨r.f.hideP (s n.f),r.cl.hideP (s n.cl),⟨⟨r.ag.tb.uses.hideP (s n.u1),r.ag.tb.used.hideP (s n.u2),r.ag.tb.free.hideP (s n.u3)⟩,r.ag.heap.hideP (s n.u4),r.ag.wh.hideP (s n.u5)⟩,r.due.hideP (s n.d)⟩
def yow(b:Nat)(o n:Slc)(x:Nat):Prop:=x=b\/(∃p,o.a=some p/\p.block=x)\/(∃p,n.a=some p/\p.block=x)
structure z0f(H0 H:Hp)(b:Nat)(u:Lu)(l:Ls):Prop where
 box:Cel H b (lsC u l) 44
 k:∃G,Hp.le G H/\(∀x,yow b u.o u.n x->G x=none)/\RdK G u.k l.ck
 o:Mine 1 fI 3 H0 H u.o l.ord
 n:Mine 1 fI 3 H0 H u.n l.num
 sep:Sep u.o u.n
 le:Hp.le H0 H
 nb:H0 b=none
 ob:∀p,u.o.a=some p->p.block≠b
 nn:∀p,u.n.a=some p->p.block≠b
theorem z0f.rk{H0 H:Hp}{b:Nat}{u:Lu}{l:Ls}(B:z0f H0 H b u l):RdK H u.k l.ck:=by
 obtain⟨G,h1,_,h3⟩:=B.k
 exact h3.le h1
theorem z0f.up{H0 H H':Hp}{b:Nat}{u:Lu}{l:Ls}(B:z0f H0 H b u l)(h:Hp.le H H'):z0f H0 H' b u l:=by
 obtain⟨G,h1,h2,h3⟩:=B.k
 exact⟨B.box.le h,⟨G,Hp.le_trans h1 h,h2,h3⟩,B.o.le h,B.n.le h,B.sep,Hp.le_trans B.le h,B.nb,B.ob,B.nn⟩
theorem z0f.used{H0 H:Hp}{b:Nat}{u:Lu}{l:Ls}(B:z0f H0 H b u l):∀x,yow b u.o u.n x->H x≠none:=by
 rintro x (rfl|⟨p,hp,rfl⟩|⟨p,hp,rfl⟩)
 ·rw[B.box];simp
 ·exact B.o.isOld p hp
 ·exact B.n.isOld p hp
theorem z0f.clock{H0 H H1:Hp}{b:Nat}{u:Lu}{l:Ls}(B:z0f H0 H b u l){w:Cu}{c:Ck}(hl:Hp.le H H1)(rw':RdK H1 w c)(nw:z1h H w){Q:Hp->Prop}
  (hQ:∀H',z0f H0 H' b ⟨w,u.o,u.n⟩ ⟨c,l.ord,l.num⟩->Q H') :
  H1.canStore ⟨b,0,none⟩ 0 [.int .i64 c.now.1,.int .i64 c.now.2,w.f.v,.int .i64 c.ct.next,w.cl.v,w.u1.v,w.u2.v,w.u3.v,w.u4.v,w.u5.v,w.d.v]/\∀H',H'=H1.store ⟨b,0,none⟩ 0 [.int .i64 c.now.1,.int .i64 c.now.2,w.f.v,.int .i64 c.ct.next,w.cl.v,w.u1.v,w.u2.v,w.u3.v,w.u4.v,w.u5.v,w.d.v]->Q H':=by
 have B1:=B.up hl
 obtain⟨can,st⟩:=x1y (b:=b) (off:=0) (T:=44) [.int .i64 c.now.1,.int .i64 c.now.2,w.f.v,.int .i64 c.ct.next,w.cl.v,w.u1.v,w.u2.v,w.u3.v,w.u4.v,w.u5.v,w.d.v] 0 H1 _ B1.box (by show 0+0+11<=13;omega)
 refine⟨can,λH' e=>hQ H' ?_⟩
 have e':H'=H1.put b (.cells (lsC ⟨w,u.o,u.n⟩ ⟨c,l.ord,l.num⟩) 44 (0,0)):=e.trans st
 have ch:Chg H1 H' ⟨some ⟨b,0,none⟩,0,0⟩:=λx hx hn=>by rw[e'];exact Hp.put_ne _ _ λe=>hn _ rfl e.symm
 refine⟨by rw[e'];exact Cel.put,⟨hideP (yow b u.o u.n) H1,?_,λx hx=>y2k hx,RdK.hideP rw' nw B.used⟩,B1.o.chg ch (λp q hp hq=>by cases hq;exact B.ob p hp),B1.n.chg ch (λp q hp hq=>by cases hq;exact B.nn p hp),B.sep,Hp.le_chg B1.le ch (λp hp=>by cases hp;exact B.nb),B.nb,B.ob,B.nn⟩
 intro x o hx
 by_cases hs:yow b u.o u.n x
 ·rw[y2k hs] at hx;cases hx
 ·rw[y2m hs] at hx
  rw[e',Hp.put_ne _ _ (λe=>hs (.inl e))];exact hx
theorem z0f.chg{H0 H H':Hp}{b:Nat}{u:Lu}{l:Ls}(B:z0f H0 H b u l){v:Slc}(ch:Chg H H' v)(hv:∀p,v.a=some p->p.block≠b)(hp:∀p,v.a=some p->yow b u.o u.n p.block):Cel H' b (lsC u l) 44/\∃G,Hp.le G H'/\(∀x,yow b u.o u.n x->G x=none)/\RdK G u.k l.ck:=by
 obtain⟨G,h1,h2,h3⟩:=B.k
 refine⟨?_,G,λx o hx=>?_,h2,h3⟩
 ·have:=B.box
  unfold Cel at this ⊢
  rw[ch b (by rw[this];simp) hv];exact this
 ·have hx1:=h1 x o hx
  rw[ch x (by rw[hx1];simp) λp hp' e=>by
   have:=h2 _ (hp p hp')
   rw[e,hx] at this;cases this]
  exact hx1
theorem z0f.setN{H0 H:Hp}{b:Nat}{u:Lu}{l:Ls}(B:z0f H0 H b u l){i:Int}(h0:0<=i)(h1:i<l.num.length)(y:Int){H':Hp}(m:Mine 1 fI 3 H0 H' u.n (l.num.set i.toNat y))(ch:Chg H H' u.n):z0f H0 H' b u ⟨l.ck,l.ord,l.num.set i.toNat y⟩:=by
 obtain⟨c1,c2⟩:=B.chg ch B.nn λp hp=>.inr (.inr ⟨p,hp,rfl⟩)
 exact⟨c1,c2,B.o.chg ch B.sep,m,B.sep,Hp.le_chg B.le ch B.n.isNew,B.nb,B.ob,B.nn⟩
theorem z0f.setO{H0 H:Hp}{b:Nat}{u:Lu}{l:Ls}(B:z0f H0 H b u l){o':List Int}{H':Hp}(m:Mine 1 fI 3 H0 H' u.o o')(ch:Chg H H' u.o):z0f H0 H' b u ⟨l.ck,o',l.num⟩:=by
 obtain⟨c1,c2⟩:=B.chg ch B.ob λp hp=>.inr (.inl ⟨p,hp,rfl⟩)
 exact⟨c1,c2,m,B.n.chg ch B.sep.symm,B.sep,Hp.le_chg B.le ch B.o.isNew,B.nb,B.ob,B.nn⟩
set_option maxHeartbeats 1000000 in
theorem y8y{H0 H:Hp}{b:Nat}{u:Lu}{l:Ls}{i:Int}(B:z0f H0 H b u l)(fl:zxc l)(h0:0<=i)(h1:i+1<l.ord.length)(h2:i<l.num.length) :
  Go.Eng.Fn Tryz.prog F.f24 #[.pointer (some ⟨b,0,none⟩),.int .i64 i] H λv H'=>v=.int .i64 (zdm l.ck (ykb l.ord i.toNat)).2.2/\Hp.le H0 H'/\((zdm l.ck (ykb l.ord i.toNat)).2.2=0 ->
   ∃w:Cu,z0f H0 H' b ⟨w,u.o,u.n⟩ ⟨(zdm l.ck (ykb l.ord i.toNat)).1,l.ord,l.num.set i.toNat (zdm l.ck (ykb l.ord i.toNat)).2.1⟩):=by
 have f1:=fl.o
 have box:=B.box
 refine vc24 ⟨_,_,u.k.f,_,u.k.cl,u.k.u1,u.k.u2,u.k.u3,u.k.u4,u.k.u5,u.k.d,⟨Cel.at box 0,Cel.at box 1,Cel.at box 2,Cel.at box 3,Cel.at box 4,Cel.at box 5,Cel.at box 6,Cel.at box 7,Cel.at box 8,Cel.at box 9,Cel.at box 10⟩,u.o,Cel.at box 11,_,_,y5x B.o.rdI h0 h1 f1,
  (zlk B.rk fl.k).mono λv H16 ⟨w,hv,l16,rw',nw⟩=>⟨l16,_,_,w.f,_,w.cl,w.u1,w.u2,w.u3,w.u4,w.u5,w.d,_,_,hv,λhe=>?_,λhe=>?_⟩⟩
 ·exact⟨rfl,Hp.le_trans B.le l16,λh=>by rw[h] at he;simp at he⟩
 have he:(zdm l.ck (ykb l.ord i.toNat)).2.2=0:=by simpa using he
 rw[he]
 generalize zdm l.ck (ykb l.ord i.toNat)=r at *
 refine⟨u.n,Cel.at (box.le l16) 12,B.clock l16 rw' nw λH31 B31=>?_⟩
 refine⟨B31.n.rdI.inS h0 h2,?_⟩
 refine B31.n.setI h0 h2 r.2.1 λH32 m32 ch32=>?_
 have B32:=B31.setN h0 h2 r.2.1 m32 ch32
 exact⟨rfl,B32.le,λ_=>⟨w,B32⟩⟩

theorem z0f.clockC{H0 H H1:Hp}{b:Nat}{u:Lu}{l:Ls}(B:z0f H0 H b u l){w:Cu}{c:Ck}(hl:Hp.le H H1)(rw':RdK H1 w c)(nw:z1h H w){Q:Hp->Prop}
  (hQ:∀H',z0f H0 H' b ⟨w,u.o,u.n⟩ ⟨c,l.ord,l.num⟩->Chg H1 H' ⟨some ⟨b,0,none⟩,0,0⟩->Q H') :
  H1.canStore ⟨b,0,none⟩ 0 [.int .i64 c.now.1,.int .i64 c.now.2,w.f.v,.int .i64 c.ct.next,w.cl.v,w.u1.v,w.u2.v,w.u3.v,w.u4.v,w.u5.v,w.d.v]/\∀H',H'=H1.store ⟨b,0,none⟩ 0 [.int .i64 c.now.1,.int .i64 c.now.2,w.f.v,.int .i64 c.ct.next,w.cl.v,w.u1.v,w.u2.v,w.u3.v,w.u4.v,w.u5.v,w.d.v]->Q H':=by
 obtain⟨can,st⟩:=x1y (b:=b) (off:=0) [.int .i64 c.now.1,.int .i64 c.now.2,w.f.v,.int .i64 c.ct.next,w.cl.v,w.u1.v,w.u2.v,w.u3.v,w.u4.v,w.u5.v,w.d.v] 0 H1 _ (B.up hl).box (by show 0+0+11<=13;omega)
 obtain⟨q1,q2⟩:=B.clock hl rw' nw (Q:=λH'=>z0f H0 H' b ⟨w,u.o,u.n⟩ ⟨c,l.ord,l.num⟩) λ_ h=>h
 exact⟨can,λH' e=>hQ H' (q2 H' e) λx hx hn=>by rw[e,st];exact Hp.put_ne _ _ λe=>hn _ rfl e.symm⟩
theorem ytp{c:Ck}{n:Int}(ok:okK c)(h:0<=atC c.ct n):ytm c n=(y10 c n,0):=by
 unfold ytm;rw[if_pos ok,if_neg (by omega)]
def x1g(l:Ls)(i:Nat)(n:Int):Ck:=if n=0 then zv4 l.ck else if n=1 then goneIf (zv4 l.ck) (decide (0<i)) (l.num.getD (i-1) 0) else x2q l i
theorem z0f.retire{H0 H:Hp}{b:Nat}{u:Lu}{l:Ls}(B:z0f H0 H b u l)(fl:zxc l){n:Int}(ok:okK l.ck)(h:0<=atC l.ck.ct n){rs:Slc}{xs:List Int}(rr:RdI H rs xs)(sb:∀p,rs.a=some p->p.block≠b){Q:Hp->Prop}
    (hQ:∀w H',z0f H0 H' b ⟨w,u.o,u.n⟩ ⟨y10 l.ck n,l.ord,l.num⟩->RdI H' rs xs->Q H') :
    Go.Eng.Fn Tryz.prog F.f70 #[ckV u.k l.ck,.int .i64 n] H λv57 H58=>Hp.le H H58 /\
    ∃n59 n60:Int,∃u61:Slc,∃n62:Int,∃u63 u64 u65 u66 u67 u68 u69:Slc,∃n70:Int,v57=.tuple #[vCk n59 n60 u61 n62 u63 u64 u65 u66 u67 u68 u69,.int .i64 n70] /\
     H58.canStore ⟨b,0,none⟩ 0 [.int .i64 n59,.int .i64 n60,u61.v,.int .i64 n62,u63.v,u64.v,u65.v,u66.v,u67.v,u68.v,u69.v]/\∀H71,H71=H58.store ⟨b,0,none⟩ 0 [.int .i64 n59,.int .i64 n60,u61.v,.int .i64 n62,u63.v,u64.v,u65.v,u66.v,u67.v,u68.v,u69.v]->Q H71:=by
  have q:=zlx (n:=n) B.rk fl.k
  rw[ytp ok h] at q
  refine q.mono λv H58 ⟨w,hv,l58,rw',nw⟩=>⟨l58,_,_,w.f,_,w.cl,w.u1,w.u2,w.u3,w.u4,w.u5,w.d,_,hv,?_⟩
  exact B.clockC l58 rw' nw λH71 B71 ch=>hQ w H71 B71 ((rr.le l58).chg ch λp q hp hq=>by cases hq;exact sb p hp)
theorem y95{l:Ls}{a n:Nat}(h:(y92 l a n).2=0):y92 l a (n+1)=y8u (y92 l a n).1 (a+n):=by
 show (if (y92 l a n).2=0 then _ else _)=_
 rw[if_pos h]

set_option maxHeartbeats 2000000 in
theorem x2p{H0 H:Hp}{b:Nat}{u:Lu}{l:Ls}{to:Int×Int}(B:z0f H0 H b u l)(w:okM l)(hu:x6i l.ck to=0)(ht:zxh to) :
  Go.Eng.Fn Tryz.prog F.f28 #[.pointer (some ⟨b,0,none⟩),raW to] H λv H'=>∃(c:Bool)(e:Int),v=.tuple #[.bool c,.int .i64 e] /\
   (x7r l.ck to=false->c=false/\e=0/\z0f H0 H' b u l) /\
   (x7r l.ck to=true->∃i,z2f l to i/\e=(x2y l i).2/\Hp.le H0 H'/\(e=0->c=true/\∃w,z0f H0 H' b ⟨w,u.o,u.n⟩ (x2y l i).1)):=by
 have box:=B.box
 have fl:=w.fit
 have f1:=fl.o
 obtain⟨_,ot,hle⟩:=x6l.1 hu
 cases hw:x7r l.ck to with
 | false =>
  have e:zuu l.ck to=(.zero,e0,(0,0),6):=by unfold zuu;rw[if_pos hu,if_neg (by rw[hw];simp)]
  have q:=zlp B.rk fl.k ht
  rw[e] at q
  dsimp only at q
  refine vc28 ⟨_,_,u.k.f,_,u.k.cl,u.k.u1,u.k.u2,u.k.u3,u.k.u4,u.k.u5,u.k.d,⟨Cel.at box 0,Cel.at box 1,Cel.at box 2,Cel.at box 3,Cel.at box 4,Cel.at box 5,Cel.at box 6,Cel.at box 7,Cel.at box 8,Cel.at box 9,Cel.at box 10⟩,
   q.mono λv H13 ⟨w1,hv,l13,_,_⟩=>⟨l13,_,_,w1.f,_,w1.cl,w1.u1,w1.u2,w1.u3,w1.u4,w1.u5,w1.d,_,_,_,_,_,_,_,_,hv,λ_=>⟨_,_,rfl,λ_=>⟨rfl,rfl,B.up l13⟩,λh=>by cases h⟩,λh=>by simp at h⟩⟩
 | true =>
  obtain⟨i,s⟩:=x3c w ot hw
  have nl:=w.nl
  have slt:=s.lt
  have e:zuu l.ck to=(zv4 l.ck,hp l.ck.ag.heap 0,x5v l,0):=by unfold zuu;rw[if_pos hu,if_pos hw];rfl
  have q:=zlp B.rk fl.k ht
  rw[e] at q
  dsimp only at q
  refine vc28 ⟨_,_,u.k.f,_,u.k.cl,u.k.u1,u.k.u2,u.k.u3,u.k.u4,u.k.u5,u.k.d,⟨Cel.at box 0,Cel.at box 1,Cel.at box 2,Cel.at box 3,Cel.at box 4,Cel.at box 5,Cel.at box 6,Cel.at box 7,Cel.at box 8,Cel.at box 9,Cel.at box 10⟩,
   q.mono λv H13 ⟨w1,hv,l13,rw1,nw1⟩=>⟨l13,_,_,w1.f,_,w1.cl,w1.u1,w1.u2,w1.u3,w1.u4,w1.u5,w1.d,_,_,_,_,_,_,_,_,hv,λh=>by simp at h,λ_=>?_⟩⟩
  refine B.clock l13 rw1 nw1 λH33 B33=>?_
  have Bo33:Mine 1 fI 3 H0 H33 u.o l.ord:=B33.o
  have qi:=y41 (id:=(x5v l).2) Bo33.rdI (by omega)
  rw[s.pos] at qi
  refine⟨u.o,Cel.at B33.box 11,_,qi,by unfold inI;omega,by unfold inI;omega,λb36 H37 hb36 hH37=>?_⟩
  have l37:Hp.le H33 H37:=Hp.le_new (Hp.le_refl _) hb36 hH37
  have rw36:RdI H37 ⟨some ⟨b36,0,none⟩,2,2⟩ [(i:Int)-1,(i:Int)+1]:=yrl (k:=1) (f:=fI) (λ_=>rfl) hH37 rfl rfl
  have hbb:b36≠b:=λe=>by rw[e] at hb36;have:=B33.box;unfold Cel at this;rw[this] at hb36;cases hb36
  have sb:∀p,(⟨some ⟨b36,0,none⟩,2,2⟩:Slc).a=some p->p.block≠b:=λp hp=>by cases hp;exact hbb
  refine⟨λn H'=>0<=n/\n<=2/\(∃w2,z0f H0 H' b ⟨w2,u.o,u.n⟩ ⟨x1g l i n,l.ord,l.num⟩)/\RdI H' ⟨some ⟨b36,0,none⟩,2,2⟩ [(i:Int)-1,(i:Int)+1],λn _=>(2-n).toNat,⟨by omega,by omega,⟨w1,B33.up l37⟩,rw36⟩,λn H41 ⟨n0,n1,⟨w2,B2⟩,r2⟩=>⟨λhn=>?_,λhn=>?_⟩⟩
  ·have hn:n<2:=of_decide_eq_true hn
   have Bn:Mine 1 fI 3 H0 H41 u.n l.num:=B2.n
   have lN:(u.n.n:Int)=l.num.length:=congrArg Nat.cast Bn.rdI.len
   refine⟨r2.inS n0 (by simp;omega),_,RdI.get r2 n0 (by simp;omega),u.n,λ_=>Cel.at B2.box 12,?_⟩
   have hcase:n=0\/n=1:=by omega
   rcases hcase with rfl|rfl
   ·have ev:([(i:Int)-1,(i:Int)+1]:List Int).getD (0:Int).toNat 0=(i:Int)-1:=rfl
    rw[ev,lN]
    have ec:x1g l i 1=goneIf (zv4 l.ck) (decide (0<i)) (l.num.getD (i-1) 0):=rfl
    refine⟨λhc=>?_,λhc=>?_⟩
    ·simp only[Bool.and_eq_true,decide_eq_true_eq] at hc
     have h0:0<i:=by omega
     have box2:=B2.box
     refine⟨_,_,w2.f,_,w2.cl,w2.u1,w2.u2,w2.u3,w2.u4,w2.u5,w2.d,⟨Cel.at box2 0,Cel.at box2 1,Cel.at box2 2,Cel.at box2 3,Cel.at box2 4,Cel.at box2 5,Cel.at box2 6,Cel.at box2 7,Cel.at box2 8,Cel.at box2 9,Cel.at box2 10⟩,u.n,Cel.at box2 12,Bn.rdI.inS (by omega) (by omega),_,RdI.get Bn.rdI (by omega) (by omega),?_⟩
     rw[show ((i:Int)-1).toNat=i-1 by omega]
     have fl2:zxc ⟨zv4 l.ck,l.ord,l.num⟩:=⟨s.held0.fit,fl.o,fl.n⟩
     refine B2.retire (n:=l.num.getD (i-1) 0) fl2 s.held0 (s.held1 h0) r2 sb λw3 H71 B71 r71=>⟨by unfold inI;omega,⟨by omega,by omega,⟨w3,?_⟩,r71⟩,by show (2-(0+1):Int).toNat<(2-0:Int).toNat;omega⟩
     show z0f H0 H71 b _ ⟨x1g l i 1,l.ord,l.num⟩
     rw[ec,decide_eq_true h0]
     exact B71
    ·have h0:¬ 0<i:=λh0=>by
      have:(decide ((i:Int)-1>=0)&&decide ((i:Int)-1<l.num.length))=true:=by simp only[Bool.and_eq_true,decide_eq_true_eq];omega
      rw[this] at hc;cases hc
     refine⟨by unfold inI;omega,⟨by omega,by omega,⟨w2,?_⟩,r2⟩,by show (2-(0+1):Int).toNat<(2-0:Int).toNat;omega⟩
     show z0f H0 H41 b _ ⟨x1g l i 1,l.ord,l.num⟩
     rw[ec,decide_eq_false h0]
     exact B2
   ·have ev:([(i:Int)-1,(i:Int)+1]:List Int).getD (1:Int).toNat 0=(i:Int)+1:=rfl
    rw[ev,lN]
    have ec:x1g l i 2=goneIf (goneIf (zv4 l.ck) (decide (0<i)) (l.num.getD (i-1) 0)) (decide (i+1<l.num.length)) (l.num.getD (i+1) 0):=rfl
    refine⟨λhc=>?_,λhc=>?_⟩
    ·simp only[Bool.and_eq_true,decide_eq_true_eq] at hc
     have h0:i+1<l.num.length:=by omega
     have box2:=B2.box
     refine⟨_,_,w2.f,_,w2.cl,w2.u1,w2.u2,w2.u3,w2.u4,w2.u5,w2.d,⟨Cel.at box2 0,Cel.at box2 1,Cel.at box2 2,Cel.at box2 3,Cel.at box2 4,Cel.at box2 5,Cel.at box2 6,Cel.at box2 7,Cel.at box2 8,Cel.at box2 9,Cel.at box2 10⟩,u.n,Cel.at box2 12,Bn.rdI.inS (by omega) (by omega),_,RdI.get Bn.rdI (by omega) (by omega),?_⟩
     rw[show ((i:Int)+1).toNat=i+1 by omega]
     obtain⟨k1,k2⟩:=s.held2 h0
     have fl2:zxc ⟨goneIf (zv4 l.ck) (decide (0<i)) (l.num.getD (i-1) 0),l.ord,l.num⟩:=⟨k1.fit,fl.o,fl.n⟩
     refine B2.retire (l:=⟨goneIf (zv4 l.ck) (decide (0<i)) (l.num.getD (i-1) 0),l.ord,l.num⟩) (n:=l.num.getD (i+1) 0) fl2 k1 k2 r2 sb λw3 H71 B71 r71=>⟨by unfold inI;omega,⟨by omega,by omega,⟨w3,?_⟩,r71⟩,by show (2-(1+1):Int).toNat<(2-1:Int).toNat;omega⟩
     show z0f H0 H71 b _ ⟨x1g l i 2,l.ord,l.num⟩
     rw[ec,decide_eq_true h0]
     exact B71
    ·have h0:¬ i+1<l.num.length:=λh0=>by
      have:(decide ((i:Int)+1>=0)&&decide ((i:Int)+1<l.num.length))=true:=by simp only[Bool.and_eq_true,decide_eq_true_eq];omega
      rw[this] at hc;cases hc
     refine⟨by unfold inI;omega,⟨by omega,by omega,⟨w2,?_⟩,r2⟩,by show (2-(1+1):Int).toNat<(2-1:Int).toNat;omega⟩
     show z0f H0 H41 b _ ⟨x1g l i 2,l.ord,l.num⟩
     rw[ec,decide_eq_false h0]
     exact B2
  ·have hn:n=2:=by
    have:¬ n<2:=of_decide_eq_false hn
    omega
   subst hn
   have B2:z0f H0 H41 b ⟨w2,u.o,u.n⟩ ⟨x2q l i,l.ord,l.num⟩:=B2
   clear r2
   have box2:=B2.box
   have Bo:Mine 1 fI 3 H0 H41 u.o l.ord:=B2.o
   refine⟨u.o,Cel.at box2 11,u.o,Cel.at box2 11,by unfold inI;omega,u.o,Cel.at box2 11,by unfold inI;omega,Bo.rdI.inS (by omega) (by omega),_,RdI.get Bo.rdI (by omega) (by omega),u.o,Cel.at box2 11,Bo.rdI.inS (by omega) (by omega),_,RdI.get Bo.rdI (by omega) (by omega),Bo.rdI.inS (by omega) (by omega),?_⟩
   rw[show ((i:Int)+1).toNat=i+1 by omega,Int.toNat_natCast]
   refine Bo.setI (by omega) (by omega) _ λH78 m78 ch78=>?_
   have B78:=B2.setO m78 ch78
   rw[Int.toNat_natCast] at B78
   have Bo78:Mine 1 fI 3 H0 H78 u.o (l.ord.set i (l.ord.getD (i+1) 0)):=B78.o
   refine⟨Bo78.rdI.inS (by omega) (by simp;omega),Bo78.setI (by omega) (by simp;omega) _ λH79 m79 ch79=>?_⟩
   have B79:=B78.setO m79 ch79
   rw[show ((i:Int)+1).toNat=i+1 by omega] at B79
   have B79:z0f H0 H79 b ⟨w2,u.o,u.n⟩ ⟨x2q l i,x36 l.ord i,l.num⟩:=B79
   have em:(if (i:Int)-1>0 then (i:Int)-1 else 0)=((i-1:Nat):Int):=by split <;> omega
   rw[em]
   have mle:=s.mid.le
   have mhl:=s.mid.hl
   have mhl:min (i+2) l.num.length<=l.num.length:=mhl
   refine⟨by unfold inI;omega,λk H'=>((i-1:Nat):Int)<=k/\k<=(min (i+2) l.num.length:Nat)/\(y92 ⟨x2q l i,x36 l.ord i,l.num⟩ (i-1) (k.toNat-(i-1))).2=0/\∃w3,z0f H0 H' b ⟨w3,u.o,u.n⟩ (y92 ⟨x2q l i,x36 l.ord i,l.num⟩ (i-1) (k.toNat-(i-1))).1,λk _=>((min (i+2) l.num.length:Nat)-k).toNat,⟨Int.le_refl _,by omega,?_,w2,?_⟩,λk H83 ⟨k0,k1,kz,w3,B3⟩=>⟨by unfold inI;omega,?_⟩⟩
   ·rw[Int.toNat_natCast,Nat.sub_self];rfl
   ·rw[Int.toNat_natCast,Nat.sub_self];exact B79
   obtain⟨kn,rfl⟩:∃kn:Nat,k=kn:=⟨k.toNat,by omega⟩
   rw[Int.toNat_natCast] at kz B3
   obtain⟨a1,a2,a3,a4,a5⟩:=s.mid.makes (kn-(i-1)) (by omega) kz
   rw[show i-1+(kn-(i-1))=kn by omega] at a1
   have a5n:(y92 ⟨x2q l i,x36 l.ord i,l.num⟩ (i-1) (kn-(i-1))).1.num.length=l.num.length:=a5
   have lN:(u.n.n:Int)=l.num.length:=congrArg Nat.cast ((show u.n.n=_ from B3.n.rdI.len).trans a5n)
   refine⟨u.n,Cel.at B3.box 12,?_⟩
   rw[lN]
   have emin:(if (l.num.length:Int)<(i:Int)+2 then (l.num.length:Int) else (i:Int)+2)=((min (i+2) l.num.length:Nat):Int):=by split <;> omega
   rw[emin]
   refine⟨λhk=>?_,λhk=>?_⟩
   ·have hk:(kn:Int)<(min (i+2) l.num.length:Nat):=of_decide_eq_true hk
    have a5':(y92 ⟨x2q l i,x36 l.ord i,l.num⟩ (i-1) (kn-(i-1))).1.num.length=l.num.length:=a5
    have a4':(y92 ⟨x2q l i,x36 l.ord i,l.num⟩ (i-1) (kn-(i-1))).1.ord.length=l.ord.length:=by rw[a4];exact x38 _ _
    have ec:=a1.certify (i:=kn) (by omega)
    refine(y8y B3 a1.fit (i:=(kn:Int)) (by omega) (by omega) (by omega)).mono λv H86 ⟨hv,l86,hok⟩=>⟨_,hv,?_⟩
    rw[Int.toNat_natCast,ec] at hok ⊢
    have es:=y95 kz
    rw[show i-1+(kn-(i-1))=kn by omega] at es
    refine⟨λhe=>⟨_,_,rfl,λh=>(by cases h),λ_=>⟨i,s,?_,l86,λh0=>?_⟩⟩,λhe=>?_⟩
    ·have he:(z3l (y92 ⟨x2q l i,x36 l.ord i,l.num⟩ (i-1) (kn-(i-1))).1.ck (ykb (y92 ⟨x2q l i,x36 l.ord i,l.num⟩ (i-1) (kn-(i-1))).1.ord kn)).2.2≠0:=by simpa using he
     have em:(y8u (y92 ⟨x2q l i,x36 l.ord i,l.num⟩ (i-1) (kn-(i-1))).1 kn).2=(z3l (y92 ⟨x2q l i,x36 l.ord i,l.num⟩ (i-1) (kn-(i-1))).1.ck (ykb (y92 ⟨x2q l i,x36 l.ord i,l.num⟩ (i-1) (kn-(i-1))).1.ord kn)).2.2:=by unfold y8u;rw[if_neg he]
     have e9:x2y l i=y92 ⟨x2q l i,x36 l.ord i,l.num⟩ (i-1) (kn-(i-1)+1):=y93 (n:=kn-(i-1)+1) (by rw[es,em];exact he) _ (by omega)
     rw[e9,es,em]
    ·rw[h0] at he;simp at he
    ·have he:(z3l (y92 ⟨x2q l i,x36 l.ord i,l.num⟩ (i-1) (kn-(i-1))).1.ck (ykb (y92 ⟨x2q l i,x36 l.ord i,l.num⟩ (i-1) (kn-(i-1))).1.ord kn)).2.2=0:=by simpa using he
     obtain⟨w4,B4⟩:=hok he
     have em:y8u (y92 ⟨x2q l i,x36 l.ord i,l.num⟩ (i-1) (kn-(i-1))).1 kn=(⟨(z3l (y92 ⟨x2q l i,x36 l.ord i,l.num⟩ (i-1) (kn-(i-1))).1.ck (ykb (y92 ⟨x2q l i,x36 l.ord i,l.num⟩ (i-1) (kn-(i-1))).1.ord kn)).1,(y92 ⟨x2q l i,x36 l.ord i,l.num⟩ (i-1) (kn-(i-1))).1.ord,(y92 ⟨x2q l i,x36 l.ord i,l.num⟩ (i-1) (kn-(i-1))).1.num.set kn (z3l (y92 ⟨x2q l i,x36 l.ord i,l.num⟩ (i-1) (kn-(i-1))).1.ck (ykb (y92 ⟨x2q l i,x36 l.ord i,l.num⟩ (i-1) (kn-(i-1))).1.ord kn)).2.1⟩,0):=by unfold y8u;rw[if_pos he]
     refine⟨by unfold inI;omega,⟨by omega,by omega,?_,w4,?_⟩,by show (((min (i+2) l.num.length:Nat):Int)-((kn:Int)+1)).toNat<(((min (i+2) l.num.length:Nat):Int)-(kn:Int)).toNat;omega⟩
     ·rw[show ((kn:Int)+1).toNat-(i-1)=kn-(i-1)+1 by omega,es,em]
     ·rw[show ((kn:Int)+1).toNat-(i-1)=kn-(i-1)+1 by omega,es,em]
      exact B4
   ·have hk:kn=min (i+2) l.num.length:=by
     have:¬ (kn:Int)<(min (i+2) l.num.length:Nat):=of_decide_eq_false hk
     omega
    subst hk
    exact⟨_,_,rfl,λh=>(by cases h),λ_=>⟨i,s,kz.symm,B3.le,λ_=>⟨rfl,w3,B3⟩⟩⟩

theorem _root_.Go.Eng.Fn.frame{P:Program}{f:FuncId}{args:Array Value}{H Hb:Hp}{post:Value->Hp->Prop}(h:Go.Eng.Fn P f args H post)(hl:Hp.le H Hb) :
  Go.Eng.Fn P f args Hb λv H''=>∃H',post v H'/\Hp.le H' H''/\(∀b,H b=none->Hb b≠none->H' b=none)/\(Hp.le H H'->Hp.le Hb H''):=by
 intro w hv
 refine(h w (hv.mono hl)).mono λe w' ⟨v,H',he,ht,hq⟩=>?_
 have hn:∀b,H b=none->Hb b≠none->H' b=none:=λb h1 h2=>ht.none (hv.lt h2) h1
 refine⟨v,λk=>if (H k).isNone&&(Hb k).isSome then Hb k else H' k,he,⟨λb o hb=>?_,λb hb hbn=>?_,λb hb=>?_,ht.size,ht.os,ht.tape,ht.output,ht.drawn⟩,H',hq,λb o hb=>?_,hn,λhle b o hb=>?_⟩
 ·split at hb
  ·rename_i hc
   simp only[Bool.and_eq_true,Option.isNone_iff_eq_none] at hc
   rw[ht.frame b (hv.lt (by rw[hb];simp)) hc.1];exact hv b o hb
  ·exact ht.view b o hb
 ·have:H b=none:=by
   cases hx:H b with
   | none=>rfl
   | some o=>rw[hl b o hx] at hbn;cases hbn
  exact ht.frame b hb this
 ·split at hb
  ·exact .inl hb
  ·rcases ht.fresh b hb with h1|h1
   ·left
    cases hx:H b with
    | none=>exact absurd hx h1
    | some o=>rw[hl b o hx];simp
   ·exact .inr h1
 ·show (if (H b).isNone&&(Hb b).isSome then Hb b else H' b)=some o
  split
  ·rename_i hc
   simp only[Bool.and_eq_true,Option.isNone_iff_eq_none] at hc
   have:=hn b hc.1 (by intro e;rw[e] at hc;simp at hc)
   rw[this] at hb;cases hb
  ·exact hb
 ·show (if (H b).isNone&&(Hb b).isSome then Hb b else H' b)=some o
  split
  ·exact hb
  ·rename_i hc
   cases hx:H b with
   | none=>rw[hx,hb] at hc;simp at hc
   | some o'=>have:=hl b o' hx;rw[hb] at this;cases this;exact hle b o hx


theorem x6k(c:Ck)(t:Int×Int):x6i c t=0\/x6i c t=44\/x6i c t=8:=by
 unfold x6i;split
 ·split
  ·exact .inr (.inl rfl)
  ·exact .inl rfl
 ·exact .inr (.inr rfl)
theorem z4c{l:Ls}{to:Int×Int}(h:¬ yh6 l):z4b l to=(.zero,0,8):=by unfold z4b;rw[if_neg h]
theorem z4g{l:Ls}{to:Int×Int}(ok:yh6 l)(h:x6i l.ck to≠0):z4b l to=(.zero,0,x6i l.ck to):=by unfold z4b;rw[if_pos ok,if_neg h]
theorem z4e{l:Ls}{to:Int×Int}(ok:yh6 l)(h:x6i l.ck to=0):z4b l to=if (z4i l to).2.2=0 then (yck (z4i l to).1 to,(z4i l to).2.1,0) else (.zero,0,(z4i l to).2.2):=by unfold z4b;rw[if_pos ok,if_pos h]

set_option maxHeartbeats 2000000 in
theorem y5t{H:Hp}{u:Lu}{l:Ls}{to:Int×Int}(r:RdL H u l)(fl:zxc l)(ht:zxh to) :
  Go.Eng.Fn Tryz.prog F.f8 #[lsV u l,raW to] H λv H'=>∃w:Lu,v=.tuple #[lsV w (z4b l to).1,.int .i64 (z4b l to).2.1,.int .i64 (z4b l to).2.2]/\Hp.le H H'/\RdL H' w (z4b l to).1:=by
 have f1:=fl.o;have f2:=fl.n
 refine vc8 ⟨_,y5v r fl,λhc=>?_,λhc=>?_⟩
 ·have hn:¬ yh6 l:=λok=>by rw[zkv ok] at hc;simp at hc
  rw[z4c hn,zku hn]
  exact⟨zlu,rfl,Hp.le_refl _,RdL.zero⟩
 have ok:yh6 l:=zkw.1 (by simpa using hc)
 refine(zlq r.k fl.k ht).mono λv H3 ⟨w0,hv,l3,r3⟩=>⟨_,_,w0.f,_,w0.cl,w0.u1,w0.u2,w0.u3,w0.u4,w0.u5,w0.d,_,hv,λhe=>?_,λhe=>?_⟩
 ·have hu:x6i l.ck to≠0:=λhu=>by
   unfold ycg at he
   rw[if_pos hu] at he
   by_cases hw:x7r l.ck to=true
   ·rw[if_pos hw] at he;simp at he
   ·rw[if_neg hw] at he;simp at he
  have em:(ycg l.ck to).2=x6i l.ck to:=by unfold ycg;rw[if_neg hu]
  rw[em,z4g ok hu]
  exact⟨zlu,rfl,l3,RdL.zero⟩
 have hu:x6i l.ck to=0:=by
  by_cases hu:x6i l.ck to=0
  ·exact hu
  ·exfalso
   have em:(ycg l.ck to).2=x6i l.ck to:=by unfold ycg;rw[if_neg hu]
   rw[em] at he
   rcases x6k l.ck to with h|h|h
   ·exact hu h
   ·rw[h] at he;simp at he
   ·rw[h] at he;simp at he
 obtain⟨_,ot,_⟩:=x6l.1 hu
 rw[z4e ok hu]
 refine(zmo (r.o.le l3) (by omega)).mono λv H17 ⟨so,hv,l17,m1⟩=>⟨l17,so,hv,?_⟩
 refine(zmo (r.n.le (Hp.le_trans l3 l17)) (by omega)).mono λv H20 ⟨sn,hv,l20,m2⟩=>⟨l20,sn,hv,λb22 H23 hb22 hH23=>?_⟩
 have l23:Hp.le H20 H23:=Hp.le_new (Hp.le_refl _) hb22 hH23
 have down:∀{G:Hp}{x:Nat},Hp.le G H20->H20 x=none->G x=none:=λ{G x} hl hx=>by
  cases hy:G x with
  | none=>rfl
  | some o=>rw[hl x o hy] at hx;cases hx
 have l320:=Hp.le_trans l17 l20
 have B0:z0f H3 H23 b22 ⟨u.k,so,sn⟩ l:=by
  refine⟨by rw[hH23];exact Cel.put,⟨H3,Hp.le_trans l320 l23,λx hx=>?_,r.k.le l3⟩,(m1.le l20).le l23,(m2.low l17).le l23,Sep.of m1.isOld m2.isNew,Hp.le_trans l320 l23,down l320 hb22,λp hp e=>?_,λp hp e=>?_⟩
  ·rcases hx with rfl|⟨p,hp,rfl⟩|⟨p,hp,rfl⟩
   ·exact down l320 hb22
   ·exact m1.isNew p hp
   ·exact(m2.low l17).isNew p hp
  ·have:=(m1.le l20).isOld p hp;rw[e] at this;exact this hb22
  ·have:=m2.isOld p hp;rw[e] at this;exact this hb22
 have lH3:∀{H':Hp},Hp.le H3 H'->Hp.le H H':=λh=>Hp.le_trans l3 h
 refine⟨λn H'=>∃l' w,z02 l to n l'/\z0f H3 H' b22 ⟨w,so,sn⟩ l',λn _=>((yoi l to:Int)-n).toNat,⟨l,u.k,z02.start ok hu,B0⟩,λn H27 ⟨l',w,a,B⟩=>?_⟩
 have n0:=a.n0;have pt:=a.pot
 have ps:=yoj ok.weak to
 refine(x2p B a.m a.u ht).mono λv H29 ⟨c,e,hv,q1,q2⟩=>⟨c,e,hv,?_⟩
 cases hw:x7r l'.ck to with
 | false =>
  obtain⟨rfl,rfl,B1⟩:=q1 hw
  have B1:z0f H3 H29 b22 ⟨w,so,sn⟩ l':=B1
  refine⟨λh=>by simp at h,λ_=>⟨λ_=>?_,λh=>(by cases h)⟩⟩
  have box:=B1.box
  have fl':=a.m.fit
  have em:ycg l'.ck to=({ l'.ck with now:=to },0):=by unfold ycg;rw[if_pos a.u,if_neg (by rw[hw];simp)]
  have q:=zlr B1.rk fl'.k ht
  rw[em] at q
  refine⟨_,_,w.f,_,w.cl,w.u1,w.u2,w.u3,w.u4,w.u5,w.d,⟨Cel.at box 0,Cel.at box 1,Cel.at box 2,Cel.at box 3,Cel.at box 4,Cel.at box 5,Cel.at box 6,Cel.at box 7,Cel.at box 8,Cel.at box 9,Cel.at box 10⟩,q.mono λv H44 ⟨w1,hv,l44,rw1,nw1⟩=>⟨l44,_,_,w1.f,_,w1.cl,w1.u1,w1.u2,w1.u3,w1.u4,w1.u5,w1.d,_,hv,B1.clock l44 rw1 nw1 λH57 B57=>?_⟩⟩
  have bx:=B57.box
  refine⟨_,_,w1.f,_,w1.cl,w1.u1,w1.u2,w1.u3,w1.u4,w1.u5,w1.d,so,sn,⟨Cel.at bx 0,Cel.at bx 1,Cel.at bx 2,Cel.at bx 3,Cel.at bx 4,Cel.at bx 5,Cel.at bx 6,Cel.at bx 7,Cel.at bx 8,Cel.at bx 9,Cel.at bx 10,Cel.at bx 11,Cel.at bx 12⟩,?_⟩
  have ea:=a.stop hw
  rw[ea,if_pos rfl]
  exact⟨⟨w1,so,sn⟩,rfl,lH3 B57.le,⟨B57.rk,B57.o.rdI,B57.n.rdI⟩⟩
 | true =>
  obtain⟨i,s,es,le,q3⟩:=q2 hw
  refine⟨λh=>?_,λh=>?_⟩
  ·have h:e≠0:=by simpa using h
   have ea:=a.fail hw s (by rw[← es];exact h)
   rw[ea,← es,if_neg h]
   exact⟨zlu,rfl,lH3 le,RdL.zero⟩
  ·have h:e=0:=by simpa using h
   obtain⟨rfl,w1,B1⟩:=q3 h
   obtain⟨a1,pl⟩:=a.next hw s (by rw[← es];exact h)
   have a1p:=a1.pot
   refine⟨λh=>(by cases h),λ_=>⟨by unfold inI;omega,⟨_,w1,a1,B1⟩,by show ((yoi l to:Int)-(n+1)).toNat<((yoi l to:Int)-n).toNat;omega⟩⟩


/-! ### Step -/
end Go.Proofs.YtnhdkkblehadjabGreat
end
