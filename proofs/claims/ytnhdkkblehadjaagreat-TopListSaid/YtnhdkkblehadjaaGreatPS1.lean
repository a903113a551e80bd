/- The engine, parts LP, LR, LS, LT, LU, put together. Conditions: none. -/
import Derived.Test.YtnhdkkblehadjaaGreatPA1
open Bool renaming and_eq_true->Qa
open Go.Eng.Hp renaming le->Qb,le_trans->Qc,le_refl->Qd,put_ne->Qe,le_chg->Qg,le_new->Qh
open Int renaming toNat_natCast->Qi,le_refl->Qj
open Option renaming isNone_iff_eq_none->Ql
set_option linter.unusedVariables false
set_option maxHeartbeats 8000000
section
set_option maxRecDepth 100000
open Go Go.Eng Go.Proofs
namespace Go.Proofs.YtnhdkkblehadjaaGreat
variable{H H0 H' H1:Hp}{l:Ls}{u:Lu}{b k:Nat}{c:Ck}{to t:Int×Int}{n i:Int}{Q:Hp->Prop}{S:Nat->Prop}{w:Cu}
theorem z1g.low{H H':Hp}{w:Cu}(n:z1g H' w)(hl:Qb H H'):z1g H w:=⟨n.f.low hl,n.cl.low hl,n.u1.low hl,n.u2.low hl,n.u3.low hl,n.u4.low hl,n.u5.low hl,n.d.low hl⟩
theorem zms{u:Cu}(r:RdK H u c)(ok:okK c) :
  fN F.f133 #[ckV u c,vi n] H λv H'=>∃w:Cu,v=.tuple #[ckV w (zto c n).1,raW (zto c n).2.1,vi (zto c n).2.2]/\Qb H H'/\RdK H' w (zto c n).1/\z1g H w:=by
 have fk:=ok.fit;have hr:yxi c.ct n=if atC c.ct n<0 then (.zero,(0,0),6) else (xce c.ct n,(y2r c.ct.list (atC c.ct n)).2,0):=by
  unfold yxi y2n;rw[Zp ok.ct];split <;> rfl
 refine vc133 ((zcr (c:=c.ct) (n:=n) r.cl).mono λv H2 ⟨a,hv,nc⟩=>⟨_,a,_,_,_,hv,?_⟩);unfold zto;by_cases hat:atC c.ct n<0
 ·rw[hr,Zp hat] at nc ⊢;rw[Zp hat];exact⟨λ_=>⟨zu,rfl,nc.le,RdK.zero,z1g.zero⟩,λh=>by simp at h⟩
 rw[hr,Zn hat] at nc ⊢;rw[Zn hat];refine⟨λh=>by simp at h,λ_=>?_⟩;have r2:=r.le nc.le;refine(zn4 r2 fk).mono λv H9 ⟨w,hv,l9,rw9,m9,s9,nw⟩=>⟨_,_,w.f,_,w.cl,w.u1,w.u2,w.u3,w.u4,w.u5,w.d,hv,?_⟩
 have r9:=r2.le l9;have nw:=nw.low nc.le;obtain⟨i,b,hq,hb1,hb2⟩:=zmz (n:=n) r9 ok;refine⟨i,b,hq,λhb=>?_,λhb=>?_⟩
 ·obtain⟨h0,rfl⟩:=hb1 hb;obtain⟨ps,e⟩:=ok.evs;obtain⟨x,hx,hxn,hg,hlt⟩:=e.pos.1 h0;have hxh:=e.mem_heap hx;have hh:(c.due.getD (yr4 c n).toNat (0,0,0)).2=x.h:=by
   have:y2r c.due (yr4 c n)=nh x:=hg;unfold y2r at this;rw[this];rfl
  have g2:=r9.due.gD2 h0 hlt;rw[hh] at g2;have hrem:=yxg ok.ag hxh;refine⟨r9.due.inS h0 hlt,_,_,g2,(z4y (h:=x.h) r9.ag fk.ag).mono λv H26 ⟨v1,v2,v3,v4,v5,hv,na⟩=>⟨na.le,v1,v2,v3,v4,v5,_,_,_,_,_,_,hv,?_⟩⟩;rw[hrem] at na ⊢;refine⟨λh=>by simp at h,λ_=>⟨by have:=fk.due;unfold inI;omega,?_⟩⟩;refine(zsx (Qc l9 na.le) (m9.le na.le) h0 hlt).mono λv H39 ⟨d,hv,l39,md,cd⟩=>⟨d,hv,⟨w.f,a,v1,v2,v3,v4,v5,d⟩,?_,Qc nc.le l39,?_,?_⟩
  ·unfold y3q;rw[Zp h0]
  ·have eg:y3q c n={ c with ct:=xce c.ct n,ag:=yxk c.ag x.h,due:=c.due.filter λd=>d.1 != n }:=by
    unfold y3q;rw[Zp h0,hg];rfl
   rw[eg];refine⟨(rw9.f.le na.le).chg cd s9,((nc.rd.le l9).le na.le).chg cd (Sep.of nc.list.isOld m9.isNew),RdA.chgN na cd m9.isOld,?_⟩;have:=md.rdD;rw[ok.dueCut h0] at this;exact this
  ·have l09:=Qc nc.le l9;exact⟨nw.f,nc.list.isNew,na.tb.uses.isNew.low l09,na.tb.used.isNew.low l09,na.tb.free.isNew.low l09,na.heap.isNew.low l09,na.wh.isNew.low l09,md.isNew.low nc.le⟩
 ·have hb:=hb2 hb;have eg:y3q c n={ c with ct:=xce c.ct n }:=by unfold y3q;rw[Zn (by omega)]
  rw[eg];exact⟨⟨w.f,a,w.u1,w.u2,w.u3,w.u4,w.u5,w.d⟩,rfl,Qc nc.le l9,⟨rw9.f,nc.rd.le l9,rw9.ag,rw9.due⟩,nw.f,nc.list.isNew,nw.u1,nw.u2,nw.u3,nw.u4,nw.u5,nw.d⟩
theorem zn2{u:Cu}(r:RdK H u c)(fk:zze c) :
  fN F.f80 #[ckV u c,vi n] H λv H'=>∃w:Cu,v=.tuple #[ckV w (yxx c n).1,vi (yxx c n).2]/\Qb H H'/\RdK H' w (yxx c n).1/\z1g H w:=by
 refine vc80 ⟨_,zmq r fk,λhc=>?_,λhc=>?_⟩
 ·have hk:¬ okK c:=λok=>by rw[zlv ok] at hc;simp at hc
  rw[zls hk];unfold yxx;rw[Zn hk];exact⟨zu,rfl,Qd _,RdK.zero,z1g.zero⟩
 ·have ok:okK c:=zlw.1 (by simpa using hc);rw[yxy ok];exact(zms r ok).mono λv H3 ⟨w,hv,l3,r3,n3⟩=>⟨_,_,w.f,_,w.cl,w.u1,w.u2,w.u3,w.u4,w.u5,w.d,_,_,_,hv,w,rfl,l3,r3,n3⟩
theorem zmu{u:Cu}(r:RdK H u c)(fk:zze c)(ht:zzn t) :
  fN F.f78 #[ckV u c,raW t] H λv H'=>∃w:Cu,v=.tuple #[ckV w (zx2 c t).1,evV (zx2 c t).2.1,raW (zx2 c t).2.2.1,vi (zx2 c t).2.2.2]/\Qb H H'/\RdK H' w (zx2 c t).1/\z1g H w:=by
 refine vc78 ⟨_,_,zn5 r fk ht,λhc=>⟨λ_=>?_,λh=>by cases h⟩,λhc=>⟨λhe=>?_,λhe=>?_⟩⟩
 ·simp only[Qa,beq_iff_eq,Bool.not_eq_true',Bool.and_eq_false_iff,Zt] at hc;have hw:xbo c t=false:=hc.2.resolve_left λh=>h hc.1
  have e:zx2 c t=(.zero,e0,(0,0),6):=by unfold zx2;rw[Zp hc.1,Zn (by rw[hw];simp)]
  rw[e];exact⟨zu,rfl,Qd _,RdK.zero,z1g.zero⟩
 ·have he:xaf c t≠0:=by simpa using he
  have e:zx2 c t=(.zero,e0,(0,0),xaf c t):=by unfold zx2;rw[Zn he]
  rw[e];exact⟨zu,rfl,Qd _,RdK.zero,z1g.zero⟩
 ·have he:xaf c t=0:=by simpa using he
  have hw:xbo c t=true:=by rw[he] at hc;simpa using hc
  obtain⟨ok,ot,_⟩:=xai.1 he;have h0:=xbq hw;have hx:=ok.topCert h0;have e:zx2 c t=(zxc c,hp c.ag.heap 0,(y2r c.ct.list (atC c.ct (hp c.ag.heap 0).no)).2,0):=by unfold zx2;rw[Zp he,Zp hw]
  have ed:zto c (hp c.ag.heap 0).no=(y3q c (hp c.ag.heap 0).no,(y2r c.ct.list (atC c.ct (hp c.ag.heap 0).no)).2,0):=by unfold zto;rw[Zn (by omega)]
  rw[e];refine⟨r.ag.heap.inS (Qj _) (by omega),_,_,_,_,_,r.ag.heap.gE (Qj _) (by omega),?_⟩;refine(zms (n:=(hp c.ag.heap 0).no) r ok).mono λv H9 ⟨w,hv,l9,r9,n9⟩=>⟨_,_,w.f,_,w.cl,w.u1,w.u2,w.u3,w.u4,w.u5,w.d,_,_,_,hv,λh=>?_,λ_=>⟨w,?_,l9,?_,n9⟩⟩
  ·rw[ed] at h;simp at h
  ·rw[ed];rfl
  ·rw[ed] at r9;exact⟨r9.f,r9.cl,r9.ag,r9.due⟩
theorem zmw{u:Cu}(r:RdK H u c)(fk:zze c)(ht:zzn t) :
  fN F.f33 #[ckV u c,raW t] H λv H'=>∃w:Cu,v=.tuple #[ckV w (yfh c t).1,vi (yfh c t).2]/\Qb H H'/\RdK H' w (yfh c t).1/\z1g H w:=by
 refine vc33 ⟨_,_,zn5 r fk ht,λhc=>⟨λ_=>?_,λh=>by cases h⟩,λhc=>⟨λhe=>?_,λhe=>?_⟩⟩
 ·simp only[Qa,beq_iff_eq,Zq] at hc;have e:yfh c t=(.zero,36):=by unfold yfh;rw[Zp hc.1,Zp hc.2.2]
  rw[e];exact⟨zu,rfl,Qd _,RdK.zero,z1g.zero⟩
 ·have he:xaf c t≠0:=by simpa using he
  have e:yfh c t=(.zero,xaf c t):=by unfold yfh;rw[Zn he]
  rw[e];exact⟨zu,rfl,Qd _,RdK.zero,z1g.zero⟩
 ·have he:xaf c t=0:=by simpa using he
  have hw:xbo c t=false:=by rw[he] at hc;simpa using hc
  have e:yfh c t=({ c with now:=t },0):=by unfold yfh;rw[Zp he,Zn (by rw[hw];simp)]
  rw[e];exact(zn4 r fk).mono λv H9 ⟨w,hv,l9,r9,_,_,n9⟩=>⟨_,_,w.f,_,w.cl,w.u1,w.u2,w.u3,w.u4,w.u5,w.d,hv,w,rfl,l9,⟨r9.f,r9.cl,r9.ag,r9.due⟩,n9⟩
noncomputable def hideP(S:Nat->Prop)(H:Hp):Hp:=λk=>@ite _ (S k) (Classical.propDecidable _) none (H k)
theorem y4s(h:S k):hideP S H k=none:=Zp h
theorem y4u(h:¬ S k):hideP S H k=H k:=Zn h
theorem y4t(S:Nat->Prop)(H:Hp):Qb (hideP S H) H:=λk o hk=>by
 by_cases h:S k
 ·rw[y4s h] at hk;cases hk
 ·rw[y4u h] at hk;exact hk
theorem _root_.Go.Eng.Rd.hideP{α:Type}{k:Nat}{f:α->List Value}{H:Hp}{u:Slc}{xs:List α}{S:Nat->Prop}(h:Rd k f H u xs)(hs:∀p,u.a=some p->¬ S p.block):Rd k f (Go.Proofs.YtnhdkkblehadjaaGreat.hideP S H) u xs:=by
 refine⟨h.len,h.cap,h.isS,λi x hx j v hv=>?_⟩;have hc:=h.cell i x hx j v hv;obtain⟨p,hp⟩:=Option.isSome_iff_exists.1 (h.isS (by intro e;rw[e] at hx;simp at hx));have hb:((zu4 u.a k i).add j).block=p.block:=by
  rw[hp];unfold zu4 Addr.add;simp only;split <;> (try split) <;> rfl
 rw[Hp.at_eq (H':=Go.Proofs.YtnhdkkblehadjaaGreat.hideP S H) (H:=H) (by rw[hb];exact y4u (hs p hp))];exact hc
theorem RdK.hideP{H0 H:Hp}{u:Cu}{c:Ck}{S:Nat->Prop}(r:RdK H u c)(n:z1g H0 u)(hS:∀b,S b->H0 b≠none):RdK (Go.Proofs.YtnhdkkblehadjaaGreat.hideP S H) u c:=by
 have s:∀{v:Slc},New H0 v->∀p,v.a=some p->¬ S p.block:=λ{v} nv p hp hb=>hS _ hb (nv p hp)
 exact⟨r.f.hideP (s n.f),r.cl.hideP (s n.cl),⟨⟨r.ag.tb.uses.hideP (s n.u1),r.ag.tb.used.hideP (s n.u2),r.ag.tb.free.hideP (s n.u3)⟩,r.ag.heap.hideP (s n.u4),r.ag.wh.hideP (s n.u5)⟩,r.due.hideP (s n.d)⟩
def ysh(b:Nat)(o n:Slc)(x:Nat):Prop:=x=b\/(∃p,o.a=some p/\p.block=x)\/(∃p,n.a=some p/\p.block=x)
structure z0e(H0 H:Hp)(b:Nat)(u:Lu)(l:Ls):Prop where
 box:Cel H b (lsC u l) 47
 k:∃G,Qb G H/\(∀x,ysh b u.o u.n x->G x=none)/\RdK G u.k l.ck
 o:Mine 1 fI 3 H0 H u.o l.ord
 n:Mine 1 fI 3 H0 H u.n l.num
 sep:Sep u.o u.n
 le:Qb H0 H
 nb:H0 b=none
 ob:∀p,u.o.a=some p->p.block≠b
 nn:∀p,u.n.a=some p->p.block≠b
theorem z0e.rk(B:z0e H0 H b u l):RdK H u.k l.ck:=by
 obtain⟨G,h1,_,h3⟩:=B.k;exact h3.le h1
theorem z0e.up(B:z0e H0 H b u l)(h:Qb H H'):z0e H0 H' b u l:=by
 obtain⟨G,h1,h2,h3⟩:=B.k;exact⟨B.box.le h,⟨G,Qc h1 h,h2,h3⟩,B.o.le h,B.n.le h,B.sep,Qc B.le h,B.nb,B.ob,B.nn⟩
theorem z0e.used(B:z0e H0 H b u l):∀x,ysh b u.o u.n x->H x≠none:=by
 rintro x (rfl|⟨p,hp,rfl⟩|⟨p,hp,rfl⟩)
 ·rw[B.box];simp
 ·exact B.o.isOld p hp
 ·exact B.n.isOld p hp
theorem z0e.clock(B:z0e H0 H b u l)(hl:Qb H H1)(rw':RdK H1 w c)(nw:z1g H w)
  (hQ:∀H',z0e H0 H' b ⟨w,u.o,u.n⟩ ⟨c,l.ord,l.num⟩->Q H') :
  H1.canStore ⟨b,0,none⟩ 0 [vi c.now.1,vi c.now.2,w.f.v,vi c.ct.next,w.cl.v,w.u1.v,w.u2.v,w.u3.v,w.u4.v,w.u5.v,w.d.v]/\∀H',H'=H1.store ⟨b,0,none⟩ 0 [vi c.now.1,vi c.now.2,w.f.v,vi c.ct.next,w.cl.v,w.u1.v,w.u2.v,w.u3.v,w.u4.v,w.u5.v,w.d.v]->Q H':=by
 have B1:=B.up hl;obtain⟨can,st⟩:=x62 (b:=b) (off:=0) (T:=47) [vi c.now.1,vi c.now.2,w.f.v,vi c.ct.next,w.cl.v,w.u1.v,w.u2.v,w.u3.v,w.u4.v,w.u5.v,w.d.v] 0 H1 _ B1.box (by show 0+0+11<=13;omega);refine⟨can,λH' e=>hQ H' ?_⟩;have e':H'=H1.put b (.cells (lsC ⟨w,u.o,u.n⟩ ⟨c,l.ord,l.num⟩) 47 (0,0)):=e.trans st;have ch:Chg H1 H' ⟨some ⟨b,0,none⟩,0,0⟩:=λx hx hn=>by rw[e'];exact Qe _ _ λe=>hn _ rfl e.symm
 refine⟨by rw[e'];exact Cel.put,⟨hideP (ysh b u.o u.n) H1,?_,λx hx=>y4s hx,RdK.hideP rw' nw B.used⟩,B1.o.chg ch (λp q hp hq=>by cases hq;exact B.ob p hp),B1.n.chg ch (λp q hp hq=>by cases hq;exact B.nn p hp),B.sep,Qg B1.le ch (λp hp=>by cases hp;exact B.nb),B.nb,B.ob,B.nn⟩;intro x o hx;by_cases hs:ysh b u.o u.n x
 ·rw[y4s hs] at hx;cases hx
 ·rw[y4u hs] at hx;rw[e',Qe _ _ (λe=>hs (.inl e))];exact hx
theorem z0e.chg(B:z0e H0 H b u l){v:Slc}(ch:Chg H H' v)(hv:∀p,v.a=some p->p.block≠b)(hp:∀p,v.a=some p->ysh b u.o u.n p.block):Cel H' b (lsC u l) 47/\∃G,Qb G H'/\(∀x,ysh b u.o u.n x->G x=none)/\RdK G u.k l.ck:=by
 obtain⟨G,h1,h2,h3⟩:=B.k;refine⟨?_,G,λx o hx=>?_,h2,h3⟩
 ·have:=B.box;unfold Cel at this ⊢;rw[ch b (by rw[this];simp) hv];exact this
 ·have hx1:=h1 x o hx;rw[ch x (by rw[hx1];simp) λp hp' e=>by
   have:=h2 _ (hp p hp');rw[e,hx] at this;cases this]
  exact hx1
theorem z0e.setN(B:z0e H0 H b u l)(h0:0<=i)(h1:i<l.num.length)(y:Int)(m:Mine 1 fI 3 H0 H' u.n (l.num.set i.toNat y))(ch:Chg H H' u.n):z0e H0 H' b u ⟨l.ck,l.ord,l.num.set i.toNat y⟩:=by
 obtain⟨c1,c2⟩:=B.chg ch B.nn λp hp=>.inr (.inr ⟨p,hp,rfl⟩)
 exact⟨c1,c2,B.o.chg ch B.sep,m,B.sep,Qg B.le ch B.n.isNew,B.nb,B.ob,B.nn⟩
theorem z0e.setO(B:z0e H0 H b u l){o':List Int}(m:Mine 1 fI 3 H0 H' u.o o')(ch:Chg H H' u.o):z0e H0 H' b u ⟨l.ck,o',l.num⟩:=by
 obtain⟨c1,c2⟩:=B.chg ch B.ob λp hp=>.inr (.inl ⟨p,hp,rfl⟩)
 exact⟨c1,c2,m,B.n.chg ch B.sep.symm,B.sep,Qg B.le ch B.o.isNew,B.nb,B.ob,B.nn⟩
theorem yc2(B:z0e H0 H b u l)(fl:zzh l)(h0:0<=i)(h1:i+1<l.ord.length)(h2:i<l.num.length) :
  fN F.f27 #[.pointer (some ⟨b,0,none⟩),vi i] H λv H'=>v=vi (zd7 l.ck (yn6 l.ord i.toNat)).2.2/\Qb H0 H'/\((zd7 l.ck (yn6 l.ord i.toNat)).2.2=0 ->
   ∃w:Cu,z0e H0 H' b ⟨w,u.o,u.n⟩ ⟨(zd7 l.ck (yn6 l.ord i.toNat)).1,l.ord,l.num.set i.toNat (zd7 l.ck (yn6 l.ord i.toNat)).2.1⟩):=by
 have f1:=fl.o;have box:=B.box;refine vc27 ⟨_,_,u.k.f,_,u.k.cl,u.k.u1,u.k.u2,u.k.u3,u.k.u4,u.k.u5,u.k.d,⟨Cel.at box 0,Cel.at box 1,Cel.at box 2,Cel.at box 3,Cel.at box 4,Cel.at box 5,Cel.at box 6,Cel.at box 7,Cel.at box 8,Cel.at box 9,Cel.at box 10⟩,u.o,Cel.at box 11,_,_,y88 B.o.rdI h0 h1 f1,
  (zmp B.rk fl.k).mono λv H16 ⟨w,hv,l16,rw',nw⟩=>⟨l16,_,_,w.f,_,w.cl,w.u1,w.u2,w.u3,w.u4,w.u5,w.d,_,_,hv,λhe=>?_,λhe=>?_⟩⟩
 ·exact⟨rfl,Qc B.le l16,λh=>by rw[h] at he;simp at he⟩
 have he:(zd7 l.ck (yn6 l.ord i.toNat)).2.2=0:=by simpa using he
 rw[he];generalize zd7 l.ck (yn6 l.ord i.toNat)=r at *
 refine⟨u.n,Cel.at (box.le l16) 12,B.clock l16 rw' nw λH31 B31=>?_⟩;refine⟨B31.n.rdI.inS h0 h2,?_⟩;refine B31.n.setI h0 h2 r.2.1 λH32 m32 ch32=>?_
 have B32:=B31.setN h0 h2 r.2.1 m32 ch32;exact⟨rfl,B32.le,λ_=>⟨w,B32⟩⟩
theorem z0e.clockC(B:z0e H0 H b u l)(hl:Qb H H1)(rw':RdK H1 w c)(nw:z1g H w)
  (hQ:∀H',z0e H0 H' b ⟨w,u.o,u.n⟩ ⟨c,l.ord,l.num⟩->Chg H1 H' ⟨some ⟨b,0,none⟩,0,0⟩->Q H') :
  H1.canStore ⟨b,0,none⟩ 0 [vi c.now.1,vi c.now.2,w.f.v,vi c.ct.next,w.cl.v,w.u1.v,w.u2.v,w.u3.v,w.u4.v,w.u5.v,w.d.v]/\∀H',H'=H1.store ⟨b,0,none⟩ 0 [vi c.now.1,vi c.now.2,w.f.v,vi c.ct.next,w.cl.v,w.u1.v,w.u2.v,w.u3.v,w.u4.v,w.u5.v,w.d.v]->Q H':=by
 obtain⟨can,st⟩:=x62 (b:=b) (off:=0) [vi c.now.1,vi c.now.2,w.f.v,vi c.ct.next,w.cl.v,w.u1.v,w.u2.v,w.u3.v,w.u4.v,w.u5.v,w.d.v] 0 H1 _ (B.up hl).box (by show 0+0+11<=13;omega);obtain⟨q1,q2⟩:=B.clock hl rw' nw (Q:=λH'=>z0e H0 H' b ⟨w,u.o,u.n⟩ ⟨c,l.ord,l.num⟩) λ_ h=>h
 exact⟨can,λH' e=>hQ H' (q2 H' e) λx hx hn=>by rw[e,st];exact Qe _ _ λe=>hn _ rfl e.symm⟩
theorem yy0(ok:okK c)(h:0<=atC c.ct n):yxx c n=(y3q c n,0):=by
 unfold yxx;rw[Zp ok,Zn (by omega)]
def x5k(l:Ls)(i:Nat)(n:Int):Ck:=if n=0 then zxc l.ck else if n=1 then goneIf (zxc l.ck) (decide (0<i)) (l.num.getD (i-1) 0) else x6t l i
theorem z0e.retire(B:z0e H0 H b u l)(fl:zzh l)(ok:okK l.ck)(h:0<=atC l.ck.ct n){rs:Slc}{xs:List Int}(rr:RdI H rs xs)(sb:∀p,rs.a=some p->p.block≠b)
    (hQ:∀w H',z0e H0 H' b ⟨w,u.o,u.n⟩ ⟨y3q l.ck n,l.ord,l.num⟩->RdI H' rs xs->Q H') :
    fN F.f80 #[ckV u.k l.ck,vi n] H λv57 H58=>Qb H H58 /\
    ∃n59 n60:Int,∃u61:Slc,∃n62:Int,∃u63 u64 u65 u66 u67 u68 u69:Slc,∃n70:Int,v57=.tuple #[vCk n59 n60 u61 n62 u63 u64 u65 u66 u67 u68 u69,vi n70] /\
     H58.canStore ⟨b,0,none⟩ 0 [vi n59,vi n60,u61.v,vi n62,u63.v,u64.v,u65.v,u66.v,u67.v,u68.v,u69.v]/\∀H71,H71=H58.store ⟨b,0,none⟩ 0 [vi n59,vi n60,u61.v,vi n62,u63.v,u64.v,u65.v,u66.v,u67.v,u68.v,u69.v]->Q H71:=by
  have q:=zn2 (n:=n) B.rk fl.k;rw[yy0 ok h] at q;refine q.mono λv H58 ⟨w,hv,l58,rw',nw⟩=>⟨l58,_,_,w.f,_,w.cl,w.u1,w.u2,w.u3,w.u4,w.u5,w.d,_,hv,?_⟩
  exact B.clockC l58 rw' nw λH71 B71 ch=>hQ w H71 B71 ((rr.le l58).chg ch λp q hp hq=>by cases hq;exact sb p hp)
theorem yc9{a n:Nat}(h:(yc6 l a n).2=0):yc6 l a (n+1)=yby (yc6 l a n).1 (a+n):=by
 show (if (yc6 l a n).2=0 then _ else _)=_;rw[Zp h]
theorem x6s(B:z0e H0 H b u l)(w:okM l)(hu:xaf l.ck to=0)(ht:zzn to) :
  fN F.f35 #[.pointer (some ⟨b,0,none⟩),raW to] H λv H'=>∃(c:Bool)(e:Int),v=.tuple #[.bool c,vi e] /\
   (xbo l.ck to=false->c=false/\e=0/\z0e H0 H' b u l) /\
   (xbo l.ck to=true->∃i,z2d l to i/\e=(x71 l i).2/\Qb H0 H'/\(e=0->c=true/\∃w,z0e H0 H' b ⟨w,u.o,u.n⟩ (x71 l i).1)):=by
 have box:=B.box;have fl:=w.fit;have f1:=fl.o;obtain⟨_,ot,hle⟩:=xai.1 hu;cases hw:xbo l.ck to with
 | false =>
  have e:zx2 l.ck to=(.zero,e0,(0,0),6):=by unfold zx2;rw[Zp hu,Zn (by rw[hw];simp)]
  have q:=zmu B.rk fl.k ht;rw[e] at q;dsimp only at q;refine vc35 ⟨_,_,u.k.f,_,u.k.cl,u.k.u1,u.k.u2,u.k.u3,u.k.u4,u.k.u5,u.k.d,⟨Cel.at box 0,Cel.at box 1,Cel.at box 2,Cel.at box 3,Cel.at box 4,Cel.at box 5,Cel.at box 6,Cel.at box 7,Cel.at box 8,Cel.at box 9,Cel.at box 10⟩,
   q.mono λv H13 ⟨w1,hv,l13,_,_⟩=>⟨l13,_,_,w1.f,_,w1.cl,w1.u1,w1.u2,w1.u3,w1.u4,w1.u5,w1.d,_,_,_,_,_,_,_,_,hv,λ_=>⟨_,_,rfl,λ_=>⟨rfl,rfl,B.up l13⟩,λh=>by cases h⟩,λh=>by simp at h⟩⟩
 | true =>
  obtain⟨i,s⟩:=x7c w ot hw;have nl:=w.nl;have slt:=s.lt;have e:zx2 l.ck to=(zxc l.ck,hp l.ck.ag.heap 0,x9s l,0):=by unfold zx2;rw[Zp hu,Zp hw];rfl
  have q:=zmu B.rk fl.k ht;rw[e] at q;dsimp only at q;refine vc35 ⟨_,_,u.k.f,_,u.k.cl,u.k.u1,u.k.u2,u.k.u3,u.k.u4,u.k.u5,u.k.d,⟨Cel.at box 0,Cel.at box 1,Cel.at box 2,Cel.at box 3,Cel.at box 4,Cel.at box 5,Cel.at box 6,Cel.at box 7,Cel.at box 8,Cel.at box 9,Cel.at box 10⟩,
   q.mono λv H13 ⟨w1,hv,l13,rw1,nw1⟩=>⟨l13,_,_,w1.f,_,w1.cl,w1.u1,w1.u2,w1.u3,w1.u4,w1.u5,w1.d,_,_,_,_,_,_,_,_,hv,λh=>by simp at h,λ_=>?_⟩⟩
  refine B.clock l13 rw1 nw1 λH33 B33=>?_
  have Bo33:Mine 1 fI 3 H0 H33 u.o l.ord:=B33.o;have qi:=y69 (id:=(x9s l).2) Bo33.rdI (by omega);rw[s.pos] at qi;refine⟨u.o,Cel.at B33.box 11,_,qi,by unfold inI;omega,by unfold inI;omega,λb36 H37 hb36 hH37=>?_⟩;have l37:Qb H33 H37:=Qh (Qd _) hb36 hH37;have rw36:RdI H37 ⟨some ⟨b36,0,none⟩,2,2⟩ [(i:Int)-1,(i:Int)+1]:=yva (k:=1) (f:=fI) (λ_=>rfl) hH37 rfl rfl;have hbb:b36≠b:=λe=>by rw[e] at hb36;have:=B33.box;unfold Cel at this;rw[this] at hb36;cases hb36
  have sb:∀p,(⟨some ⟨b36,0,none⟩,2,2⟩:Slc).a=some p->p.block≠b:=λp hp=>by cases hp;exact hbb
  refine⟨λn H'=>0<=n/\n<=2/\(∃w2,z0e H0 H' b ⟨w2,u.o,u.n⟩ ⟨x5k l i n,l.ord,l.num⟩)/\RdI H' ⟨some ⟨b36,0,none⟩,2,2⟩ [(i:Int)-1,(i:Int)+1],λn _=>(2-n).toNat,⟨by omega,by omega,⟨w1,B33.up l37⟩,rw36⟩,λn H41 ⟨n0,n1,⟨w2,B2⟩,r2⟩=>⟨λhn=>?_,λhn=>?_⟩⟩
  ·have hn:n<2:=Zr hn;have Bn:Mine 1 fI 3 H0 H41 u.n l.num:=B2.n;have lN:(u.n.n:Int)=l.num.length:=congrArg Nat.cast Bn.rdI.len;refine⟨r2.inS n0 (by simp;omega),_,RdI.get r2 n0 (by simp;omega),u.n,λ_=>Cel.at B2.box 12,?_⟩;have hcase:n=0\/n=1:=by omega
   rcases hcase with rfl|rfl
   ·have ev:([(i:Int)-1,(i:Int)+1]:List Int).getD (0:Int).toNat 0=(i:Int)-1:=rfl;rw[ev,lN];have ec:x5k l i 1=goneIf (zxc l.ck) (decide (0<i)) (l.num.getD (i-1) 0):=rfl;refine⟨λhc=>?_,λhc=>?_⟩
    ·simp only[Qa,Zq] at hc;have h0:0<i:=by omega
     have box2:=B2.box;refine⟨_,_,w2.f,_,w2.cl,w2.u1,w2.u2,w2.u3,w2.u4,w2.u5,w2.d,⟨Cel.at box2 0,Cel.at box2 1,Cel.at box2 2,Cel.at box2 3,Cel.at box2 4,Cel.at box2 5,Cel.at box2 6,Cel.at box2 7,Cel.at box2 8,Cel.at box2 9,Cel.at box2 10⟩,u.n,Cel.at box2 12,Bn.rdI.inS (by omega) (by omega),_,RdI.get Bn.rdI (by omega) (by omega),?_⟩;rw[show ((i:Int)-1).toNat=i-1 by omega];have fl2:zzh ⟨zxc l.ck,l.ord,l.num⟩:=⟨s.held0.fit,fl.o,fl.n⟩;refine B2.retire (n:=l.num.getD (i-1) 0) fl2 s.held0 (s.held1 h0) r2 sb λw3 H71 B71 r71=>⟨by unfold inI;omega,⟨by omega,by omega,⟨w3,?_⟩,r71⟩,by show (2-(0+1):Int).toNat<(2-0:Int).toNat;omega⟩
     show z0e H0 H71 b _ ⟨x5k l i 1,l.ord,l.num⟩;rw[ec,Zu h0];exact B71
    ·have h0:¬ 0<i:=λh0=>by
      have:(decide ((i:Int)-1>=0)&&decide ((i:Int)-1<l.num.length))=true:=by simp only[Qa,Zq];omega
      rw[this] at hc;cases hc
     refine⟨by unfold inI;omega,⟨by omega,by omega,⟨w2,?_⟩,r2⟩,by show (2-(0+1):Int).toNat<(2-0:Int).toNat;omega⟩;show z0e H0 H41 b _ ⟨x5k l i 1,l.ord,l.num⟩;rw[ec,Zv h0];exact B2
   ·have ev:([(i:Int)-1,(i:Int)+1]:List Int).getD (1:Int).toNat 0=(i:Int)+1:=rfl;rw[ev,lN];have ec:x5k l i 2=goneIf (goneIf (zxc l.ck) (decide (0<i)) (l.num.getD (i-1) 0)) (decide (i+1<l.num.length)) (l.num.getD (i+1) 0):=rfl;refine⟨λhc=>?_,λhc=>?_⟩
    ·simp only[Qa,Zq] at hc;have h0:i+1<l.num.length:=by omega
     have box2:=B2.box;refine⟨_,_,w2.f,_,w2.cl,w2.u1,w2.u2,w2.u3,w2.u4,w2.u5,w2.d,⟨Cel.at box2 0,Cel.at box2 1,Cel.at box2 2,Cel.at box2 3,Cel.at box2 4,Cel.at box2 5,Cel.at box2 6,Cel.at box2 7,Cel.at box2 8,Cel.at box2 9,Cel.at box2 10⟩,u.n,Cel.at box2 12,Bn.rdI.inS (by omega) (by omega),_,RdI.get Bn.rdI (by omega) (by omega),?_⟩;rw[show ((i:Int)+1).toNat=i+1 by omega];obtain⟨k1,k2⟩:=s.held2 h0;have fl2:zzh ⟨goneIf (zxc l.ck) (decide (0<i)) (l.num.getD (i-1) 0),l.ord,l.num⟩:=⟨k1.fit,fl.o,fl.n⟩;refine B2.retire (l:=⟨goneIf (zxc l.ck) (decide (0<i)) (l.num.getD (i-1) 0),l.ord,l.num⟩) (n:=l.num.getD (i+1) 0) fl2 k1 k2 r2 sb λw3 H71 B71 r71=>⟨by unfold inI;omega,⟨by omega,by omega,⟨w3,?_⟩,r71⟩,by show (2-(1+1):Int).toNat<(2-1:Int).toNat;omega⟩
     show z0e H0 H71 b _ ⟨x5k l i 2,l.ord,l.num⟩;rw[ec,Zu h0];exact B71
    ·have h0:¬ i+1<l.num.length:=λh0=>by
      have:(decide ((i:Int)+1>=0)&&decide ((i:Int)+1<l.num.length))=true:=by simp only[Qa,Zq];omega
      rw[this] at hc;cases hc
     refine⟨by unfold inI;omega,⟨by omega,by omega,⟨w2,?_⟩,r2⟩,by show (2-(1+1):Int).toNat<(2-1:Int).toNat;omega⟩;show z0e H0 H41 b _ ⟨x5k l i 2,l.ord,l.num⟩;rw[ec,Zv h0];exact B2
  ·have hn:n=2:=by
    have:¬ n<2:=Zs hn;omega
   subst hn;have B2:z0e H0 H41 b ⟨w2,u.o,u.n⟩ ⟨x6t l i,l.ord,l.num⟩:=B2;clear r2;have box2:=B2.box;have Bo:Mine 1 fI 3 H0 H41 u.o l.ord:=B2.o;refine⟨u.o,Cel.at box2 11,u.o,Cel.at box2 11,by unfold inI;omega,u.o,Cel.at box2 11,by unfold inI;omega,Bo.rdI.inS (by omega) (by omega),_,RdI.get Bo.rdI (by omega) (by omega),u.o,Cel.at box2 11,Bo.rdI.inS (by omega) (by omega),_,RdI.get Bo.rdI (by omega) (by omega),Bo.rdI.inS (by omega) (by omega),?_⟩;rw[show ((i:Int)+1).toNat=i+1 by omega,Qi];refine Bo.setI (by omega) (by omega) _ λH78 m78 ch78=>?_
   have B78:=B2.setO m78 ch78;rw[Qi] at B78;have Bo78:Mine 1 fI 3 H0 H78 u.o (l.ord.set i (l.ord.getD (i+1) 0)):=B78.o;refine⟨Bo78.rdI.inS (by omega) (by simp;omega),Bo78.setI (by omega) (by simp;omega) _ λH79 m79 ch79=>?_⟩;have B79:=B78.setO m79 ch79;rw[show ((i:Int)+1).toNat=i+1 by omega] at B79;have B79:z0e H0 H79 b ⟨w2,u.o,u.n⟩ ⟨x6t l i,x76 l.ord i,l.num⟩:=B79;have em:(if (i:Int)-1>0 then (i:Int)-1 else 0)=((i-1:Nat):Int):=by split <;> omega
   rw[em];have mle:=s.mid.le;have mhl:=s.mid.hl;have mhl:min (i+2) l.num.length<=l.num.length:=mhl;refine⟨by unfold inI;omega,λk H'=>((i-1:Nat):Int)<=k/\k<=(min (i+2) l.num.length:Nat)/\(yc6 ⟨x6t l i,x76 l.ord i,l.num⟩ (i-1) (k.toNat-(i-1))).2=0/\∃w3,z0e H0 H' b ⟨w3,u.o,u.n⟩ (yc6 ⟨x6t l i,x76 l.ord i,l.num⟩ (i-1) (k.toNat-(i-1))).1,λk _=>((min (i+2) l.num.length:Nat)-k).toNat,⟨Qj _,by omega,?_,w2,?_⟩,λk H83 ⟨k0,k1,kz,w3,B3⟩=>⟨by unfold inI;omega,?_⟩⟩
   ·rw[Qi,Nat.sub_self];rfl
   ·rw[Qi,Nat.sub_self];exact B79
   obtain⟨kn,rfl⟩:∃kn:Nat,k=kn:=⟨k.toNat,by omega⟩;rw[Qi] at kz B3;obtain⟨a1,a2,a3,a4,a5⟩:=s.mid.makes (kn-(i-1)) (by omega) kz;rw[show i-1+(kn-(i-1))=kn by omega] at a1;have a5n:(yc6 ⟨x6t l i,x76 l.ord i,l.num⟩ (i-1) (kn-(i-1))).1.num.length=l.num.length:=a5;have lN:(u.n.n:Int)=l.num.length:=congrArg Nat.cast ((show u.n.n=_ from B3.n.rdI.len).trans a5n);refine⟨u.n,Cel.at B3.box 12,?_⟩;rw[lN];have emin:(if (l.num.length:Int)<(i:Int)+2 then (l.num.length:Int) else (i:Int)+2)=((min (i+2) l.num.length:Nat):Int):=by split <;> omega
   rw[emin];refine⟨λhk=>?_,λhk=>?_⟩
   ·have hk:(kn:Int)<(min (i+2) l.num.length:Nat):=Zr hk;have a5':(yc6 ⟨x6t l i,x76 l.ord i,l.num⟩ (i-1) (kn-(i-1))).1.num.length=l.num.length:=a5;have a4':(yc6 ⟨x6t l i,x76 l.ord i,l.num⟩ (i-1) (kn-(i-1))).1.ord.length=l.ord.length:=by rw[a4];exact x78 _ _
    have ec:=a1.certify (i:=kn) (by omega);refine(yc2 B3 a1.fit (i:=(kn:Int)) (by omega) (by omega) (by omega)).mono λv H86 ⟨hv,l86,hok⟩=>⟨_,hv,?_⟩
    rw[Qi,ec] at hok ⊢;have es:=yc9 kz;rw[show i-1+(kn-(i-1))=kn by omega] at es;refine⟨λhe=>⟨_,_,rfl,λh=>(by cases h),λ_=>⟨i,s,?_,l86,λh0=>?_⟩⟩,λhe=>?_⟩
    ·have he:(z3k (yc6 ⟨x6t l i,x76 l.ord i,l.num⟩ (i-1) (kn-(i-1))).1.ck (yn6 (yc6 ⟨x6t l i,x76 l.ord i,l.num⟩ (i-1) (kn-(i-1))).1.ord kn)).2.2≠0:=by simpa using he
     have em:(yby (yc6 ⟨x6t l i,x76 l.ord i,l.num⟩ (i-1) (kn-(i-1))).1 kn).2=(z3k (yc6 ⟨x6t l i,x76 l.ord i,l.num⟩ (i-1) (kn-(i-1))).1.ck (yn6 (yc6 ⟨x6t l i,x76 l.ord i,l.num⟩ (i-1) (kn-(i-1))).1.ord kn)).2.2:=by unfold yby;rw[Zn he]
     have e9:x71 l i=yc6 ⟨x6t l i,x76 l.ord i,l.num⟩ (i-1) (kn-(i-1)+1):=yc7 (n:=kn-(i-1)+1) (by rw[es,em];exact he) _ (by omega);rw[e9,es,em]
    ·rw[h0] at he;simp at he
    ·have he:(z3k (yc6 ⟨x6t l i,x76 l.ord i,l.num⟩ (i-1) (kn-(i-1))).1.ck (yn6 (yc6 ⟨x6t l i,x76 l.ord i,l.num⟩ (i-1) (kn-(i-1))).1.ord kn)).2.2=0:=by simpa using he
     obtain⟨w4,B4⟩:=hok he;have em:yby (yc6 ⟨x6t l i,x76 l.ord i,l.num⟩ (i-1) (kn-(i-1))).1 kn=(⟨(z3k (yc6 ⟨x6t l i,x76 l.ord i,l.num⟩ (i-1) (kn-(i-1))).1.ck (yn6 (yc6 ⟨x6t l i,x76 l.ord i,l.num⟩ (i-1) (kn-(i-1))).1.ord kn)).1,(yc6 ⟨x6t l i,x76 l.ord i,l.num⟩ (i-1) (kn-(i-1))).1.ord,(yc6 ⟨x6t l i,x76 l.ord i,l.num⟩ (i-1) (kn-(i-1))).1.num.set kn (z3k (yc6 ⟨x6t l i,x76 l.ord i,l.num⟩ (i-1) (kn-(i-1))).1.ck (yn6 (yc6 ⟨x6t l i,x76 l.ord i,l.num⟩ (i-1) (kn-(i-1))).1.ord kn)).2.1⟩,0):=by unfold yby;rw[Zp he]
     refine⟨by unfold inI;omega,⟨by omega,by omega,?_,w4,?_⟩,by show (((min (i+2) l.num.length:Nat):Int)-((kn:Int)+1)).toNat<(((min (i+2) l.num.length:Nat):Int)-(kn:Int)).toNat;omega⟩
     ·rw[show ((kn:Int)+1).toNat-(i-1)=kn-(i-1)+1 by omega,es,em]
     ·rw[show ((kn:Int)+1).toNat-(i-1)=kn-(i-1)+1 by omega,es,em];exact B4
   ·have hk:kn=min (i+2) l.num.length:=by
     have:¬ (kn:Int)<(min (i+2) l.num.length:Nat):=Zs hk;omega
    subst hk;exact⟨_,_,rfl,λh=>(by cases h),λ_=>⟨i,s,kz.symm,B3.le,λ_=>⟨rfl,w3,B3⟩⟩⟩
theorem _root_.Go.Eng.Fn.frame{P:Program}{f:FuncId}{args:Array Value}{H Hb:Hp}{Zw:Value->Hp->Prop}(h:Go.Eng.Fn P f args H Zw)(hl:Qb H Hb) :
  Go.Eng.Fn P f args Hb λv H''=>∃H',Zw v H'/\Qb H' H''/\(∀b,H b=none->Hb b≠none->H' b=none)/\(Qb H H'->Qb Hb H''):=by
 intro w hv;refine(h w (hv.mono hl)).mono λe w' ⟨v,H',he,ht,hq⟩=>?_
 have hn:∀b,H b=none->Hb b≠none->H' b=none:=λb h1 h2=>ht.none (hv.lt h2) h1
 refine⟨v,λk=>if (H k).isNone&&(Hb k).isSome then Hb k else H' k,he,⟨λb o hb=>?_,λb hb hbn=>?_,λb hb=>?_,ht.size,ht.os,ht.tape,ht.output,ht.drawn⟩,H',hq,λb o hb=>?_,hn,λhle b o hb=>?_⟩
 ·split at hb
  ·rename_i hc;simp only[Qa,Ql] at hc;rw[ht.frame b (hv.lt (by rw[hb];simp)) hc.1];exact hv b o hb
  ·exact ht.view b o hb
 ·have:H b=none:=by
   cases hx:H b with
   | none=>rfl
   | some o=>rw[hl b o hx] at hbn;cases hbn
  exact ht.frame b hb this
 ·split at hb
  ·exact .inl hb
  ·rcases ht.fresh b hb with h1|h1
   ·left;cases hx:H b with
    | none=>exact absurd hx h1
    | some o=>rw[hl b o hx];simp
   ·exact .inr h1
 ·show (if (H b).isNone&&(Hb b).isSome then Hb b else H' b)=some o;split
  ·rename_i hc;simp only[Qa,Ql] at hc;have:=hn b hc.1 (by intro e;rw[e] at hc;simp at hc);rw[this] at hb;cases hb
  ·exact hb
 ·show (if (H b).isNone&&(Hb b).isSome then Hb b else H' b)=some o;split
  ·exact hb
  ·rename_i hc;cases hx:H b with
   | none=>rw[hx,hb] at hc;simp at hc
   | some o'=>have:=hl b o' hx;rw[hb] at this;cases this;exact hle b o hx
theorem xah(c:Ck)(t:Int×Int):xaf c t=0\/xaf c t=44\/xaf c t=8:=by
 unfold xaf;split
 ·split
  ·exact .inr (.inl rfl)
  ·exact .inl rfl
 ·exact .inr (.inr rfl)
theorem z4a(h:¬ yk9 l):z49 l to=(.zero,0,8):=by unfold z49;rw[Zn h]
theorem z4e(ok:yk9 l)(h:xaf l.ck to≠0):z49 l to=(.zero,0,xaf l.ck to):=by unfold z49;rw[Zp ok,Zn h]
theorem z4c(ok:yk9 l)(h:xaf l.ck to=0):z49 l to=if (z4g l to).2.2=0 then (yfl (z4g l to).1 to,(z4g l to).2.1,0) else (.zero,0,(z4g l to).2.2):=by unfold z49;rw[Zp ok,Zp h]
theorem y84(r:RdL H u l)(fl:zzh l)(ht:zzn to) :
  fN F.f11 #[lsV u l,raW to] H λv H'=>∃w:Lu,v=.tuple #[lsV w (z49 l to).1,vi (z49 l to).2.1,vi (z49 l to).2.2]/\Qb H H'/\RdL H' w (z49 l to).1:=by
 have f1:=fl.o;have f2:=fl.n;refine vc11 ⟨_,y86 r fl,λhc=>?_,λhc=>?_⟩
 ·have hn:¬ yk9 l:=λok=>by rw[zlz ok] at hc;simp at hc
  rw[z4a hn,zly hn];exact⟨zlu,rfl,Qd _,RdL.zero⟩
 have ok:yk9 l:=zm0.1 (by simpa using hc);refine(zmv r.k fl.k ht).mono λv H3 ⟨w0,hv,l3,r3⟩=>⟨_,_,w0.f,_,w0.cl,w0.u1,w0.u2,w0.u3,w0.u4,w0.u5,w0.d,_,hv,λhe=>?_,λhe=>?_⟩
 ·have hu:xaf l.ck to≠0:=λhu=>by
   unfold yfh at he;rw[Zp hu] at he;by_cases hw:xbo l.ck to=true
   ·rw[Zp hw] at he;simp at he
   ·rw[Zn hw] at he;simp at he
  have em:(yfh l.ck to).2=xaf l.ck to:=by unfold yfh;rw[Zn hu]
  rw[em,z4e ok hu];exact⟨zlu,rfl,l3,RdL.zero⟩
 have hu:xaf l.ck to=0:=by
  by_cases hu:xaf l.ck to=0
  ·exact hu
  ·exfalso;have em:(yfh l.ck to).2=xaf l.ck to:=by unfold yfh;rw[Zn hu]
   rw[em] at he;rcases xah l.ck to with h|h|h
   ·exact hu h
   ·rw[h] at he;simp at he
   ·rw[h] at he;simp at he
 obtain⟨_,ot,_⟩:=xai.1 hu;rw[z4c ok hu];refine(znw (r.o.le l3) (by omega)).mono λv H17 ⟨so,hv,l17,m1⟩=>⟨l17,so,hv,?_⟩
 refine(znw (r.n.le (Qc l3 l17)) (by omega)).mono λv H20 ⟨sn,hv,l20,m2⟩=>⟨l20,sn,hv,λb22 H23 hb22 hH23=>?_⟩
 have l23:Qb H20 H23:=Qh (Qd _) hb22 hH23;have down:∀{G:Hp}{x:Nat},Qb G H20->H20 x=none->G x=none:=λ{G x} hl hx=>by
  cases hy:G x with
  | none=>rfl
  | some o=>rw[hl x o hy] at hx;cases hx
 have l320:=Qc l17 l20;have B0:z0e H3 H23 b22 ⟨u.k,so,sn⟩ l:=by
  refine⟨by rw[hH23];exact Cel.put,⟨H3,Qc l320 l23,λx hx=>?_,r.k.le l3⟩,(m1.le l20).le l23,(m2.low l17).le l23,Sep.of m1.isOld m2.isNew,Qc l320 l23,down l320 hb22,λp hp e=>?_,λp hp e=>?_⟩
  ·rcases hx with rfl|⟨p,hp,rfl⟩|⟨p,hp,rfl⟩
   ·exact down l320 hb22
   ·exact m1.isNew p hp
   ·exact(m2.low l17).isNew p hp
  ·have:=(m1.le l20).isOld p hp;rw[e] at this;exact this hb22
  ·have:=m2.isOld p hp;rw[e] at this;exact this hb22
 have lH3:∀{H':Hp},Qb H3 H'->Qb H H':=λh=>Qc l3 h
 refine⟨λn H'=>∃l' w,z02 l to n l'/\z0e H3 H' b22 ⟨w,so,sn⟩ l',λn _=>((ys3 l to:Int)-n).toNat,⟨l,u.k,z02.start ok hu,B0⟩,λn H27 ⟨l',w,a,B⟩=>?_⟩;have n0:=a.n0;have pt:=a.pot;have ps:=ys4 ok.weak to;refine(x6s B a.m a.u ht).mono λv H29 ⟨c,e,hv,q1,q2⟩=>⟨c,e,hv,?_⟩
 cases hw:xbo l'.ck to with
 | false =>
  obtain⟨rfl,rfl,B1⟩:=q1 hw;have B1:z0e H3 H29 b22 ⟨w,so,sn⟩ l':=B1;refine⟨λh=>by simp at h,λ_=>⟨λ_=>?_,λh=>(by cases h)⟩⟩;have box:=B1.box;have fl':=a.m.fit;have em:yfh l'.ck to=({ l'.ck with now:=to },0):=by unfold yfh;rw[Zp a.u,Zn (by rw[hw];simp)]
  have q:=zmw B1.rk fl'.k ht;rw[em] at q;refine⟨_,_,w.f,_,w.cl,w.u1,w.u2,w.u3,w.u4,w.u5,w.d,⟨Cel.at box 0,Cel.at box 1,Cel.at box 2,Cel.at box 3,Cel.at box 4,Cel.at box 5,Cel.at box 6,Cel.at box 7,Cel.at box 8,Cel.at box 9,Cel.at box 10⟩,q.mono λv H44 ⟨w1,hv,l44,rw1,nw1⟩=>⟨l44,_,_,w1.f,_,w1.cl,w1.u1,w1.u2,w1.u3,w1.u4,w1.u5,w1.d,_,hv,B1.clock l44 rw1 nw1 λH57 B57=>?_⟩⟩;have bx:=B57.box;refine⟨_,_,w1.f,_,w1.cl,w1.u1,w1.u2,w1.u3,w1.u4,w1.u5,w1.d,so,sn,⟨Cel.at bx 0,Cel.at bx 1,Cel.at bx 2,Cel.at bx 3,Cel.at bx 4,Cel.at bx 5,Cel.at bx 6,Cel.at bx 7,Cel.at bx 8,Cel.at bx 9,Cel.at bx 10,Cel.at bx 11,Cel.at bx 12⟩,?_⟩;have ea:=a.stop hw;rw[ea,Zp rfl];exact⟨⟨w1,so,sn⟩,rfl,lH3 B57.le,⟨B57.rk,B57.o.rdI,B57.n.rdI⟩⟩
 | true =>
  obtain⟨i,s,es,le,q3⟩:=q2 hw;refine⟨λh=>?_,λh=>?_⟩
  ·have h:e≠0:=by simpa using h
   have ea:=a.fail hw s (by rw[← es];exact h);rw[ea,← es,Zn h];exact⟨zlu,rfl,lH3 le,RdL.zero⟩
  ·have h:e=0:=by simpa using h
   obtain⟨rfl,w1,B1⟩:=q3 h;obtain⟨a1,pl⟩:=a.next hw s (by rw[← es];exact h);have a1p:=a1.pot;refine⟨λh=>(by cases h),λ_=>⟨by unfold inI;omega,⟨_,w1,a1,B1⟩,by show ((ys3 l to:Int)-(n+1)).toNat<((ys3 l to:Int)-n).toNat;omega⟩⟩
def x5l(l:Ls):Ls×Int×Int:=if (y7p l).2≠0 then (.zero,0,(y7p l).2) else z49 l (y7p l).1
theorem y7q(h:(y7p l).2=0):okR (y7p l).1:=by
 unfold y7p at h ⊢;by_cases ok:yk9 l
 ·rw[Zp ok] at h ⊢;by_cases h0:l.ck.ag.heap.length=0
  ·rw[Zp h0] at h;cases h
  ·rw[Zn h0];exact(ok.ck.ag.each _ (y57 (by omega))).1
 ·rw[Zn ok] at h;cases h
theorem y89(r:RdL H u l)(fl:zzh l) :
  fN F.f20 #[lsV u l] H λv H'=>∃w:Lu,v=.tuple #[lsV w (x5l l).1,vi (x5l l).2.1,vi (x5l l).2.2]/\Qb H H'/\RdL H' w (x5l l).1:=by
 refine vc20 ⟨_,_,_,y7o r fl,λhe=>?_,λhe=>?_⟩
 ·have he:(y7p l).2≠0:=by simpa using he
  unfold x5l;rw[Zp he];exact⟨zlu,rfl,Qd _,RdL.zero⟩
 ·have he:(y7p l).2=0:=by simpa using he
  unfold x5l;rw[Zn (by omega)];exact(y84 r fl (y7q he).fit).mono λv H5 ⟨w,hv,l5,r5⟩=>⟨_,_,w.k.f,_,w.k.cl,w.k.u1,w.k.u2,w.k.u3,w.k.u4,w.k.u5,w.k.d,w.o,w.n,_,_,hv,w,rfl,l5,r5⟩
