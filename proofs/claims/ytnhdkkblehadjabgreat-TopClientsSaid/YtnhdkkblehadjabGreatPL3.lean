/- The engine, parts L8, L9, LA, put together. Conditions: none. -/
import Derived.Test.YtnhdkkblehadjabGreatPL1
import Derived.Test.YtnhdkkblehadjabGreatP6
import Derived.Test.YtnhdkkblehadjabGreatVgClock
import Derived.Test.YtnhdkkblehadjabGreatVgStd
import Derived.Test.YtnhdkkblehadjabGreatFs
set_option linter.unusedVariables false
section
/- Clocks: copied. Conditions: none. -/
set_option maxRecDepth 100000
open Go Go.Eng Go.Proofs
namespace Go.Proofs.YtnhdkkblehadjabGreat

theorem zmq{H:Hp}{s:Slc}{xs:List Pt}(hs:Rd 3 fD H s xs)(hl:xs.length<=1000000000) :
  Go.Eng.Fn Tryz.prog F.f59 #[s.v] H λv H'=>∃u:Slc,v=u.v/\Hp.le H H'/\Mine 3 fD T.api_Point H H' u xs :=
 vc59 (zms (k:=3) (f:=fD) (bytes:=24) (by kernel_rfl) (by decide) (λ_=>rfl) hs (by omega) (by omega))
theorem zml{H:Hp}{s:Slc}{xs:List (Int×Int×Int)}(hs:Rd 3 fD H s xs)(hl:xs.length<=1000000000) :
  Go.Eng.Fn Tryz.prog F.f123 #[s.v] H λv H'=>∃u:Slc,v=u.v/\Hp.le H H'/\Mine 3 fD T.api_Due H H' u xs :=
 vc123 (zms (k:=3) (f:=fD) (bytes:=24) (by kernel_rfl) (by decide) (λ_=>rfl) hs (by omega) (by omega))

/-! ### A box: a block of the call's own that all may see -/
def Off(b:Nat)(H H':Hp):Prop:=∀c,c≠b->H' c=H c
theorem zbb{H:Hp}{b i:Nat}{cs cs':Array Value}{T:TypeId}{v:Value}(h:Cel H b cs T)(hi:i<cs.size)(e:cs.setIfInBounds i v=cs'){Q:Hp->Prop}(q:∀H',Cel H' b cs' T->Off b H H'->Q H') :
  H.canStore ⟨b,i,none⟩ 0 [v]/\∀H',H'=H.store ⟨b,i,none⟩ 0 [v]->Q H' :=
 ⟨h.can hi v,λH' e'=>by
  subst e'
  rw[h.store,e]
  exact q _ Cel.put λc hc=>by simp[Hp.put,hc]⟩
theorem Off.le{b:Nat}{H0 H H':Hp}(o:Off b H H')(hb:H0 b=none)(l:Hp.le H0 H):Hp.le H0 H':=λc x hc=>by
 have:c≠b:=λe=>by subst e;rw[hb] at hc;cases hc
 rw[o c this];exact l c x hc
structure Kp{α:Type}(b:Nat)(k:Nat)(f:α->List Value)(H:Hp)(u:Slc)(xs:List α):Prop where
 rd:Rd k f H u xs
 sep:∀p,u.a=some p->p.block≠b
 old:Old H u
section
variable {α:Type} {b k:Nat} {f:α->List Value} {H H':Hp} {u:Slc} {xs:List α}
theorem Kp.le(h:Kp b k f H u xs)(l:Hp.le H H'):Kp b k f H' u xs:=⟨h.rd.le l,h.sep,h.old.le l⟩
theorem Kp.off(h:Kp b k f H u xs)(o:Off b H H'):Kp b k f H' u xs :=
 ⟨h.rd.chg (v:=⟨some ⟨b,0,none⟩,0,0⟩) (λc _ hc=>o c λe=>hc _ rfl (by rw[e])) (λp q hp hq e=>by cases hq;exact h.sep p hp e),h.sep,λp hp=>by rw[o _ (h.sep p hp)];exact h.old p hp⟩
theorem Mine.off{e:TypeId}{H0:Hp}(m:Mine k f e H0 H u xs)(o:Off b H H')(s:∀p,u.a=some p->p.block≠b):Mine k f e H0 H' u xs :=
 Mine.chg (v:=⟨some ⟨b,0,none⟩,0,0⟩) m (λc _ hc=>o c λe=>hc _ rfl (by rw[e])) λp q hp hq e=>by cases hq;exact s p hp e
theorem Mine.kp{e:TypeId}{cs:Array Value}{T:TypeId}(m:Mine k f e H H' u xs)(h:Cel H b cs T)(hk:∀x,(f x).length=k):Kp b k f H' u xs :=
 ⟨m.rd hk,λp hp e=>(by
  have:=m.isNew p hp
  rw[e,h] at this
  cases this),m.isOld⟩
end

abbrev ckC(c:Ck)(f cl u1 u2 u3 u4 u5 d:Slc):Array Value:=#[.int .i64 c.now.1,.int .i64 c.now.2,f.v,.int .i64 c.ct.next,cl.v,u1.v,u2.v,u3.v,u4.v,u5.v,d.v]
structure z1k(H:Hp)(w:Cu):Prop where
 cl:Old H w.cl
 u1:Old H w.u1
 u2:Old H w.u2
 u3:Old H w.u3
 u4:Old H w.u4
 u5:Old H w.u5
theorem zly{H:Hp}{u:Cu}{c:Ck}(r:RdK H u c)(fk:zx9 c) :
  Go.Eng.Fn Tryz.prog F.f67 #[ckV u c] H λv H'=>∃w:Cu,v=ckV w c/\Hp.le H H'/\RdK H' w c/\Mine 3 fD T.api_Due H H' w.d c.due/\Sep w.f w.d/\z1k H' w:=by
 have f1:=fk.f;have f2:=fk.ct;have f3:=fk.due;have f4:=fk.ag.hl;have f5:=fk.ag.wl;have f6:=fk.ag.tb
 refine vc67 λb1 H2 hb1 hH2=>?_
 have le2:Hp.le H H2:=Hp.le_new (Hp.le_refl _) hb1 hH2
 have c2:Cel H2 b1 (ckC c u.f u.cl u.u1 u.u2 u.u3 u.u4 u.u5 u.d) T.api_Clock:=by rw[hH2];exact Cel.put
 have r2:=r.le le2
 refine⟨u.f,Cel.at c2 2,u.cl,Cel.at c2 4,u.d,Cel.at c2 10,(zmq r2.f (by omega)).mono λv H7 ⟨w1,hv,l7,m1⟩=>⟨l7,w1,hv,?_⟩⟩
 have k1:=Mine.kp m1 c2 λ_=>rfl
 have c7:=c2.le l7
 refine(zmn (r2.le l7).cl (by omega)).mono λv H10 ⟨w2,hv,l10,m2⟩=>⟨l10,w2,hv,?_⟩
 have k2:=Mine.kp m2 c7 λ_=>rfl
 have c10:=c7.le l10
 refine(zml ((r2.le l7).le l10).due (by omega)).mono λv H13 ⟨w3,hv,l13,m3⟩=>⟨l13,w3,hv,?_⟩
 have k3:=Mine.kp m3 c10 λ_=>rfl
 have c13:=c10.le l13
 have le13:Hp.le H H13:=Hp.le_trans le2 (Hp.le_trans l7 (Hp.le_trans l10 l13))
 refine zbb (i:=2) (cs':=ckC c w1 u.cl u.u1 u.u2 u.u3 u.u4 u.u5 u.d) c13 (show 2<11 by decide) rfl λH15 c15 o15=>zbb (i:=4) (cs':=ckC c w1 w2 u.u1 u.u2 u.u3 u.u4 u.u5 u.d) c15 (show 4<11 by decide) rfl λH16 c16 o16=>zbb (i:=10) (cs':=ckC c w1 w2 u.u1 u.u2 u.u3 u.u4 u.u5 w3) c16 (show 10<11 by decide) rfl λH17 c17 o17=>?_
 have k1:=((((k1.le l10).le l13).off o15).off o16).off o17
 have k2:=(((k2.le l13).off o15).off o16).off o17
 have k3:=((k3.off o15).off o16).off o17
 have le17:Hp.le H H17:=o17.le hb1 (o16.le hb1 (o15.le hb1 le13))
 have r17:=r.le le17
 refine⟨u.u4,Cel.at c17 8,u.u5,Cel.at c17 9,(zmm r17.ag.heap (by omega)).mono λv H21 ⟨w4,hv,l21,m4⟩=>⟨l21,w4,hv,?_⟩⟩
 have k4:=Mine.kp m4 c17 λ_=>rfl
 have c21:=c17.le l21
 refine(zmo (r17.le l21).ag.wh (by omega)).mono λv H24 ⟨w5,hv,l24,m5⟩=>⟨l24,w5,hv,?_⟩
 have k5:=Mine.kp m5 c21 λ_=>rfl
 have c24:=c21.le l24
 have le24:Hp.le H H24:=Hp.le_trans le17 (Hp.le_trans l21 l24)
 refine zbb (i:=8) (cs':=ckC c w1 w2 u.u1 u.u2 u.u3 w4 u.u5 w3) c24 (show 8<11 by decide) rfl λH26 c26 o26=>zbb (i:=9) (cs':=ckC c w1 w2 u.u1 u.u2 u.u3 w4 w5 w3) c26 (show 9<11 by decide) rfl λH27 c27 o27=>?_
 have k1:=(((k1.le l21).le l24).off o26).off o27
 have k2:=(((k2.le l21).le l24).off o26).off o27
 have k3:=(((k3.le l21).le l24).off o26).off o27
 have k4:=((k4.le l24).off o26).off o27
 have k5:=(k5.off o26).off o27
 have le27:Hp.le H H27:=o27.le hb1 (o26.le hb1 le24)
 have r27:=r.le le27
 obtain⟨g1,g2,g3⟩:=f6
 refine⟨u.u1,Cel.at c27 5,u.u2,Cel.at c27 6,u.u3,Cel.at c27 7,(zmo r27.ag.tb.uses (by omega)).mono λv H32 ⟨w6,hv,l32,m6⟩=>⟨l32,w6,hv,?_⟩⟩
 have k6:=Mine.kp m6 c27 λ_=>rfl
 have c32:=c27.le l32
 refine(zmk (r27.le l32).ag.tb.used (by omega)).mono λv H35 ⟨w7,hv,l35,m7⟩=>⟨l35,w7,hv,?_⟩
 have k7:=Mine.kp m7 c32 λ_=>rfl
 have c35:=c32.le l35
 refine(zmo ((r27.le l32).le l35).ag.tb.free (by omega)).mono λv H38 ⟨w8,hv,l38,m8⟩=>⟨l38,w8,hv,?_⟩
 have k8:=Mine.kp m8 c35 λ_=>rfl
 have c38:=c35.le l38
 have le38:Hp.le H H38:=Hp.le_trans le27 (Hp.le_trans l32 (Hp.le_trans l35 l38))
 refine zbb (i:=5) (cs':=ckC c w1 w2 w6 u.u2 u.u3 w4 w5 w3) c38 (show 5<11 by decide) rfl λH40 c40 o40=>zbb (i:=6) (cs':=ckC c w1 w2 w6 w7 u.u3 w4 w5 w3) c40 (show 6<11 by decide) rfl λH41 c41 o41=>zbb (i:=7) (cs':=ckC c w1 w2 w6 w7 w8 w4 w5 w3) c41 (show 7<11 by decide) rfl λH42 c42 o42=>?_
 have le42:Hp.le H H42:=o42.le hb1 (o41.le hb1 (o40.le hb1 le38))
 have at42:=λi=>Cel.at c42 i
 have sp:=k3.sep
 have s13:Sep w1 w3:=Sep.of (m1.isOld.le l10) m3.isNew
 have m17:=Mine.off (Mine.off (Mine.off (m3.low (Hp.le_trans le2 (Hp.le_trans l7 l10))) o15 sp) o16 sp) o17 sp
 have m27:=Mine.off (Mine.off ((m17.le l21).le l24) o26 sp) o27 sp
 have m42:=Mine.off (Mine.off (Mine.off (((m27.le l32).le l35).le l38) o40 sp) o41 sp) o42 sp
 refine⟨_,_,w1,_,w2,w6,w7,w8,w4,w5,w3,⟨at42 0,at42 1,at42 2,at42 3,at42 4,at42 5,at42 6,at42 7,at42 8,at42 9,at42 10⟩,⟨w1,w2,w6,w7,w8,w4,w5,w3⟩,rfl,le42,?_,m42,s13,?_⟩
 ·have k1:=((((((k1.le l32).le l35).le l38).off o40).off o41).off o42)
  have k2:=((((((k2.le l32).le l35).le l38).off o40).off o41).off o42)
  have k3:=((((((k3.le l32).le l35).le l38).off o40).off o41).off o42)
  have k4:=((((((k4.le l32).le l35).le l38).off o40).off o41).off o42)
  have k5:=((((((k5.le l32).le l35).le l38).off o40).off o41).off o42)
  have k6:=(((((k6.le l35).le l38).off o40).off o41).off o42)
  have k7:=((((k7.le l38).off o40).off o41).off o42)
  have k8:=(((k8.off o40).off o41).off o42)
  exact⟨k1.rd,k2.rd,⟨⟨k6.rd,k7.rd,k8.rd⟩,k4.rd,k5.rd⟩,k3.rd⟩
 ·have k2:=((((((k2.le l32).le l35).le l38).off o40).off o41).off o42)
  have k4:=((((((k4.le l32).le l35).le l38).off o40).off o41).off o42)
  have k5:=((((((k5.le l32).le l35).le l38).off o40).off o41).off o42)
  have k6:=(((((k6.le l35).le l38).off o40).off o41).off o42)
  have k7:=((((k7.le l38).off o40).off o41).off o42)
  have k8:=(((k8.off o40).off o41).off o42)
  exact⟨k2.old,k6.old,k7.old,k8.old,k4.old,k5.old⟩


theorem RdK.zero{H:Hp}:RdK H zu .zero:=⟨(Rd.nil:Rd 3 fD H ⟨none,0,0⟩ []),(Rd.nil:Rd 3 fD H ⟨none,0,0⟩ []),(z1d.zero (Hp.le_refl _)).rd,(Rd.nil:Rd 3 fD H ⟨none,0,0⟩ [])⟩
theorem zuf(x:Int×Int×Int):∀v∈fD x,v.oneCell'=true:=λv hv=>by simp[fD] at hv;rcases hv with rfl|rfl|rfl <;> rfl
theorem zqk{H0 H:Hp}{s:Slc}{xs:List (Int×Int×Int)}{i:Int}(hl:Hp.le H0 H)(h:Mine 3 fD T.api_Due H0 H s xs)(h0:0<=i)(h1:i<xs.length) :
  Go.Eng.Fn Tryz.prog F.f185 #[s.v,.int .i64 i,.int .i64 (i+1)] H λv H'=>∃u:Slc,v=u.v/\Hp.le H0 H'/\Mine 3 fD T.api_Due H0 H' u (xs.take i.toNat++xs.drop (i.toNat+1))/\Chg H H' s:=by
 refine vc185 (zqm (k:=3) (f:=fD) (bytes:=24) (j:=i+1) (post:=λv H'=>∃u:Slc,v=u.v/\Hp.le H0 H'/\Mine 3 fD T.api_Due H0 H' u (xs.take i.toNat++xs.drop (i.toNat+1))/\Chg H H' s) (by kernel_rfl) (by kernel_rfl) (by decide) (λ_=>rfl) zuf (by kernel_rfl) hl h h0 (by omega) (by omega) λu H' g1 g2 g3 _=>⟨u,rfl,g1,?_,g3⟩)
 rw[show i.toNat+1=(i+1).toNat by omega];exact g2
theorem RdA.chg{H H':Hp}{u1 u2 u3 u4 u5 d:Slc}{a:Ag}(r:RdA H u1 u2 u3 u4 u5 a)(c:Chg H H' d)(s1:Sep u1 d)(s2:Sep u2 d)(s3:Sep u3 d)(s4:Sep u4 d)(s5:Sep u5 d):RdA H' u1 u2 u3 u4 u5 a :=
 ⟨⟨r.tb.uses.chg c s1,r.tb.used.chg c s2,r.tb.free.chg c s3⟩,r.heap.chg c s4,r.wh.chg c s5⟩
theorem RdA.chgN{H0 H H':Hp}{u1 u2 u3 u4 u5 d:Slc}{a:Ag}(n:z1d H0 H u1 u2 u3 u4 u5 a)(c:Chg H H' d)(o:Old H0 d):RdA H' u1 u2 u3 u4 u5 a :=
 RdA.chg n.rd c (Sep.of o n.tb.uses.isNew).symm (Sep.of o n.tb.used.isNew).symm (Sep.of o n.tb.free.isNew).symm (Sep.of o n.heap.isNew).symm (Sep.of o n.wh.isNew).symm

theorem ydj:ydi 200=(z9n 200,0):=by unfold ydi;rw[if_neg (by omega)];rfl
theorem zls{H:Hp}{w:Slc}{f:List Pt}{t:Int×Int}(hf:Rd 3 fD H w f)(ht:zxh t) :
  Go.Eng.Fn Tryz.prog F.f22 #[vFd w,raW t] H λv H'=>∃u:Cu,v=.tuple #[ckV u (ydl f t).1,.int .i64 (ydl f t).2]/\Hp.le H H'/\RdK H' u (ydl f t).1:=by
 refine vc22 ⟨_,zvi hf,λhc=>?_,λhc=>⟨_,yqv ht,λhc2=>?_,λhc2=>?_⟩⟩
 ·have hc:zkd f≠0:=by simpa using hc
  have e:ydl f t=(.zero,zkd f):=by unfold ydl x4x;rw[if_pos hc,if_neg hc]
  rw[e];exact⟨zu,rfl,Hp.le_refl _,RdK.zero⟩
 ·have hc:zkd f=0:=by simpa using hc
  have hc2:zl2 t≠0:=by simpa using hc2
  have et:x4x f t=zl2 t:=by unfold x4x;rw[if_neg (by omega)]
  have e:ydl f t=(.zero,zl2 t):=by unfold ydl;rw[et,if_neg hc2]
  rw[e];exact⟨zu,rfl,Hp.le_refl _,RdK.zero⟩
 ·have hc:zkd f=0:=by simpa using hc
  have hc2:zl2 t=0:=by simpa using hc2
  have e:ydl f t=(⟨t,f,.zero,z9n 200,[]⟩,0):=by unfold ydl;rw[if_pos (x4y.2 ⟨zke.1 hc,zl5.1 hc2⟩)]
  rw[e]
  have hl:=(zke.1 hc).small
  refine z4v.mono λv H4 ⟨v1,v2,v3,v4,v5,hv,n⟩=>⟨v1,v2,v3,v4,v5,_,hv,(zmq (hf.le n.le) (by omega)).mono λv H12 ⟨w1,hv,l12,m1⟩=>⟨l12,w1,hv,?_⟩⟩
  rw[ydj] at n ⊢
  exact⟨⟨w1,zs,v1,v2,v3,v4,v5,zs⟩,rfl,Hp.le_trans n.le l12,m1.rdD,(Rd.nil:Rd 3 fD H12 ⟨none,0,0⟩ []),(n.up l12).rd,(Rd.nil:Rd 3 fD H12 ⟨none,0,0⟩ [])⟩

theorem zdl{H:Hp}{n:Int}{post:Value->Hp->Prop}(h:post (.tuple #[ckV zu .zero,.int .i64 0,.int .i64 n]) H):FnV Tryz.prog (.func (.func F.f113) #[] #[]) [.int .i64 n] H post :=
 ⟨F.f113,#[],_,rfl,cb113,vc113 h⟩
theorem z3h{c:Ct}{x:Int×Int}(ok:okC c):((z3f c x).2.2=8↔x78 x=false)/\((z3f c x).2.2≠0->(z3f c x)=(.zero,0,(z3f c x).2.2)):=by
 unfold z3f
 by_cases hv:x78 x=true
 ·rw[if_pos ⟨ok,hv⟩]
  split
  ·simp[hv]
  ·split
   ·simp[hv]
   ·simp[hv]
 ·rw[if_neg λh=>hv h.2]
  simp[Bool.eq_false_iff.2 hv]
theorem okK.push{c:Ck}(ok:okK c){t:Int×Int}(ht:okR t):yp9 c.ag t c.ct.next=if c.ag.tb.canTake=true then (ype c.ag t c.ct.next,ydw c.ag,0) else (.zero,(0,0),18):=by
 obtain⟨ps,e⟩:=ok.evs
 have hn:y1w c.ag c.ct.next=false:=by
  unfold y1w
  rw[List.any_eq_false]
  intro y hy
  obtain⟨h,hm,he,_⟩:=e.cert (e.heap.mem_iff.1 hy)
  have:=(ok.ct.ok.each h hm).2.2
  simp;omega
 have:=ok.ct.n0;have:=ok.ct.n1
 unfold yp9
 rw[if_pos ⟨ok.ag,ht⟩,if_neg (by omega),hn,if_neg (by simp)]

end Go.Proofs.YtnhdkkblehadjabGreat
end
