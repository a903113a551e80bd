/- The engine, parts LB, LC, M6, LN, LO, put together. Conditions: none. -/
import Derived.Test.YtnhdkkblehadjabGreatPL3
import Derived.Test.YtnhdkkblehadjabGreatVgClock
import Derived.Test.YtnhdkkblehadjabGreatFs
import Derived.Test.YtnhdkkblehadjabGreatPM2
import Derived.Test.YtnhdkkblehadjabGreatVgKlist
set_option linter.unusedVariables false
section
/- Clocks: retiring, failing, moving. Conditions: none. -/
set_option maxRecDepth 100000
open Go Go.Eng Go.Proofs
namespace Go.Proofs.YtnhdkkblehadjabGreat

theorem okK.dueInc{c:Ck}(ok:okK c):(c.due.map (·.1)).Pairwise (·<·):=by
 obtain⟨ps,e⟩:=ok.evs
 have:=e.inc ok.ct
 rw[e.due,List.map_map]
 exact this
theorem zlt{H:Hp}{u:Cu}{c:Ck}{n:Int}(r:RdK H u c)(ok:okK c):∃i b,Qf Tryz.prog F.f183 #[u.d.v,.int .i64 n] H (.tuple #[.int .i64 i,.bool b])/\(b=true->0<=ynj c n/\i=ynj c n)/\(b=false->ynj c n<0):=by
 have hl:=ok.fit.due
 refine⟨_,_,vc183 ⟨_,_,zbf r.due ok.dueInc (by omega),rfl,Hp.le_refl _⟩,λhb=>?_,λhb=>?_⟩
 ·rcases yog ok.dueInc n with⟨h1,h2⟩|⟨h1,h2⟩
  ·have e:ynj c n=yo0 (c.due.map (·.1)) n:=h2
   exact⟨by omega,e.symm⟩
  ·rw[h1] at hb;cases hb
 ·rcases yog ok.dueInc n with⟨h1,h2⟩|⟨h1,h2⟩
  ·rw[h1] at hb;cases hb
  ·have e:ynj c n = -1:=h2
   omega

def zrb(c:Ck)(n:Int):Ck×(Int×Int)×Int:=if atC c.ct n<0 then (.zero,(0,0),6) else (y10 c n,(y01 c.ct.list (atC c.ct n)).2,0)
theorem okK.dueCut{c:Ck}(ok:okK c){n:Int}(h:0<=ynj c n):c.due.take (ynj c n).toNat++c.due.drop ((ynj c n).toNat+1)=c.due.filter λd=>d.1 != n:=by
 obtain⟨d,h1,h2,_,_⟩:=y3l h
 have hp:=List.pairwise_map.1 ok.dueInc
 have e:=zw6 hp h1
 have:d.1=n:=by simpa using h2
 rw[this] at e
 exact e
theorem yt5{a:Ag}{x:Ev}(ok:okA a)(hx:x∈a.heap):yt4 a x.h=(yt9 a x.h,x,0):=by
 unfold yt4;rw[(zwl ok hx).1];rfl

theorem ytn{c:Ck}{n:Int}(ok:okK c):ytm c n=((zrb c n).1,(zrb c n).2.2):=by
 unfold ytm zrb
 rw[if_pos ok]
 split <;> rfl
theorem zm0{H:Hp}{u:Cu}{c:Ck}{t:Int×Int}(r:RdK H u c)(fk:zx9 c)(ht:zxh t):Qf Tryz.prog F.f66 #[ckV u c,raW t] H (.tuple #[.bool (decide (x6i c t=0)&&x7r c t),.int .i64 (x6i c t)]):=by
 have hm:(if zl2 t>zko c then zl2 t else zko c)=if okK c/\okR t then 0 else 8:=by
  by_cases h1:okK c <;> by_cases h2:okR t <;> simp[zkr,zkp,zl4,zl3,h1,h2]
 refine vc66 ⟨_,zll r fk,_,yqv ht,?_⟩
 rw[hm]
 by_cases h:okK c/\okR t
 ·rw[if_pos h]
  refine⟨λhc=>by simp at hc,λ_=>⟨_,_,yqw ht fk.now,?_⟩⟩
  have ec:zng t c.now=(znm t c.now,0):=by unfold zng;rw[if_pos ⟨h.2,h.1.now⟩]
  rw[ec]
  refine⟨λhq=>?_,λhq=>?_⟩
  ·have hq:znm t c.now<0:=by simpa using hq
   have eu:x6i c t=44:=by unfold x6i;rw[if_pos h,if_pos hq]
   rw[eu];exact⟨rfl,Hp.le_refl _⟩
  ·have hq:¬ znm t c.now<0:=by simpa using hq
   have eu:x6i c t=0:=by unfold x6i;rw[if_pos h,if_neg hq]
   rw[eu]
   refine⟨_,_,_,_,_,_,z56 r.ag fk.ag,?_⟩
   unfold x5l x7r
   rw[if_pos h.1.ag]
   by_cases h0:c.ag.heap.length=0
   ·rw[if_pos h0]
    refine⟨λ_=>⟨?_,Hp.le_refl _⟩,λhx=>by simp at hx⟩
    rw[h0];rfl
   ·rw[if_neg h0]
    have o0:=(h.1.ag.each _ (y2z (by omega:0<c.ag.heap.length))).1
    have e2:zng (hp c.ag.heap 0).at_ t=(znm (hp c.ag.heap 0).at_ t,0):=by unfold zng;rw[if_pos ⟨o0,h.2⟩]
    refine⟨λhx=>by simp at hx,λ_=>⟨_,_,yqw o0.fit ht,?_,Hp.le_refl _⟩⟩
    rw[e2,decide_eq_true (show 0<c.ag.heap.length by omega)]
    rfl
 ·rw[if_neg h]
  have eu:x6i c t=8:=by unfold x6i;rw[if_neg h]
  rw[eu]
  exact⟨λ_=>⟨rfl,Hp.le_refl _⟩,λhx=>by simp at hx⟩

theorem okK.topCert{c:Ck}(ok:okK c)(h0:0<c.ag.heap.length):0<=atC c.ct (hp c.ag.heap 0).no:=by
 obtain⟨ps,e⟩:=ok.evs
 obtain⟨h,hm,h1,_⟩:=e.cert (e.heap.mem_iff.1 (y2z h0))
 obtain⟨i,hi⟩:=List.mem_iff_getElem?.1 hm
 rw[← h1,(zzy ok.ct hi).1]
 omega
theorem x7t{c:Ck}{t:Int×Int}(h:x7r c t=true):0<c.ag.heap.length:=by
 unfold x7r at h
 simp only[Bool.and_eq_true,decide_eq_true_eq] at h
 exact h.1

theorem zlq{H:Hp}{u:Cu}{c:Ck}{t:Int×Int}(r:RdK H u c)(fk:zx9 c)(ht:zxh t) :
  Go.Eng.Fn Tryz.prog F.f26 #[ckV u c,raW t] H λv H'=>∃w:Cu,v=.tuple #[ckV w (ycg c t).1,.int .i64 (ycg c t).2]/\Hp.le H H'/\RdK H' w (ycg c t).1:=by
 refine vc26 ⟨_,_,zm0 r fk ht,λhc=>⟨λ_=>?_,λh=>by cases h⟩,λhc=>⟨λhe=>?_,λhe=>?_⟩⟩
 ·simp only[Bool.and_eq_true,beq_iff_eq,decide_eq_true_eq] at hc
  have e:ycg c t=(.zero,36):=by unfold ycg;rw[if_pos hc.1,if_pos hc.2.2]
  rw[e];exact⟨zu,rfl,Hp.le_refl _,RdK.zero⟩
 ·have he:x6i c t≠0:=by simpa using he
  have e:ycg c t=(.zero,x6i c t):=by unfold ycg;rw[if_neg he]
  rw[e];exact⟨zu,rfl,Hp.le_refl _,RdK.zero⟩
 ·have he:x6i c t=0:=by simpa using he
  have hw:x7r c t=false:=by rw[he] at hc;simpa using hc
  have e:ycg c t=({ c with now:=t },0):=by unfold ycg;rw[if_pos he,if_neg (by rw[hw];simp)]
  rw[e]
  exact(zly r fk).mono λv H9 ⟨w,hv,l9,r9,_⟩=>⟨_,_,w.f,_,w.cl,w.u1,w.u2,w.u3,w.u4,w.u5,w.d,hv,w,rfl,l9,r9.f,r9.cl,r9.ag,r9.due⟩


def y8u(l:Ls)(i:Nat):Ls×Int :=
 if (z3l l.ck (ykb l.ord i)).2.2=0 then (⟨(z3l l.ck (ykb l.ord i)).1,l.ord,l.num.set i (z3l l.ck (ykb l.ord i)).2.1⟩,0) else (.zero,(z3l l.ck (ykb l.ord i)).2.2)
def zlu:Lu:=⟨zu,zs,zs⟩
theorem RdL.zero{H:Hp}:RdL H zlu .zero:=⟨RdK.zero,(Rd.nil:Rd 1 fI H ⟨none,0,0⟩ []),(Rd.nil:Rd 1 fI H ⟨none,0,0⟩ [])⟩

def zbx(f:List Pt)(t:Int×Int):Nat->Ls×Int
 | 0=>(⟨(ydl f t).1,yis f t,List.replicate (f.length-1) 0⟩,0)
 | n+1=>if (zbx f t n).2=0 then y8u (zbx f t n).1 n else zbx f t n
def zbq(f:List Pt)(t:Int×Int):Ls×Int:=if x4x f t=0 then zbx f t (f.length-1) else (.zero,x4x f t)
theorem zbz{f:List Pt}{t:Int×Int}{n:Nat}(h:(zbx f t n).2≠0):∀m,n<=m->zbx f t m=zbx f t n
 | 0,hm=>by rw[show n=0 by omega]
 | m+1,hm=>by
  by_cases e:n=m+1
  ·rw[e]
  ·have ih:=zbz h m (by omega)
   show (if (zbx f t m).2=0 then y8u (zbx f t m).1 m else zbx f t m)=_
   rw[ih,if_neg h]
structure z09(f:List Pt)(t:Int×Int)(l:Ls):Prop where
 ok:okK l.ck
 fe:l.ck.f=f
 ord:l.ord=yis f t
 num:l.num.length=f.length-1
theorem z09.fit{f:List Pt}{t:Int×Int}{l:Ls}(b:z09 f t l)(of:okF f):zxc l:=by
 have:=of.small
 exact⟨b.ok.fit,by rw[b.ord,yiv];exact this,by rw[b.num];omega⟩
theorem z09.pos{f:List Pt}{t:Int×Int}{l:Ls}(b:z09 f t l)(of:okF f):∀x∈l.ord,0<=ynk l.ck.f x:=λx hx=>by
 rw[b.fe];rw[b.ord] at hx;exact yj7 of hx
theorem z09.made{f:List Pt}{t:Int×Int}{l:Ls}(b:z09 f t l)(of:okF f){i:Nat}(h:i<l.num.length)(hz:(y8u l i).2=0):z09 f t (y8u l i).1:=by
 have ho:l.ord.length=f.length:=by rw[b.ord,yiv]
 have hn:=b.num
 unfold y8u at hz ⊢
 split at hz
 ·rename_i he
  rw[if_pos he]
  have p1:0<=ynk l.ck.f (ykb l.ord i).1:=b.pos of _ (List.mem_of_getElem? (y0g (xs:=l.ord) (i:=(i:Int)+1) (by omega) (by omega)))
  have p2:0<=ynk l.ck.f (ykb l.ord i).2:=b.pos of _ (List.mem_of_getElem? (y0g (xs:=l.ord) (i:=(i:Int)) (by omega) (by omega)))
  obtain⟨o1,_,_,o4,_⟩:=b.ok.add p1 p2 he
  exact⟨o1,by rw[o4];exact b.fe,b.ord,by rw[List.length_set];exact hn⟩
 ·rename_i he;exact absurd hz he
theorem z09.start{f:List Pt}{t:Int×Int}(h:x4x f t=0):z09 f t (zbx f t 0).1:=by
 have e:ydl f t=(⟨t,f,.zero,z9n 200,[]⟩,0):=by unfold ydl;rw[if_pos h]
 obtain⟨of,ot⟩:=x4y.1 h
 refine⟨?_,?_,rfl,by show (List.replicate _ _).length=_;rw[List.length_replicate]⟩
 ·show okK (ydl f t).1
  rw[e]
  exact⟨ot,of,(show okC Ct.zero by decide),rfl,okA.begin (by omega) (by omega),rfl,rfl,rfl⟩
 ·show (ydl f t).1.f=f
  rw[e]


structure z1h(H:Hp)(w:Cu):Prop where
 f:New H w.f
 cl:New H w.cl
 u1:New H w.u1
 u2:New H w.u2
 u3:New H w.u3
 u4:New H w.u4
 u5:New H w.u5
 d:New H w.d
theorem New.none{H:Hp}:New H zs:=λp hp=>by cases hp
theorem z1h.zero{H:Hp}:z1h H zu:=⟨New.none,New.none,New.none,New.none,New.none,New.none,New.none,New.none⟩
theorem zlz{H:Hp}{u:Cu}{c:Ck}(r:RdK H u c)(fk:zx9 c) :
  Go.Eng.Fn Tryz.prog F.f67 #[ckV u c] H λv H'=>∃w:Cu,v=ckV w c/\Hp.le H H'/\RdK H' w c/\Mine 3 fD T.api_Due H H' w.d c.due/\Sep w.f w.d/\z1h H w:=by
 have f1:=fk.f;have f2:=fk.ct;have f3:=fk.due;have f4:=fk.ag.hl;have f5:=fk.ag.wl;have f6:=fk.ag.tb
 refine vc67 λb1 H2 hb1 hH2=>?_
 have le2:Hp.le H H2:=Hp.le_new (Hp.le_refl _) hb1 hH2
 have c2:Cel H2 b1 (ckC c u.f u.cl u.u1 u.u2 u.u3 u.u4 u.u5 u.d) T.api_Clock:=by rw[hH2];exact Cel.put
 have r2:=r.le le2
 refine⟨u.f,Cel.at c2 2,u.cl,Cel.at c2 4,u.d,Cel.at c2 10,(zmq r2.f (by omega)).mono λv H7 ⟨w1,hv,l7,m1⟩=>⟨l7,w1,hv,?_⟩⟩
 have k1:=Mine.kp m1 c2 λ_=>rfl
 have c7:=c2.le l7
 refine(zmn (r2.le l7).cl (by omega)).mono λv H10 ⟨w2,hv,l10,m2⟩=>⟨l10,w2,hv,?_⟩
 have k2:=Mine.kp m2 c7 λ_=>rfl
 have c10:=c7.le l10
 refine(zml ((r2.le l7).le l10).due (by omega)).mono λv H13 ⟨w3,hv,l13,m3⟩=>⟨l13,w3,hv,?_⟩
 have k3:=Mine.kp m3 c10 λ_=>rfl
 have c13:=c10.le l13
 have le13:Hp.le H H13:=Hp.le_trans le2 (Hp.le_trans l7 (Hp.le_trans l10 l13))
 refine zbb (i:=2) (cs':=ckC c w1 u.cl u.u1 u.u2 u.u3 u.u4 u.u5 u.d) c13 (show 2<11 by decide) rfl λH15 c15 o15=>zbb (i:=4) (cs':=ckC c w1 w2 u.u1 u.u2 u.u3 u.u4 u.u5 u.d) c15 (show 4<11 by decide) rfl λH16 c16 o16=>zbb (i:=10) (cs':=ckC c w1 w2 u.u1 u.u2 u.u3 u.u4 u.u5 w3) c16 (show 10<11 by decide) rfl λH17 c17 o17=>?_
 have k1:=((((k1.le l10).le l13).off o15).off o16).off o17
 have k2:=(((k2.le l13).off o15).off o16).off o17
 have k3:=((k3.off o15).off o16).off o17
 have le17:Hp.le H H17:=o17.le hb1 (o16.le hb1 (o15.le hb1 le13))
 have r17:=r.le le17
 refine⟨u.u4,Cel.at c17 8,u.u5,Cel.at c17 9,(zmm r17.ag.heap (by omega)).mono λv H21 ⟨w4,hv,l21,m4⟩=>⟨l21,w4,hv,?_⟩⟩
 have k4:=Mine.kp m4 c17 λ_=>rfl
 have c21:=c17.le l21
 refine(zmo (r17.le l21).ag.wh (by omega)).mono λv H24 ⟨w5,hv,l24,m5⟩=>⟨l24,w5,hv,?_⟩
 have k5:=Mine.kp m5 c21 λ_=>rfl
 have c24:=c21.le l24
 have le24:Hp.le H H24:=Hp.le_trans le17 (Hp.le_trans l21 l24)
 refine zbb (i:=8) (cs':=ckC c w1 w2 u.u1 u.u2 u.u3 w4 u.u5 w3) c24 (show 8<11 by decide) rfl λH26 c26 o26=>zbb (i:=9) (cs':=ckC c w1 w2 u.u1 u.u2 u.u3 w4 w5 w3) c26 (show 9<11 by decide) rfl λH27 c27 o27=>?_
 have k1:=(((k1.le l21).le l24).off o26).off o27
 have k2:=(((k2.le l21).le l24).off o26).off o27
 have k3:=(((k3.le l21).le l24).off o26).off o27
 have k4:=((k4.le l24).off o26).off o27
 have k5:=(k5.off o26).off o27
 have le27:Hp.le H H27:=o27.le hb1 (o26.le hb1 le24)
 have r27:=r.le le27
 obtain⟨g1,g2,g3⟩:=f6
 refine⟨u.u1,Cel.at c27 5,u.u2,Cel.at c27 6,u.u3,Cel.at c27 7,(zmo r27.ag.tb.uses (by omega)).mono λv H32 ⟨w6,hv,l32,m6⟩=>⟨l32,w6,hv,?_⟩⟩
 have k6:=Mine.kp m6 c27 λ_=>rfl
 have c32:=c27.le l32
 refine(zmk (r27.le l32).ag.tb.used (by omega)).mono λv H35 ⟨w7,hv,l35,m7⟩=>⟨l35,w7,hv,?_⟩
 have k7:=Mine.kp m7 c32 λ_=>rfl
 have c35:=c32.le l35
 refine(zmo ((r27.le l32).le l35).ag.tb.free (by omega)).mono λv H38 ⟨w8,hv,l38,m8⟩=>⟨l38,w8,hv,?_⟩
 have k8:=Mine.kp m8 c35 λ_=>rfl
 have c38:=c35.le l38
 have le38:Hp.le H H38:=Hp.le_trans le27 (Hp.le_trans l32 (Hp.le_trans l35 l38))
 refine zbb (i:=5) (cs':=ckC c w1 w2 w6 u.u2 u.u3 w4 w5 w3) c38 (show 5<11 by decide) rfl λH40 c40 o40=>zbb (i:=6) (cs':=ckC c w1 w2 w6 w7 u.u3 w4 w5 w3) c40 (show 6<11 by decide) rfl λH41 c41 o41=>zbb (i:=7) (cs':=ckC c w1 w2 w6 w7 w8 w4 w5 w3) c41 (show 7<11 by decide) rfl λH42 c42 o42=>?_
 have le42:Hp.le H H42:=o42.le hb1 (o41.le hb1 (o40.le hb1 le38))
 have at42:=λi=>Cel.at c42 i
 have sp:=k3.sep
 have s13:Sep w1 w3:=Sep.of (m1.isOld.le l10) m3.isNew
 have m17:=Mine.off (Mine.off (Mine.off (m3.low (Hp.le_trans le2 (Hp.le_trans l7 l10))) o15 sp) o16 sp) o17 sp
 have m27:=Mine.off (Mine.off ((m17.le l21).le l24) o26 sp) o27 sp
 have m42:=Mine.off (Mine.off (Mine.off (((m27.le l32).le l35).le l38) o40 sp) o41 sp) o42 sp
 refine⟨_,_,w1,_,w2,w6,w7,w8,w4,w5,w3,⟨at42 0,at42 1,at42 2,at42 3,at42 4,at42 5,at42 6,at42 7,at42 8,at42 9,at42 10⟩,⟨w1,w2,w6,w7,w8,w4,w5,w3⟩,rfl,le42,?_,m42,s13,?_⟩
 ·have k1:=((((((k1.le l32).le l35).le l38).off o40).off o41).off o42)
  have k2:=((((((k2.le l32).le l35).le l38).off o40).off o41).off o42)
  have k3:=((((((k3.le l32).le l35).le l38).off o40).off o41).off o42)
  have k4:=((((((k4.le l32).le l35).le l38).off o40).off o41).off o42)
  have k5:=((((((k5.le l32).le l35).le l38).off o40).off o41).off o42)
  have k6:=(((((k6.le l35).le l38).off o40).off o41).off o42)
  have k7:=((((k7.le l38).off o40).off o41).off o42)
  have k8:=(((k8.off o40).off o41).off o42)
  exact⟨k1.rd,k2.rd,⟨⟨k6.rd,k7.rd,k8.rd⟩,k4.rd,k5.rd⟩,k3.rd⟩
 ·have le24':=le24;have le38':=le38
  exact⟨(m1.isNew).low le2,(m2.isNew).low (Hp.le_trans le2 l7),(m6.isNew).low le27,(m7.isNew).low (Hp.le_trans le27 l32),(m8.isNew).low (Hp.le_trans le27 (Hp.le_trans l32 l35)),(m4.isNew).low le17,(m5.isNew).low (Hp.le_trans le17 l21),(m3.isNew).low (Hp.le_trans le2 (Hp.le_trans l7 l10))⟩
theorem zlk{H:Hp}{u:Cu}{c:Ck}{x:Int×Int}(r:RdK H u c)(fk:zx9 c) :
  Go.Eng.Fn Tryz.prog F.f61 #[ckV u c,raW x] H λv H'=>∃w:Cu,v=.tuple #[ckV w (zdm c x).1,.int .i64 (zdm c x).2.1,.int .i64 (zdm c x).2.2]/\Hp.le H H'/\RdK H' w (zdm c x).1/\z1h H w:=by
 have bad:∀(e:Int)(H1:Hp),zdm c x=(.zero,0,e)->Hp.le H H1->FnV Tryz.prog (.func (.func F.f113) #[] #[]) [.int .i64 e] H1 λv2 H3 =>
   ∃n4 n5:Int,∃u6:Slc,∃n7:Int,∃u8 u9 u10 u11 u12 u13 u14:Slc,∃n15 n16:Int,v2=.tuple #[vCk n4 n5 u6 n7 u8 u9 u10 u11 u12 u13 u14,.int .i64 n15,.int .i64 n16] /\
    ∃w:Cu,(.tuple #[vCk n4 n5 u6 n7 u8 u9 u10 u11 u12 u13 u14,.int .i64 n15,.int .i64 n16]:Value)=.tuple #[ckV w (zdm c x).1,.int .i64 (zdm c x).2.1,.int .i64 (zdm c x).2.2]/\Hp.le H H3/\RdK H3 w (zdm c x).1/\z1h H w:=by
  intro e H1 he hl
  rw[he]
  exact zdl ⟨_,_,_,_,_,_,_,_,_,_,_,_,_,rfl,zu,rfl,hl,RdK.zero,z1h.zero⟩
 refine vc61 ⟨_,zll r fk,λhc=>?_,λhc=>?_⟩
 ·have hc:zko c≠0:=by simpa using hc
  have hk:¬ okK c:=λok=>hc (zkr ok)
  rw[zkp hk]
  exact bad 8 H (by unfold zdm;rw[if_neg λh=>hk h.1]) (Hp.le_refl _)
 have ok:okK c:=zks.1 (by simpa using hc)
 obtain⟨ae1,ae2⟩:=z3h (x:=x) ok.ct
 refine(zcq (c:=c.ct) (x:=x) r.cl).mono λv H18 ⟨a,hv,nc⟩=>⟨_,a,_,_,hv,λh8=>?_,λh8=>?_⟩
 ·have h8:(z3f c.ct x).2.2=8:=by simpa using h8
  have hv:=ae1.1 h8
  rw[h8]
  exact bad 8 H18 (by unfold zdm;rw[if_neg λh=>by rw[hv] at h;cases h.2]) nc.le
 have h8:x78 x=true:=by
  cases hv:x78 x with
  | true=>rfl
  | false=>rw[ae1.2 hv] at h8;simp at h8
 have r18:=r.le nc.le
 refine⟨_,_,_,zlv r18.f ok.f,_,_,_,λ_=>zlv r18.f ok.f,λhb=>?_,λhb=>?_⟩
 ·rw[ync ok.f,ync ok.f] at hb
  have hb:ynk c.f x.1<0\/ynk c.f x.2<0:=by simpa using hb
  exact bad 6 H18 (by unfold zdm;rw[if_pos ⟨ok,h8⟩,if_pos hb]) nc.le
 rw[ync ok.f,ync ok.f] at hb
 have hb:¬ (ynk c.f x.1<0\/ynk c.f x.2<0):=by simpa using hb
 have ek:zdm c x=z3l c x:=by unfold zdm;rw[if_pos ⟨ok,h8⟩,if_neg hb]
 refine⟨λhe=>?_,λhe=>?_⟩
 ·have he:(z3f c.ct x).2.2≠0:=by simpa using he
  exact bad _ H18 (by rw[ek];unfold z3l;rw[if_neg he]) nc.le
 have he:(z3f c.ct x).2.2=0:=by simpa using he
 obtain⟨a1,a2,a3,a4,a5,a6⟩:=z3i he
 have hne:x.1≠x.2:=by
  unfold x78 at h8
  simp only[Bool.and_eq_true,bne_iff_ne] at h8
  exact h8.2
 refine(zlz r18 fk).mono λv H75 ⟨w,hv,l75,rw75,m75,s75,nw⟩=>⟨_,_,w.f,_,w.cl,w.u1,w.u2,w.u3,w.u4,w.u5,w.d,hv,_,_,_,_,zm1 (x:=x) (r18.le l75).f ok.f fk.now,λh=>?_,λ_=>?_⟩
 ·rw[x82 ok.f ok.now (by omega) (by omega) hne] at h
  simp at h
 rw[x82 ok.f ok.now (by omega) (by omega) hne]
 cases hw:x7y c.f x c.now with
 | none =>
  refine⟨λh=>by simp at h,λ_=>?_⟩
  have e:z3l c x=({ c with ct:=(z3f c.ct x).1 },(z3f c.ct x).2.1,0):=by unfold z3l;rw[if_pos he,hw]
  rw[ek,e]
  exact⟨⟨w.f,a,w.u1,w.u2,w.u3,w.u4,w.u5,w.d⟩,rfl,Hp.le_trans nc.le l75,⟨rw75.f,nc.rd.le l75,rw75.ag,rw75.due⟩,nw.f.low nc.le,nc.list.isNew,nw.u1.low nc.le,nw.u2.low nc.le,nw.u3.low nc.le,nw.u4.low nc.le,nw.u5.low nc.le,nw.d.low nc.le⟩
 | some t =>
  refine⟨λ_=>?_,λh=>by simp at h⟩
  have ht:okR t:=zv2 (ok.f.pt (by omega)) (ok.f.pt (by omega)) ok.now hw
  have hpush:=ok.push ht
  have hnum:(z3f c.ct x).2.1=c.ct.next:=by rw[a6]
  refine(z4x (t:=t) (n:=(z3f c.ct x).2.1) (r18.le l75).ag fk.ag ht.fit).mono λv H107 ⟨v1,v2,v3,v4,v5,hv,na⟩=>⟨v1,v2,v3,v4,v5,_,_,_,hv,λh=>?_,λh=>?_⟩
  ·rw[hnum,hpush] at h
   by_cases hct:c.ag.tb.canTake=true
   ·rw[if_pos hct] at h;simp at h
   ·rw[hnum,hpush,if_neg hct]
    exact bad 18 H107 (by rw[ek];unfold z3l;rw[if_pos he,hw];simp only;rw[if_neg hct]) (Hp.le_trans nc.le (Hp.le_trans l75 na.le))
  ·rw[hnum,hpush] at h
   by_cases hct:c.ag.tb.canTake=true
   ·intro b H132 hb131 hH
    rw[hnum,hpush,if_pos hct] at na hH
    have le107:Hp.le H18 H107:=Hp.le_trans l75 na.le
    refine(z78 (k:=3) (f:=fD) (bytes:=24) (x:=(c.ct.next,ydw c.ag)) (e:=T.api_Due) (by kernel_rfl) (by decide) (λ_=>rfl) zuf le107 (m75.le na.le) hb131 hH rfl (by have:=fk.due;omega) (by omega)).mono λv H134 ⟨d,hv,l134,md,cd,_⟩=>⟨d,hv,?_⟩
    have e:z3l c x=({ c with ct:=(z3f c.ct x).1,ag:=ype c.ag t (z3f c.ct x).2.1,due:=c.due++[((z3f c.ct x).2.1,ydw c.ag)] },(z3f c.ct x).2.1,0):=by unfold z3l;rw[if_pos he,hw];simp only;rw[if_pos hct]
    rw[ek,e]
    refine⟨⟨w.f,a,v1,v2,v3,v4,v5,d⟩,rfl,Hp.le_trans nc.le l134,⟨(rw75.f.le na.le).chg cd s75,((nc.rd.le l75).le na.le).chg cd (Sep.of nc.list.isOld m75.isNew),?_,?_⟩,nw.f.low nc.le,nc.list.isNew,na.tb.uses.isNew.low (Hp.le_trans nc.le l75),na.tb.used.isNew.low (Hp.le_trans nc.le l75),na.tb.free.isNew.low (Hp.le_trans nc.le l75),na.heap.isNew.low (Hp.le_trans nc.le l75),na.wh.isNew.low (Hp.le_trans nc.le l75),md.isNew.low nc.le⟩
    ·rw[hnum];exact RdA.chgN na cd m75.isOld
    ·rw[hnum];exact md.rdD
   ·rw[if_neg hct] at h;simp at h

abbrev lsC(u:Lu)(l:Ls):Array Value:=#[.int .i64 l.ck.now.1,.int .i64 l.ck.now.2,u.k.f.v,.int .i64 l.ck.ct.next,u.k.cl.v,u.k.u1.v,u.k.u2.v,u.k.u3.v,u.k.u4.v,u.k.u5.v,u.k.d.v,u.o.v,u.n.v]
def hide(H:Hp)(b c:Nat):Hp:=λk=>if k=b\/k=c then none else H k
theorem y2n(H:Hp)(b c:Nat):hide H b c b=none:=if_pos (.inl rfl)
theorem y2o(H:Hp)(b c:Nat):hide H b c c=none:=if_pos (.inr rfl)
theorem y2p{H:Hp}{b c k:Nat}(h1:k≠b)(h2:k≠c):hide H b c k=H k:=if_neg λh=>h.elim h1 h2
theorem _root_.Go.Eng.Rd.hide{α:Type}{k:Nat}{f:α->List Value}{H:Hp}{u:Slc}{xs:List α}{b c:Nat}(h:Rd k f H u xs)(hs:∀p,u.a=some p->p.block≠b/\p.block≠c):Rd k f (hide H b c) u xs:=by
 refine⟨h.len,h.cap,h.isS,λi x hx j v hv=>?_⟩
 have hc:=h.cell i x hx j v hv
 obtain⟨p,hp⟩:=Option.isSome_iff_exists.1 (h.isS (by intro e;rw[e] at hx;simp at hx))
 have hb:((zrr u.a k i).add j).block=p.block:=by
  rw[hp];unfold zrr Addr.add;simp only;split <;> (try split) <;> rfl
 rw[Hp.at_eq (H':=Go.Proofs.YtnhdkkblehadjabGreat.hide H b c) (H:=H) (by rw[hb];exact y2p (hs p hp).1 (hs p hp).2)]
 exact hc
theorem RdK.hide{H0 H:Hp}{u:Cu}{c:Ck}{b d:Nat}(r:RdK H u c)(n:z1h H0 u)(hb:H0 b≠none)(hd:H0 d≠none):RdK (hide H b d) u c:=by
 have s:∀{v:Slc},New H0 v->∀p,v.a=some p->p.block≠b/\p.block≠d:=λ{v} nv p hp=>⟨λe=>hb (by rw[← e];exact nv p hp),λe=>hd (by rw[← e];exact nv p hp)⟩
 exact⟨r.f.hide (s n.f),r.cl.hide (s n.cl),⟨⟨r.ag.tb.uses.hide (s n.u1),r.ag.tb.used.hide (s n.u2),r.ag.tb.free.hide (s n.u3)⟩,r.ag.heap.hide (s n.u4),r.ag.wh.hide (s n.u5)⟩,r.due.hide (s n.d)⟩
theorem y6w{G H:Hp}{b c:Nat}(h:Hp.le G H)(h1:G b=none)(h2:G c=none):Hp.le G (hide H b c):=λk o hk=>by
 rw[y2p (λe=>by rw[e,h1] at hk;cases hk) (λe=>by rw[e,h2] at hk;cases hk)]
 exact h k o hk

set_option maxHeartbeats 1000000 in
theorem y5w{H H0 G:Hp}{b bn n:Nat}{k:Cu}{o:Slc}{l:Ls}{i:Int}(box:Cel H b (lsC ⟨k,o,⟨some ⟨bn,0,none⟩,n,n⟩⟩ l) 44)(hne:bn≠b)(g1:Hp.le G H)(g2:G b=none)(g3:G bn=none)(rk:RdK G k l.ck)(ro:RdI G o l.ord)
  (mn:Mine 1 fI 3 H0 H ⟨some ⟨bn,0,none⟩,n,n⟩ l.num) (hl:Hp.le H0 H) (hb:H0 b=none) (fl:zxc l) (h0:0<=i) (h1:i+1<l.ord.length) (h2:i<l.num.length) (hbn:H bn≠none) :
  Go.Eng.Fn Tryz.prog F.f24 #[.pointer (some ⟨b,0,none⟩),.int .i64 i] H λv H'=>v=.int .i64 (zdm l.ck (ykb l.ord i.toNat)).2.2/\Hp.le H0 H'/\((zdm l.ck (ykb l.ord i.toNat)).2.2=0 ->
   ∃(w:Cu)(G':Hp),Cel H' b (lsC ⟨w,o,⟨some ⟨bn,0,none⟩,n,n⟩⟩ ⟨(zdm l.ck (ykb l.ord i.toNat)).1,l.ord,l.num.set i.toNat (zdm l.ck (ykb l.ord i.toNat)).2.1⟩) 44/\Hp.le G' H'/\G' b=none/\G' bn=none/\RdK G' w (zdm l.ck (ykb l.ord i.toNat)).1/\RdI G' o l.ord /\
    Mine 1 fI 3 H0 H' ⟨some ⟨bn,0,none⟩,n,n⟩ (l.num.set i.toNat (zdm l.ck (ykb l.ord i.toNat)).2.1)/\H' bn≠none):=by
 have f1:=fl.o
 have hbb:H b≠none:=by rw[box];simp
 refine vc24 ⟨_,_,k.f,_,k.cl,k.u1,k.u2,k.u3,k.u4,k.u5,k.d,⟨Cel.at box 0,Cel.at box 1,Cel.at box 2,Cel.at box 3,Cel.at box 4,Cel.at box 5,Cel.at box 6,Cel.at box 7,Cel.at box 8,Cel.at box 9,Cel.at box 10⟩,o,Cel.at box 11,_,_,y5x (ro.le g1) h0 h1 f1,
  (zlk (rk.le g1) fl.k).mono λv H16 ⟨w,hv,l16,rw',nw⟩=>⟨l16,_,_,w.f,_,w.cl,w.u1,w.u2,w.u3,w.u4,w.u5,w.d,_,_,hv,λhe=>?_,λhe=>?_⟩⟩
 ·exact⟨rfl,Hp.le_trans hl l16,λh=>by rw[h] at he;simp at he⟩
 have he:(zdm l.ck (ykb l.ord i.toNat)).2.2=0:=by simpa using he
 rw[he]
 generalize zdm l.ck (ykb l.ord i.toNat)=r at *
 have box16:=box.le l16
 obtain⟨can,st⟩:=x1y (b:=b) (off:=0) (T:=44) [.int .i64 r.1.now.1,.int .i64 r.1.now.2,w.f.v,.int .i64 r.1.ct.next,w.cl.v,w.u1.v,w.u2.v,w.u3.v,w.u4.v,w.u5.v,w.d.v] 0 H16 _ box16 (by show 0+0+11<=13;omega)
 refine⟨_,Cel.at box16 12,can,λH31 e31=>?_⟩
 have e31:H31=H16.put b (.cells (lsC ⟨w,o,⟨some ⟨bn,0,none⟩,n,n⟩⟩ ⟨r.1,l.ord,l.num⟩) 44 (0,0)):=e31.trans st
 have c31:Cel H31 b (lsC ⟨w,o,⟨some ⟨bn,0,none⟩,n,n⟩⟩ ⟨r.1,l.ord,l.num⟩) 44:=by rw[e31];exact Cel.put
 have ch31:Chg H16 H31 ⟨some ⟨b,0,none⟩,0,0⟩:=λc hc hn=>by rw[e31];exact Hp.put_ne _ _ λe=>hn _ rfl e.symm
 have m31:=(mn.le l16).chg ch31 (λp q hp hq=>by cases hp;cases hq;exact hne)
 refine⟨m31.rdI.inS h0 h2,?_⟩
 refine m31.setI h0 h2 r.2.1 λH32 m32 ch32=>?_
 have le31:Hp.le H0 H31:=Hp.le_chg (Hp.le_trans hl l16) ch31 λp hp=>by cases hp;exact hb
 have le32:Hp.le H0 H32:=Hp.le_chg le31 ch32 mn.isNew
 have same:∀c,c≠b->c≠bn->H16 c≠none->H32 c=H16 c:=λc c1 c2 hc=>by
  have e1:H31 c=H16 c:=ch31 c hc λp hp e=>by cases hp;exact c1 e.symm
  rw[ch32 c (by rw[e1];exact hc) λp hp e=>by cases hp;exact c2 e.symm,e1]
 refine⟨rfl,le32,λ_=>⟨w,hide H16 b bn,?_,λc x hc=>?_,y2n _ _ _,y2o _ _ _,RdK.hide rw' nw hbb hbn,ro.le (y6w (Hp.le_trans g1 l16) g2 g3),m32,?_⟩⟩
 ·unfold Cel at c31 ⊢
  rw[ch32 b (by rw[c31];simp) λp hp e=>by cases hp;exact hne e];exact c31
 ·unfold hide at hc
  split at hc
  ·cases hc
  ·rename_i hh
   rw[same c (λe=>hh (.inl e)) (λe=>hh (.inr e)) (by rw[hc];simp)];exact hc
 ·exact m32.isOld _ rfl

theorem z09.certify{f:List Pt}{t:Int×Int}{l:Ls}(b:z09 f t l)(of:okF f){i:Nat}(h:i<l.num.length):zdm l.ck (ykb l.ord i)=z3l l.ck (ykb l.ord i):=by
 have ho:l.ord.length=f.length:=by rw[b.ord,yiv]
 have hn:=b.num
 have p1:0<=ynk l.ck.f (ykb l.ord i).1:=b.pos of _ (List.mem_of_getElem? (y0g (xs:=l.ord) (i:=(i:Int)+1) (by omega) (by omega)))
 have p2:0<=ynk l.ck.f (ykb l.ord i).2:=b.pos of _ (List.mem_of_getElem? (y0g (xs:=l.ord) (i:=(i:Int)) (by omega) (by omega)))
 have hne:(ykb l.ord i).1≠(ykb l.ord i).2:=by
  have hi:=(yzx (ygy of) t).ids (ygy of)
  have hp:=List.pairwise_map.2 hi
  have eo:l.ord=(yzt f t).map (·.1):=b.ord
  rw[← eo] at hp
  have:=List.pairwise_iff_getElem.1 hp i (i+1) (by omega) (by omega) (by omega)
  unfold ykb
  rw[List.getD_eq_getElem?_getD,List.getD_eq_getElem?_getD,List.getElem?_eq_getElem (by omega),List.getElem?_eq_getElem (by omega)]
  exact λe=>this e.symm
 have of':okF l.ck.f:=by rw[b.fe];exact of
 have q1:=of'.pt p1;have q2:=of'.pt p2
 have r1:=(ynp p1).2.2;have r2:=(ynp p2).2.2
 have a1:=q1.i0;have a2:=q1.i1;have a3:=q2.i0;have a4:=q2.i1
 rw[r1] at a1 a2;rw[r2] at a3 a4
 have hv:x78 (ykb l.ord i)=true:=by
  unfold x78
  simp only[Bool.and_eq_true,decide_eq_true_eq,bne_iff_ne,ne_eq]
  omega
 unfold zdm
 rw[if_pos ⟨b.ok,hv⟩,if_neg (by omega)]

set_option maxHeartbeats 2000000 in
theorem y5u{H:Hp}{w:Slc}{f:List Pt}{t:Int×Int}(hf:Rd 3 fD H w f)(ht:zxh t) :
    Go.Eng.Fn Tryz.prog F.f7 #[vFd w,raW t] H λv H'=>∃u:Lu,v=.tuple #[lsV u (zbq f t).1,.int .i64 (zbq f t).2]/\Hp.le H H'/\RdL H' u (zbq f t).1:=by
  refine vc7 ((zls hf ht).mono λv H2 ⟨k,hv,l2,rk⟩=>⟨_,_,k.f,_,k.cl,k.u1,k.u2,k.u3,k.u4,k.u5,k.d,_,hv,λhc=>?_,λhc=>?_⟩)
  · have hc:(ydl f t).2≠0:=by simpa using hc
    have h:x4x f t≠0:=λh=>by unfold ydl at hc;rw[if_pos h] at hc;exact hc rfl
    have e:ydl f t=(.zero,x4x f t):=by unfold ydl;rw[if_neg h]
    unfold zbq;rw[if_neg h,e]
    exact⟨zlu,rfl,l2,RdL.zero⟩
  have h:x4x f t=0:=by
    have hc:(ydl f t).2=0:=by simpa using hc
    by_cases h:x4x f t=0
    · exact h
    · unfold ydl at hc;rw[if_neg h] at hc;exact absurd hc h
  obtain⟨of,ot⟩:=x4y.1 h
  have lf:=of.small
  unfold zbq;rw[if_pos h]
  refine(zvl (hf.le l2) ht).mono λv H16 ⟨o,hv,l16,mo⟩=>⟨o,_,hv,?_⟩
  have eo:yj8 f t=(yis f t,0):=by unfold yj8;rw[if_pos h]
  rw[eo] at mo
  have lo:=mo.rdI.len
  rw[yiv] at lo
  rw[y7f,lo]
  refine⟨by unfold inI;omega,⟨rfl,by omega,by omega⟩,λb19 H20 hb19 hH20 b21 H22 hb21 hH22=>?_⟩
  have m20:=y8x (g:=λx=>Value.int .i64 x) (e:=3) hfI (n:=((f.length-1:Nat):Int)) (z:=0) hb19 hH20 rfl
  rw[Int.toNat_natCast] at m20 hH22
  have l20:Hp.le H16 H20:=Hp.le_new (Hp.le_refl _) hb19 hH20
  have l22:Hp.le H20 H22:=Hp.le_new (Hp.le_refl _) hb21 hH22
  have lH16:Hp.le H H16:=Hp.le_trans l2 l16
  have n19:H20 b19≠none:=by rw[hH20];simp
  have hne:b19≠b21:=λe=>by rw[e] at n19;exact n19 hb21
  have hb21':H16 b21=none:=by
    cases hx:H16 b21 with
    | none=>rfl
    | some x=>rw[l20 _ _ hx] at hb21;cases hb21
  have n19':H22 b19≠none:=by
    intro e
    cases hx:H20 b19 with
    | none=>exact n19 hx
    | some x=>rw[l22 _ _ hx] at e;cases e
  have box:Cel H22 b21 (lsC ⟨k,o,⟨some ⟨b19,0,none⟩,f.length-1,f.length-1⟩⟩ (zbx f t 0).1) 44:=by rw[hH22];exact Cel.put
  refine⟨⟨some ⟨b19,0,none⟩,f.length-1,f.length-1⟩,Cel.at box 12,λi H'=>0<=i/\i<=(f.length-1:Nat)/\Hp.le H16 H'/\(zbx f t i.toNat).2=0/\z09 f t (zbx f t i.toNat).1/\∃(w:Cu)(G:Hp),Cel H' b21 (lsC ⟨w,o,⟨some ⟨b19,0,none⟩,f.length-1,f.length-1⟩⟩ (zbx f t i.toNat).1) 44/\Hp.le G H'/\G b21=none/\G b19=none/\RdK G w (zbx f t i.toNat).1.ck/\RdI G o (zbx f t i.toNat).1.ord /\
      Mine 1 fI 3 H16 H' ⟨some ⟨b19,0,none⟩,f.length-1,f.length-1⟩ (zbx f t i.toNat).1.num/\H' b19≠none,
    λi _=>(((f.length-1:Nat):Int)-i).toNat,⟨Int.le_refl _,by omega,Hp.le_trans l20 l22,rfl,z09.start h,k,H16,box,Hp.le_trans l20 l22,hb21',hb19,rk.le l16,mo.rdI,m20.le l22,n19'⟩,
    λi H' ⟨i0,i1,le,z,bi,w',G,bx,g1,g2,g3,rk',ro',mn,hn'⟩=>⟨λhn=>?_,λhn=>?_⟩⟩
  · have hi:i<(f.length-1:Nat):=by simpa using hn
    have ho:(zbx f t i.toNat).1.ord.length=f.length:=by rw[bi.ord,yiv]
    have hnn:=bi.num
    have ec:=bi.certify of (i:=i.toNat) (by omega)
    refine(y5w (i:=i) bx hne g1 g2 g3 rk' ro' mn le hb21' (bi.fit of) i0 (by omega) (by omega) hn').mono λv H29 ⟨hv,l29,hok⟩=>⟨_,hv,λhe=>?_,λhe=>?_⟩
    · rw[ec] at he
      have he:(z3l (zbx f t i.toNat).1.ck (ykb (zbx f t i.toNat).1.ord i.toNat)).2.2≠0:=by simpa using he
      have em:y8u (zbx f t i.toNat).1 i.toNat=(.zero,(z3l (zbx f t i.toNat).1.ck (ykb (zbx f t i.toNat).1.ord i.toNat)).2.2):=by unfold y8u;rw[if_neg he]
      have es:zbx f t (i.toNat+1)=y8u (zbx f t i.toNat).1 i.toNat:=by
        show (if (zbx f t i.toNat).2=0 then _ else _)=_
        rw[if_pos z]
      have e9:=zbz (f:=f) (t:=t) (n:=i.toNat+1) (by rw[es,em];exact he) (f.length-1) (by omega)
      rw[e9,es,em,ec]
      exact⟨zlu,rfl,Hp.le_trans lH16 l29,RdL.zero⟩
    · rw[ec] at he hok
      have he:(z3l (zbx f t i.toNat).1.ck (ykb (zbx f t i.toNat).1.ord i.toNat)).2.2=0:=by simpa using he
      obtain⟨w2,G2,c2,q1,q2,q3,q4,q5,q6,q7⟩:=hok he
      have em:y8u (zbx f t i.toNat).1 i.toNat=(⟨(z3l (zbx f t i.toNat).1.ck (ykb (zbx f t i.toNat).1.ord i.toNat)).1,(zbx f t i.toNat).1.ord,(zbx f t i.toNat).1.num.set i.toNat (z3l (zbx f t i.toNat).1.ck (ykb (zbx f t i.toNat).1.ord i.toNat)).2.1⟩,0):=by unfold y8u;rw[if_pos he]
      have es:zbx f t (i+1).toNat=y8u (zbx f t i.toNat).1 i.toNat:=by
        rw[show (i+1).toNat=i.toNat+1 by omega]
        show (if (zbx f t i.toNat).2=0 then _ else _)=_
        rw[if_pos z]
      have bm:=bi.made of (i:=i.toNat) (by omega) (by rw[em])
      rw[em] at es bm
      refine⟨by unfold inI;omega,⟨by omega,by omega,l29,by rw[es],by rw[es];exact bm,w2,G2,?_,q1,q2,q3,?_,?_,?_,q7⟩,?_⟩
      · rw[es];exact c2
      · rw[es];exact q4
      · rw[es];exact q5
      · rw[es];exact q6
      · show (((f.length-1:Nat):Int)-(i+1)).toNat<(((f.length-1:Nat):Int)-i).toNat;omega
  · have hi:i=(f.length-1:Nat):=by have:¬ i<((f.length-1:Nat):Int):=by simpa using hn
                                   omega
    subst hi
    rw[Int.toNat_natCast] at z bx rk' ro' mn
    refine⟨_,_,w'.f,_,w'.cl,w'.u1,w'.u2,w'.u3,w'.u4,w'.u5,w'.d,o,⟨some ⟨b19,0,none⟩,f.length-1,f.length-1⟩,⟨Cel.at bx 0,Cel.at bx 1,Cel.at bx 2,Cel.at bx 3,Cel.at bx 4,Cel.at bx 5,Cel.at bx 6,Cel.at bx 7,Cel.at bx 8,Cel.at bx 9,Cel.at bx 10,Cel.at bx 11,Cel.at bx 12⟩,?_⟩
    rw[z]
    exact⟨⟨w',o,⟨some ⟨b19,0,none⟩,f.length-1,f.length-1⟩⟩,rfl,Hp.le_trans lH16 le,⟨rk'.le g1,ro'.le g1,mn.rdI⟩⟩
end Go.Proofs.YtnhdkkblehadjabGreat
end
