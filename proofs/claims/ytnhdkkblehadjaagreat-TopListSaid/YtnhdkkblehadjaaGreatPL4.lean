/- The engine, parts LB, LC, M6, LN, LO, put together. Conditions: none. -/
import Derived.Test.YtnhdkkblehadjaaGreatPM2
open Bool renaming and_eq_true->Qa
open Go.Eng.Hp renaming le_trans->Qb,le->Qc,le_refl->Qd,le_new->Qe,le_chg->Qg
open List renaming mem_of_getElem?->Qh,replicate->Qi,pairwise_map->Qj,getElem?_eq_getElem->Ql,getD_eq_getElem?_getD->Qm
set_option linter.unusedVariables false
set_option maxHeartbeats 8000000
section
set_option maxRecDepth 100000
open Go Go.Eng Go.Proofs
namespace Go.Proofs.YtnhdkkblehadjaaGreat
variable{H G:Hp}{c:Ck}{t:Int×Int}{u:Cu}{f:List Pt}{l:Ls}{n:Int}{b i:Nat}
theorem okK.dueInc(ok:okK c):(c.due.map (·.1)).Pairwise (·<·):=by
 obtain⟨ps,e⟩:=ok.evs;have:=e.inc ok.ct;rw[e.due,List.map_map];exact this
theorem zmz(r:RdK H u c)(ok:okK c):∃i b,qF F.f164 #[u.d.v,vi n] H (.tuple #[vi i,.bool b])/\(b=true->0<=yr4 c n/\i=yr4 c n)/\(b=false->yr4 c n<0):=by
 have hl:=ok.fit.due;refine⟨_,_,vc164 ⟨_,_,zb2 r.due ok.dueInc (by omega),rfl,Qd _⟩,λhb=>?_,λhb=>?_⟩
 ·rcases ys1 ok.dueInc n with⟨h1,h2⟩|⟨h1,h2⟩
  ·have e:yr4 c n=yrl (c.due.map (·.1)) n:=h2;exact⟨by omega,e.symm⟩
  ·rw[h1] at hb;cases hb
 ·rcases ys1 ok.dueInc n with⟨h1,h2⟩|⟨h1,h2⟩
  ·rw[h1] at hb;cases hb
  ·have e:yr4 c n = -1:=h2;omega
def zto(c:Ck)(n:Int):Ck×(Int×Int)×Int:=if atC c.ct n<0 then (.zero,(0,0),6) else (y3q c n,(y2r c.ct.list (atC c.ct n)).2,0)
theorem okK.dueCut(ok:okK c)(h:0<=yr4 c n):c.due.take (yr4 c n).toNat++c.due.drop ((yr4 c n).toNat+1)=c.due.filter λd=>d.1 != n:=by
 obtain⟨d,h1,h2,_,_⟩:=y5t h;have hp:=Qj.1 ok.dueInc;have e:=zyd hp h1;have:d.1=n:=by simpa using h2
 rw[this] at e;exact e
theorem yxg{a:Ag}{x:Ev}(ok:okA a)(hx:x∈a.heap):yxf a x.h=(yxk a x.h,x,0):=by
 unfold yxf;rw[(zyr ok hx).1];rfl
theorem yxy(ok:okK c):yxx c n=((zto c n).1,(zto c n).2.2):=by
 unfold yxx zto;rw[Zp ok];split <;> rfl
theorem zmy(r:RdK H u c)(fk:zze c):qF F.f32 #[ckV u c] H (.tuple #[evV (yh2 c).1,vi (yh2 c).2]):=by
 refine vc32 ⟨_,zmq r fk,λhc=>?_,λhc=>?_⟩
 ·have hk:¬ okK c:=λok=>by rw[zlv ok] at hc;simp at hc
  rw[zls hk];unfold yh2;rw[Zn hk];exact⟨rfl,Qd _⟩
 ·have ok:okK c:=zlw.1 (by simpa using hc);refine⟨_,_,_,_,_,_,z56 r.ag fk.ag,?_,Qd _⟩;unfold yh2 x9i;rw[Zp ok,Zp ok.ag]
theorem zn5(r:RdK H u c)(fk:zze c)(ht:zzn t):qF F.f76 #[ckV u c,raW t] H (.tuple #[.bool (decide (xaf c t=0)&&xbo c t),vi (xaf c t)]):=by
 have hm:(if zm6 t>zlr c then zm6 t else zlr c)=if okK c/\okR t then 0 else 8:=by
  by_cases h1:okK c <;> by_cases h2:okR t <;> simp[zlv,zls,zm8,zm7,h1,h2]
 refine vc76 ⟨_,zmq r fk,_,yui ht,?_⟩;rw[hm];by_cases h:okK c/\okR t
 ·rw[Zp h];refine⟨λhc=>by simp at hc,λ_=>⟨_,_,yuj ht fk.now,?_⟩⟩;have ec:cmpM t c.now=(zp5 t c.now,0):=by unfold cmpM;rw[Zp ⟨h.2,h.1.now⟩]
  rw[ec];refine⟨λhq=>?_,λhq=>?_⟩
  ·have hq:zp5 t c.now<0:=by simpa using hq
   have eu:xaf c t=44:=by unfold xaf;rw[Zp h,Zp hq]
   rw[eu];exact⟨rfl,Qd _⟩
  ·have hq:¬ zp5 t c.now<0:=by simpa using hq
   have eu:xaf c t=0:=by unfold xaf;rw[Zp h,Zn hq]
   rw[eu];refine⟨_,_,_,_,_,_,z56 r.ag fk.ag,?_⟩;unfold x9i xbo;rw[Zp h.1.ag];by_cases h0:c.ag.heap.length=0
   ·rw[Zp h0];refine⟨λ_=>⟨?_,Qd _⟩,λhx=>by simp at hx⟩;rw[h0];rfl
   ·rw[Zn h0];have o0:=(h.1.ag.each _ (y57 (by omega:0<c.ag.heap.length))).1;have e2:cmpM (hp c.ag.heap 0).at_ t=(zp5 (hp c.ag.heap 0).at_ t,0):=by unfold cmpM;rw[Zp ⟨o0,h.2⟩]
    refine⟨λhx=>by simp at hx,λ_=>⟨_,_,yuj o0.fit ht,?_,Qd _⟩⟩;rw[e2,Zu (show 0<c.ag.heap.length by omega)];rfl
 ·rw[Zn h];have eu:xaf c t=8:=by unfold xaf;rw[Zn h]
  rw[eu];exact⟨λ_=>⟨rfl,Qd _⟩,λhx=>by simp at hx⟩
theorem okK.topCert(ok:okK c)(h0:0<c.ag.heap.length):0<=atC c.ct (hp c.ag.heap 0).no:=by
 obtain⟨ps,e⟩:=ok.evs;obtain⟨h,hm,h1,_⟩:=e.cert (e.heap.mem_iff.1 (y57 h0));obtain⟨i,hi⟩:=List.mem_iff_getElem?.1 hm;rw[← h1,(y2o ok.ct hi).1];omega
theorem xbq(h:xbo c t=true):0<c.ag.heap.length:=by
 unfold xbo at h;simp only[Qa,Zq] at h;exact h.1
theorem zmv(r:RdK H u c)(fk:zze c)(ht:zzn t) :
  fN F.f33 #[ckV u c,raW t] H λv H'=>∃w:Cu,v=.tuple #[ckV w (yfh c t).1,vi (yfh c t).2]/\Qc H H'/\RdK H' w (yfh c t).1:=by
 refine vc33 ⟨_,_,zn5 r fk ht,λhc=>⟨λ_=>?_,λh=>by cases h⟩,λhc=>⟨λhe=>?_,λhe=>?_⟩⟩
 ·simp only[Qa,beq_iff_eq,Zq] at hc;have e:yfh c t=(.zero,36):=by unfold yfh;rw[Zp hc.1,Zp hc.2.2]
  rw[e];exact⟨zu,rfl,Qd _,RdK.zero⟩
 ·have he:xaf c t≠0:=by simpa using he
  have e:yfh c t=(.zero,xaf c t):=by unfold yfh;rw[Zn he]
  rw[e];exact⟨zu,rfl,Qd _,RdK.zero⟩
 ·have he:xaf c t=0:=by simpa using he
  have hw:xbo c t=false:=by rw[he] at hc;simpa using hc
  have e:yfh c t=({ c with now:=t },0):=by unfold yfh;rw[Zp he,Zn (by rw[hw];simp)]
  rw[e];exact(zn3 r fk).mono λv H9 ⟨w,hv,l9,r9,_⟩=>⟨_,_,w.f,_,w.cl,w.u1,w.u2,w.u3,w.u4,w.u5,w.d,hv,w,rfl,l9,r9.f,r9.cl,r9.ag,r9.due⟩
def yby(l:Ls)(i:Nat):Ls×Int :=
 if (z3k l.ck (yn6 l.ord i)).2.2=0 then (⟨(z3k l.ck (yn6 l.ord i)).1,l.ord,l.num.set i (z3k l.ck (yn6 l.ord i)).2.1⟩,0) else (.zero,(z3k l.ck (yn6 l.ord i)).2.2)
def zlu:Lu:=⟨zu,zs,zs⟩
theorem RdL.zero{H:Hp}:RdL H zlu .zero:=⟨RdK.zero,(Rd.nil:Rd 1 fI H ⟨none,0,0⟩ []),(Rd.nil:Rd 1 fI H ⟨none,0,0⟩ [])⟩
def zbk(f:List Pt)(t:Int×Int):Nat->Ls×Int
 | 0=>(⟨(ygq f t).1,yll f t,Qi (f.length-1) 0⟩,0)
 | n+1=>if (zbk f t n).2=0 then yby (zbk f t n).1 n else zbk f t n
def zbd(f:List Pt)(t:Int×Int):Ls×Int:=if x8u f t=0 then zbk f t (f.length-1) else (.zero,x8u f t)
theorem zbm{f:List Pt}{t:Int×Int}{n:Nat}(h:(zbk f t n).2≠0):∀m,n<=m->zbk f t m=zbk f t n
 | 0,hm=>by rw[show n=0 by omega]
 | m+1,hm=>by
  by_cases e:n=m+1
  ·rw[e]
  ·have ih:=zbm h m (by omega);show (if (zbk f t m).2=0 then yby (zbk f t m).1 m else zbk f t m)=_;rw[ih,Zn h]
structure z08(f:List Pt)(t:Int×Int)(l:Ls):Prop where
 ok:okK l.ck
 fe:l.ck.f=f
 ord:l.ord=yll f t
 num:l.num.length=f.length-1
theorem z08.fit{f:List Pt}{t:Int×Int}{l:Ls}(b:z08 f t l)(of:okF f):zzh l:=by
 have:=of.small;exact⟨b.ok.fit,by rw[b.ord,ylo];exact this,by rw[b.num];omega⟩
theorem z08.pos(b:z08 f t l)(of:okF f):∀x∈l.ord,0<=yr5 l.ck.f x:=λx hx=>by
 rw[b.fe];rw[b.ord] at hx;exact ym6 of hx
theorem z08.made(b:z08 f t l)(of:okF f)(h:i<l.num.length)(hz:(yby l i).2=0):z08 f t (yby l i).1:=by
 have ho:l.ord.length=f.length:=by rw[b.ord,ylo]
 have hn:=b.num;unfold yby at hz ⊢;split at hz
 ·rename_i he;rw[Zp he];have p1:0<=yr5 l.ck.f (yn6 l.ord i).1:=b.pos of _ (Qh (y36 (xs:=l.ord) (i:=(i:Int)+1) (by omega) (by omega)));have p2:0<=yr5 l.ck.f (yn6 l.ord i).2:=b.pos of _ (Qh (y36 (xs:=l.ord) (i:=(i:Int)) (by omega) (by omega)));obtain⟨o1,_,_,o4,_⟩:=b.ok.add p1 p2 he;exact⟨o1,by rw[o4];exact b.fe,b.ord,by rw[List.length_set];exact hn⟩
 ·rename_i he;exact absurd hz he
theorem z08.start(h:x8u f t=0):z08 f t (zbk f t 0).1:=by
 have e:ygq f t=(⟨t,f,.zero,z9k 200,[]⟩,0):=by unfold ygq;rw[Zp h]
 obtain⟨of,ot⟩:=x8v.1 h;refine⟨?_,?_,rfl,by show (Qi _ _).length=_;rw[List.length_replicate]⟩
 ·show okK (ygq f t).1;rw[e];exact⟨ot,of,(show okC Ct.zero by decide),rfl,okA.begin (by omega) (by omega),rfl,rfl,rfl⟩
 ·show (ygq f t).1.f=f;rw[e]
structure z1g(H:Hp)(w:Cu):Prop where
 f:New H w.f
 cl:New H w.cl
 u1:New H w.u1
 u2:New H w.u2
 u3:New H w.u3
 u4:New H w.u4
 u5:New H w.u5
 d:New H w.d
theorem New.none:New H zs:=λp hp=>by cases hp
theorem z1g.zero:z1g H zu:=⟨New.none,New.none,New.none,New.none,New.none,New.none,New.none,New.none⟩
theorem zn4(r:RdK H u c)(fk:zze c) :
  fN F.f77 #[ckV u c] H λv H'=>∃w:Cu,v=ckV w c/\Qc H H'/\RdK H' w c/\Mine 3 fD T.api_Due H H' w.d c.due/\Sep w.f w.d/\z1g H w:=by
 have f1:=fk.f;have f2:=fk.ct;have f3:=fk.due;have f4:=fk.ag.hl;have f5:=fk.ag.wl;have f6:=fk.ag.tb;refine vc77 λb1 H2 hb1 hH2=>?_
 have le2:Qc H H2:=Qe (Qd _) hb1 hH2;have c2:Cel H2 b1 (ckC c u.f u.cl u.u1 u.u2 u.u3 u.u4 u.u5 u.d) T.api_Clock:=by rw[hH2];exact Cel.put
 have r2:=r.le le2;refine⟨u.f,Cel.at c2 2,u.cl,Cel.at c2 4,u.d,Cel.at c2 10,(zny r2.f (by omega)).mono λv H7 ⟨w1,hv,l7,m1⟩=>⟨l7,w1,hv,?_⟩⟩;have k1:=Mine.kp m1 c2 λ_=>rfl
 have c7:=c2.le l7;refine(znv (r2.le l7).cl (by omega)).mono λv H10 ⟨w2,hv,l10,m2⟩=>⟨l10,w2,hv,?_⟩
 have k2:=Mine.kp m2 c7 λ_=>rfl
 have c10:=c7.le l10;refine(znt ((r2.le l7).le l10).due (by omega)).mono λv H13 ⟨w3,hv,l13,m3⟩=>⟨l13,w3,hv,?_⟩
 have k3:=Mine.kp m3 c10 λ_=>rfl
 have c13:=c10.le l13;have le13:Qc H H13:=Qb le2 (Qb l7 (Qb l10 l13));refine zay (i:=2) (cs':=ckC c w1 u.cl u.u1 u.u2 u.u3 u.u4 u.u5 u.d) c13 (show 2<11 by decide) rfl λH15 c15 o15=>zay (i:=4) (cs':=ckC c w1 w2 u.u1 u.u2 u.u3 u.u4 u.u5 u.d) c15 (show 4<11 by decide) rfl λH16 c16 o16=>zay (i:=10) (cs':=ckC c w1 w2 u.u1 u.u2 u.u3 u.u4 u.u5 w3) c16 (show 10<11 by decide) rfl λH17 c17 o17=>?_
 have k1:=((((k1.le l10).le l13).off o15).off o16).off o17;have k2:=(((k2.le l13).off o15).off o16).off o17;have k3:=((k3.off o15).off o16).off o17;have le17:Qc H H17:=o17.le hb1 (o16.le hb1 (o15.le hb1 le13));have r17:=r.le le17;refine⟨u.u4,Cel.at c17 8,u.u5,Cel.at c17 9,(znu r17.ag.heap (by omega)).mono λv H21 ⟨w4,hv,l21,m4⟩=>⟨l21,w4,hv,?_⟩⟩;have k4:=Mine.kp m4 c17 λ_=>rfl
 have c21:=c17.le l21;refine(znw (r17.le l21).ag.wh (by omega)).mono λv H24 ⟨w5,hv,l24,m5⟩=>⟨l24,w5,hv,?_⟩
 have k5:=Mine.kp m5 c21 λ_=>rfl
 have c24:=c21.le l24;have le24:Qc H H24:=Qb le17 (Qb l21 l24);refine zay (i:=8) (cs':=ckC c w1 w2 u.u1 u.u2 u.u3 w4 u.u5 w3) c24 (show 8<11 by decide) rfl λH26 c26 o26=>zay (i:=9) (cs':=ckC c w1 w2 u.u1 u.u2 u.u3 w4 w5 w3) c26 (show 9<11 by decide) rfl λH27 c27 o27=>?_
 have k1:=(((k1.le l21).le l24).off o26).off o27;have k2:=(((k2.le l21).le l24).off o26).off o27;have k3:=(((k3.le l21).le l24).off o26).off o27;have k4:=((k4.le l24).off o26).off o27;have k5:=(k5.off o26).off o27;have le27:Qc H H27:=o27.le hb1 (o26.le hb1 le24);have r27:=r.le le27;obtain⟨g1,g2,g3⟩:=f6;refine⟨u.u1,Cel.at c27 5,u.u2,Cel.at c27 6,u.u3,Cel.at c27 7,(znw r27.ag.tb.uses (by omega)).mono λv H32 ⟨w6,hv,l32,m6⟩=>⟨l32,w6,hv,?_⟩⟩;have k6:=Mine.kp m6 c27 λ_=>rfl
 have c32:=c27.le l32;refine(zns (r27.le l32).ag.tb.used (by omega)).mono λv H35 ⟨w7,hv,l35,m7⟩=>⟨l35,w7,hv,?_⟩
 have k7:=Mine.kp m7 c32 λ_=>rfl
 have c35:=c32.le l35;refine(znw ((r27.le l32).le l35).ag.tb.free (by omega)).mono λv H38 ⟨w8,hv,l38,m8⟩=>⟨l38,w8,hv,?_⟩
 have k8:=Mine.kp m8 c35 λ_=>rfl
 have c38:=c35.le l38;have le38:Qc H H38:=Qb le27 (Qb l32 (Qb l35 l38));refine zay (i:=5) (cs':=ckC c w1 w2 w6 u.u2 u.u3 w4 w5 w3) c38 (show 5<11 by decide) rfl λH40 c40 o40=>zay (i:=6) (cs':=ckC c w1 w2 w6 w7 u.u3 w4 w5 w3) c40 (show 6<11 by decide) rfl λH41 c41 o41=>zay (i:=7) (cs':=ckC c w1 w2 w6 w7 w8 w4 w5 w3) c41 (show 7<11 by decide) rfl λH42 c42 o42=>?_
 have le42:Qc H H42:=o42.le hb1 (o41.le hb1 (o40.le hb1 le38));have at42:=λi=>Cel.at c42 i
 have sp:=k3.sep;have s13:Sep w1 w3:=Sep.of (m1.isOld.le l10) m3.isNew;have m17:=Mine.off (Mine.off (Mine.off (m3.low (Qb le2 (Qb l7 l10))) o15 sp) o16 sp) o17 sp;have m27:=Mine.off (Mine.off ((m17.le l21).le l24) o26 sp) o27 sp;have m42:=Mine.off (Mine.off (Mine.off (((m27.le l32).le l35).le l38) o40 sp) o41 sp) o42 sp;refine⟨_,_,w1,_,w2,w6,w7,w8,w4,w5,w3,⟨at42 0,at42 1,at42 2,at42 3,at42 4,at42 5,at42 6,at42 7,at42 8,at42 9,at42 10⟩,⟨w1,w2,w6,w7,w8,w4,w5,w3⟩,rfl,le42,?_,m42,s13,?_⟩
 ·have k1:=((((((k1.le l32).le l35).le l38).off o40).off o41).off o42);have k2:=((((((k2.le l32).le l35).le l38).off o40).off o41).off o42);have k3:=((((((k3.le l32).le l35).le l38).off o40).off o41).off o42);have k4:=((((((k4.le l32).le l35).le l38).off o40).off o41).off o42);have k5:=((((((k5.le l32).le l35).le l38).off o40).off o41).off o42);have k6:=(((((k6.le l35).le l38).off o40).off o41).off o42);have k7:=((((k7.le l38).off o40).off o41).off o42);have k8:=(((k8.off o40).off o41).off o42);exact⟨k1.rd,k2.rd,⟨⟨k6.rd,k7.rd,k8.rd⟩,k4.rd,k5.rd⟩,k3.rd⟩
 ·have le24':=le24;have le38':=le38;exact⟨(m1.isNew).low le2,(m2.isNew).low (Qb le2 l7),(m6.isNew).low le27,(m7.isNew).low (Qb le27 l32),(m8.isNew).low (Qb le27 (Qb l32 l35)),(m4.isNew).low le17,(m5.isNew).low (Qb le17 l21),(m3.isNew).low (Qb le2 (Qb l7 l10))⟩
theorem zmp{x:Int×Int}(r:RdK H u c)(fk:zze c) :
  fN F.f63 #[ckV u c,raW x] H λv H'=>∃w:Cu,v=.tuple #[ckV w (zd7 c x).1,vi (zd7 c x).2.1,vi (zd7 c x).2.2]/\Qc H H'/\RdK H' w (zd7 c x).1/\z1g H w:=by
 have bad:∀(e:Int)(H1:Hp),zd7 c x=(.zero,0,e)->Qc H H1->FnV Tryz.prog (.func (.func F.f115) #[] #[]) [vi e] H1 λv2 H3 =>
   ∃n4 n5:Int,∃u6:Slc,∃n7:Int,∃u8 u9 u10 u11 u12 u13 u14:Slc,∃n15 n16:Int,v2=.tuple #[vCk n4 n5 u6 n7 u8 u9 u10 u11 u12 u13 u14,vi n15,vi n16] /\
    ∃w:Cu,(.tuple #[vCk n4 n5 u6 n7 u8 u9 u10 u11 u12 u13 u14,vi n15,vi n16]:Value)=.tuple #[ckV w (zd7 c x).1,vi (zd7 c x).2.1,vi (zd7 c x).2.2]/\Qc H H3/\RdK H3 w (zd7 c x).1/\z1g H w:=by
  intro e H1 he hl;rw[he];exact zd5 ⟨_,_,_,_,_,_,_,_,_,_,_,_,_,rfl,zu,rfl,hl,RdK.zero,z1g.zero⟩
 refine vc63 ⟨_,zmq r fk,λhc=>?_,λhc=>?_⟩
 ·have hc:zlr c≠0:=by simpa using hc
  have hk:¬ okK c:=λok=>hc (zlv ok)
  rw[zls hk];exact bad 8 H (by unfold zd7;rw[Zn λh=>hk h.1]) (Qd _)
 have ok:okK c:=zlw.1 (by simpa using hc);obtain⟨ae1,ae2⟩:=z3g (x:=x) ok.ct;refine(zc9 (c:=c.ct) (x:=x) r.cl).mono λv H18 ⟨a,hv,nc⟩=>⟨_,a,_,_,hv,λh8=>?_,λh8=>?_⟩
 ·have h8:(z3e c.ct x).2.2=8:=by simpa using h8
  have hv:=ae1.1 h8;rw[h8];exact bad 8 H18 (by unfold zd7;rw[Zn λh=>by rw[hv] at h;cases h.2]) nc.le
 have h8:xb5 x=true:=by
  cases hv:xb5 x with
  | true=>rfl
  | false=>rw[ae1.2 hv] at h8;simp at h8
 have r18:=r.le nc.le;refine⟨_,_,_,zn0 r18.f ok.f,_,_,_,λ_=>zn0 r18.f ok.f,λhb=>?_,λhb=>?_⟩
 ·rw[yqx ok.f,yqx ok.f] at hb;have hb:yr5 c.f x.1<0\/yr5 c.f x.2<0:=by simpa using hb
  exact bad 6 H18 (by unfold zd7;rw[Zp ⟨ok,h8⟩,Zp hb]) nc.le
 rw[yqx ok.f,yqx ok.f] at hb;have hb:¬ (yr5 c.f x.1<0\/yr5 c.f x.2<0):=by simpa using hb
 have ek:zd7 c x=z3k c x:=by unfold zd7;rw[Zp ⟨ok,h8⟩,Zn hb]
 refine⟨λhe=>?_,λhe=>?_⟩
 ·have he:(z3e c.ct x).2.2≠0:=by simpa using he
  exact bad _ H18 (by rw[ek];unfold z3k;rw[Zn he]) nc.le
 have he:(z3e c.ct x).2.2=0:=by simpa using he
 obtain⟨a1,a2,a3,a4,a5,a6⟩:=z3h he;have hne:x.1≠x.2:=by
  unfold xb5 at h8;simp only[Qa,bne_iff_ne] at h8;exact h8.2
 refine(zn4 r18 fk).mono λv H75 ⟨w,hv,l75,rw75,m75,s75,nw⟩=>⟨_,_,w.f,_,w.cl,w.u1,w.u2,w.u3,w.u4,w.u5,w.d,hv,_,_,_,_,zn6 (x:=x) (r18.le l75).f ok.f fk.now,λh=>?_,λ_=>?_⟩
 ·rw[xbz ok.f ok.now (by omega) (by omega) hne] at h;simp at h
 rw[xbz ok.f ok.now (by omega) (by omega) hne];cases hw:xbv c.f x c.now with
 | none =>
  refine⟨λh=>by simp at h,λ_=>?_⟩;have e:z3k c x=({ c with ct:=(z3e c.ct x).1 },(z3e c.ct x).2.1,0):=by unfold z3k;rw[Zp he,hw]
  rw[ek,e];exact⟨⟨w.f,a,w.u1,w.u2,w.u3,w.u4,w.u5,w.d⟩,rfl,Qb nc.le l75,⟨rw75.f,nc.rd.le l75,rw75.ag,rw75.due⟩,nw.f.low nc.le,nc.list.isNew,nw.u1.low nc.le,nw.u2.low nc.le,nw.u3.low nc.le,nw.u4.low nc.le,nw.u5.low nc.le,nw.d.low nc.le⟩
 | some t =>
  refine⟨λ_=>?_,λh=>by simp at h⟩;have ht:okR t:=zxa (ok.f.pt (by omega)) (ok.f.pt (by omega)) ok.now hw;have hpush:=ok.push ht;have hnum:(z3e c.ct x).2.1=c.ct.next:=by rw[a6]
  refine(z4v (t:=t) (n:=(z3e c.ct x).2.1) (r18.le l75).ag fk.ag ht.fit).mono λv H107 ⟨v1,v2,v3,v4,v5,hv,na⟩=>⟨v1,v2,v3,v4,v5,_,_,_,hv,λh=>?_,λh=>?_⟩
  ·rw[hnum,hpush] at h;by_cases hct:c.ag.tb.canTake=true
   ·rw[Zp hct] at h;simp at h
   ·rw[hnum,hpush,Zn hct];exact bad 18 H107 (by rw[ek];unfold z3k;rw[Zp he,hw];simp only;rw[Zn hct]) (Qb nc.le (Qb l75 na.le))
  ·rw[hnum,hpush] at h;by_cases hct:c.ag.tb.canTake=true
   ·intro b H132 hb131 hH;rw[hnum,hpush,Zp hct] at na hH;have le107:Qc H18 H107:=Qb l75 na.le;refine(z7b (k:=3) (f:=fD) (bytes:=24) (x:=(c.ct.next,yh1 c.ag)) (e:=T.api_Due) (by kernel_rfl) (by decide) (λ_=>rfl) zws le107 (m75.le na.le) hb131 hH rfl (by have:=fk.due;omega) (by omega)).mono λv H134 ⟨d,hv,l134,md,cd,_⟩=>⟨d,hv,?_⟩
    have e:z3k c x=({ c with ct:=(z3e c.ct x).1,ag:=ysz c.ag t (z3e c.ct x).2.1,due:=c.due++[((z3e c.ct x).2.1,yh1 c.ag)] },(z3e c.ct x).2.1,0):=by unfold z3k;rw[Zp he,hw];simp only;rw[Zp hct]
    rw[ek,e];refine⟨⟨w.f,a,v1,v2,v3,v4,v5,d⟩,rfl,Qb nc.le l134,⟨(rw75.f.le na.le).chg cd s75,((nc.rd.le l75).le na.le).chg cd (Sep.of nc.list.isOld m75.isNew),?_,?_⟩,nw.f.low nc.le,nc.list.isNew,na.tb.uses.isNew.low (Qb nc.le l75),na.tb.used.isNew.low (Qb nc.le l75),na.tb.free.isNew.low (Qb nc.le l75),na.heap.isNew.low (Qb nc.le l75),na.wh.isNew.low (Qb nc.le l75),md.isNew.low nc.le⟩
    ·rw[hnum];exact RdA.chgN na cd m75.isOld
    ·rw[hnum];exact md.rdD
   ·rw[Zn hct] at h;simp at h
abbrev lsC(u:Lu)(l:Ls):Array Value:=#[vi l.ck.now.1,vi l.ck.now.2,u.k.f.v,vi l.ck.ct.next,u.k.cl.v,u.k.u1.v,u.k.u2.v,u.k.u3.v,u.k.u4.v,u.k.u5.v,u.k.d.v,u.o.v,u.n.v]
def hide(H:Hp)(b c:Nat):Hp:=λk=>if k=b\/k=c then none else H k
theorem y4v(H:Hp)(b c:Nat):hide H b c b=none:=Zp (.inl rfl)
theorem y4w(H:Hp)(b c:Nat):hide H b c c=none:=Zp (.inr rfl)
theorem y4x{c k:Nat}(h1:k≠b)(h2:k≠c):hide H b c k=H k:=Zn λh=>h.elim h1 h2
theorem _root_.Go.Eng.Rd.hide{α:Type}{k:Nat}{f:α->List Value}{H:Hp}{u:Slc}{xs:List α}{b c:Nat}(h:Rd k f H u xs)(hs:∀p,u.a=some p->p.block≠b/\p.block≠c):Rd k f (hide H b c) u xs:=by
 refine⟨h.len,h.cap,h.isS,λi x hx j v hv=>?_⟩;have hc:=h.cell i x hx j v hv;obtain⟨p,hp⟩:=Option.isSome_iff_exists.1 (h.isS (by intro e;rw[e] at hx;simp at hx));have hb:((zu4 u.a k i).add j).block=p.block:=by
  rw[hp];unfold zu4 Addr.add;simp only;split <;> (try split) <;> rfl
 rw[Hp.at_eq (H':=Go.Proofs.YtnhdkkblehadjaaGreat.hide H b c) (H:=H) (by rw[hb];exact y4x (hs p hp).1 (hs p hp).2)];exact hc
theorem RdK.hide{H0 H:Hp}{u:Cu}{c:Ck}{b d:Nat}(r:RdK H u c)(n:z1g H0 u)(hb:H0 b≠none)(hd:H0 d≠none):RdK (hide H b d) u c:=by
 have s:∀{v:Slc},New H0 v->∀p,v.a=some p->p.block≠b/\p.block≠d:=λ{v} nv p hp=>⟨λe=>hb (by rw[← e];exact nv p hp),λe=>hd (by rw[← e];exact nv p hp)⟩
 exact⟨r.f.hide (s n.f),r.cl.hide (s n.cl),⟨⟨r.ag.tb.uses.hide (s n.u1),r.ag.tb.used.hide (s n.u2),r.ag.tb.free.hide (s n.u3)⟩,r.ag.heap.hide (s n.u4),r.ag.wh.hide (s n.u5)⟩,r.due.hide (s n.d)⟩
theorem y9c{c:Nat}(h:Qc G H)(h1:G b=none)(h2:G c=none):Qc G (hide H b c):=λk o hk=>by
 rw[y4x (λe=>by rw[e,h1] at hk;cases hk) (λe=>by rw[e,h2] at hk;cases hk)];exact h k o hk
theorem y87{H0:Hp}{bn n:Nat}{k:Cu}{o:Slc}{i:Int}(box:Cel H b (lsC ⟨k,o,⟨some ⟨bn,0,none⟩,n,n⟩⟩ l) 47)(hne:bn≠b)(g1:Qc G H)(g2:G b=none)(g3:G bn=none)(rk:RdK G k l.ck)(ro:RdI G o l.ord)
  (mn:Mine 1 fI 3 H0 H ⟨some ⟨bn,0,none⟩,n,n⟩ l.num) (hl:Qc H0 H) (hb:H0 b=none) (fl:zzh l) (h0:0<=i) (h1:i+1<l.ord.length) (h2:i<l.num.length) (hbn:H bn≠none) :
  fN F.f27 #[.pointer (some ⟨b,0,none⟩),vi i] H λv H'=>v=vi (zd7 l.ck (yn6 l.ord i.toNat)).2.2/\Qc H0 H'/\((zd7 l.ck (yn6 l.ord i.toNat)).2.2=0 ->
   ∃(w:Cu)(G':Hp),Cel H' b (lsC ⟨w,o,⟨some ⟨bn,0,none⟩,n,n⟩⟩ ⟨(zd7 l.ck (yn6 l.ord i.toNat)).1,l.ord,l.num.set i.toNat (zd7 l.ck (yn6 l.ord i.toNat)).2.1⟩) 47/\Qc G' H'/\G' b=none/\G' bn=none/\RdK G' w (zd7 l.ck (yn6 l.ord i.toNat)).1/\RdI G' o l.ord /\
    Mine 1 fI 3 H0 H' ⟨some ⟨bn,0,none⟩,n,n⟩ (l.num.set i.toNat (zd7 l.ck (yn6 l.ord i.toNat)).2.1)/\H' bn≠none):=by
 have f1:=fl.o;have hbb:H b≠none:=by rw[box];simp
 refine vc27 ⟨_,_,k.f,_,k.cl,k.u1,k.u2,k.u3,k.u4,k.u5,k.d,⟨Cel.at box 0,Cel.at box 1,Cel.at box 2,Cel.at box 3,Cel.at box 4,Cel.at box 5,Cel.at box 6,Cel.at box 7,Cel.at box 8,Cel.at box 9,Cel.at box 10⟩,o,Cel.at box 11,_,_,y88 (ro.le g1) h0 h1 f1,
  (zmp (rk.le g1) fl.k).mono λv H16 ⟨w,hv,l16,rw',nw⟩=>⟨l16,_,_,w.f,_,w.cl,w.u1,w.u2,w.u3,w.u4,w.u5,w.d,_,_,hv,λhe=>?_,λhe=>?_⟩⟩
 ·exact⟨rfl,Qb hl l16,λh=>by rw[h] at he;simp at he⟩
 have he:(zd7 l.ck (yn6 l.ord i.toNat)).2.2=0:=by simpa using he
 rw[he];generalize zd7 l.ck (yn6 l.ord i.toNat)=r at *
 have box16:=box.le l16;obtain⟨can,st⟩:=x62 (b:=b) (off:=0) (T:=47) [vi r.1.now.1,vi r.1.now.2,w.f.v,vi r.1.ct.next,w.cl.v,w.u1.v,w.u2.v,w.u3.v,w.u4.v,w.u5.v,w.d.v] 0 H16 _ box16 (by show 0+0+11<=13;omega);refine⟨_,Cel.at box16 12,can,λH31 e31=>?_⟩;have e31:H31=H16.put b (.cells (lsC ⟨w,o,⟨some ⟨bn,0,none⟩,n,n⟩⟩ ⟨r.1,l.ord,l.num⟩) 47 (0,0)):=e31.trans st;have c31:Cel H31 b (lsC ⟨w,o,⟨some ⟨bn,0,none⟩,n,n⟩⟩ ⟨r.1,l.ord,l.num⟩) 47:=by rw[e31];exact Cel.put
 have ch31:Chg H16 H31 ⟨some ⟨b,0,none⟩,0,0⟩:=λc hc hn=>by rw[e31];exact Hp.put_ne _ _ λe=>hn _ rfl e.symm
 have m31:=(mn.le l16).chg ch31 (λp q hp hq=>by cases hp;cases hq;exact hne);refine⟨m31.rdI.inS h0 h2,?_⟩;refine m31.setI h0 h2 r.2.1 λH32 m32 ch32=>?_
 have le31:Qc H0 H31:=Qg (Qb hl l16) ch31 λp hp=>by cases hp;exact hb
 have le32:Qc H0 H32:=Qg le31 ch32 mn.isNew;have same:∀c,c≠b->c≠bn->H16 c≠none->H32 c=H16 c:=λc c1 c2 hc=>by
  have e1:H31 c=H16 c:=ch31 c hc λp hp e=>by cases hp;exact c1 e.symm
  rw[ch32 c (by rw[e1];exact hc) λp hp e=>by cases hp;exact c2 e.symm,e1]
 refine⟨rfl,le32,λ_=>⟨w,hide H16 b bn,?_,λc x hc=>?_,y4v _ _ _,y4w _ _ _,RdK.hide rw' nw hbb hbn,ro.le (y9c (Qb g1 l16) g2 g3),m32,?_⟩⟩
 ·unfold Cel at c31 ⊢;rw[ch32 b (by rw[c31];simp) λp hp e=>by cases hp;exact hne e];exact c31
 ·unfold hide at hc;split at hc
  ·cases hc
  ·rename_i hh;rw[same c (λe=>hh (.inl e)) (λe=>hh (.inr e)) (by rw[hc];simp)];exact hc
 ·exact m32.isOld _ rfl
theorem z08.certify(b:z08 f t l)(of:okF f)(h:i<l.num.length):zd7 l.ck (yn6 l.ord i)=z3k l.ck (yn6 l.ord i):=by
 have ho:l.ord.length=f.length:=by rw[b.ord,ylo]
 have hn:=b.num;have p1:0<=yr5 l.ck.f (yn6 l.ord i).1:=b.pos of _ (Qh (y36 (xs:=l.ord) (i:=(i:Int)+1) (by omega) (by omega)));have p2:0<=yr5 l.ck.f (yn6 l.ord i).2:=b.pos of _ (Qh (y36 (xs:=l.ord) (i:=(i:Int)) (by omega) (by omega)));have hne:(yn6 l.ord i).1≠(yn6 l.ord i).2:=by
  have hi:=(x4o (yk2 of) t).ids (yk2 of);have hp:=Qj.2 hi;have eo:l.ord=(x4k f t).map (·.1):=b.ord;rw[← eo] at hp;have:=List.pairwise_iff_getElem.1 hp i (i+1) (by omega) (by omega) (by omega);unfold yn6;rw[Qm,Qm,Ql (by omega),Ql (by omega)];exact λe=>this e.symm
 have of':okF l.ck.f:=by rw[b.fe];exact of
 have q1:=of'.pt p1;have q2:=of'.pt p2;have r1:=(yra p1).2.2;have r2:=(yra p2).2.2;have a1:=q1.i0;have a2:=q1.i1;have a3:=q2.i0;have a4:=q2.i1;rw[r1] at a1 a2;rw[r2] at a3 a4;have hv:xb5 (yn6 l.ord i)=true:=by
  unfold xb5;simp only[Qa,Zq,bne_iff_ne,ne_eq];omega
 unfold zd7;rw[Zp ⟨b.ok,hv⟩,Zn (by omega)]
theorem y85{w:Slc}(hf:Rd 3 fD H w f)(ht:zzn t) :
    fN F.f8 #[vFd w,raW t] H λv H'=>∃u:Lu,v=.tuple #[lsV u (zbd f t).1,vi (zbd f t).2]/\Qc H H'/\RdL H' u (zbd f t).1:=by
  refine vc8 ((zmx hf ht).mono λv H2 ⟨k,hv,l2,rk⟩=>⟨_,_,k.f,_,k.cl,k.u1,k.u2,k.u3,k.u4,k.u5,k.d,_,hv,λhc=>?_,λhc=>?_⟩)
  · have hc:(ygq f t).2≠0:=by simpa using hc
    have h:x8u f t≠0:=λh=>by unfold ygq at hc;rw[Zp h] at hc;exact hc rfl
    have e:ygq f t=(.zero,x8u f t):=by unfold ygq;rw[Zn h]
    unfold zbd;rw[Zn h,e];exact⟨zlu,rfl,l2,RdL.zero⟩
  have h:x8u f t=0:=by
    have hc:(ygq f t).2=0:=by simpa using hc
    by_cases h:x8u f t=0
    · exact h
    · unfold ygq at hc;rw[Zn h] at hc;exact absurd hc h
  obtain⟨of,ot⟩:=x8v.1 h;have lf:=of.small;unfold zbd;rw[Zp h];refine(zxt (hf.le l2) ht).mono λv H16 ⟨o,hv,l16,mo⟩=>⟨o,_,hv,?_⟩
  have eo:ym8 f t=(yll f t,0):=by unfold ym8;rw[Zp h]
  rw[eo] at mo;have lo:=mo.rdI.len;rw[ylo] at lo;rw[yah,lo];refine⟨by unfold inI;omega,⟨rfl,by omega,by omega⟩,λb19 H20 hb19 hH20 b21 H22 hb21 hH22=>?_⟩;have m20:=yc1 (g:=λx=>vi x) (e:=3) hfI (n:=((f.length-1:Nat):Int)) (z:=0) hb19 hH20 rfl;rw[Int.toNat_natCast] at m20 hH22;have l20:Qc H16 H20:=Qe (Qd _) hb19 hH20;have l22:Qc H20 H22:=Qe (Qd _) hb21 hH22;have lH16:Qc H H16:=Qb l2 l16;have n19:H20 b19≠none:=by rw[hH20];simp
  have hne:b19≠b21:=λe=>by rw[e] at n19;exact n19 hb21
  have hb21':H16 b21=none:=by
    cases hx:H16 b21 with
    | none=>rfl
    | some x=>rw[l20 _ _ hx] at hb21;cases hb21
  have n19':H22 b19≠none:=by
    intro e;cases hx:H20 b19 with
    | none=>exact n19 hx
    | some x=>rw[l22 _ _ hx] at e;cases e
  have box:Cel H22 b21 (lsC ⟨k,o,⟨some ⟨b19,0,none⟩,f.length-1,f.length-1⟩⟩ (zbk f t 0).1) 47:=by rw[hH22];exact Cel.put
  refine⟨⟨some ⟨b19,0,none⟩,f.length-1,f.length-1⟩,Cel.at box 12,λi H'=>0<=i/\i<=(f.length-1:Nat)/\Qc H16 H'/\(zbk f t i.toNat).2=0/\z08 f t (zbk f t i.toNat).1/\∃(w:Cu)(G:Hp),Cel H' b21 (lsC ⟨w,o,⟨some ⟨b19,0,none⟩,f.length-1,f.length-1⟩⟩ (zbk f t i.toNat).1) 47/\Qc G H'/\G b21=none/\G b19=none/\RdK G w (zbk f t i.toNat).1.ck/\RdI G o (zbk f t i.toNat).1.ord /\
      Mine 1 fI 3 H16 H' ⟨some ⟨b19,0,none⟩,f.length-1,f.length-1⟩ (zbk f t i.toNat).1.num/\H' b19≠none,
    λi _=>(((f.length-1:Nat):Int)-i).toNat,⟨Int.le_refl _,by omega,Qb l20 l22,rfl,z08.start h,k,H16,box,Qb l20 l22,hb21',hb19,rk.le l16,mo.rdI,m20.le l22,n19'⟩,
    λi H' ⟨i0,i1,le,z,bi,w',G,bx,g1,g2,g3,rk',ro',mn,hn'⟩=>⟨λhn=>?_,λhn=>?_⟩⟩
  · have hi:i<(f.length-1:Nat):=by simpa using hn
    have ho:(zbk f t i.toNat).1.ord.length=f.length:=by rw[bi.ord,ylo]
    have hnn:=bi.num;have ec:=bi.certify of (i:=i.toNat) (by omega);refine(y87 (i:=i) bx hne g1 g2 g3 rk' ro' mn le hb21' (bi.fit of) i0 (by omega) (by omega) hn').mono λv H29 ⟨hv,l29,hok⟩=>⟨_,hv,λhe=>?_,λhe=>?_⟩
    · rw[ec] at he
      have he:(z3k (zbk f t i.toNat).1.ck (yn6 (zbk f t i.toNat).1.ord i.toNat)).2.2≠0:=by simpa using he
      have em:yby (zbk f t i.toNat).1 i.toNat=(.zero,(z3k (zbk f t i.toNat).1.ck (yn6 (zbk f t i.toNat).1.ord i.toNat)).2.2):=by unfold yby;rw[Zn he]
      have es:zbk f t (i.toNat+1)=yby (zbk f t i.toNat).1 i.toNat:=by
        show (if (zbk f t i.toNat).2=0 then _ else _)=_;rw[Zp z]
      have e9:=zbm (f:=f) (t:=t) (n:=i.toNat+1) (by rw[es,em];exact he) (f.length-1) (by omega);rw[e9,es,em,ec];exact⟨zlu,rfl,Qb lH16 l29,RdL.zero⟩
    · rw[ec] at he hok
      have he:(z3k (zbk f t i.toNat).1.ck (yn6 (zbk f t i.toNat).1.ord i.toNat)).2.2=0:=by simpa using he
      obtain⟨w2,G2,c2,q1,q2,q3,q4,q5,q6,q7⟩:=hok he;have em:yby (zbk f t i.toNat).1 i.toNat=(⟨(z3k (zbk f t i.toNat).1.ck (yn6 (zbk f t i.toNat).1.ord i.toNat)).1,(zbk f t i.toNat).1.ord,(zbk f t i.toNat).1.num.set i.toNat (z3k (zbk f t i.toNat).1.ck (yn6 (zbk f t i.toNat).1.ord i.toNat)).2.1⟩,0):=by unfold yby;rw[Zp he]
      have es:zbk f t (i+1).toNat=yby (zbk f t i.toNat).1 i.toNat:=by
        rw[show (i+1).toNat=i.toNat+1 by omega];show (if (zbk f t i.toNat).2=0 then _ else _)=_;rw[Zp z]
      have bm:=bi.made of (i:=i.toNat) (by omega) (by rw[em]);rw[em] at es bm;refine⟨by unfold inI;omega,⟨by omega,by omega,l29,by rw[es],by rw[es];exact bm,w2,G2,?_,q1,q2,q3,?_,?_,?_,q7⟩,?_⟩
      · rw[es];exact c2
      · rw[es];exact q4
      · rw[es];exact q5
      · rw[es];exact q6
      · show (((f.length-1:Nat):Int)-(i+1)).toNat<(((f.length-1:Nat):Int)-i).toNat;omega
  · have hi:i=(f.length-1:Nat):=by have:¬ i<((f.length-1:Nat):Int):=by simpa using hn
                                   omega
    subst hi;rw[Int.toNat_natCast] at z bx rk' ro' mn;refine⟨_,_,w'.f,_,w'.cl,w'.u1,w'.u2,w'.u3,w'.u4,w'.u5,w'.d,o,⟨some ⟨b19,0,none⟩,f.length-1,f.length-1⟩,⟨Cel.at bx 0,Cel.at bx 1,Cel.at bx 2,Cel.at bx 3,Cel.at bx 4,Cel.at bx 5,Cel.at bx 6,Cel.at bx 7,Cel.at bx 8,Cel.at bx 9,Cel.at bx 10,Cel.at bx 11,Cel.at bx 12⟩,?_⟩;rw[z];exact⟨⟨w',o,⟨some ⟨b19,0,none⟩,f.length-1,f.length-1⟩⟩,rfl,Qb lH16 le,⟨rk'.le g1,ro'.le g1,mn.rdI⟩⟩
