/- The law LeditNames. Conditions: none. -/
import Derived.Test.YtjhbjjdipmpgjaaGreatPH5
import Derived.Test.YtjhbjjdipmpgjaaGreatPK3
import Derived.Test.YtjhbjjdipmpgjaaGreatVgLLeditNames
import Derived.Test.YtjhbjjdipmpgjaaGreatFs
set_option linter.unusedVariables false
set_option maxRecDepth 100000
open Go Go.Eng Go.Proofs
namespace Go.Proofs.YtjhbjjdipmpgjaaGreat

def nineX (l:Ls):Ls:=⟨l.ck,l.ord,l.num.set 0 9⟩
def exEmp:Ls:=(allM exLs [] [1,2,5]).1
def exOne:Ls:=(putM exEmp (8,0,0)).1
def exChg:Ls:=(changeM exLs (5,60,0)).1
theorem badN:chkLs (nineX exLs)=8:=by kernel_rfl
theorem ln1:(putM exLs (65536,0,0)).2=8:=by kernel_rfl
theorem ln2:(putM exLs (5,9,0)).2=14:=by kernel_rfl
theorem ln3:(takeM exLs 3).2=6:=by kernel_rfl
theorem ln4:(changeM exLs (3,0,0)).2=6:=by kernel_rfl
theorem ln5:(changeM exLs (65536,0,0)).2=8:=by kernel_rfl
theorem ln6:(allM exLs [(3,0,0)] [3,3]).2=6:=by kernel_rfl
theorem ln7:(whereM exLs (65536,0,0)).2=8:=by kernel_rfl
theorem ln8:whereM exLs (2,-1,0)=(2,0):=by kernel_rfl
theorem ln9:(allM exLs [] [1,2,5]).2=0:=by kernel_rfl
theorem lnE:exEmp.ord=[]:=by kernel_rfl
theorem lnA:(putM exEmp (8,0,0)).2=0:=by kernel_rfl
theorem lnO:exOne.ord=[8]:=by kernel_rfl
theorem lnN:exOne.num=[]:=by kernel_rfl
theorem lnF:(putM (fullX exLs) (7,3,0)).2=18:=by kernel_rfl
theorem lnG:(putM (fullX exLs) (7,30,0)).2=0:=by kernel_rfl
theorem lnC:(changeM exLs (5,60,0)).2=0:=by kernel_rfl
theorem lnD:exChg.ord=[5,2,1]:=by kernel_rfl

set_option maxHeartbeats 4000000 in
theorem law26names_of {H:Hp} {l x1 x2 x3 x4 x5 x6 xE xO x7 x8 xC:Ls} {w1:Int} (ex:∀ {H:Hp},Go.Eng.Fn Tryz.prog F.pelotonlaw26_example #[] H fun v H'=>∃ u:Lu,v=lsV u l∧Hp.le H H'∧RdL H' u l)
  (ok:okLs l) (fl:fitL l) (ff:fitL (fullX l)) (fe:fitL xE) (ft:fitR l.ck.now) (b:BadL (nineX l)) (hn0:0<l.num.length)
  (h1:putM l (65536,0,0)=(x1,8)) (h2:putM l (5,9,0)=(x2,14)) (h3:takeM l 3=(x3,6)) (h4:changeM l (3,0,0)=(x4,6)) (h5:changeM l (65536,0,0)=(x5,8)) (h6:allM l [(3,0,0)] [3,3]=(x6,6))
  (h7:whereM l (65536,0,0)=(w1,8)) (h8:whereM l (2,-1,0)=(2,0)) (h9:allM l [] [1,2,5]=(xE,0)) (hE:xE.ord=[]) (hA:putM xE (8,0,0)=(xO,0)) (hO:xO.ord=[8]) (hN:xO.num=[])
  (hF:putM (fullX l) (7,3,0)=(x7,18)) (hG:putM (fullX l) (7,30,0)=(x8,0)) (hC:changeM l (5,60,0)=(xC,0)) (hD:xC.ord=[5,2,1]) :
  Qf Tryz.prog F.pelotonlaw26_LeditNames #[] H (.bool true):=by
 refine pelotonlaw26_LeditNames_vc (ex.mono fun v H2 ⟨u,hv,l2,r⟩=>⟨_,_,u.k.f,_,u.k.cl,u.k.u1,u.k.u2,u.k.u3,u.k.u4,u.k.u5,u.k.d,u.o,u.n,hv,?_⟩)
 refine (refLTwinT r fl).mono fun v H17 ⟨z,G,hv,lG,tz⟩=>⟨_,_,z.k.f,_,z.k.cl,z.k.u1,z.k.u2,z.k.u3,z.k.u4,z.k.u5,z.k.d,z.o,z.n,hv,?_⟩
 have nb:=b.bad
 have fb:=b.fit
 have e1:putM (nineX l) (65536,0,0)=(.zero,8):=by unfold putM; rw [if_neg fun h=>nb h.1]
 have e2:whereM (nineX l) (65536,0,0)=(0,8):=by unfold whereM; rw [if_neg fun h=>nb h.1]
 have e3:takeM (nineX l) 3=(.zero,8):=by unfold takeM; rw [if_neg nb]
 have e4:changeM (nineX l) (65536,0,0)=(.zero,8):=by unfold changeM; rw [if_neg fun h=>nb h.1]
 have e5:allM (nineX l) [(65536,0,0)] []=(.zero,8):=by unfold allM; rw [if_neg nb]
 refine ⟨tz.n.rdI.inS (Int.le_refl _) (by omega),?_⟩
 refine tz.n.setI (Int.le_refl _) (by omega) 9 fun H31 m31 c31=>?_
 have t31:=tz.setN m31 c31
 have rb:RdL H31 z (nineX l):=t31.rd
 have r31:RdL H31 u l:=r.le (Hp.le_trans lG t31.le)
 have l31:Hp.le H2 H31:=Hp.le_trans lG t31.le
 have s1:=leditPut (p:=(65536,0,0)) rb fb
 rw [e1] at s1
 refine s1.mono fun v H33 ⟨a,hv,l33,_⟩=>⟨_,_,a.k.f,_,a.k.cl,a.k.u1,a.k.u2,a.k.u3,a.k.u4,a.k.u5,a.k.d,a.o,a.n,8,hv,?_⟩
 have s2:=leditWhereQ (p:=(65536,0,0)) (rb.le l33) fb
 rw [e2] at s2
 refine ⟨0,8,s2,?_⟩
 have s3:=leditTake (id:=3) (rb.le l33) fb
 rw [e3] at s3
 refine s3.mono fun v H51 ⟨a,hv,l51,_⟩=>⟨_,_,a.k.f,_,a.k.cl,a.k.u1,a.k.u2,a.k.u3,a.k.u4,a.k.u5,a.k.d,a.o,a.n,8,hv,?_⟩
 have L51:=Hp.le_trans l33 l51
 have s4:=leditChange (p:=(65536,0,0)) (rb.le L51) fb
 rw [e4] at s4
 refine s4.mono fun v H67 ⟨a,hv,l67,_⟩=>⟨_,_,a.k.f,_,a.k.cl,a.k.u1,a.k.u2,a.k.u3,a.k.u4,a.k.u5,a.k.d,a.o,a.n,8,hv,fun b82 H83 hb82 hH83=>?_⟩
 have L67:=Hp.le_trans L51 l67
 have l83:Hp.le H67 H83:=Hp.le_new (Hp.le_refl _) hb82 hH83
 have L83:=Hp.le_trans L67 l83
 have rp:Rd 3 fD H83 ⟨some ⟨b82,0,none⟩,1,1⟩ [(65536,0,0)]:=rdConst (k:=3) (f:=fD) (fun _=>rfl) hH83 rfl rfl
 have s5:=leditAll (iv:=⟨none,0,0⟩) (ids:=[]) (rb.le L83) fb ft rp Rd.nil (by simp) (by simp)
 rw [e5] at s5
 refine s5.mono fun v H85 ⟨a,hv,l85,_⟩=>⟨_,_,a.k.f,_,a.k.cl,a.k.u1,a.k.u2,a.k.u3,a.k.u4,a.k.u5,a.k.d,a.o,a.n,8,hv,?_⟩
 have L85:=Hp.le_trans L83 l85
 have s6:=leditPut (p:=(65536,0,0)) (r31.le L85) fl
 rw [h1] at s6
 refine s6.mono fun v H101 ⟨a,hv,l101,_⟩=>⟨_,_,a.k.f,_,a.k.cl,a.k.u1,a.k.u2,a.k.u3,a.k.u4,a.k.u5,a.k.d,a.o,a.n,8,hv,?_⟩
 have L101:=Hp.le_trans L85 l101
 have s7:=leditPut (p:=(5,9,0)) (r31.le L101) fl
 rw [h2] at s7
 refine s7.mono fun v H117 ⟨a,hv,l117,_⟩=>⟨_,_,a.k.f,_,a.k.cl,a.k.u1,a.k.u2,a.k.u3,a.k.u4,a.k.u5,a.k.d,a.o,a.n,14,hv,?_⟩
 have L117:=Hp.le_trans L101 l117
 have s8:=leditTake (id:=3) (r31.le L117) fl
 rw [h3] at s8
 refine s8.mono fun v H133 ⟨a,hv,l133,_⟩=>⟨_,_,a.k.f,_,a.k.cl,a.k.u1,a.k.u2,a.k.u3,a.k.u4,a.k.u5,a.k.d,a.o,a.n,6,hv,?_⟩
 have L133:=Hp.le_trans L117 l133
 have s9:=leditChange (p:=(3,0,0)) (r31.le L133) fl
 rw [h4] at s9
 refine s9.mono fun v H149 ⟨a,hv,l149,_⟩=>⟨_,_,a.k.f,_,a.k.cl,a.k.u1,a.k.u2,a.k.u3,a.k.u4,a.k.u5,a.k.d,a.o,a.n,6,hv,?_⟩
 have L149:=Hp.le_trans L133 l149
 have sA:=leditChange (p:=(65536,0,0)) (r31.le L149) fl
 rw [h5] at sA
 refine sA.mono fun v H165 ⟨a,hv,l165,_⟩=>⟨_,_,a.k.f,_,a.k.cl,a.k.u1,a.k.u2,a.k.u3,a.k.u4,a.k.u5,a.k.d,a.o,a.n,8,hv,fun b180 H181 hb180 hH181 b182 H183 hb182 hH183=>?_⟩
 have l181:Hp.le H165 H181:=Hp.le_new (Hp.le_refl _) hb180 hH181
 have l183:Hp.le H181 H183:=Hp.le_new (Hp.le_refl _) hb182 hH183
 have L183:=Hp.le_trans (Hp.le_trans L149 l165) (Hp.le_trans l181 l183)
 have rp2:Rd 3 fD H181 ⟨some ⟨b180,0,none⟩,1,1⟩ [(3,0,0)]:=rdConst (k:=3) (f:=fD) (fun _=>rfl) hH181 rfl rfl
 have ri2:RdI H183 ⟨some ⟨b182,0,none⟩,2,2⟩ [3,3]:=rdConst (k:=1) (f:=fI) (fun _=>rfl) hH183 rfl rfl
 have sB:=leditAll (r31.le L183) fl ft (rp2.le l183) ri2 (by simp) (by simp)
 rw [h6] at sB
 refine sB.mono fun v H185 ⟨a,hv,l185,_⟩=>⟨_,_,a.k.f,_,a.k.cl,a.k.u1,a.k.u2,a.k.u3,a.k.u4,a.k.u5,a.k.d,a.o,a.n,6,hv,?_⟩
 have L185:=Hp.le_trans L183 l185
 have sC:=leditWhereQ (p:=(65536,0,0)) (r31.le L185) fl
 rw [h7] at sC
 have sD:=leditWhereQ (p:=(2,-1,0)) (r31.le L185) fl
 rw [h8] at sD
 refine ⟨_,8,sC,2,0,sD,?_⟩
 have e0:allM l [] []=(l,0):=by unfold allM; rw [if_pos ok]; rfl
 have sE:=leditAll (pv:=⟨none,0,0⟩) (ps:=[]) (iv:=⟨none,0,0⟩) (ids:=[]) (r31.le L185) fl ft Rd.nil Rd.nil (by simp) (by simp)
 rw [e0] at sE
 refine sE.mono fun v H205 ⟨c,hv,l205,rc⟩=>⟨_,_,c.k.f,_,c.k.cl,c.k.u1,c.k.u2,c.k.u3,c.k.u4,c.k.u5,c.k.d,c.o,c.n,0,hv,fun b220 H221 hb220 hH221=>?_⟩
 have rc:RdL H205 c l:=rc
 have L205:=Hp.le_trans L185 l205
 have l221:Hp.le H205 H221:=Hp.le_new (Hp.le_refl _) hb220 hH221
 have L221:=Hp.le_trans L205 l221
 have ri3:RdI H221 ⟨some ⟨b220,0,none⟩,3,3⟩ [1,2,5]:=rdConst (k:=1) (f:=fI) (fun _=>rfl) hH221 rfl rfl
 have sF:=leditAll (pv:=⟨none,0,0⟩) (ps:=[]) (r31.le L221) fl ft Rd.nil ri3 (by simp) (by simp)
 rw [h9] at sF
 refine sF.mono fun v H223 ⟨e,hv,l223,re⟩=>⟨_,_,e.k.f,_,e.k.cl,e.k.u1,e.k.u2,e.k.u3,e.k.u4,e.k.u5,e.k.d,e.o,e.n,0,hv,?_⟩
 have re:RdL H223 e xE:=re
 have L223:=Hp.le_trans L221 l223
 have sG:=leditPut (p:=(8,0,0)) re fe
 rw [hA] at sG
 refine sG.mono fun v H239 ⟨q,hv,l239,rq⟩=>⟨_,_,q.k.f,_,q.k.cl,q.k.u1,q.k.u2,q.k.u3,q.k.u4,q.k.u5,q.k.d,q.o,q.n,0,hv,?_⟩
 have rq:RdL H239 q xO:=rq
 have L239:=Hp.le_trans L223 l239
 refine (refLTwinM (r31.le L239) fl).mono fun v H255 ⟨w,hv,l255,rw255,_,_,_⟩=>⟨_,_,w.k.f,_,w.k.cl,w.k.u1,w.k.u2,w.k.u3,w.k.u4,w.k.u5,w.k.d,w.o,w.n,hv,?_⟩
 have rf:RdL H255 w (fullX l):=⟨⟨rw255.k.f,rw255.k.cl,rw255.k.ag,rw255.k.due⟩,rw255.o,rw255.n⟩
 have sH:=leditPut (p:=(7,3,0)) rf ff
 rw [hF] at sH
 refine sH.mono fun v H270 ⟨a,hv,l270,_⟩=>⟨_,_,a.k.f,_,a.k.cl,a.k.u1,a.k.u2,a.k.u3,a.k.u4,a.k.u5,a.k.d,a.o,a.n,18,hv,?_⟩
 have sI:=leditPut (p:=(7,30,0)) (rf.le l270) ff
 rw [hG] at sI
 refine sI.mono fun v H286 ⟨a,hv,l286,_⟩=>⟨_,_,a.k.f,_,a.k.cl,a.k.u1,a.k.u2,a.k.u3,a.k.u4,a.k.u5,a.k.d,a.o,a.n,0,hv,?_⟩
 have L286:=Hp.le_trans (Hp.le_trans L239 l255) (Hp.le_trans l270 l286)
 have sJ:=leditChange (p:=(5,60,0)) (r31.le L286) fl
 rw [hC] at sJ
 refine sJ.mono fun v H302 ⟨g,hv,l302,rg⟩=>⟨_,_,g.k.f,_,g.k.cl,g.k.u1,g.k.u2,g.k.u3,g.k.u4,g.k.u5,g.k.d,g.o,g.n,0,hv,?_⟩
 have rg:RdL H302 g xC:=rg
 have L302:=Hp.le_trans L286 l302
 have u239:Hp.le H239 H302:=Hp.le_trans (Hp.le_trans l255 (Hp.le_trans l270 l286)) l302
 have u205:Hp.le H205 H302:=Hp.le_trans (Hp.le_trans l221 l223) (Hp.le_trans l239 u239)
 have he:e.o.n=0:=by have:=re.o.len; rw [hE] at this; exact this
 have hq:q.n.n=0:=by have:=rq.n.len; rw [hN] at this; exact this
 have qo:=(rq.le u239).o
 rw [hO] at qo
 have go:=rg.o
 rw [hD] at go
 have same:=refLSame (rc.le u205) (r31.le L302) fl
 rw [he,hq]
 refine ⟨true,law26alive,true,fun _=>same,fun _=>fun b319 H320 hb319 hH320=>?_,fun h=>by simp at h⟩
 have l320:Hp.le H302 H320:=Hp.le_new (Hp.le_refl _) hb319 hH320
 have c320:RdI H320 ⟨some ⟨b319,0,none⟩,1,1⟩ [8]:=rdConst (k:=1) (f:=fI) (fun _=>rfl) hH320 rfl rfl
 refine ⟨true,fun _=>sameIDs (qo.le l320) c320 (by decide),fun _=>fun b322 H323 hb322 hH323=>?_,fun h=>by simp at h⟩
 have l323:Hp.le H320 H323:=Hp.le_new (Hp.le_refl _) hb322 hH323
 have c323:RdI H323 ⟨some ⟨b322,0,none⟩,3,3⟩ [5,2,1]:=rdConst (k:=1) (f:=fI) (fun _=>rfl) hH323 rfl rfl
 exact ⟨true,fun _=>sameIDs (go.le (Hp.le_trans l320 l323)) c323 (by decide),by simp,Hp.le_trans l2 (Hp.le_trans l31 (Hp.le_trans L302 (Hp.le_trans l320 l323)))⟩
theorem exEfit:fitL exEmp:=(allM_sound exLs [] [1,2,5]).fitS
theorem mkPair {α β:Type} {p:α × β} {a:α} {b:β} (h1:p.1=a) (h2:p.2=b):p=(a,b):=by subst h1; subst h2; rfl
theorem exEmpD:(allM exLs [] [1,2,5]).1=exEmp:=by unfold exEmp; rfl
theorem exOneD:(putM exEmp (8,0,0)).1=exOne:=by unfold exOne; rfl
theorem exChgD:(changeM exLs (5,60,0)).1=exChg:=by unfold exChg; rfl
set_option maxHeartbeats 2000000 in
theorem law26names {H:Hp}:Qf Tryz.prog F.pelotonlaw26_LeditNames #[] H (.bool true):=by
 have fl:=exOk.fit
 refine law26names_of (x1:=(putM exLs (65536,0,0)).1) (x2:=(putM exLs (5,9,0)).1) (x3:=(takeM exLs 3).1) (x4:=(changeM exLs (3,0,0)).1) (x5:=(changeM exLs (65536,0,0)).1) (x6:=(allM exLs [(3,0,0)] [3,3]).1) (w1:=(whereM exLs (65536,0,0)).1)
  (x7:=(putM (fullX exLs) (7,3,0)).1) (x8:=(putM (fullX exLs) (7,30,0)).1) (law26example_of exB) exOk fl ?_ exEfit exOk.ck.now.fit (.ofChk badN ⟨fl.k,fl.o,?_⟩) ?_
  (mkPair rfl ln1) (mkPair rfl ln2) (mkPair rfl ln3) (mkPair rfl ln4) (mkPair rfl ln5) (mkPair rfl ln6) (mkPair rfl ln7) ln8 (mkPair exEmpD ln9) lnE (mkPair exOneD lnA) lnO lnN (mkPair rfl lnF) (mkPair rfl lnG) (mkPair exChgD lnC) lnD
 ·exact ⟨⟨fl.k.now,fl.k.f,fl.k.ct,fl.k.ag,fl.k.due⟩,fl.o,fl.n⟩
 ·have:=fl.n; simp only [nineX,List.length_set]; exact this
 ·rw [exU1]; decide
end Go.Proofs.YtjhbjjdipmpgjaaGreat
