/- The engine, parts Y6, Y7, Y8, YN, YM, YW, put together. Conditions: none. -/
import Derived.Test.YtlbdpklikfddlaaGreatPYB
import Derived.Test.YtlbdpklikfddlaaGreatPS1
import Derived.Test.YtlbdpklikfddlaaGreatPN2
import Derived.Test.YtlbdpklikfddlaaGreatVgCollide
import Derived.Test.YtlbdpklikfddlaaGreatVgR04
import Derived.Test.YtlbdpklikfddlaaGreatFs
import Derived.Test.YtlbdpklikfddlaaGreatPM4
import Derived.Test.YtlbdpklikfddlaaGreatPWA
import Derived.Test.YtlbdpklikfddlaaGreatVgH29
import Derived.Test.YtlbdpklikfddlaaGreatVgLCollideCounts
import Derived.Test.YtlbdpklikfddlaaGreatVgLCollideNames
set_option linter.unusedVariables false
section
/- The program's and the reference's Log. Conditions: none. -/
set_option maxRecDepth 100000
open Go Go.Eng Go.Proofs
namespace Go.Proofs.YtlbdpklikfddlaaGreat

theorem sameM4 {H:Hp} {a b:Slc} {xs:List Pr} (ha:Rd 4 fM H a xs) (hb:Rd 4 fM H b xs) (h63:xs.length≤1000000000):Qf Tryz.prog F.pelotonref04_Same #[a.v,b.v] H (.bool true):=by
 have la:=ha.len; have lb:=hb.len
 have an:(a.n:Int)=xs.length:=by omega
 refine pelotonref04_Same_vc ⟨fun hc=>?_,fun hc=>?_⟩
 ·have hc:=bne_iff_ne.1 hc; omega
 rw [an]
 refine upto (N:=(xs.length:Int)) (J:=fun _=>True) (by omega) trivial fun n h0 h1 _=>⟨fun hn=>?_,fun hn=>⟨rfl,Hp.le_refl _⟩⟩
 have hn:n<xs.length:=of_decide_eq_true hn
 have ga:=RdM.get ha h0 hn
 have gb:=RdM.get hb h0 hn
 refine ⟨ha.inS h0 hn,_,_,_,_,ga,hb.inS h0 hn,_,_,_,_,gb,fun hc=>?_,fun hc=>upto.nx h0 hn (by omega) trivial⟩
 simp at hc
def logM (l:Ls) (to:Int × Int):Ls × List Pr × Int:=if (advM l to).2.2=0 then ((advM l to).1,betweenM l.ck.f l.ck.now to,0) else (.zero,[],(advM l to).2.2)
theorem advM_zero {l:Ls} {to:Int × Int} (h:(advM l to).2.2=0):okLs l∧untilK l.ck to=0:=by
 by_cases ok:okLs l
 ·refine ⟨ok,?_⟩
  by_cases hu:untilK l.ck to=0
  ·exact hu
  ·rw [advM_until ok hu] at h; exact absurd h hu
 ·rw [advM_bad ok] at h; exact absurd (show (8:Int)=0 from h) (by decide)
theorem colLog {H:Hp} {u:Lu} {l:Ls} {to:Int × Int} (r:RdL H u l) (fl:fitL l) (ht:fitR to) :
  Go.Eng.Fn Tryz.prog F.collide_Log #[lsV u l,raW to] H fun v H'=>∃ (w:Lu) (s:Slc),v=.tuple #[lsV w (logM l to).1,s.v,.int .i64 (logM l to).2.2]∧Hp.le H H'∧RdL H' w (logM l to).1∧Rd 4 fM H' s (logM l to).2.1:=by
 refine collide_Log_vc ((klistAdvance r fl ht).mono fun v H2 ⟨x,hv,l2,r2⟩=>⟨_,_,x.k.f,_,x.k.cl,x.k.u1,x.k.u2,x.k.u3,x.k.u4,x.k.u5,x.k.d,x.o,x.n,_,_,hv,fun h=>?_,fun h=>?_⟩)
 ·have h:=bne_iff_ne.1 h
  have e:logM l to=(.zero,[],(advM l to).2.2):=if_neg h
  rw [e]
  exact ⟨zlu,⟨none,0,0⟩,rfl,l2,RdL.zero,Rd.nil⟩
 ·have h:=bne_eq_false_iff_eq.1 h
  obtain ⟨ok,hu⟩:=advM_zero h
  obtain ⟨_,ot,hle⟩:=untilK_zero.1 hu
  have e:logM l to=((advM l to).1,betweenM l.ck.f l.ck.now to,0):=if_pos h
  rw [e]
  exact (meetAll (r.k.f.le l2) ok.ck.f ok.ck.now ot hle).mono fun v H19 ⟨s,hv,l19,r19⟩=>⟨s,0,hv,x,s,rfl,Hp.le_trans l2 l19,r2.le l19,r19⟩

theorem law29whole {H:Hp} {n:Int}:Qf Tryz.prog F.pelotonlaw29_whole #[.int .i64 n] H (sI2 n 1):=pelotonlaw29_whole_vc ⟨rfl,Hp.le_refl _⟩
theorem fitm1:fitR (-1,1):=⟨by show inI (-1); unfold inI; omega,by show inI 1; unfold inI; omega⟩
theorem fit61:fitR (6,1):=⟨by show inI 6; unfold inI; omega,by show inI 1; unfold inI; omega⟩
def exM:Ls:=(buildL exF (-1,1)).1
theorem exMok:okLs exM:=chkLs_zero.1 (by kernel_rfl)
theorem exMB:buildL exF (-1,1)=(exM,0):=Prod.ext (by unfold exM; rfl) (by kernel_rfl)
def gLog:List Mg:=[((0,1),1,5),((2,1),1,2),((6,1),2,5)]
def pLog:List Pr:=[(1,5,(0,1)),(1,2,(2,1)),(2,5,(6,1))]
def exA:Ls:=(logM exM (6,1)).1
theorem exL1:(logM exM (6,1)).2.1=pLog:=by kernel_rfl
theorem exL2:(logM exM (6,1)).2.2=0:=by kernel_rfl
theorem exAo:exA.ord=[1,5,2]:=by kernel_rfl
theorem exLg:logM exM (6,1)=(exA,pLog,0):=by
 have a:=exL1; have b:=exL2
 unfold exA
 generalize logM exM (6,1)=x at a b ⊢
 obtain ⟨x,y,z⟩:=x
 have a:y=pLog:=a
 have b:z=0:=b
 subst a; subst b; rfl
theorem exP1:playM [2,5,1] (gLog.take 1)=([2,1,5],0):=by kernel_rfl
theorem exP2:playM [2,5,1] gLog=([1,5,2],0):=by kernel_rfl
theorem exMo:mostG gLog=((1,2),0):=by kernel_rfl
theorem gLog_fit:∀ x∈gLog,fitR x.1:=fun x hx=>by
 simp only [gLog,List.mem_cons,List.not_mem_nil,or_false] at hx
 rcases hx with rfl | rfl | rfl <;> exact ⟨by unfold inI; decide,by unfold inI; decide⟩
theorem law29log {H:Hp}:Go.Eng.Fn Tryz.prog F.pelotonlaw29_log #[] H fun v H'=>∃ s:Slc,v=s.v∧Hp.le H H'∧Rd 4 fG H' s gLog∧Rd 4 fM H' s pLog:=by
 refine pelotonlaw29_log_vc ⟨0,1,law29whole,2,1,law29whole,6,1,law29whole,fun b H8 hb hH=>?_⟩
 exact ⟨⟨some ⟨b,0,none⟩,3,3⟩,rfl,Hp.le_new (Hp.le_refl _) hb hH,rdConst (k:=4) (f:=fG) (fun _=>rfl) hH rfl rfl,rdConst (k:=4) (f:=fM) (fun _=>rfl) hH rfl rfl⟩
theorem law29example_of {H:Hp} {x0:Ls} (h0:buildL exF (-1,1)=(x0,0)):Go.Eng.Fn Tryz.prog F.pelotonlaw29_example #[] H fun v H'=>∃ u:Lu,v=lsV u x0∧Hp.le H H'∧RdL H' u x0:=by
 refine pelotonlaw29_example_vc fun b1 H2 hb1 hH2=>⟨_,_,law29whole,?_⟩
 have l2:Hp.le H H2:=Hp.le_new (Hp.le_refl _) hb1 hH2
 have rf:Rd 3 fD H2 ⟨some ⟨b1,0,none⟩,3,3⟩ exF:=rdConst (k:=3) (f:=fD) (fun _=>rfl) hH2 rfl rfl
 have q:=refBuildL rf fitm1
 rw [h0] at q
 exact q.mono fun v H4 ⟨u,hv,l4,r4⟩=>⟨l4,_,_,u.k.f,_,u.k.cl,u.k.u1,u.k.u2,u.k.u3,u.k.u4,u.k.u5,u.k.d,u.o,u.n,0,hv,u,rfl,Hp.le_trans l2 l4,r4⟩
set_option maxHeartbeats 1000000 in
theorem law29alive_of {H:Hp} {x y:Ls} (f0:fitL x) (ex:∀ {H:Hp},Go.Eng.Fn Tryz.prog F.pelotonlaw29_example #[] H fun v H'=>∃ u:Lu,v=lsV u x∧Hp.le H H'∧RdL H' u x)
  (lg:logM x (6,1)=(y,pLog,0)) (yo:y.ord=[1,5,2]) (p1:playM [2,5,1] (gLog.take 1)=([2,1,5],0)) (p2:playM [2,5,1] gLog=([1,5,2],0)) (mo:mostG gLog=((1,2),0)) :
  Qf Tryz.prog F.pelotonlaw29_alive #[] H (.bool true):=by
 have hK:Tryz.prog.cellsOf 74=4:=by kernel_rfl
 refine pelotonlaw29_alive_vc (ex.mono fun v H2 ⟨a,hv,l2,ra⟩=>⟨_,_,a.k.f,_,a.k.cl,a.k.u1,a.k.u2,a.k.u3,a.k.u4,a.k.u5,a.k.d,a.o,a.n,hv,?_⟩)
 have q1:=colLog ra f0 fit61
 rw [lg] at q1
 refine ⟨6,1,law29whole,q1.mono fun v H19 ⟨w,s,hv,l19,rw',rs⟩=>⟨_,_,w.k.f,_,w.k.cl,w.k.u1,w.k.u2,w.k.u3,w.k.u4,w.k.u5,w.k.d,w.o,w.n,s,0,hv,fun b35 H36 hb35 hH36=>?_⟩⟩
 have l36:Hp.le H19 H36:=Hp.le_new (Hp.le_refl _) hb35 hH36
 have c36:RdI H36 ⟨some ⟨b35,0,none⟩,3,3⟩ [2,5,1]:=rdConst (k:=1) (f:=fI) (fun _=>rfl) hH36 rfl rfl
 refine law29log.mono fun v H38 ⟨g1,hv,l38,rg,_⟩=>⟨g1,hv,?_⟩
 have gn:g1.n=3:=rg.len
 have gc:=rg.cap
 refine ⟨⟨by omega,by omega,by omega,by omega⟩,?_⟩
 rw [hK]
 have cut:Rd 4 fG H38 ⟨g1.a,1,g1.c⟩ (gLog.take 1):=Rd.cut rg (by decide) (by omega)
 have q2:=colPlay (c36.le l38) cut (fun x hx=>gLog_fit x (List.mem_of_mem_take hx))
 rw [p1] at q2
 have es:Value.slice (subA g1.a 4 0 (g1.c:Int)) (Int.toNat 1-Int.toNat 0) ((g1.c:Int).toNat-Int.toNat 0)=(⟨g1.a,1,g1.c⟩:Slc).v:=slcCut (m:=1)
 rw [es]
 refine q2.mono fun v H41 ⟨r1,hv,l41,m1⟩=>⟨r1,0,hv,fun b44 H45 hb44 hH45=>?_⟩
 have l45:Hp.le H41 H45:=Hp.le_new (Hp.le_refl _) hb44 hH45
 have c45:RdI H45 ⟨some ⟨b44,0,none⟩,3,3⟩ [2,5,1]:=rdConst (k:=1) (f:=fI) (fun _=>rfl) hH45 rfl rfl
 refine law29log.mono fun v H47 ⟨g2,hv,l47,rg2,_⟩=>⟨g2,hv,?_⟩
 have q3:=colPlay (c45.le l47) rg2 gLog_fit
 rw [p2] at q3
 refine q3.mono fun v H50 ⟨r2,hv,l50,m2⟩=>⟨r2,0,hv,law29log.mono fun v H54 ⟨g3,hv,l54,rg3,_⟩=>⟨g3,hv,?_⟩⟩
 have q4:=colMost rg3 gLog_fit
 unfold mostV at q4
 rw [mo] at q4
 refine ⟨1,2,0,q4,fun _=>law29log.mono fun v H60 ⟨g4,hv,l60,_,rp⟩=>⟨g4,hv,?_⟩,fun h=>by simp at h⟩
 have l4154:=Hp.le_trans l45 (Hp.le_trans l47 (Hp.le_trans l50 l54))
 have l1960:=Hp.le_trans l36 (Hp.le_trans l38 (Hp.le_trans l41 (Hp.le_trans l4154 l60)))
 have rs60:Rd 4 fM H60 s pLog:=rs.le l1960
 have s1:=sameM4 rs60 rp (by simp [pLog])
 have wo:=rw'.o
 have wo:RdI H19 w.o y.ord:=wo
 rw [yo] at wo
 refine ⟨true,fun _=>s1,fun _=>fun b63 H64 hb63 hH64=>?_,fun h=>by simp at h⟩
 have l64:Hp.le H60 H64:=Hp.le_new (Hp.le_refl _) hb63 hH64
 have c64:RdI H64 ⟨some ⟨b63,0,none⟩,3,3⟩ [1,5,2]:=rdConst (k:=1) (f:=fI) (fun _=>rfl) hH64 rfl rfl
 have s2:=sameIDs (wo.le (Hp.le_trans l1960 l64)) c64 (by decide)
 refine ⟨true,fun _=>s2,fun _=>fun b66 H67 hb66 hH67=>?_,fun h=>by simp at h⟩
 have l67:Hp.le H64 H67:=Hp.le_new (Hp.le_refl _) hb66 hH67
 have c67:RdI H67 ⟨some ⟨b66,0,none⟩,3,3⟩ [2,1,5]:=rdConst (k:=1) (f:=fI) (fun _=>rfl) hH67 rfl rfl
 have r67:RdI H67 r1 [2,1,5]:=m1.rdI.le (Hp.le_trans l4154 (Hp.le_trans l60 (Hp.le_trans l64 l67)))
 have s3:=sameIDs r67 c67 (by decide)
 refine ⟨true,fun _=>s3,fun _=>fun b69 H70 hb69 hH70=>?_,fun h=>by simp at h⟩
 have l70:Hp.le H67 H70:=Hp.le_new (Hp.le_refl _) hb69 hH70
 have c70:RdI H70 ⟨some ⟨b69,0,none⟩,3,3⟩ [1,5,2]:=rdConst (k:=1) (f:=fI) (fun _=>rfl) hH70 rfl rfl
 have r70:RdI H70 r2 [1,5,2]:=m2.rdI.le (Hp.le_trans l54 (Hp.le_trans l60 (Hp.le_trans l64 (Hp.le_trans l67 l70))))
 have s4:=sameIDs r70 c70 (by decide)
 exact ⟨true,fun _=>s4,by simp,Hp.le_trans l2 (Hp.le_trans l19 (Hp.le_trans l1960 (Hp.le_trans l64 (Hp.le_trans l67 l70))))⟩


def zer65:Array Value:=(List.replicate 65 (Value.int .i64 0)).toArray
theorem rd65 {H H':Hp} {b:Nat} (h:H'=H.put b (.cells zer65 3)):RdI H' ⟨some ⟨b,0,none⟩,65,65⟩ (List.replicate 65 0):=rdConst (k:=1) (f:=fI) (fun _=>rfl) h rfl rfl
set_option maxHeartbeats 1000000 in
theorem caseX {H:Hp} {x:Slc} {m:List Mg} {e:Int} {P Q:Hp→Prop} (r:Rd 4 fG H x m) (ft:∀ y∈m,fitR y.1) (he:chkG m=e) (e0:e≠0) (q:∀ H',Hp.le H H'→Q H') :
  Go.Eng.Fn Tryz.prog F.collide_Of #[x.v,.int .i64 1] H fun v186 H187=>∃ u188:Slc,∃ n189:Int,v186=Value.tuple #[u188.v,Value.int .i64 n189] ∧
   Go.Eng.Fn Tryz.prog F.collide_Times #[x.v] H187 fun v190 H191=>∃ u192 u193:Slc,∃ n194:Int,v190=Value.tuple #[u192.v,u193.v,Value.int .i64 n194] ∧
   ∃ n195 n196 n197:Int,Qf Tryz.prog F.collide_Most #[x.v] H191 (Value.tuple #[Value.int .i64 n195,Value.int .i64 n196,Value.int .i64 n197]) ∧
   okMk 65 65 8∧∀ (b198:Nat) (H199:Hp),H191 b198=none→H199=H191.put b198 (Obj.cells zer65 3) →
   Go.Eng.Fn Tryz.prog F.collide_Play #[Value.slice (some (Addr.mk b198 0 none)) (Int.toNat 65) (Int.toNat 65),x.v] H199 fun v200 H201=>∃ u202:Slc,∃ n203:Int,v200=Value.tuple #[u202.v,Value.int .i64 n203] ∧
   ∃ n204:Int,Qf Tryz.prog F.collide_Check #[x.v] H201 (Value.int .i64 n204) ∧
   ((n204 != e||n189 != e||n194 != e||n197 != e||n203 != e)=true→P H201) ∧
   ((n204 != e||n189 != e||n194 != e||n197 != e||n203 != e)=false→Q H201):=by
 have hc:chkG m≠0:=by rw [he]; exact e0
 refine (colOf r ft).mono fun v H1 ⟨s1,hv,l1,_⟩=>⟨s1,_,hv,(colTimes (r.le l1) ft).mono fun v H2 ⟨a,b,hv,T⟩=>⟨a,b,_,hv,?_⟩⟩
 have l2:=Hp.le_trans l1 T.le
 have qm:=colMost (r.le l2) ft
 unfold mostV at qm
 rw [mostG_bad hc] at qm
 refine ⟨_,_,_,qm,by unfold okMk; omega,fun b3 H3 hb3 hH3=>?_⟩
 have l3:Hp.le H2 H3:=Hp.le_new (Hp.le_refl _) hb3 hH3
 have L3:=Hp.le_trans l2 l3
 have qp:=colPlay (rd65 hH3) (r.le L3) ft
 rw [playM_bad hc] at qp
 refine qp.mono fun v H4 ⟨s4,hv,l4,_⟩=>⟨s4,_,hv,_,colCheck (r.le (Hp.le_trans L3 l4)) ft,fun h=>?_,fun _=>q _ (Hp.le_trans L3 l4)⟩
 rw [he] at h
 simp at h

def badG (i:Nat):List Mg:=if i=0 then [((0,0),1,2)] else if i=1 then [((0,1),-1,2)] else if i=2 then [((0,1),2,2)] else if i=3 then [((0,1),2,65536)] else [((2,1),1,2),((1,1),3,2)]
def ordX (i:Nat):List Mg:=if i=0 then [((2,1),1,2),((0,1),1,5)] else if i=1 then [((0,1),1,5),((0,1),1,5)] else if i=2 then [((0,1),1,5),((1,1),1,5)] else [((1,1),1,5),((1,1),1,3)]
theorem badG0:chkG (badG 0)=8:=by kernel_rfl
theorem badG1:chkG (badG 1)=8:=by kernel_rfl
theorem badG2:chkG (badG 2)=8:=by kernel_rfl
theorem badG3:chkG (badG 3)=8:=by kernel_rfl
theorem badG4:chkG (badG 4)=8:=by kernel_rfl
theorem ordX0:chkG (ordX 0)=32:=by kernel_rfl
theorem ordX1:chkG (ordX 1)=32:=by kernel_rfl
theorem ordX2:chkG (ordX 2)=32:=by kernel_rfl
theorem ordX3:chkG (ordX 3)=32:=by kernel_rfl
theorem badG_chk {i:Nat} (h:i<5):chkG (badG i)=8:=by
 have:i=0∨i=1∨i=2∨i=3∨i=4:=by omega
 rcases this with rfl | rfl | rfl | rfl | rfl
 ·exact badG0
 ·exact badG1
 ·exact badG2
 ·exact badG3
 ·exact badG4
theorem ordX_chk {i:Nat} (h:i<4):chkG (ordX i)=32:=by
 have:i=0∨i=1∨i=2∨i=3:=by omega
 rcases this with rfl | rfl | rfl | rfl
 ·exact ordX0
 ·exact ordX1
 ·exact ordX2
 ·exact ordX3
def allG:List Mg:=[((3,1),1,2),((3,1),1,9),((3,1),2,9)]
theorem cn_l0:logM .zero (0,0)=(.zero,[],8):=by kernel_rfl
theorem cn_p1:playM (List.replicate 65 0) gLog=([],4):=by kernel_rfl
theorem cn_p2:playM [1,2,1] gLog=([],8):=by kernel_rfl
theorem cn_p3:playM [-1] []=([],8):=by kernel_rfl
theorem cn_p4:playM [2,5,1] (gLog.drop 1)=([],36):=by kernel_rfl
theorem cn_p5:playM [2,5] gLog=([],36):=by kernel_rfl
theorem cn_p6:playM [] []=([],0):=by kernel_rfl
theorem cn_p7:playM [65536] []=([],8):=by kernel_rfl
theorem cn_p8:playM [9,1,2] allG=([2,1,9],0):=by kernel_rfl
theorem cn_t:chkG (gLog.take 2++allG)=32:=by kernel_rfl
theorem cn_m:mostG allG=((1,2),0):=by kernel_rfl
theorem cn_m0:(mostG []).2=6:=by kernel_rfl
theorem cn_e2:(logM exM (-2,1)).2.2=44:=by kernel_rfl
theorem cn_e0:(logM exM (0,0)).2.2=8:=by kernel_rfl
theorem cn_e1:(logM exM (-1,1)).2.2=0∧(logM exM (-1,1)).2.1=[]:=⟨by kernel_rfl,by kernel_rfl⟩
theorem cn_many:chkG (List.replicate 5001 zMg)=4:=chkG_many (by rw [List.length_replicate]; omega)

def fS (s:Slc):List Value:=[s.v]
theorem sl_at {H:Hp} {u:Slc} {l:List Slc} {i:Int} {x:Slc} (r:Rd 1 fS H u l) (h0:0≤i) (hx:l[i.toNat]?=some x):H.at (eaddr u.a 1 i)=some x.v:=r.at0 h0 hx rfl
theorem fitOfW {l:List Mg} (h:(l.all fun x=>decide (-9223372036854775808≤x.1.1)&&decide (x.1.1≤9223372036854775807)&&decide (-9223372036854775808≤x.1.2)&&decide (x.1.2≤9223372036854775807))=true):∀ x∈l,fitR x.1:=fun x hx=>by
 have:=List.all_eq_true.1 h x hx
 simp only [Bool.and_eq_true,decide_eq_true_eq] at this
 exact ⟨by unfold inI; omega,by unfold inI; omega⟩
theorem badG_fit {i:Nat} (h:i<5):∀ x∈badG i,fitR x.1:=by
 have:i=0∨i=1∨i=2∨i=3∨i=4:=by omega
 rcases this with rfl | rfl | rfl | rfl | rfl
 all_goals exact fitOfW (by decide)
theorem ordX_fit {i:Nat} (h:i<4):∀ x∈ordX i,fitR x.1:=by
 have:i=0∨i=1∨i=2∨i=3:=by omega
 rcases this with rfl | rfl | rfl | rfl
 all_goals exact fitOfW (by decide)
theorem rdZeros {H H':Hp} {b:Nat} (h:H'=H.put b (.cells (List.replicate (Int.toNat 5001) [Value.int .i64 0,Value.int .i64 0,Value.int .i64 0,Value.int .i64 0]).flatten.toArray 74)):Rd 4 fG H' ⟨some ⟨b,0,none⟩,5001,5001⟩ (List.replicate 5001 zMg) :=
 rdConst (k:=4) (f:=fG) (fun _=>rfl) h (by rw [List.flatMap_def,List.map_replicate]; rfl) (by rw [List.length_replicate])
theorem zMg_fit {n:Nat}:∀ x∈List.replicate n zMg,fitR x.1:=fun x hx=>by
 rw [List.eq_of_mem_replicate hx]; exact fit00g
theorem allG_fit:∀ x∈allG,fitR x.1:=fitOfW (by decide)
theorem gLog_fit1:∀ x∈gLog.drop 1,fitR x.1:=fun x hx=>gLog_fit x (List.mem_of_mem_drop hx)
theorem takeAll_fit:∀ x∈gLog.take 2++allG,fitR x.1:=fitOfW (by decide)
theorem append_over {α:Type} {k:Nat} {f:α→List Value} {P:Program} {t ty e bytes:Nat} {cs:Array Bool} (hS:sliceOk P t e k bytes=true) (hk0:0<k) (hk:∀ x,(f x).length=k)
  {H:Hp} {u q:Slc} {xs ys:List α} (hu:Rd k f H u xs) (hq:Rd k f H q ys) (hx:xs≠[]) (hy:ys≠[]) (hr:¬ u.n+ys.length≤u.c) (hb:(xs.length+ys.length) * bytes≤140737488355328) (h63:xs.length+ys.length≤9223372036854775807) :
  OpSem P (bcall .append #[t,t] ty cs [u.v,q.v]) H fun v H'=>∃ u':Slc,v=u'.v∧Hp.le H H'∧Mine k f e H H' u' (xs++ys):=by
 obtain ⟨i,z,h1,h2,h3,h4,h5,h6⟩:=sliceOk_out hS
 obtain ⟨qp,hqp⟩:∃ qp,q.a=some qp:=by
  have:=hq.isS hy
  cases hx:q.a with
  | none=>simp [hx] at this
  | some p=>exact ⟨p,rfl⟩
 have hqv:q.v=.slice (some qp) ys.length q.c:=by simp [Slc.v,hqp,hq.len]
 have hylen:=flatMap_len hk ys
 have hxlen:=flatMap_len hk xs
 have hun:=hu.len
 rw [hqv]
 refine (append_grow (P:=P) (ty:=ty) (cs:=cs) h1 h2 h3 h4 (u:=u) (olds:=xs.flatMap f) (news:=ys.flatMap f) (q:=qp) (m:=ys.length) (c:=q.c) (by rw [hxlen,h5,hun]) (fun p hp j v hj=>Rd.cells hk hk0 hu hp j v hj)
   (fun ha=>by have:=hu.isS hx; rw [ha] at this; simp at this) (by rw [hylen,h5]) (fun j v hj=>Rd.cells hk hk0 hq hqp j v hj) (by omega) (by rw [hun]; exact h63) (by rw [hun,h6]; exact hb)).mono fun v H' hg=>?_
 obtain ⟨b,cap,rest,g1,g2,g3,g4,g5⟩:=hg
 subst g5
 refine ⟨⟨some ⟨b,0,none⟩,u.n+ys.length,cap⟩,g3,Hp.put_le _ _ g1,.inr ⟨b,g1,⟨by simp [hun],g2,rfl,_,Hp.put_same _ _ _,?_,?_⟩⟩⟩
 ·have:(u.n+ys.length) * k≤cap * k:=Nat.mul_le_mul_right _ g2
  rw [Nat.add_mul] at this
  have hsub:(cap-(u.n+ys.length)) * k=cap * k-(u.n * k+ys.length * k):=by rw [Nat.sub_mul,Nat.add_mul]
  simp only [List.size_toArray,List.length_append,hxlen,hylen,g4,h5,hsub,← hun]
  omega
 ·have hlen:(xs++ys).length * k=(xs.flatMap f++ys.flatMap f).length:=by rw [List.length_append,List.length_append,hxlen,hylen,Nat.add_mul]
  rw [hlen,List.flatMap_append]
  exact List.take_left
set_option maxHeartbeats 4000000 in
theorem collideNames_of {H:Hp} {x:Ls} (fx:fitL x) (ex:∀ {H:Hp},Go.Eng.Fn Tryz.prog F.pelotonlaw29_example #[] H fun v H'=>∃ u:Lu,v=lsV u x∧Hp.le H H'∧RdL H' u x)
  {y:Ls} (ea:logM x (6,1)=(y,pLog,0)∧y.ord=[1,5,2]∧playM [2,5,1] (gLog.take 1)=([2,1,5],0)∧playM [2,5,1] gLog=([1,5,2],0)∧mostG gLog=((1,2),0))
  (e2:(logM x (-2,1)).2.2=44) (e0:(logM x (0,0)).2.2=8) (e1:(logM x (-1,1)).2.2=0) (e1':(logM x (-1,1)).2.1=[]) :
  Qf Tryz.prog F.pelotonlaw29_CollideNames #[] H (.bool true):=by
 have q:=colLog (H:=H) (l:=.zero) (u:=zlu) (to:=(0,0)) RdL.zero fitZl fit00g
 rw [cn_l0] at q
 refine pelotonlaw29_CollideNames_vc (q.mono fun v H2 ⟨a,s1,hv,l2,_,_⟩=>⟨_,_,a.k.f,_,a.k.cl,a.k.u1,a.k.u2,a.k.u3,a.k.u4,a.k.u5,a.k.d,a.o,a.n,s1,8,hv,?_⟩)
 refine ex.mono fun v H19 ⟨b,hv,l19,rb⟩=>⟨_,_,b.k.f,_,b.k.cl,b.k.u1,b.k.u2,b.k.u3,b.k.u4,b.k.u5,b.k.d,b.o,b.n,hv,-2,1,law29whole,?_⟩
 have q:=colLog rb fx (to:=(-2,1)) ⟨by show inI (-2); unfold inI; omega,by show inI 1; unfold inI; omega⟩
 refine q.mono fun v H36 ⟨c,s2,hv,l36,_,_⟩=>⟨_,_,c.k.f,_,c.k.cl,c.k.u1,c.k.u2,c.k.u3,c.k.u4,c.k.u5,c.k.d,c.o,c.n,s2,_,hv,?_⟩
 refine ex.mono fun v H53 ⟨d,hv,l53,rd⟩=>⟨_,_,d.k.f,_,d.k.cl,d.k.u1,d.k.u2,d.k.u3,d.k.u4,d.k.u5,d.k.d,d.o,d.n,hv,?_⟩
 have q:=colLog rd fx (to:=(0,0)) fit00g
 refine q.mono fun v H68 ⟨e,s3,hv,l68,_,_⟩=>⟨_,_,e.k.f,_,e.k.cl,e.k.u1,e.k.u2,e.k.u3,e.k.u4,e.k.u5,e.k.d,e.o,e.n,s3,_,hv,?_⟩
 refine ex.mono fun v H85 ⟨f,hv,l85,rf⟩=>⟨_,_,f.k.f,_,f.k.cl,f.k.u1,f.k.u2,f.k.u3,f.k.u4,f.k.u5,f.k.d,f.o,f.n,hv,-1,1,law29whole,?_⟩
 have q:=colLog rf fx (to:=(-1,1)) fitm1
 refine q.mono fun v H102 ⟨g,s4,hv,l102,_,r4⟩=>⟨_,_,g.k.f,_,g.k.cl,g.k.u1,g.k.u2,g.k.u3,g.k.u4,g.k.u5,g.k.d,g.o,g.n,s4,_,hv,?_⟩
 rw [e2,e0,e1]
 have n4:(s4.n:Int)=0:=by have:=r4.len; rw [e1'] at this; simp at this; omega
 refine law29log.mono fun v H119 ⟨gl,hv,l119,rg,_⟩=>⟨gl,hv,0,1,law29whole,0,1,law29whole,0,1,law29whole,?_⟩
 have gn:gl.n=3:=rg.len
 have g1:=RdG.get rg (i:=1) (by omega) (by decide)
 refine ⟨rg.inS (by omega) (by decide),2,1,1,2,g1,1,1,law29whole,fun b133 H134 hb133 hH134=>fun b135 H136 hb135 hH136=>fun b137 H138 hb137 hH138=>fun b139 H140 hb139 hH140=>fun b141 H142 hb141 hH142=>fun b143 H144 hb143 hH144=>?_⟩
 have lH134:Hp.le H119 H134:=Hp.le_new (Hp.le_refl _) hb133 hH134
 have lH136:Hp.le H134 H136:=Hp.le_new (Hp.le_refl _) hb135 hH136
 have lH138:Hp.le H136 H138:=Hp.le_new (Hp.le_refl _) hb137 hH138
 have lH140:Hp.le H138 H140:=Hp.le_new (Hp.le_refl _) hb139 hH140
 have lH142:Hp.le H140 H142:=Hp.le_new (Hp.le_refl _) hb141 hH142
 have lH144:Hp.le H142 H144:=Hp.le_new (Hp.le_refl _) hb143 hH144
 have L144:Hp.le H119 H144:=Hp.le_trans lH134 (Hp.le_trans lH136 (Hp.le_trans lH138 (Hp.le_trans lH140 (Hp.le_trans lH142 lH144))))
 have rg4:=rg.le L144
 have h0:=RdG.get rg4 (i:=0) (by omega) (by decide)
 have h1:=RdG.get rg4 (i:=1) (by omega) (by decide)
 have i0:=rg4.inS (i:=0) (by omega) (by decide)
 have i1:=rg4.inS (i:=1) (by omega) (by decide)
 refine ⟨i1,2,1,1,2,h1,i0,0,1,1,5,h0,i0,0,1,1,5,h0,i0,0,1,1,5,h0,i0,0,1,1,5,h0,1,1,law29whole,1,1,law29whole,1,1,law29whole,fun b171 H172 hb171 hH172=>fun b173 H174 hb173 hH174=>fun b175 H176 hb175 hH176=>fun b177 H178 hb177 hH178=>fun b179 H180 hb179 hH180=>?_⟩
 have lH172:Hp.le H144 H172:=Hp.le_new (Hp.le_refl _) hb171 hH172
 have lH174:Hp.le H172 H174:=Hp.le_new (Hp.le_refl _) hb173 hH174
 have lH176:Hp.le H174 H176:=Hp.le_new (Hp.le_refl _) hb175 hH176
 have lH178:Hp.le H176 H178:=Hp.le_new (Hp.le_refl _) hb177 hH178
 have lH180:Hp.le H178 H180:=Hp.le_new (Hp.le_refl _) hb179 hH180
 have t0:Rd 4 fG H134 ⟨some ⟨b133,0,none⟩,1,1⟩ (badG 0):=rdConst (k:=4) (f:=fG) (fun _=>rfl) hH134 rfl rfl
 have t1:Rd 4 fG H136 ⟨some ⟨b135,0,none⟩,1,1⟩ (badG 1):=rdConst (k:=4) (f:=fG) (fun _=>rfl) hH136 rfl rfl
 have t2:Rd 4 fG H138 ⟨some ⟨b137,0,none⟩,1,1⟩ (badG 2):=rdConst (k:=4) (f:=fG) (fun _=>rfl) hH138 rfl rfl
 have t3:Rd 4 fG H140 ⟨some ⟨b139,0,none⟩,1,1⟩ (badG 3):=rdConst (k:=4) (f:=fG) (fun _=>rfl) hH140 rfl rfl
 have t4:Rd 4 fG H142 ⟨some ⟨b141,0,none⟩,2,2⟩ (badG 4):=rdConst (k:=4) (f:=fG) (fun _=>rfl) hH142 rfl rfl
 have w0:Rd 4 fG H172 ⟨some ⟨b171,0,none⟩,2,2⟩ (ordX 0):=rdConst (k:=4) (f:=fG) (fun _=>rfl) hH172 rfl rfl
 have w1:Rd 4 fG H174 ⟨some ⟨b173,0,none⟩,2,2⟩ (ordX 1):=rdConst (k:=4) (f:=fG) (fun _=>rfl) hH174 rfl rfl
 have w2:Rd 4 fG H176 ⟨some ⟨b175,0,none⟩,2,2⟩ (ordX 2):=rdConst (k:=4) (f:=fG) (fun _=>rfl) hH176 rfl rfl
 have w3:Rd 4 fG H178 ⟨some ⟨b177,0,none⟩,2,2⟩ (ordX 3):=rdConst (k:=4) (f:=fG) (fun _=>rfl) hH178 rfl rfl
 have T1:Rd 1 fS H144 ⟨some ⟨b143,0,none⟩,5,5⟩ [⟨some ⟨b133,0,none⟩,1,1⟩,⟨some ⟨b135,0,none⟩,1,1⟩,⟨some ⟨b137,0,none⟩,1,1⟩,⟨some ⟨b139,0,none⟩,1,1⟩,⟨some ⟨b141,0,none⟩,2,2⟩]:=rdConst (k:=1) (f:=fS) (fun _=>rfl) hH144 rfl rfl
 have T2:Rd 1 fS H180 ⟨some ⟨b179,0,none⟩,4,4⟩ [⟨some ⟨b171,0,none⟩,2,2⟩,⟨some ⟨b173,0,none⟩,2,2⟩,⟨some ⟨b175,0,none⟩,2,2⟩,⟨some ⟨b177,0,none⟩,2,2⟩]:=rdConst (k:=1) (f:=fS) (fun _=>rfl) hH180 rfl rfl
 have L0:=Hp.le_trans lH172 (Hp.le_trans lH174 (Hp.le_trans lH176 (Hp.le_trans lH178 lH180)))
 refine ⟨fun n H'=>0≤n∧n≤9∧Hp.le H180 H',fun n _=>(9-n).toNat,⟨Int.le_refl _,by omega,Hp.le_refl _⟩,?_⟩
 rintro n H184 ⟨n0,n1,l184⟩
 have L4:=Hp.le_trans L0 l184
 refine ⟨by unfold inI; omega,fun h=>⟨fun h5=>?_,fun h5=>?_⟩,fun h=>?_⟩
 ·have h5:n<5:=of_decide_eq_true h5
  have tb:=T1.le L4
  have hx:∃ s:Slc,[(⟨some ⟨b133,0,none⟩,1,1⟩:Slc),⟨some ⟨b135,0,none⟩,1,1⟩,⟨some ⟨b137,0,none⟩,1,1⟩,⟨some ⟨b139,0,none⟩,1,1⟩,⟨some ⟨b141,0,none⟩,2,2⟩][n.toNat]?=some s∧Rd 4 fG H184 s (badG n.toNat):=by
   have:n=0∨n=1∨n=2∨n=3∨n=4:=by omega
   rcases this with rfl | rfl | rfl | rfl | rfl
   ·exact ⟨_,rfl,(((((t0.le lH136).le lH138).le lH140).le lH142).le lH144).le L4⟩
   ·exact ⟨_,rfl,((((t1.le lH138).le lH140).le lH142).le lH144).le L4⟩
   ·exact ⟨_,rfl,(((t2.le lH140).le lH142).le lH144).le L4⟩
   ·exact ⟨_,rfl,((t3.le lH142).le lH144).le L4⟩
   ·exact ⟨_,rfl,(t4.le lH144).le L4⟩
  obtain ⟨s,hs,rs⟩:=hx
  exact ⟨tb.inS n0 (by simp; omega),s,sl_at tb n0 hs,caseX rs (badG_fit (by omega)) (badG_chk (by omega)) (by decide) fun H' l'=>⟨by unfold inI; omega,⟨by omega,by omega,Hp.le_trans l184 l'⟩,by dsimp only; omega⟩⟩
 ·have h5:¬ n<5:=of_decide_eq_false h5
  have h9:n<5+4:=of_decide_eq_true h
  have tb:=T2.le l184
  have hx:∃ s:Slc,[(⟨some ⟨b171,0,none⟩,2,2⟩:Slc),⟨some ⟨b173,0,none⟩,2,2⟩,⟨some ⟨b175,0,none⟩,2,2⟩,⟨some ⟨b177,0,none⟩,2,2⟩][(n-5).toNat]?=some s∧Rd 4 fG H184 s (ordX (n-5).toNat):=by
   have:n=5∨n=6∨n=7∨n=8:=by omega
   rcases this with rfl | rfl | rfl | rfl
   ·exact ⟨_,rfl,((((w0.le lH174).le lH176).le lH178).le lH180).le l184⟩
   ·exact ⟨_,rfl,(((w1.le lH176).le lH178).le lH180).le l184⟩
   ·exact ⟨_,rfl,((w2.le lH178).le lH180).le l184⟩
   ·exact ⟨_,rfl,(w3.le lH180).le l184⟩
  obtain ⟨s,hs,rs⟩:=hx
  exact ⟨by unfold inI; omega,tb.inS (by omega) (by simp; omega),s,sl_at tb (by omega) hs,caseX rs (ordX_fit (by omega)) (ordX_chk (by omega)) (by decide) fun H' l'=>⟨by unfold inI; omega,⟨by omega,by omega,Hp.le_trans l184 l'⟩,by dsimp only; omega⟩⟩
 ·have L4:=Hp.le_trans L0 l184
  have rg5:Rd 4 fG H184 gl gLog:=rg4.le L4
  have hK:Tryz.prog.cellsOf 74=4:=by kernel_rfl
  refine ⟨by unfold okMk; omega,fun b225 H226 hb hH=>?_⟩
  have l226:Hp.le H184 H226:=Hp.le_new (Hp.le_refl _) hb hH
  have c1:=colCheck (rdZeros hH) zMg_fit
  rw [cn_many] at c1
  have c2:=colMost (H:=H226) (u:=⟨none,0,0⟩) (m:=[]) Rd.nil (by simp)
  unfold mostV at c2
  rw [cn_m0] at c2
  refine ⟨4,c1,_,_,6,c2,by unfold okMk; omega,fun b231 H232 hb hH=>?_⟩
  have l232:Hp.le H184 H232:=Hp.le_new l226 hb hH
  have p1:=colPlay (rd65 hH) (rg5.le l232) gLog_fit
  rw [cn_p1] at p1
  refine p1.mono fun v H234 ⟨a1,hv,l234,_⟩=>⟨a1,4,hv,fun b237 H238 hb hH=>?_⟩
  have l238:Hp.le H184 H238:=Hp.le_new (Hp.le_trans l232 l234) hb hH
  have r238:RdI H238 ⟨some ⟨b237,0,none⟩,3,3⟩ [1,2,1]:=rdConst (k:=1) (f:=fI) (fun _=>rfl) hH rfl rfl
  have p2:=colPlay r238 (rg5.le l238) gLog_fit
  rw [cn_p2] at p2
  refine p2.mono fun v H240 ⟨a2,hv,l240,_⟩=>⟨a2,8,hv,fun b243 H244 hb hH=>?_⟩
  have l244:Hp.le H184 H244:=Hp.le_new (Hp.le_trans l238 l240) hb hH
  have r244:RdI H244 ⟨some ⟨b243,0,none⟩,1,1⟩ [-1]:=rdConst (k:=1) (f:=fI) (fun _=>rfl) hH rfl rfl
  have p3:=colPlay r244 (u:=⟨none,0,0⟩) (m:=[]) Rd.nil (by simp)
  rw [cn_p3] at p3
  refine p3.mono fun v H246 ⟨a3,hv,l246,_⟩=>⟨a3,8,hv,fun b249 H250 hb hH=>?_⟩
  have l250:Hp.le H184 H250:=Hp.le_new (Hp.le_trans l244 l246) hb hH
  have r250:RdI H250 ⟨some ⟨b249,0,none⟩,3,3⟩ [2,5,1]:=rdConst (k:=1) (f:=fI) (fun _=>rfl) hH rfl rfl
  have gc:=rg.cap
  have sb:=Rd.sub (f:=fG) (k:=4) (rg5.le l250) (l:=1) (hi:=(gl.n:Int)) (m:=(gl.c:Int)) (by omega) (by omega) (by rw [gn]; decide) (by omega)
  rw [show (gl.n:Int).toNat=3 by omega,show gLog.take 3=gLog by decide] at sb
  have sb:Rd 4 fG H250 ⟨subA gl.a 4 1 (gl.c:Int),3-Int.toNat 1,(gl.c:Int).toNat-Int.toNat 1⟩ (gLog.drop 1):=sb
  have p4:=colPlay r250 sb gLog_fit1
  rw [cn_p4] at p4
  refine ⟨⟨by omega,by omega,by omega,by omega⟩,?_⟩
  rw [hK,show (gl.n:Int).toNat=3 by omega]
  refine p4.mono fun v H252 ⟨a4,hv,l252,_⟩=>⟨a4,36,hv,fun b255 H256 hb hH=>?_⟩
  have l256:Hp.le H184 H256:=Hp.le_new (Hp.le_trans l250 l252) hb hH
  have r256:RdI H256 ⟨some ⟨b255,0,none⟩,2,2⟩ [2,5]:=rdConst (k:=1) (f:=fI) (fun _=>rfl) hH rfl rfl
  have p5:=colPlay r256 (rg5.le l256) gLog_fit
  rw [cn_p5] at p5
  refine p5.mono fun v H258 ⟨a5,hv,l258,_⟩=>⟨a5,36,hv,?_⟩
  have p6:=colPlay (H:=H258) (w:=⟨none,0,0⟩) (o:=[]) (u:=⟨none,0,0⟩) (m:=[]) Rd.nil Rd.nil (by simp)
  rw [cn_p6] at p6
  refine p6.mono fun v H262 ⟨a6,hv,l262,m6⟩=>⟨a6,0,hv,fun b265 H266 hb hH=>?_⟩
  have n6:(a6.n:Int)=0:=by have:=m6.rdI.len; simp at this; omega
  have l266:Hp.le H184 H266:=Hp.le_new (Hp.le_trans l256 (Hp.le_trans l258 l262)) hb hH
  have r266:RdI H266 ⟨some ⟨b265,0,none⟩,1,1⟩ [65536]:=rdConst (k:=1) (f:=fI) (fun _=>rfl) hH rfl rfl
  have p7:=colPlay r266 (u:=⟨none,0,0⟩) (m:=[]) Rd.nil (by simp)
  rw [cn_p7] at p7
  refine p7.mono fun v H268 ⟨a7,hv,l268,_⟩=>⟨a7,8,hv,3,1,law29whole,3,1,law29whole,3,1,law29whole,fun b277 H278 hb hH=>?_⟩
  have l278:Hp.le H184 H278:=Hp.le_new (Hp.le_trans l266 l268) hb hH
  have rA:Rd 4 fG H278 ⟨some ⟨b277,0,none⟩,3,3⟩ allG:=rdConst (k:=4) (f:=fG) (fun _=>rfl) hH rfl rfl
  refine fun b279 H280 hb hH=>?_
  have l280:Hp.le H278 H280:=Hp.le_new (Hp.le_refl _) hb hH
  have r280:RdI H280 ⟨some ⟨b279,0,none⟩,3,3⟩ [9,1,2]:=rdConst (k:=1) (f:=fI) (fun _=>rfl) hH rfl rfl
  have p8:=colPlay r280 (rA.le l280) allG_fit
  rw [cn_p8] at p8
  refine p8.mono fun v H282 ⟨a8,hv,l282,m8⟩=>⟨a8,0,hv,law29log.mono fun v H286 ⟨g2,hv,l286,rg2,_⟩=>⟨g2,hv,?_⟩⟩
  have g2n:g2.n=3:=rg2.len
  have g2c:=rg2.cap
  have rA6:=rA.le (Hp.le_trans l280 (Hp.le_trans l282 l286))
  have cut:Rd 4 fG H286 ⟨g2.a,2,2⟩ (gLog.take 2):=Rd.cut rg2 (by decide) (by omega)
  refine ⟨⟨by omega,by omega,by omega,by omega⟩,?_⟩
  rw [subA_zero]
  have ap:=append_over (k:=4) (f:=fG) (bytes:=32) (t:=62) (ty:=62) (e:=T.api_Meeting) (cs:=#[false,false]) (P:=Tryz.prog) (by kernel_rfl) (by decide) (fun _=>rfl) cut rA6 (by decide) (by decide) (show ¬ 2+allG.length≤2 by decide) (by decide) (by decide)
  refine ap.mono fun v H289 ⟨s5,hv,l289,m5⟩=>⟨s5,hv,?_⟩
  have t1:=colTimes m5.rdG takeAll_fit
  rw [timesM_bad (by rw [cn_t]; decide),cn_t] at t1
  refine t1.mono fun v H292 ⟨ta,tb,hv,T⟩=>⟨ta,tb,32,hv,?_⟩
  have nb:(tb.n:Int)=0:=by have:=T.mb.rdI.len; simp at this; omega
  have q9:=colMost (rA6.le (Hp.le_trans l289 T.le)) allG_fit
  unfold mostV at q9
  rw [cn_m] at q9
  refine ⟨1,2,0,q9,true,fun _=>law29alive_of fx ex ea.1 ea.2.1 ea.2.2.1 ea.2.2.2.1 ea.2.2.2.2,fun _=>fun b300 H301 hb hH=>?_,fun h=>?_⟩
  ·have l301:Hp.le H282 H301:=Hp.le_new (Hp.le_trans l286 (Hp.le_trans l289 T.le)) hb hH
   have r301:RdI H301 ⟨some ⟨b300,0,none⟩,3,3⟩ [2,1,9]:=rdConst (k:=1) (f:=fI) (fun _=>rfl) hH rfl rfl
   have e8:=sameIDs (m8.rdI.le l301) r301 (by decide)
   refine ⟨true,fun _=>e8,?_,?_⟩
   ·rw [n4,n6,nb]; rfl
   ·exact Hp.le_trans l2 (Hp.le_trans l19 (Hp.le_trans l36 (Hp.le_trans l53 (Hp.le_trans l68 (Hp.le_trans l85 (Hp.le_trans l102 (Hp.le_trans l119 (Hp.le_trans L144 (Hp.le_trans L4 (Hp.le_trans l278 (Hp.le_trans l280 (Hp.le_trans l282 l301))))))))))))
  ·rw [n4,n6] at h; simp at h
theorem exMea:logM exM (6,1)=(exA,pLog,0)∧exA.ord=[1,5,2]∧playM [2,5,1] (gLog.take 1)=([2,1,5],0)∧playM [2,5,1] gLog=([1,5,2],0)∧mostG gLog=((1,2),0):=⟨exLg,exAo,exP1,exP2,exMo⟩
theorem collideNames {H:Hp}:Qf Tryz.prog F.pelotonlaw29_CollideNames #[] H (.bool true) :=
 collideNames_of exMok.fit (law29example_of exMB) exMea cn_e2 cn_e0 cn_e1.1 cn_e1.2
end Go.Proofs.YtlbdpklikfddlaaGreat
end
