/- The engine, parts Y6, Y7, Y8, put together. Conditions: none. -/
import Derived.Test.YtlbdpklikfddlaaGreatPYB
import Derived.Test.YtlbdpklikfddlaaGreatPS1
import Derived.Test.YtlbdpklikfddlaaGreatPN2
import Derived.Test.YtlbdpklikfddlaaGreatVgCollide
import Derived.Test.YtlbdpklikfddlaaGreatVgR04
import Derived.Test.YtlbdpklikfddlaaGreatFs
import Derived.Test.YtlbdpklikfddlaaGreatPM4
import Derived.Test.YtlbdpklikfddlaaGreatPWA
import Derived.Test.YtlbdpklikfddlaaGreatVgH29
import Derived.Test.YtlbdpklikfddlaaGreatVgLCollideCounts
set_option linter.unusedVariables false
section
/- The program's and the reference's Log. Conditions: none. -/
set_option maxRecDepth 100000
open Go Go.Eng Go.Proofs
namespace Go.Proofs.YtlbdpklikfddlaaGreat

theorem sameM4 {H:Hp} {a b:Slc} {xs:List Pr} (ha:Rd 4 fM H a xs) (hb:Rd 4 fM H b xs) (h63:xs.length≤1000000000):Qf Tryz.prog F.pelotonref04_Same #[a.v,b.v] H (.bool true):=by
 have la:=ha.len; have lb:=hb.len
 have an:(a.n:Int)=xs.length:=by omega
 refine pelotonref04_Same_vc ⟨fun hc=>?_,fun hc=>?_⟩
 ·have hc:=bne_iff_ne.1 hc; omega
 rw [an]
 refine upto (N:=(xs.length:Int)) (J:=fun _=>True) (by omega) trivial fun n h0 h1 _=>⟨fun hn=>?_,fun hn=>⟨rfl,Hp.le_refl _⟩⟩
 have hn:n<xs.length:=of_decide_eq_true hn
 have ga:=RdM.get ha h0 hn
 have gb:=RdM.get hb h0 hn
 refine ⟨ha.inS h0 hn,_,_,_,_,ga,hb.inS h0 hn,_,_,_,_,gb,fun hc=>?_,fun hc=>upto.nx h0 hn (by omega) trivial⟩
 simp at hc
def logM (l:Ls) (to:Int × Int):Ls × List Pr × Int:=if (advM l to).2.2=0 then ((advM l to).1,betweenM l.ck.f l.ck.now to,0) else (.zero,[],(advM l to).2.2)
theorem advM_zero {l:Ls} {to:Int × Int} (h:(advM l to).2.2=0):okLs l∧untilK l.ck to=0:=by
 by_cases ok:okLs l
 ·refine ⟨ok,?_⟩
  by_cases hu:untilK l.ck to=0
  ·exact hu
  ·rw [advM_until ok hu] at h; exact absurd h hu
 ·rw [advM_bad ok] at h; exact absurd (show (8:Int)=0 from h) (by decide)
theorem colLog {H:Hp} {u:Lu} {l:Ls} {to:Int × Int} (r:RdL H u l) (fl:fitL l) (ht:fitR to) :
  Go.Eng.Fn Tryz.prog F.collide_Log #[lsV u l,raW to] H fun v H'=>∃ (w:Lu) (s:Slc),v=.tuple #[lsV w (logM l to).1,s.v,.int .i64 (logM l to).2.2]∧Hp.le H H'∧RdL H' w (logM l to).1∧Rd 4 fM H' s (logM l to).2.1:=by
 refine collide_Log_vc ((klistAdvance r fl ht).mono fun v H2 ⟨x,hv,l2,r2⟩=>⟨_,_,x.k.f,_,x.k.cl,x.k.u1,x.k.u2,x.k.u3,x.k.u4,x.k.u5,x.k.d,x.o,x.n,_,_,hv,fun h=>?_,fun h=>?_⟩)
 ·have h:=bne_iff_ne.1 h
  have e:logM l to=(.zero,[],(advM l to).2.2):=if_neg h
  rw [e]
  exact ⟨zlu,⟨none,0,0⟩,rfl,l2,RdL.zero,Rd.nil⟩
 ·have h:=bne_eq_false_iff_eq.1 h
  obtain ⟨ok,hu⟩:=advM_zero h
  obtain ⟨_,ot,hle⟩:=untilK_zero.1 hu
  have e:logM l to=((advM l to).1,betweenM l.ck.f l.ck.now to,0):=if_pos h
  rw [e]
  exact (meetAll (r.k.f.le l2) ok.ck.f ok.ck.now ot hle).mono fun v H19 ⟨s,hv,l19,r19⟩=>⟨s,0,hv,x,s,rfl,Hp.le_trans l2 l19,r2.le l19,r19⟩

theorem law29whole {H:Hp} {n:Int}:Qf Tryz.prog F.pelotonlaw29_whole #[.int .i64 n] H (sI2 n 1):=pelotonlaw29_whole_vc ⟨rfl,Hp.le_refl _⟩
theorem fitm1:fitR (-1,1):=⟨by show inI (-1); unfold inI; omega,by show inI 1; unfold inI; omega⟩
theorem fit61:fitR (6,1):=⟨by show inI 6; unfold inI; omega,by show inI 1; unfold inI; omega⟩
def exM:Ls:=(buildL exF (-1,1)).1
theorem exMok:okLs exM:=chkLs_zero.1 (by kernel_rfl)
theorem exMB:buildL exF (-1,1)=(exM,0):=Prod.ext (by unfold exM; rfl) (by kernel_rfl)
def gLog:List Mg:=[((0,1),1,5),((2,1),1,2),((6,1),2,5)]
def pLog:List Pr:=[(1,5,(0,1)),(1,2,(2,1)),(2,5,(6,1))]
def exA:Ls:=(logM exM (6,1)).1
theorem exL1:(logM exM (6,1)).2.1=pLog:=by kernel_rfl
theorem exL2:(logM exM (6,1)).2.2=0:=by kernel_rfl
theorem exAo:exA.ord=[1,5,2]:=by kernel_rfl
theorem exLg:logM exM (6,1)=(exA,pLog,0):=by
 have a:=exL1; have b:=exL2
 unfold exA
 generalize logM exM (6,1)=x at a b ⊢
 obtain ⟨x,y,z⟩:=x
 have a:y=pLog:=a
 have b:z=0:=b
 subst a; subst b; rfl
theorem exP1:playM [2,5,1] (gLog.take 1)=([2,1,5],0):=by kernel_rfl
theorem exP2:playM [2,5,1] gLog=([1,5,2],0):=by kernel_rfl
theorem exMo:mostG gLog=((1,2),0):=by kernel_rfl
theorem gLog_fit:∀ x∈gLog,fitR x.1:=fun x hx=>by
 simp only [gLog,List.mem_cons,List.not_mem_nil,or_false] at hx
 rcases hx with rfl | rfl | rfl <;> exact ⟨by unfold inI; decide,by unfold inI; decide⟩
theorem law29log {H:Hp}:Go.Eng.Fn Tryz.prog F.pelotonlaw29_log #[] H fun v H'=>∃ s:Slc,v=s.v∧Hp.le H H'∧Rd 4 fG H' s gLog∧Rd 4 fM H' s pLog:=by
 refine pelotonlaw29_log_vc ⟨0,1,law29whole,2,1,law29whole,6,1,law29whole,fun b H8 hb hH=>?_⟩
 exact ⟨⟨some ⟨b,0,none⟩,3,3⟩,rfl,Hp.le_new (Hp.le_refl _) hb hH,rdConst (k:=4) (f:=fG) (fun _=>rfl) hH rfl rfl,rdConst (k:=4) (f:=fM) (fun _=>rfl) hH rfl rfl⟩
theorem law29example_of {H:Hp} {x0:Ls} (h0:buildL exF (-1,1)=(x0,0)):Go.Eng.Fn Tryz.prog F.pelotonlaw29_example #[] H fun v H'=>∃ u:Lu,v=lsV u x0∧Hp.le H H'∧RdL H' u x0:=by
 refine pelotonlaw29_example_vc fun b1 H2 hb1 hH2=>⟨_,_,law29whole,?_⟩
 have l2:Hp.le H H2:=Hp.le_new (Hp.le_refl _) hb1 hH2
 have rf:Rd 3 fD H2 ⟨some ⟨b1,0,none⟩,3,3⟩ exF:=rdConst (k:=3) (f:=fD) (fun _=>rfl) hH2 rfl rfl
 have q:=refBuildL rf fitm1
 rw [h0] at q
 exact q.mono fun v H4 ⟨u,hv,l4,r4⟩=>⟨l4,_,_,u.k.f,_,u.k.cl,u.k.u1,u.k.u2,u.k.u3,u.k.u4,u.k.u5,u.k.d,u.o,u.n,0,hv,u,rfl,Hp.le_trans l2 l4,r4⟩
set_option maxHeartbeats 1000000 in
theorem law29alive_of {H:Hp} {x y:Ls} (f0:fitL x) (ex:∀ {H:Hp},Go.Eng.Fn Tryz.prog F.pelotonlaw29_example #[] H fun v H'=>∃ u:Lu,v=lsV u x∧Hp.le H H'∧RdL H' u x)
  (lg:logM x (6,1)=(y,pLog,0)) (yo:y.ord=[1,5,2]) (p1:playM [2,5,1] (gLog.take 1)=([2,1,5],0)) (p2:playM [2,5,1] gLog=([1,5,2],0)) (mo:mostG gLog=((1,2),0)) :
  Qf Tryz.prog F.pelotonlaw29_alive #[] H (.bool true):=by
 have hK:Tryz.prog.cellsOf 74=4:=by kernel_rfl
 refine pelotonlaw29_alive_vc (ex.mono fun v H2 ⟨a,hv,l2,ra⟩=>⟨_,_,a.k.f,_,a.k.cl,a.k.u1,a.k.u2,a.k.u3,a.k.u4,a.k.u5,a.k.d,a.o,a.n,hv,?_⟩)
 have q1:=colLog ra f0 fit61
 rw [lg] at q1
 refine ⟨6,1,law29whole,q1.mono fun v H19 ⟨w,s,hv,l19,rw',rs⟩=>⟨_,_,w.k.f,_,w.k.cl,w.k.u1,w.k.u2,w.k.u3,w.k.u4,w.k.u5,w.k.d,w.o,w.n,s,0,hv,fun b35 H36 hb35 hH36=>?_⟩⟩
 have l36:Hp.le H19 H36:=Hp.le_new (Hp.le_refl _) hb35 hH36
 have c36:RdI H36 ⟨some ⟨b35,0,none⟩,3,3⟩ [2,5,1]:=rdConst (k:=1) (f:=fI) (fun _=>rfl) hH36 rfl rfl
 refine law29log.mono fun v H38 ⟨g1,hv,l38,rg,_⟩=>⟨g1,hv,?_⟩
 have gn:g1.n=3:=rg.len
 have gc:=rg.cap
 refine ⟨⟨by omega,by omega,by omega,by omega⟩,?_⟩
 rw [hK]
 have cut:Rd 4 fG H38 ⟨g1.a,1,g1.c⟩ (gLog.take 1):=Rd.cut rg (by decide) (by omega)
 have q2:=colPlay (c36.le l38) cut (fun x hx=>gLog_fit x (List.mem_of_mem_take hx))
 rw [p1] at q2
 have es:Value.slice (subA g1.a 4 0 (g1.c:Int)) (Int.toNat 1-Int.toNat 0) ((g1.c:Int).toNat-Int.toNat 0)=(⟨g1.a,1,g1.c⟩:Slc).v:=slcCut (m:=1)
 rw [es]
 refine q2.mono fun v H41 ⟨r1,hv,l41,m1⟩=>⟨r1,0,hv,fun b44 H45 hb44 hH45=>?_⟩
 have l45:Hp.le H41 H45:=Hp.le_new (Hp.le_refl _) hb44 hH45
 have c45:RdI H45 ⟨some ⟨b44,0,none⟩,3,3⟩ [2,5,1]:=rdConst (k:=1) (f:=fI) (fun _=>rfl) hH45 rfl rfl
 refine law29log.mono fun v H47 ⟨g2,hv,l47,rg2,_⟩=>⟨g2,hv,?_⟩
 have q3:=colPlay (c45.le l47) rg2 gLog_fit
 rw [p2] at q3
 refine q3.mono fun v H50 ⟨r2,hv,l50,m2⟩=>⟨r2,0,hv,law29log.mono fun v H54 ⟨g3,hv,l54,rg3,_⟩=>⟨g3,hv,?_⟩⟩
 have q4:=colMost rg3 gLog_fit
 unfold mostV at q4
 rw [mo] at q4
 refine ⟨1,2,0,q4,fun _=>law29log.mono fun v H60 ⟨g4,hv,l60,_,rp⟩=>⟨g4,hv,?_⟩,fun h=>by simp at h⟩
 have l4154:=Hp.le_trans l45 (Hp.le_trans l47 (Hp.le_trans l50 l54))
 have l1960:=Hp.le_trans l36 (Hp.le_trans l38 (Hp.le_trans l41 (Hp.le_trans l4154 l60)))
 have rs60:Rd 4 fM H60 s pLog:=rs.le l1960
 have s1:=sameM4 rs60 rp (by simp [pLog])
 have wo:=rw'.o
 have wo:RdI H19 w.o y.ord:=wo
 rw [yo] at wo
 refine ⟨true,fun _=>s1,fun _=>fun b63 H64 hb63 hH64=>?_,fun h=>by simp at h⟩
 have l64:Hp.le H60 H64:=Hp.le_new (Hp.le_refl _) hb63 hH64
 have c64:RdI H64 ⟨some ⟨b63,0,none⟩,3,3⟩ [1,5,2]:=rdConst (k:=1) (f:=fI) (fun _=>rfl) hH64 rfl rfl
 have s2:=sameIDs (wo.le (Hp.le_trans l1960 l64)) c64 (by decide)
 refine ⟨true,fun _=>s2,fun _=>fun b66 H67 hb66 hH67=>?_,fun h=>by simp at h⟩
 have l67:Hp.le H64 H67:=Hp.le_new (Hp.le_refl _) hb66 hH67
 have c67:RdI H67 ⟨some ⟨b66,0,none⟩,3,3⟩ [2,1,5]:=rdConst (k:=1) (f:=fI) (fun _=>rfl) hH67 rfl rfl
 have r67:RdI H67 r1 [2,1,5]:=m1.rdI.le (Hp.le_trans l4154 (Hp.le_trans l60 (Hp.le_trans l64 l67)))
 have s3:=sameIDs r67 c67 (by decide)
 refine ⟨true,fun _=>s3,fun _=>fun b69 H70 hb69 hH70=>?_,fun h=>by simp at h⟩
 have l70:Hp.le H67 H70:=Hp.le_new (Hp.le_refl _) hb69 hH70
 have c70:RdI H70 ⟨some ⟨b69,0,none⟩,3,3⟩ [1,5,2]:=rdConst (k:=1) (f:=fI) (fun _=>rfl) hH70 rfl rfl
 have r70:RdI H70 r2 [1,5,2]:=m2.rdI.le (Hp.le_trans l54 (Hp.le_trans l60 (Hp.le_trans l64 (Hp.le_trans l67 l70))))
 have s4:=sameIDs r70 c70 (by decide)
 exact ⟨true,fun _=>s4,by simp,Hp.le_trans l2 (Hp.le_trans l19 (Hp.le_trans l1960 (Hp.le_trans l64 (Hp.le_trans l67 l70))))⟩
theorem law29alive {H:Hp}:Qf Tryz.prog F.pelotonlaw29_alive #[] H (.bool true) :=
 law29alive_of exMok.fit (law29example_of exMB) exLg exAo exP1 exP2 exMo

theorem mem_getQ {l:List (Int × Int)} {k:Nat} (h:k<l.length):l.getD k (0,0)∈l:=by
 rw [List.getD_eq_getElem?_getD,List.getElem?_eq_getElem h]; exact List.getElem_mem h
theorem mem_getZ {l:List Int} {k:Nat} (h:k<l.length):l.getD k 0∈l:=by
 rw [List.getD_eq_getElem?_getD,List.getElem?_eq_getElem h]; exact List.getElem_mem h
theorem sum_le {l:List Int} (h:∀ x∈l,0≤x):0≤l.sum:=by
 induction l with
 | nil=>simp
 | cons a l ih =>
  rw [List.sum_cons]
  have:=h a List.mem_cons_self
  have:=ih fun x hx=>h x (List.mem_cons_of_mem _ hx)
  omega
theorem take_sum {l:List Int} {k:Nat} (h:k<l.length):(l.take (k+1)).sum=(l.take k).sum+l.getD k 0:=by
 rw [List.take_add_one,List.sum_append,List.getD_eq_getElem?_getD,List.getElem?_eq_getElem h]
 simp
theorem take_sum_le {l:List Int} (h:∀ x∈l,0≤x) (k:Nat):0≤(l.take k).sum∧(l.take k).sum≤l.sum:=by
 have e:l.sum=(l.take k).sum+(l.drop k).sum:=by rw [← List.sum_append,List.take_append_drop]
 have a:=sum_le fun x (hx:x∈l.take k)=>h x (List.mem_of_mem_take hx)
 have b:=sum_le fun x (hx:x∈l.drop k)=>h x (List.mem_of_mem_drop hx)
 omega

set_option maxHeartbeats 2000000 in
theorem collideCounts {H:Hp} {u:Slc} {m:List Mg} (r:Rd 4 fG H u m) (ft:∀ x∈m,fitR x.1) :
  Qf Tryz.prog F.pelotonlaw29_CollideCounts #[u.v] H (.bool true):=by
 have un:(u.n:Int)=m.length:=by have:=r.len; omega
 refine pelotonlaw29_CollideCounts_vc ⟨true,law29alive,_,pelotonref29_Great_vc ⟨rfl,Hp.le_refl _⟩,chkG m,fun _=>refCheckG r ft,fun _=>⟨rfl,Hp.le_refl _⟩,fun hc=>?_⟩
 simp only [Bool.or_eq_false_iff,bne_eq_false_iff_eq] at hc
 obtain ⟨⟨_,c2⟩,_⟩:=hc
 have ok:=chkG_zero.1 c2
 have few:=ok.few
 have et:timesM m=timesN m m.length:=timesM_ok c2
 obtain ⟨tl1,tl2,tl3⟩:=timesN_len m m.length
 have tsum:=timesN_sum m m.length
 have tpos:=timesN_pos m m.length
 obtain ⟨tg1,tg2⟩:=timesN_grow ok m.length (Nat.le_refl _)
 refine (colTimes r ft).mono fun v H5 ⟨a,b,hv,T⟩=>⟨a,b,_,hv,?_⟩
 have ra:=T.ma.rdQ
 have rb:=T.mb.rdI
 rw [et] at ra rb
 generalize timesN m m.length=tn at *
 have an:=ra.len; have bn:=rb.len
 have r5:=r.le T.le
 refine ⟨_,_,_,colMost r5 ft,fun h=>?_,fun _=>?_⟩
 ·exfalso
  have e1:(chkG m != 0)=false:=by rw [c2]; rfl
  have e2:((a.n:Int) != (b.n:Int))=false:=bne_eq_false_iff_eq.2 (by omega)
  have e3:(((mostG m).2==0)==decide ((u.n:Int)>0))=true:=by
   by_cases h0:m.length=0
   ·rw [mostG_none c2 h0,un,h0]; rfl
   ·rw [mostG_some c2 h0,un,decide_eq_true (by omega)]; rfl
  rw [e1,e2,e3] at h; cases h
 refine ⟨fun s i H'=>H'=H5∧0≤i∧i≤tn.2.length∧s=(tn.2.take i.toNat).sum,fun _ i _=>((tn.2.length:Int)-i).toNat,⟨rfl,Int.le_refl _,by omega,by simp⟩,?_⟩
 rintro s i H16 ⟨rfl,i0,i1,hs⟩
 have pos0:∀ x∈tn.2,0≤x:=fun x hx=>by have:=(tpos x hx).1; omega
 refine ⟨fun h=>?_,fun h=>?_⟩
 ·have hi:i<tn.2.length:=by have:=of_decide_eq_true h; omega
  have hin:i.toNat<tn.2.length:=by omega
  have gb:=RdI.get rb i0 hi
  have p1:=tpos _ (mem_getZ hin)
  have ga:=RdQ.get ra i0 (by omega)
  have oa:=tg1 _ (mem_getQ (k:=i.toNat) (l:=tn.1) (by omega))
  have ts:=take_sum hin
  obtain ⟨b1,b2⟩:=take_sum_le pos0 i.toNat
  obtain ⟨b3,b4⟩:=take_sum_le pos0 (i.toNat+1)
  have chk:=refRCheck (H:=H16) oa.fit
  rw [chkR_ok oa] at chk
  have e1:(i-1).toNat=i.toNat-1:=by omega
  refine ⟨rb.inS i0 hi,_,gb,fun _=>ra.inS i0 (by omega),_,_,fun _=>ga,0,fun _=>chk,fun _=>by unfold inI; omega,fun h=>?_,(tn.1.getD (i.toNat-1) (0,0)).1,(tn.1.getD (i.toNat-1) (0,0)).2,fun h=>?_,fun _=>ra.inS i0 (by omega),_,_,fun _=>ga,cmpR (tn.1.getD (i.toNat-1) (0,0)) (tn.1.getD i.toNat (0,0)),fun h=>?_,fun h=>?_,fun _=>?_⟩
  ·simp only [Bool.and_eq_true,decide_eq_true_eq] at h
   exact ra.inS (by omega) (by omega)
  ·simp only [Bool.and_eq_true,decide_eq_true_eq] at h
   have:=RdQ.get ra (i:=i-1) (by omega) (by omega)
   rwa [e1] at this
  ·simp only [Bool.and_eq_true,decide_eq_true_eq] at h
   exact refCompareR (tg1 _ (mem_getQ (by omega))) oa
  ·exfalso
   simp only [Bool.or_eq_true,Bool.and_eq_true,decide_eq_true_eq] at h
   rcases h with (h | h) | ⟨h,h2⟩
   ·omega
   ·simp at h
   ·have:=tg2 (i.toNat-1) (by omega)
    rw [show i.toNat-1+1=i.toNat by omega] at this
    omega
  ·refine ⟨rb.inS i0 hi,_,gb,by unfold inI; omega,by unfold inI; omega,⟨rfl,by omega,by omega,?_⟩,by dsimp only; omega⟩
   rw [show (i+1).toNat=i.toNat+1 by omega,ts,hs]
 have hi:i=tn.2.length:=by have:=of_decide_eq_false h; omega
 rw [hi,Int.toNat_natCast,List.take_length,tsum] at hs
 refine ⟨fun h=>?_,fun _=>⟨fun h=>⟨rfl,T.le⟩,fun h=>?_⟩⟩
 ·have h:=bne_iff_ne.1 h; omega
 have h0:m.length≠0:=by have:=beq_eq_false_iff_ne.1 h; omega
 have hm:m≠[]:=fun e=>by rw [e] at h0; exact h0 rfl
 rw [mostG_some c2 h0]
 obtain ⟨b1,b2,b3⟩:=bestG_of hm
 generalize bestG m=bb at *
 have ofl:∀ id,(ofMg m id).length=cntG m id:=fun id=>by rw [ofMg_ok c2]; exact ofG_len m id
 refine (colOf (id:=bb.1) r5 ft).mono fun v H28 ⟨o,hv,l28,mo⟩=>⟨o,_,hv,fun h=>?_,fun _=>?_⟩
 ·exfalso
  have on:=mo.rdG.len
  rw [ofl] at on
  rw [c2] at h
  simp only [bne_self_eq_false,Bool.false_or,bne_iff_ne] at h
  omega
 refine ⟨fun n H'=>0≤n∧n≤m.length∧Hp.le H H',fun n _=>((m.length:Int)-n).toNat,⟨Int.le_refl _,by omega,Hp.le_trans T.le l28⟩,?_⟩
 rintro n H34 ⟨n0,n1,l34⟩
 refine ⟨fun h=>?_,fun h=>⟨rfl,l34⟩⟩
 have hn:n<m.length:=by have:=of_decide_eq_true h; omega
 have hin:n.toNat<m.length:=by omega
 have r34:=r.le l34
 have ci:1≤cntG m (m.getD n.toNat zMg).2.1∧1≤cntG m (m.getD n.toNat zMg).2.2:=by
  have hmem:=getG_mem (m:=m) hin
  constructor
  ·exact List.countP_pos_iff.2 ⟨_,hmem,by simp [inG]⟩
  ·exact List.countP_pos_iff.2 ⟨_,hmem,by simp [inG]⟩
 have bx:=b3 _ ci.1
 have byy:=b3 _ ci.2
 refine ⟨r34.inS n0 hn,_,RdG.gI r34 n0 hn,(colOf (id:=(m.getD n.toNat zMg).2.1) r34 ft).mono fun v H37 ⟨x,hv,l37,mx⟩=>⟨x,_,hv,r34.inS n0 hn,_,RdG.gJ (r34.le l37) n0 hn,(colOf (id:=(m.getD n.toNat zMg).2.2) (r34.le l37) ft).mono fun v H42 ⟨y,hv,l42,my⟩=>⟨y,_,hv,?_⟩⟩⟩
 have xn:=mx.rdG.len
 have yn:=my.rdG.len
 rw [ofl] at xn yn
 have r42:=r34.le (Hp.le_trans l37 l42)
 refine ⟨fun _=>r34.inS n0 hn,_,fun _=>RdG.gI r42 n0 hn,fun _=>r34.inS n0 hn,_,fun _=>RdG.gJ r42 n0 hn,fun h=>?_,fun _=>⟨by unfold inI; omega,⟨by omega,by omega,Hp.le_trans l34 (Hp.le_trans l37 l42)⟩,by dsimp only; omega⟩⟩
 exfalso
 rw [c2] at h
 simp only [bne_self_eq_false,Bool.false_or,Bool.or_eq_true,Bool.and_eq_true,decide_eq_true_eq,beq_iff_eq] at h
 omega
end Go.Proofs.YtlbdpklikfddlaaGreat
end
