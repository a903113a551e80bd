/- The engine, parts KA5, KN6, KN7, put together. Conditions: none. -/
import Derived.Test.YtlbdpklikfddlaaGreatPS1
import Derived.Test.YtlbdpklikfddlaaGreatPM4
import Derived.Test.YtlbdpklikfddlaaGreatVgH25
import Derived.Test.YtlbdpklikfddlaaGreatFs
import Derived.Test.YtlbdpklikfddlaaGreatVgKlist
set_option linter.unusedVariables false
section
/- The lists' law's own helpers. Conditions: none. -/
set_option maxRecDepth 100000
open Go Go.Eng Go.Proofs
namespace Go.Proofs.YtlbdpklikfddlaaGreat

theorem law25whole {H:Hp} {n:Int}:Qf Tryz.prog F.pelotonlaw25_whole #[.int .i64 n] H (sI2 n 1):=pelotonlaw25_whole_vc ⟨rfl,Hp.le_refl _⟩
theorem law25example {H:Hp}:Go.Eng.Fn Tryz.prog F.pelotonlaw25_example #[] H fun v H'=>∃ w:Slc,v=vFd w∧Hp.le H H'∧Rd 3 fD H' w exF:=by
 refine pelotonlaw25_example_vc fun b1 H2 hb hH=>⟨⟨some ⟨b1,0,none⟩,3,3⟩,rfl,Hp.le_new (Hp.le_refl _) hb hH,?_⟩
 exact rdConst (k:=3) (f:=fD) (fun _=>rfl) hH rfl rfl
theorem exB:buildL exF (0,1)=(exLs,0):=Prod.ext rfl (by kernel_rfl)
def exMs:Ls:=(stepL exLs).1
theorem exN1:kNextM exLs=((2,1),0):=by kernel_rfl
theorem exN2:kNextM exMs=((6,1),0):=by kernel_rfl
theorem exS:stepL exLs=(exMs,1,0):=Prod.ext rfl (by kernel_rfl)
theorem exO1:exLs.ord=[2,1,5]:=by kernel_rfl
theorem exU1:exLs.num=[0,1]:=by kernel_rfl
theorem exO2:exMs.ord=[1,2,5]:=by kernel_rfl
theorem exU2:exMs.num=[2,3]:=by kernel_rfl
theorem exT2:exMs.ck.now=(2,1):=by kernel_rfl
theorem exC2:exMs.ck.ct.list.length=2:=by kernel_rfl

set_option maxHeartbeats 1000000 in
theorem law25alive_of {H:Hp} {l m:Ls} (hb:buildL exF (0,1)=(l,0)) (fl:fitL l) (hs:stepL l=(m,1,0)) (fm:fitL m) (n1:kNextM l=((2,1),0)) (n2:kNextM m=((6,1),0)) (o1:l.ord=[2,1,5]) (u1:l.num=[0,1]) (o2:m.ord=[1,2,5]) (u2:m.num=[2,3]) (tm:m.ck.now=(2,1)) (cl:m.ck.ct.list.length=2) :
  Qf Tryz.prog F.pelotonlaw25_alive #[] H (.bool true):=by
 refine pelotonlaw25_alive_vc (law25example.mono fun v H2 ⟨w,hv,l2,rw'⟩=>⟨w,hv,0,1,law25whole,?_⟩)
 have q1:=klistBuild (t:=(0,1)) rw' fit01
 rw [hb] at q1
 refine q1.mono fun v H7 ⟨a,hv,l7,ra⟩=>⟨_,_,a.k.f,_,a.k.cl,a.k.u1,a.k.u2,a.k.u3,a.k.u4,a.k.u5,a.k.d,a.o,a.n,0,hv,?_⟩
 have ra:RdL H7 a l:=ra
 have k1:=kNext ra fl
 rw [n1] at k1
 have q2:=klistStep ra fl
 rw [hs] at q2
 refine ⟨2,1,0,k1,q2.mono fun v H26 ⟨b,hv,l26,rb⟩=>⟨_,_,b.k.f,_,b.k.cl,b.k.u1,b.k.u2,b.k.u3,b.k.u4,b.k.u5,b.k.d,b.o,b.n,1,0,hv,?_⟩⟩
 have rb:RdL H26 b m:=rb
 have k2:=kNext rb fm
 rw [n2] at k2
 refine ⟨6,1,0,k2,fun h=>by simp at h,fun _=>fun b45 H46 hb45 hH46=>?_⟩
 have l46:Hp.le H26 H46:=Hp.le_new (Hp.le_refl _) hb45 hH46
 have ra46:=ra.le (Hp.le_trans l26 l46)
 have rb46:=rb.le l46
 have c1:RdI H46 ⟨some ⟨b45,0,none⟩,3,3⟩ [2,1,5]:=rdConst (k:=1) (f:=fI) (fun _=>rfl) hH46 rfl rfl
 have eo:=ra46.o
 rw [o1] at eo
 have s1:=sameIDs eo c1 (by decide)
 refine ⟨true,s1,fun _=>fun b48 H49 hb48 hH49=>?_,fun h=>by cases h⟩
 have l49:Hp.le H46 H49:=Hp.le_new (Hp.le_refl _) hb48 hH49
 have c2:RdI H49 ⟨some ⟨b48,0,none⟩,2,2⟩ [0,1]:=rdConst (k:=1) (f:=fI) (fun _=>rfl) hH49 rfl rfl
 have en:=(ra46.le l49).n
 rw [u1] at en
 have s2:=sameIDs en c2 (by decide)
 refine ⟨true,fun _=>s2,2,1,fun _=>law25whole,fun _=>fun b53 H54 hb53 hH54=>?_,fun h=>by simp at h⟩
 have l54:Hp.le H49 H54:=Hp.le_new (Hp.le_refl _) hb53 hH54
 have c3:RdI H54 ⟨some ⟨b53,0,none⟩,3,3⟩ [1,2,5]:=rdConst (k:=1) (f:=fI) (fun _=>rfl) hH54 rfl rfl
 have rb54:=rb46.le (Hp.le_trans l49 l54)
 have eo2:=rb54.o
 rw [o2] at eo2
 have s3:=sameIDs eo2 c3 (by decide)
 refine ⟨true,fun _=>s3,fun _=>fun b56 H57 hb56 hH57=>?_,fun h=>by simp at h⟩
 have l57:Hp.le H54 H57:=Hp.le_new (Hp.le_refl _) hb56 hH57
 have c4:RdI H57 ⟨some ⟨b56,0,none⟩,2,2⟩ [2,3]:=rdConst (k:=1) (f:=fI) (fun _=>rfl) hH57 rfl rfl
 have en2:=(rb54.le l57).n
 rw [u2] at en2
 have s4:=sameIDs en2 c4 (by decide)
 have ecl:(b.k.cl.n:Int)=2:=by have:=rb.k.cl.len; rw [cl] at this; omega
 refine ⟨true,fun _=>s4,2,1,fun _=>law25whole,6,1,fun _=>law25whole,?_,Hp.le_trans l2 (Hp.le_trans l7 (Hp.le_trans l26 (Hp.le_trans l46 (Hp.le_trans l49 (Hp.le_trans l54 l57)))))⟩
 rw [tm,ecl]
 rfl
theorem law25alive {H:Hp}:Qf Tryz.prog F.pelotonlaw25_alive #[] H (.bool true):=law25alive_of exB exOk.fit exS (stepL_fit exLs) exN1 exN2 exO1 exU1 exO2 exU2 exT2 exC2


end Go.Proofs.YtlbdpklikfddlaaGreat
end
