/- The engine, parts HG, HI, HJ, put together. Conditions: none. -/
import Derived.Test.YtjhbjjdipmpgjaaGreatHF
import Derived.Test.YtjhbjjdipmpgjaaGreatPM4
import Derived.Test.YtjhbjjdipmpgjaaGreatVgH26
import Derived.Test.YtjhbjjdipmpgjaaGreatVgKlist
import Derived.Test.YtjhbjjdipmpgjaaGreatFs
import Derived.Test.YtjhbjjdipmpgjaaGreatPK3
import Derived.Test.YtjhbjjdipmpgjaaGreatVgLLeditOrder
set_option linter.unusedVariables false
section
/- The law's own helpers: Much, has, few, example, alive. Conditions: none. -/
set_option maxRecDepth 100000
open Go Go.Eng Go.Proofs
namespace Go.Proofs.YtjhbjjdipmpgjaaGreat


def exP7:Ls:=(putM exLs (7,3,0)).1
def exT7:Ls:=(takeM exP7 7).1
theorem exPz:putM exLs (7,3,0)=(exP7,0):=Prod.ext rfl (by kernel_rfl)
theorem exTz:takeM exP7 7=(exT7,0):=Prod.ext rfl (by kernel_rfl)
theorem exPo:exP7.ord=[2,7,1,5]:=by kernel_rfl
theorem exPn:exP7.num=[2,3,1]:=by kernel_rfl
theorem exTo:exT7.ord=[2,1,5]:=by kernel_rfl
theorem exTn:exT7.num=[4,1]:=by kernel_rfl
theorem exPfit:fitL exP7:=(putM_sound exLs (7,3,0)).fitS

theorem law26example_of {H:Hp} {x0:Ls} (h0:buildL exF (0,1)=(x0,0)):Go.Eng.Fn Tryz.prog F.pelotonlaw26_example #[] H fun v H'=>∃ u:Lu,v=lsV u x0∧Hp.le H H'∧RdL H' u x0:=by
 refine pelotonlaw26_example_vc fun b1 H2 hb1 hH2=>?_
 have l2:Hp.le H H2:=Hp.le_new (Hp.le_refl _) hb1 hH2
 have rf:Rd 3 fD H2 ⟨some ⟨b1,0,none⟩,3,3⟩ exF:=rdConst (k:=3) (f:=fD) (fun _=>rfl) hH2 rfl rfl
 have q:=refBuildL rf fit01
 rw [h0] at q
 exact q.mono fun v H4 ⟨u,hv,l4,r4⟩=>⟨_,_,u.k.f,_,u.k.cl,u.k.u1,u.k.u2,u.k.u3,u.k.u4,u.k.u5,u.k.d,u.o,u.n,0,hv,u,rfl,Hp.le_trans l2 l4,r4⟩

set_option maxHeartbeats 2000000 in
theorem law26alive_of {H:Hp} {x0 x1 x2:Ls} (f0:fitL x0) (f1:fitL x1) (ex:∀ {H:Hp},Go.Eng.Fn Tryz.prog F.pelotonlaw26_example #[] H fun v H'=>∃ u:Lu,v=lsV u x0∧Hp.le H H'∧RdL H' u x0)
  (h1:putM x0 (7,3,0)=(x1,0)) (h2:takeM x1 7=(x2,0)) (o1:x1.ord=[2,7,1,5]) (n1:x1.num=[2,3,1]) (o2:x2.ord=[2,1,5]) (n2:x2.num=[4,1]) :
  Qf Tryz.prog F.pelotonlaw26_alive #[] H (.bool true):=by
 refine pelotonlaw26_alive_vc (ex.mono fun v H2 ⟨u,hv,l2,r⟩=>⟨_,_,u.k.f,_,u.k.cl,u.k.u1,u.k.u2,u.k.u3,u.k.u4,u.k.u5,u.k.d,u.o,u.n,hv,?_⟩)
 have q1:=leditPut (p:=(7,3,0)) r f0
 rw [h1] at q1
 refine q1.mono fun v H17 ⟨a,hv,l17,ra⟩=>⟨_,_,a.k.f,_,a.k.cl,a.k.u1,a.k.u2,a.k.u3,a.k.u4,a.k.u5,a.k.d,a.o,a.n,0,hv,?_⟩
 have ra:RdL H17 a x1:=ra
 have q2:=leditTake (id:=7) ra f1
 rw [h2] at q2
 refine q2.mono fun v H33 ⟨b,hv,l33,rb⟩=>⟨_,_,b.k.f,_,b.k.cl,b.k.u1,b.k.u2,b.k.u3,b.k.u4,b.k.u5,b.k.d,b.o,b.n,0,hv,fun _=>fun b48 H49 hb48 hH49=>?_,fun h=>by simp at h⟩
 have rb:RdL H33 b x2:=rb
 have ra:=ra.le l33
 have l49:Hp.le H33 H49:=Hp.le_new (Hp.le_refl _) hb48 hH49
 have c49:RdI H49 ⟨some ⟨b48,0,none⟩,4,4⟩ [2,7,1,5]:=rdConst (k:=1) (f:=fI) (fun _=>rfl) hH49 rfl rfl
 have ao:=ra.o; have an:=ra.n; have bo:=rb.o; have bn:=rb.n
 rw [o1] at ao; rw [n1] at an; rw [o2] at bo; rw [n2] at bn
 refine ⟨true,fun _=>sameIDs (ao.le l49) c49 (by decide),fun _=>fun b51 H52 hb51 hH52=>?_,fun h=>by simp at h⟩
 have l52:Hp.le H49 H52:=Hp.le_new (Hp.le_refl _) hb51 hH52
 have c52:RdI H52 ⟨some ⟨b51,0,none⟩,3,3⟩ [2,3,1]:=rdConst (k:=1) (f:=fI) (fun _=>rfl) hH52 rfl rfl
 have u52:=Hp.le_trans l49 l52
 refine ⟨true,fun _=>sameIDs (an.le u52) c52 (by decide),fun _=>fun b54 H55 hb54 hH55=>?_,fun h=>by simp at h⟩
 have l55:Hp.le H52 H55:=Hp.le_new (Hp.le_refl _) hb54 hH55
 have c55:RdI H55 ⟨some ⟨b54,0,none⟩,3,3⟩ [2,1,5]:=rdConst (k:=1) (f:=fI) (fun _=>rfl) hH55 rfl rfl
 have u55:=Hp.le_trans u52 l55
 refine ⟨true,fun _=>sameIDs (bo.le u55) c55 (by decide),fun _=>fun b57 H58 hb57 hH58=>?_,fun h=>by simp at h⟩
 have l58:Hp.le H55 H58:=Hp.le_new (Hp.le_refl _) hb57 hH58
 have c58:RdI H58 ⟨some ⟨b57,0,none⟩,2,2⟩ [4,1]:=rdConst (k:=1) (f:=fI) (fun _=>rfl) hH58 rfl rfl
 have u58:=Hp.le_trans u55 l58
 exact ⟨true,fun _=>sameIDs (bn.le u58) c58 (by decide),by simp,Hp.le_trans l2 (Hp.le_trans l17 (Hp.le_trans l33 u58))⟩
theorem law26alive {H:Hp}:Qf Tryz.prog F.pelotonlaw26_alive #[] H (.bool true) :=
 law26alive_of exOk.fit exPfit (law26example_of exB) exPz exTz exPo exPn exTo exTn

end Go.Proofs.YtjhbjjdipmpgjaaGreat
end
