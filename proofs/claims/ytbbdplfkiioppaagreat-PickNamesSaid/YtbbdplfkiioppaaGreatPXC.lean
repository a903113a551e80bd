/- The engine, parts X6, X7, put together. Conditions: none. -/
import Derived.Test.YtbbdplfkiioppaaGreatPXA
import Derived.Test.YtbbdplfkiioppaaGreatPM4
import Derived.Test.YtbbdplfkiioppaaGreatPK3
import Derived.Test.YtbbdplfkiioppaaGreatVgH30
import Derived.Test.YtbbdplfkiioppaaGreatFs
set_option linter.unusedVariables false
section
/- The picking laws' own helpers: whole, example, alive. Conditions: none. -/
set_option maxRecDepth 100000
open Go Go.Eng Go.Proofs
namespace Go.Proofs.YtbbdplfkiioppaaGreat

theorem refSame30' {H:Hp} {a b:Slc} {xs ys:List Ld} (ha:Rd 3 fL H a xs) (hb:Rd 3 fL H b ys) (h63:xs.length≤1000000000) (h:xs=ys):Qf Tryz.prog F.pelotonref30_Same #[a.v,b.v] H (.bool true):=by
 have q:=refSame30 ha hb h63
 rwa [show (xs==ys)=true from beq_iff_eq.2 h] at q

/-! ### The example -/
theorem law30whole {H:Hp} {n:Int}:Qf Tryz.prog F.pelotonlaw30_whole #[.int .i64 n] H (sI2 n 1):=pelotonlaw30_whole_vc ⟨rfl,Hp.le_refl _⟩
theorem law30example_of {H:Hp} {x0:Ls} (h0:buildL exF (0,1)=(x0,0)):Go.Eng.Fn Tryz.prog F.pelotonlaw30_example #[] H fun v H'=>∃ u:Lu,v=lsV u x0∧Hp.le H H'∧RdL H' u x0:=by
 refine pelotonlaw30_example_vc fun b1 H2 hb1 hH2=>⟨_,_,law30whole,?_⟩
 have l2:Hp.le H H2:=Hp.le_new (Hp.le_refl _) hb1 hH2
 have rf:Rd 3 fD H2 ⟨some ⟨b1,0,none⟩,3,3⟩ exF:=rdConst (k:=3) (f:=fD) (fun _=>rfl) hH2 rfl rfl
 have q:=refBuildL rf fit01
 rw [h0] at q
 exact q.mono fun v H4 ⟨u,hv,l4,r4⟩=>⟨l4,_,_,u.k.f,_,u.k.cl,u.k.u1,u.k.u2,u.k.u3,u.k.u4,u.k.u5,u.k.d,u.o,u.n,0,hv,u,rfl,Hp.le_trans l2 l4,r4⟩
def exRe:List Ld:=[((0,1),1),((2,1),2),((6,1),5)]
theorem exMed:medM exLs=((0,1),0):=by kernel_rfl
theorem exReign:reignM exLs 1 (7,1)=(exRe,0):=by kernel_rfl
theorem exKth:kthM exLs 0=(2,0):=by kernel_rfl
theorem fit71:fitR (7,1):=⟨by show inI 7; unfold inI; omega,by show inI 1; unfold inI; omega⟩

set_option maxHeartbeats 800000 in
theorem law30alive_of {H:Hp} {x:Ls} (f0:fitL x) (ex:∀ {H:Hp},Go.Eng.Fn Tryz.prog F.pelotonlaw30_example #[] H fun v H'=>∃ u:Lu,v=lsV u x∧Hp.le H H'∧RdL H' u x)
  (m:medM x=((0,1),0)) (re:reignM x 1 (7,1)=(exRe,0)) (kt:kthM x 0=(2,0)) :
  Qf Tryz.prog F.pelotonlaw30_alive #[] H (.bool true):=by
 refine pelotonlaw30_alive_vc (ex.mono fun v H2 ⟨a,hv,l2,ra⟩=>⟨_,_,a.k.f,_,a.k.cl,a.k.u1,a.k.u2,a.k.u3,a.k.u4,a.k.u5,a.k.d,a.o,a.n,hv,?_⟩)
 have q1:=pickMedian ra f0
 rw [m] at q1
 refine ⟨0,1,0,q1,ex.mono fun v H20 ⟨b,hv,l20,rb⟩=>⟨_,_,b.k.f,_,b.k.cl,b.k.u1,b.k.u2,b.k.u3,b.k.u4,b.k.u5,b.k.d,b.o,b.n,hv,?_⟩⟩
 have q2:=pickReign (k:=1) rb f0 fit71
 rw [re] at q2
 refine ⟨7,1,law30whole,q2.mono fun v H37 ⟨s,hv,l37,ms⟩=>⟨s,0,hv,ex.mono fun v H41 ⟨c,hv,l41,rc⟩=>⟨_,_,c.k.f,_,c.k.cl,c.k.u1,c.k.u2,c.k.u3,c.k.u4,c.k.u5,c.k.d,c.o,c.n,hv,?_⟩⟩⟩
 have q3:=pickKth (k:=0) rc f0
 rw [kt] at q3
 refine ⟨2,0,q3,0,1,fun _=>law30whole,0,1,fun _=>law30whole,2,1,fun _=>law30whole,6,1,fun _=>law30whole,fun _=>fun b65 H66 hb66 hH66=>?_,fun h=>by simp at h⟩
 have l66:Hp.le H41 H66:=Hp.le_new (Hp.le_refl _) hb66 hH66
 have c66:Rd 3 fL H66 ⟨some ⟨b65,0,none⟩,3,3⟩ exRe:=rdConst (k:=3) (f:=fL) (fun _=>rfl) hH66 rfl rfl
 have rs:Rd 3 fL H66 s exRe:=ms.rdLd.le (Hp.le_trans l41 l66)
 have e3:exRe.length≤1000000000:=by simp [exRe]
 have q4:=refSame30' rs c66 e3 rfl
 exact ⟨true,fun _=>q4,by simp,Hp.le_trans l2 (Hp.le_trans l20 (Hp.le_trans l37 (Hp.le_trans l41 l66)))⟩
theorem law30alive {H:Hp}:Qf Tryz.prog F.pelotonlaw30_alive #[] H (.bool true) :=
 law30alive_of exOk.fit (law30example_of exB) exMed exReign exKth
end Go.Proofs.YtbbdplfkiioppaaGreat
end
