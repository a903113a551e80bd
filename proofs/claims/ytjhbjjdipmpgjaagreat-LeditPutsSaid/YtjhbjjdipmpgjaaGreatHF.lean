/- The laws LeditPuts, LeditTakes. Conditions: none. -/
import Derived.Test.YtjhbjjdipmpgjaaGreatPH3
import Derived.Test.YtjhbjjdipmpgjaaGreatVgLLeditPuts
import Derived.Test.YtjhbjjdipmpgjaaGreatVgLLeditTakes
import Derived.Test.YtjhbjjdipmpgjaaGreatFs
set_option linter.unusedVariables false
set_option maxRecDepth 100000
open Go Go.Eng Go.Proofs
namespace Go.Proofs.YtjhbjjdipmpgjaaGreat

theorem Sound.fitS {r:Ls × Int} (s:Sound r):fitL r.1:=by
 by_cases h:r.2 = 0
 ·exact s.fit h
 ·rw [s.2 h]; exact fitZl
theorem putM_sound (l:Ls) (p:Pt):Sound (putM l p):=⟨putM_okLs,putM_zero⟩
set_option maxHeartbeats 1000000 in
theorem leditPuts {H:Hp} {u:Lu} {l:Ls} {p:Pt} (r:RdL H u l) (hn:fitR l.ck.now) (hh:∀ y∈l.ck.ag.heap,fitR y.at_) :
  Qf Tryz.prog F.pelotonlaw26_LeditPuts #[lsV u l,.agg #[.int .i64 p.1,.int .i64 p.2.1,.int .i64 p.2.2]] H (.bool true):=by
 refine pelotonlaw26_LeditPuts_vc ⟨_,refLGreat r,fun _=>⟨rfl,Hp.le_refl _⟩,fun hg=>?_⟩
 have fl:=fitL_of hn hg hh
 refine (refLTwin r fl).mono fun v H3 ⟨z,hv,l3,rz⟩=>⟨_,_,z.k.f,_,z.k.cl,z.k.u1,z.k.u2,z.k.u3,z.k.u4,z.k.u5,z.k.d,z.o,z.n,hv,?_⟩
 refine (leditPut (p:=p) (r.le l3) fl).mono fun v H18 ⟨a,hv,l18,ra⟩=>⟨_,_,a.k.f,_,a.k.cl,a.k.u1,a.k.u2,a.k.u3,a.k.u4,a.k.u5,a.k.d,a.o,a.n,_,hv,?_⟩
 refine (ref26Put (p:=p) (rz.le l18) fl).mono fun v H34 ⟨b,hv,l34,rb⟩=>⟨_,_,b.k.f,_,b.k.cl,b.k.u1,b.k.u2,b.k.u3,b.k.u4,b.k.u5,b.k.d,b.o,b.n,_,hv,?_⟩
 have l334:=Hp.le_trans l18 l34
 have r34:=r.le (Hp.le_trans l3 l334)
 have z34:=rz.le l334
 exact ⟨_,_,leditWhereQ (p:=p) r34 fl,_,_,ref26WhereQ (p:=p) z34 fl,true,refLSame (ra.le l34) rb (putM_sound l p).fitS,true,fun _=>refLSame r34 z34 fl,by simp,Hp.le_trans l3 l334⟩

end Go.Proofs.YtjhbjjdipmpgjaaGreat
