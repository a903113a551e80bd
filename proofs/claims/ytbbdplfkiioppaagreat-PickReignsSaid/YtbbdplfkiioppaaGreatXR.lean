/- The law PickReigns. Conditions: none. -/
import Derived.Test.YtbbdplfkiioppaaGreatPXC
import Derived.Test.YtbbdplfkiioppaaGreatVgLPickReigns
import Derived.Test.YtbbdplfkiioppaaGreatFs
set_option linter.unusedVariables false
set_option maxRecDepth 100000
open Go Go.Eng Go.Proofs
namespace Go.Proofs.YtbbdplfkiioppaaGreat

theorem pickReigns {H:Hp} {u:Lu} {l:Ls} {k:Int} {to t:Int × Int} {w:Slc} {rs:List Ld} (r:RdL H u l) (hn:fitR l.ck.now) (hh:∀ y∈l.ck.ag.heap,fitR y.at_) (ht:fitR to) (rw':Rd 3 fL H w rs) (fr:∀ x∈rs,fitR x.1) (ft:fitR t) :
  Qf Tryz.prog F.pelotonlaw30_PickReigns #[lsV u l,.int .i64 k,raW to,w.v,raW t] H (.bool true):=by
 refine pelotonlaw30_PickReigns_vc ⟨greatL l,refLGreat r,fun _=>⟨rfl,Hp.le_refl _⟩,fun hc=>?_⟩
 simp only [Bool.or_eq_false_iff,decide_eq_false_iff_not] at hc
 obtain ⟨c1,c2⟩:=hc
 have fl:=fitL_of hn c1 hh
 have lw:=rw'.len
 have hl:rs.length≤1000000:=by omega
 refine (pickReign r fl ht).mono fun v H3 ⟨s,hv,l3,m3⟩=>⟨s,_,hv,?_⟩
 refine (refReign (r.le l3) fl ht).mono fun v H7 ⟨z,hv,l7,m7⟩=>⟨z,_,hv,?_⟩
 have w7:=rw'.le (Hp.le_trans l3 l7)
 refine ⟨(whoM rs t).1,(whoM rs t).2,pickWho w7 fr ft hl,(whoM rs t).1,(whoM rs t).2,refWho w7 fr ft hl,true,refSame30' (m3.rdLd.le l7) m7.rdLd (by have:=reignM_len (l:=l) (k:=k) (to:=to); omega) rfl,?_,Hp.le_trans l3 l7⟩
 simp

end Go.Proofs.YtbbdplfkiioppaaGreat
