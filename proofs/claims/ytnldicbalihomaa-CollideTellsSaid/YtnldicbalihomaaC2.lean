/- Contracts of cert and pelotonref08, second part. Conditions: none. -/
import Derived.Test.YtnldicbalihomaaC1
import Derived.Test.YtnldicbalihomaaVgBase
import Derived.Test.YtnldicbalihomaaFs
set_option linter.unusedVariables false
open Go Go.Eng Go.Proofs
namespace Go.Proofs.Ytnldicbalihomaa

theorem sameIDs {H:Hp} {a b:Slc} {xs ys:List Int} (ha:RdI H a xs) (hb:RdI H b ys) (h63:xs.length≤1000000000):Qf Try.prog F.pelotonref03_SameIDs #[a.v,b.v] H (.bool (xs==ys)):=by
 have la:=ha.len
 have lb:=hb.len
 refine pelotonref03_SameIDs_vc ⟨fun h=>⟨?_,Hp.le_refl H⟩,fun h=>?_⟩
 ·have hl:(a.n:Int)≠b.n:=by simpa using h
  have:(xs==ys)=false:=by
   rw [beq_eq_false_iff_ne]; intro e; subst e; omega
  rw [this]
 ·have hl:(a.n:Int)=b.n:=by simpa using h
  refine upto (N:=xs.length) (J:=fun n=>xs.take n.toNat=ys.take n.toNat) (by omega) (by simp) fun n h0 h1 h2=>⟨fun hn=>?_,fun hn=>⟨?_,Hp.le_refl _⟩⟩
  ·have hn:n<a.n:=by simpa using hn
   have gx:=getI (xs:=xs) h0 (by omega)
   have gy:=getI (xs:=ys) h0 (by omega)
   refine ⟨ha.inN h0 hn,_,ha.get h0 (by omega),hb.inN h0 (by omega),_,hb.get h0 (by omega),fun hne=>⟨?_,Hp.le_refl _⟩,fun he=>upto.nx h0 (by omega) (by omega) ?_⟩
   ·have:(xs==ys)=false:=by
     rw [beq_eq_false_iff_ne]; intro e; subst e; simp at hne
    rw [this]
   ·have e:(n+1).toNat=n.toNat+1:=by omega
    rw [e]
    exact (take_succ_eq gx gy h2).2 (by simpa using he)
  ·have hn:n=xs.length:=by
    have:¬ n<a.n:=by simpa using hn
    omega
   subst hn
   have:xs=ys:=by
    have e1:xs.take xs.length=xs:=List.take_length
    have e2:ys.take xs.length=ys:=by
     have:xs.length=ys.length:=by omega
     rw [this]; exact List.take_length
    rw [Int.toNat_natCast] at h2
    rw [← e1,h2,e2]
   subst this; simp

end Go.Proofs.Ytnldicbalihomaa
