/- The engine, parts X6, X7, put together. Conditions: none. -/
import Derived.Test.YtbbdplfkiioppaaGreatPXA
import Derived.Test.YtbbdplfkiioppaaGreatPM4
import Derived.Test.YtbbdplfkiioppaaGreatPK3
import Derived.Test.YtbbdplfkiioppaaGreatVgH30
import Derived.Test.YtbbdplfkiioppaaGreatFs
set_option linter.unusedVariables false
section
/- The picking laws' own helpers: whole, example, alive. Conditions: none. -/
set_option maxRecDepth 100000
open Go Go.Eng Go.Proofs
namespace Go.Proofs.YtbbdplfkiioppaaGreat

theorem refSame30' {H:Hp} {a b:Slc} {xs ys:List Ld} (ha:Rd 3 fL H a xs) (hb:Rd 3 fL H b ys) (h63:xs.length≤1000000000) (h:xs=ys):Qf Tryz.prog F.pelotonref30_Same #[a.v,b.v] H (.bool true):=by
 have q:=refSame30 ha hb h63
 rwa [show (xs==ys)=true from beq_iff_eq.2 h] at q

theorem reignM_len {l:Ls} {k:Int} {to:Int × Int}:(reignM l k to).1.length≤5000:=by
 by_cases ok:okLs l
 ·by_cases hu:untilK l.ck to=0
  ·by_cases hk:(kthM l k).2=0
   ·rw [reignM_go ok hu hk]; exact reignL_small ok _ _
   ·rw [reignM_kth ok hu hk]; simp
  ·rw [reignM_un ok hu]; simp
 ·rw [reignM_bad ok]; simp

/-! ### The example -/

end Go.Proofs.YtbbdplfkiioppaaGreat
end
