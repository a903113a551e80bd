/- The engine, parts CL, CE, put together. Conditions: none. -/
import Derived.Test.YtbbdplfkiioppaaGreatPQ1
import Derived.Test.YtbbdplfkiioppaaGreatPN2
set_option linter.unusedVariables false
section
/- At a time that is asked for all places and distances are told; the distance of two points, whoever is ahead. Conditions: none. -/
set_option maxRecDepth 100000
open Go Go.Eng Go.Proofs
namespace Go.Proofs.YtbbdplfkiioppaaGreat

def askedR (t:Int × Int):Prop:=okR t∧-1073741824≤t.1∧t.1≤1073741824∧t.2≤1024
instance (t:Int × Int):Decidable (askedR t):=inferInstanceAs (Decidable (_∧_))
theorem ediv_le {x g:Int} (h:0≤x):x / g≤x:=Int.ediv_le_self g h
theorem asked_place {p:Pt} {t:Int × Int} (op:okP p) (a:askedR t):(placeM p t).2=0∧absI (placeM p t).1.1≤2251799813685248∧(placeM p t).1.2≤1024:=by
 obtain ⟨ot,a1,a2,a3⟩:=a
 have d1:=ot.d1
 have b:=op.b
 have s1:=absI_mul_le (x:=p.2.1) (y:=t.2) (m:=1048576) (n:=1024) (absI_le (by omega) (by omega)) (absI_le (by omega) (by omega))
 have s2:=absI_mul_le (x:=p.2.2) (y:=t.1) (m:=1048576) (n:=1073741824) (absI_le (by omega) (by omega)) (absI_le (by omega) (by omega))
 have s3:absI (numP p t)≤absI (p.2.1 * t.2)+absI (p.2.2 * t.1):=by unfold numP absI; split <;> split <;> split <;> omega
 have n0:=absI_nonneg (numP p t)
 have q1:absI (numP p t) / gcdA (numP p t) t.2≤absI (numP p t):=ediv_le n0
 have q2:t.2 / gcdA (numP p t) t.2≤t.2:=ediv_le (by omega)
 have g0:0≤gcdA (numP p t) t.2:=by unfold gcdA; exact Int.natCast_nonneg _
 have q3:0≤absI (numP p t) / gcdA (numP p t) t.2:=Int.ediv_nonneg n0 g0
 rw [placeM_ok op ot]
 unfold overM buildM
 rw [if_neg (by omega)]
 refine ⟨rfl,?_,by show t.2 / _≤1024; omega⟩
 have q4:absI (numP p t) / gcdA (numP p t) t.2≤2251799813685248:=by omega
 generalize absI (numP p t) / gcdA (numP p t) t.2=z at *
 have q5:absI (0-z)≤2251799813685248:=absI_le (by omega) (by omega)
 have q6:absI z≤2251799813685248:=absI_le (by omega) (by omega)
 have q7:∀ c:Bool,absI (if c=true then 0-z else z)≤2251799813685248:=fun c=>by
  cases c
  ·rw [if_neg (by simp)]; exact q6
  ·rw [if_pos rfl]; exact q5
 exact q7 _
theorem asked_told {f:List Pt} (of:okF f) {t:Int × Int} (a:askedR t):Told f t:=⟨of,a.1,fun k hk=>(asked_place (sP_ok of hk) a).1⟩
/-! ### Whoever is ahead -/

/-! ### No pair comes twice -/
/-! ### The nearest one -/
def pairT (f:List Pt) (t:Int × Int) (k:Nat):Prop:=(spot f t k).2=0∧(spot f t (k+1)).2=0∧(gapD f t k (k+1)).2=0
instance (f:List Pt) (t:Int × Int) (k:Nat):Decidable (pairT f t k):=inferInstanceAs (Decidable (_∧_))
/-! ### All within a distance -/
end Go.Proofs.YtbbdplfkiioppaaGreat
end
