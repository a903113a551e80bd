/- The engine, parts CL, CE, put together. Conditions: none. -/
import Derived.Test.YtkemdpobjaiolaaGreatPQ1
import Derived.Test.YtkemdpobjaiolaaGreatPN2
set_option linter.unusedVariables false
section
/- At a time that is asked for all places and distances are told; the distance of two points, whoever is ahead. Conditions: none. -/
set_option maxRecDepth 100000
open Go Go.Eng Go.Proofs
namespace Go.Proofs.YtkemdpobjaiolaaGreat

def askedR (t : Int × Int) : Prop := okR t ∧ -1073741824 ≤ t.1 ∧ t.1 ≤ 1073741824 ∧ t.2 ≤ 1024
instance (t : Int × Int) : Decidable (askedR t) := inferInstanceAs (Decidable (_ ∧ _))
/-! ### Whoever is ahead -/

/-! ### No pair comes twice -/
/-! ### The nearest one -/
def pairT (f : List Pt) (t : Int × Int) (k : Nat) : Prop := (spot f t k).2 = 0 ∧ (spot f t (k + 1)).2 = 0 ∧ (gapD f t k (k + 1)).2 = 0
instance (f : List Pt) (t : Int × Int) (k : Nat) : Decidable (pairT f t k) := inferInstanceAs (Decidable (_ ∧ _))
/-! ### All within a distance -/
end Go.Proofs.YtkemdpobjaiolaaGreat
end
