/- The engine, parts CL, CE, put together. Conditions: none. -/
import Derived.Test.YtkemdpobjaiolaaGreatPQ1
import Derived.Test.YtkemdpobjaiolaaGreatPN2
set_option linter.unusedVariables false
section
/- At a time that is asked for all places and distances are told; the distance of two points, whoever is ahead. Conditions: none. -/
set_option maxRecDepth 100000
open Go Go.Eng Go.Proofs
namespace Go.Proofs.YtkemdpobjaiolaaGreat

def askedR (t : Int × Int) : Prop := okR t ∧ -1073741824 ≤ t.1 ∧ t.1 ≤ 1073741824 ∧ t.2 ≤ 1024
instance (t : Int × Int) : Decidable (askedR t) := inferInstanceAs (Decidable (_ ∧ _))
/-! ### Whoever is ahead -/

/-! ### No pair comes twice -/
/-! ### The nearest one -/
def pairT (f : List Pt) (t : Int × Int) (k : Nat) : Prop := (spot f t k).2 = 0 ∧ (spot f t (k + 1)).2 = 0 ∧ (gapD f t k (k + 1)).2 = 0
instance (f : List Pt) (t : Int × Int) (k : Nat) : Decidable (pairT f t k) := inferInstanceAs (Decidable (_ ∧ _))
def pairN (f : List Pt) (t : Int × Int) (k : Nat) : Pr × Int := if pairT f t k then (prM f t k (k + 1), 0) else (zPr, 16)
def nearer (f : List Pt) (t : Int × Int) (i : Nat) : Pr := if cmpR (prM f t i (i + 1)).2.2 (prM f t (i - 1) i).2.2 < 0 ∨ (cmpR (prM f t i (i + 1)).2.2 (prM f t (i - 1) i).2.2 = 0 ∧ (sP f t (i + 1)).1 < (sP f t (i - 1)).1) then prM f t i (i + 1) else prM f t (i - 1) i
def nearI (f : List Pt) (t : Int × Int) (i : Nat) : Pr × Int :=
  if i = 0 then pairN f t 0 else if i + 1 = f.length then pairN f t (i - 1) else if pairT f t (i - 1) ∧ pairT f t i then (nearer f t i, 0) else (zPr, 16)
def nearestM (l : Ls) (id : Int) : Pr × Int := if (kRankM l id).2 ≠ 0 then (zPr, (kRankM l id).2) else if l.ord.length < 2 then (zPr, 42) else nearI l.ck.f l.ck.now (kRankM l id).1.toNat

/-! ### All within a distance -/
end Go.Proofs.YtkemdpobjaiolaaGreat
end
