/- The law CloseLeast. Conditions: none. -/
import Derived.Test.YtkemdpobjaiolaaGreatPQ5
import Derived.Test.YtkemdpobjaiolaaGreatPQ2
import Derived.Test.YtkemdpobjaiolaaGreatVgLCloseLeast
import Derived.Test.YtkemdpobjaiolaaGreatFs
set_option linter.unusedVariables false
set_option maxRecDepth 100000
open Go Go.Eng Go.Proofs
namespace Go.Proofs.YtkemdpobjaiolaaGreat

def pG (f : List Pt) (x : Nat) : Pt := f.getD x (0, 0, 0)
theorem pG_get {f : List Pt} {x : Nat} (h : x < f.length) : f[x]? = some (pG f x) := by
  unfold pG; rw [List.getD_eq_getElem?_getD, List.getElem?_eq_getElem h]; rfl
theorem pG_mem {f : List Pt} {x : Nat} (h : x < f.length) : pG f x ∈ f := List.mem_of_getElem? (pG_get h)
theorem place_okR {p : Pt} {t : Int × Int} (op : okP p) (ot : okR t) (h : (placeM p t).2 = 0) : okR (placeM p t).1 := by
  rw [placeM_ok op ot] at h ⊢; exact (overM_eq ot.d1 h).choose_spec.2.2.2
end Go.Proofs.YtkemdpobjaiolaaGreat
