/- Points put into a field, taken out, changed, in plain Lean; what becomes of the order. Conditions: none. -/
import Derived.Test.YtkemdpobjaiolaaGreatPN2
import Derived.Test.YtkemdpobjaiolaaGreatPQ1
set_option linter.unusedVariables false
set_option maxRecDepth 100000
open Go Go.Eng Go.Proofs
namespace Go.Proofs.YtkemdpobjaiolaaGreat

theorem posF_no {f : List Pt} {id : Int} (h : posF f id < 0) : ∀ q ∈ f, q.1 ≠ id := fun q hq e => by
  have := idx_out h q hq
  simp at this
  exact this e
theorem posF_yes {f : List Pt} {q : Pt} (hq : q ∈ f) : 0 ≤ posF f q.1 := by
  rcases Int.lt_or_le (posF f q.1) 0 with h | h
  · exact absurd rfl (posF_no h q hq)
  · exact h
/-! ### The order -/
end Go.Proofs.YtkemdpobjaiolaaGreat
