/- A gap that came in. Conditions: none. -/
import Derived.Test.YthmlkdflhnjhcaaCO
import Derived.Test.YthmlkdflhnjhcaaKC
import Derived.Test.YthmlkdflhnjhcaaFs
set_option linter.unusedVariables false
set_option maxRecDepth 100000
open Go Go.Eng Go.Proofs
open Go.ChangeShapes Go.WideShapes Go.Deep Go.RowKit
namespace Go.Proofs.Ythmlkdflhnjhcaa
theorem ftGap : flatT Try.prog 9 T.api_Gap = [3, 3, 2, 2] := by kernel_rfl
section
variable {H : Type} {enc : TypeId × Value → H} {w : World} {base : Nat} {spare : Nat → Bool} {held : Bool} {r : Reach} {b0 : Nat} {v c : Value} {d : DataW H} {p : List MemPlace}
theorem openGap (hv : Value.okWide Try.prog w r b0 T.api_Gap v) (h : DataW.Trod enc Try.prog w base spare held T.api_Gap v d p) : ∃ g : Gp, v = gpV g ∧ inI g.a := by
  obtain ⟨cs, rfl, a0⟩ := open_flat Try.underlying50 (by kernel_rfl) hv h
  rw [ftGap] at a0
  obtain ⟨c1, cs1, rfl, h1, a1⟩ := a0.c
  obtain ⟨n1, rfl, q1⟩ := h1.i64 Try.underlying3
  obtain ⟨c2, cs2, rfl, h2, a2⟩ := a1.c
  obtain ⟨n2, rfl, q2⟩ := h2.i64 Try.underlying3
  obtain ⟨c3, cs3, rfl, h3, a3⟩ := a2.c
  obtain ⟨n3, rfl, q3⟩ := h3.i64 Try.underlying2
  obtain ⟨c4, cs4, rfl, h4, a4⟩ := a3.c
  obtain ⟨n4, rfl, q4⟩ := h4.i64 Try.underlying2
  have e := a4.n; subst e
  exact ⟨⟨n1, n2, n3, n4⟩, rfl, q3⟩
end
end Go.Proofs.Ythmlkdflhnjhcaa
