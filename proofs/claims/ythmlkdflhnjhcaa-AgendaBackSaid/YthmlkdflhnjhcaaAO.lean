/- Agendas that came in. Conditions: none. -/
import Derived.Test.YthmlkdflhnjhcaaCO
import Derived.Test.YthmlkdflhnjhcaaG9
import Derived.Test.YthmlkdflhnjhcaaFs
set_option linter.unusedVariables false
set_option maxRecDepth 100000
open Go Go.Eng Go.Proofs
open Go.ChangeShapes Go.WideShapes Go.Deep Go.RowKit
namespace Go.Proofs.Ythmlkdflhnjhcaa
section
variable {H : Type} {enc : TypeId × Value → H} {w : World} {base : Nat} {spare : Nat → Bool} {held : Bool} {r : Reach} {b0 : Nat} {v c : Value} {d : DataW H} {p : List MemPlace}
theorem openAgenda (hv : Value.okWide Try.prog w r b0 T.api_Agenda v) (h : DataW.Trod enc Try.prog w base spare held T.api_Agenda v d p) : ∃ (u1 u2 u3 u4 u5 : Slc) (a : Ag), v = agV u1 u2 u3 u4 u5 ∧ RdA (HW w) u1 u2 u3 u4 u5 a ∧ ∀ x ∈ a.heap, fitR x.at_ := by
  obtain ⟨cs, rfl, a0⟩ := open_flat Try.underlying65 (by kernel_rfl) hv h
  rw [ftAgenda] at a0
  obtain ⟨c1, cs1, rfl, h1, a1⟩ := a0.c
  obtain ⟨u1, xs, rfl, r1, g1, l1⟩ := lfInts h1
  obtain ⟨c2, cs2, rfl, h2, a2⟩ := a1.c
  obtain ⟨u2, ys, rfl, r2, g2, l2⟩ := lfBools h2
  obtain ⟨c3, cs3, rfl, h3, a3⟩ := a2.c
  obtain ⟨u3, zs, rfl, r3, g3, l3⟩ := lfInts h3
  obtain ⟨c4, cs4, rfl, h4, a4⟩ := a3.c
  obtain ⟨u4, es, rfl, r4, g4, l4⟩ := lfEvents h4
  obtain ⟨c5, cs5, rfl, h5, a5⟩ := a4.c
  obtain ⟨u5, ws, rfl, r5, g5, l5⟩ := lfInts h5
  have e := a5.n; subst e
  exact ⟨u1, u2, u3, u4, u5, ⟨⟨xs, ys, zs⟩, es, ws⟩, rfl, ⟨⟨r1, r2, r3⟩, r4, r5⟩, fun x hx => (g4 x hx).1⟩
end
end Go.Proofs.Ythmlkdflhnjhcaa
