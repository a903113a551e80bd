/- Lists of times that came in. Conditions: none. -/
import Derived.Test.YtmnbekffebdfmaaAO
import Derived.Test.YtmnbekffebdfmaaFs
set_option linter.unusedVariables false
set_option maxRecDepth 100000
open Go Go.Eng Go.Proofs
open Go.ChangeShapes Go.WideShapes Go.Deep Go.RowKit
namespace Go.Proofs.Ytmnbekffebdfmaa
section
variable {H : Type} {enc : TypeId × Value → H} {w : World} {base : Nat} {spare : Nat → Bool} {held : Bool} {r : Reach} {b0 : Nat} {v c : Value} {d : DataW H} {p : List MemPlace}
theorem flatR {cs : List Value} (h : All2 (Lf enc Try.prog w base spare held) (flatT Try.prog 9 T.api_Ratio) cs) : ∃ x : Int × Int, cs = fH x ∧ fitR x := by
  have a0 := h; rw [ftRatio] at a0
  obtain ⟨c1, cs1, rfl, h1, a1⟩ := a0.c
  obtain ⟨n1, rfl, q1⟩ := h1.i64 Try.underlying2
  obtain ⟨c2, cs2, rfl, h2, a2⟩ := a1.c
  obtain ⟨n2, rfl, q2⟩ := h2.i64 Try.underlying2
  have e := a2.n; subst e
  exact ⟨(n1, n2), rfl, q1, q2⟩
theorem lfRatios (h : Lf enc Try.prog w base spare held T.s_api_Ratio c) : ∃ (u : Slc) (xs : List (Int × Int)), c = u.v ∧ Rd 2 fH (HW w) u xs ∧ (∀ x ∈ xs, fitR x) ∧ xs.length ≤ 9223372036854775807 :=
  h.slice (k := 2) (f := fH) Try.underlying156 (by kernel_rfl) (by kernel_rfl) fun _ => flatR
theorem openRatios (hv : Value.okWide Try.prog w r b0 T.s_api_Ratio v) (h : DataW.Trod enc Try.prog w base spare held T.s_api_Ratio v d p) : ∃ (u : Slc) (xs : List (Int × Int)), v = u.v ∧ Rd 2 fH (HW w) u xs ∧ (∀ x ∈ xs, fitR x) ∧ xs.length ≤ 9223372036854775807 := by
  obtain ⟨a, n, c, rfl⟩ := okWide_slice Try.underlying156 hv
  obtain ⟨m, hm⟩ := h
  exact lfRatios ⟨m, (d, p), by simpa [Value.cells] using hm⟩

end
end Go.Proofs.Ytmnbekffebdfmaa
