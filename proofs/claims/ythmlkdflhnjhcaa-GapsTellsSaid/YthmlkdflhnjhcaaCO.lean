/- Certificates, fields, times and agendas that came in. Conditions: none. -/
import Derived.Test.YthmlkdflhnjhcaaSO
import Derived.Test.YthmlkdflhnjhcaaP3
import Derived.Test.YthmlkdflhnjhcaaFs
set_option linter.unusedVariables false
set_option maxRecDepth 100000
open Go Go.Eng Go.Proofs
open Go.ChangeShapes Go.WideShapes Go.Deep Go.RowKit
namespace Go.Proofs.Ythmlkdflhnjhcaa
theorem ftRatio : flatT Try.prog 9 T.api_Ratio = [2, 2] := by kernel_rfl
theorem ftEvent : flatT Try.prog 9 T.api_Event = [2, 2, 3, 3, 3] := by kernel_rfl
theorem ftAgenda : flatT Try.prog 9 T.api_Agenda = [23, 60, 23, 63, 23] := by kernel_rfl
section
variable {H : Type} {enc : TypeId × Value → H} {w : World} {base : Nat} {spare : Nat → Bool} {held : Bool} {r : Reach} {b0 : Nat} {v c : Value} {d : DataW H} {p : List MemPlace}

/-- The numbers of an event are ints. -/
def fitE (x : Ev) : Prop := fitR x.at_ ∧ inI x.no ∧ inI x.h.1 ∧ inI x.h.2
theorem flatE {cs : List Value} (h : All2 (Lf enc Try.prog w base spare held) (flatT Try.prog 9 T.api_Event) cs) : ∃ x : Ev, cs = fE x ∧ fitE x := by
  have a0 := h; rw [ftEvent] at a0
  obtain ⟨c1, cs1, rfl, h1, a1⟩ := a0.c
  obtain ⟨n1, rfl, q1⟩ := h1.i64 Try.underlying2
  obtain ⟨c2, cs2, rfl, h2, a2⟩ := a1.c
  obtain ⟨n2, rfl, q2⟩ := h2.i64 Try.underlying2
  obtain ⟨c3, cs3, rfl, h3, a3⟩ := a2.c
  obtain ⟨n3, rfl, q3⟩ := h3.i64 Try.underlying3
  obtain ⟨c4, cs4, rfl, h4, a4⟩ := a3.c
  obtain ⟨n4, rfl, q4⟩ := h4.i64 Try.underlying3
  obtain ⟨c5, cs5, rfl, h5, a5⟩ := a4.c
  obtain ⟨n5, rfl, q5⟩ := h5.i64 Try.underlying3
  have e := a5.n; subst e
  exact ⟨⟨(n1, n2), n3, (n4, n5)⟩, rfl, ⟨q1, q2⟩, q3, q4, q5⟩

theorem lfEvents (h : Lf enc Try.prog w base spare held T.s_api_Event c) : ∃ (u : Slc) (xs : List Ev), c = u.v ∧ Rd 5 fE (HW w) u xs ∧ (∀ x ∈ xs, fitE x) ∧ xs.length ≤ 9223372036854775807 :=
  h.slice (k := 5) (f := fE) Try.underlying63 (by kernel_rfl) (by kernel_rfl) fun _ => flatE

theorem openRatio (hv : Value.okWide Try.prog w r b0 T.api_Ratio v) (h : DataW.Trod enc Try.prog w base spare held T.api_Ratio v d p) : ∃ x : Int × Int, v = .agg #[.int .i64 x.1, .int .i64 x.2] ∧ fitR x := by
  obtain ⟨cs, rfl, a0⟩ := open_flat Try.underlying52 (by kernel_rfl) hv h
  rw [ftRatio] at a0
  obtain ⟨c1, cs1, rfl, h1, a1⟩ := a0.c
  obtain ⟨n, rfl, hn⟩ := h1.i64 Try.underlying2
  obtain ⟨c2, cs2, rfl, h2, a2⟩ := a1.c
  obtain ⟨m, rfl, hm⟩ := h2.i64 Try.underlying2
  have e := a2.n; subst e
  exact ⟨(n, m), rfl, hn, hm⟩
theorem openPair31 (hv : Value.okWide Try.prog w r b0 T.api_Handle v) (h : DataW.Trod enc Try.prog w base spare held T.api_Handle v d p) : ∃ x : Int × Int, v = .agg #[.int .i64 x.1, .int .i64 x.2] ∧ fitR x := by
  obtain ⟨i, u, hv, hi, hu⟩ := openHandle hv h
  exact ⟨(i, u), hv, hi, hu⟩

/-- The numbers of a store are ints. -/
def fitC (c : Ct) : Prop := inI c.next ∧ (∀ x ∈ c.list, inI x.1 ∧ inI x.2.1 ∧ inI x.2.2) ∧ c.list.length ≤ 9223372036854775807
/-- The numbers of points are ints. -/
def fitF (f : List (Int × Int × Int)) : Prop := (∀ x ∈ f, inI x.1 ∧ inI x.2.1 ∧ inI x.2.2) ∧ f.length ≤ 9223372036854775807
end
end Go.Proofs.Ythmlkdflhnjhcaa
