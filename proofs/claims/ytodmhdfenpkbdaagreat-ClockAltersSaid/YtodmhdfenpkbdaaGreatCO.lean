/- Certificates, fields, times and agendas that came in. Conditions: none. -/
import Derived.Test.YtodmhdfenpkbdaaGreatSO
import Derived.Test.YtodmhdfenpkbdaaGreatP3
set_option linter.unusedVariables false
set_option maxRecDepth 100000
open Go Go.Eng Go.Proofs
open Go.ChangeShapes Go.WideShapes Go.Deep Go.RowKit
namespace Go.Proofs.YtodmhdfenpkbdaaGreat
theorem ftCert : flatT Tryz.prog 9 T.api_Cert = [3, 3] := by kernel_rfl
theorem ftHeld : flatT Tryz.prog 9 T.api_Held = [3, 3, 3] := by kernel_rfl
theorem ftRatio : flatT Tryz.prog 9 T.api_Ratio = [2, 2] := by kernel_rfl
theorem ftPoint : flatT Tryz.prog 9 T.api_Point = [3, 2, 2] := by kernel_rfl
theorem ftField : flatT Tryz.prog 9 T.api_Field = [24] := by kernel_rfl
theorem ftEvent : flatT Tryz.prog 9 T.api_Event = [2, 2, 3, 3, 3] := by kernel_rfl
section
variable {H : Type} {enc : TypeId × Value → H} {w : World} {base : Nat} {spare : Nat → Bool} {held : Bool} {r : Reach} {b0 : Nat} {v c : Value} {d : DataW H} {p : List MemPlace}

theorem flatD {cs : List Value} (h : All2 (Lf enc Tryz.prog w base spare held) (flatT Tryz.prog 9 T.api_Held) cs) : ∃ x : Int × Int × Int, cs = fD x ∧ (inI x.1 ∧ inI x.2.1 ∧ inI x.2.2) := by
  have a0 := h; rw [ftHeld] at a0
  obtain ⟨c1, cs1, rfl, h1, a1⟩ := a0.c
  obtain ⟨n, rfl, hn⟩ := h1.i64 Tryz.underlying3
  obtain ⟨c2, cs2, rfl, h2, a2⟩ := a1.c
  obtain ⟨m, rfl, hm⟩ := h2.i64 Tryz.underlying3
  obtain ⟨c3, cs3, rfl, h3, a3⟩ := a2.c
  obtain ⟨l, rfl, hl⟩ := h3.i64 Tryz.underlying3
  have e := a3.n; subst e
  exact ⟨(n, m, l), rfl, hn, hm, hl⟩
theorem flatP {cs : List Value} (h : All2 (Lf enc Tryz.prog w base spare held) (flatT Tryz.prog 9 T.api_Point) cs) : ∃ x : Int × Int × Int, cs = fD x ∧ (inI x.1 ∧ inI x.2.1 ∧ inI x.2.2) := by
  have a0 := h; rw [ftPoint] at a0
  obtain ⟨c1, cs1, rfl, h1, a1⟩ := a0.c
  obtain ⟨n, rfl, hn⟩ := h1.i64 Tryz.underlying3
  obtain ⟨c2, cs2, rfl, h2, a2⟩ := a1.c
  obtain ⟨m, rfl, hm⟩ := h2.i64 Tryz.underlying2
  obtain ⟨c3, cs3, rfl, h3, a3⟩ := a2.c
  obtain ⟨l, rfl, hl⟩ := h3.i64 Tryz.underlying2
  have e := a3.n; subst e
  exact ⟨(n, m, l), rfl, hn, hm, hl⟩
/-- The numbers of an event are ints. -/
def fitE (x : Ev) : Prop := fitR x.at_ ∧ inI x.no ∧ inI x.h.1 ∧ inI x.h.2
theorem flatE {cs : List Value} (h : All2 (Lf enc Tryz.prog w base spare held) (flatT Tryz.prog 9 T.api_Event) cs) : ∃ x : Ev, cs = fE x ∧ fitE x := by
  have a0 := h; rw [ftEvent] at a0
  obtain ⟨c1, cs1, rfl, h1, a1⟩ := a0.c
  obtain ⟨n1, rfl, q1⟩ := h1.i64 Tryz.underlying2
  obtain ⟨c2, cs2, rfl, h2, a2⟩ := a1.c
  obtain ⟨n2, rfl, q2⟩ := h2.i64 Tryz.underlying2
  obtain ⟨c3, cs3, rfl, h3, a3⟩ := a2.c
  obtain ⟨n3, rfl, q3⟩ := h3.i64 Tryz.underlying3
  obtain ⟨c4, cs4, rfl, h4, a4⟩ := a3.c
  obtain ⟨n4, rfl, q4⟩ := h4.i64 Tryz.underlying3
  obtain ⟨c5, cs5, rfl, h5, a5⟩ := a4.c
  obtain ⟨n5, rfl, q5⟩ := h5.i64 Tryz.underlying3
  have e := a5.n; subst e
  exact ⟨⟨(n1, n2), n3, (n4, n5)⟩, rfl, ⟨q1, q2⟩, q3, q4, q5⟩

theorem lfHelds (h : Lf enc Tryz.prog w base spare held T.s_api_Held c) : ∃ (u : Slc) (xs : List (Int × Int × Int)), c = u.v ∧ Rd 3 fD (HW w) u xs ∧ (∀ x ∈ xs, inI x.1 ∧ inI x.2.1 ∧ inI x.2.2) ∧ xs.length ≤ 9223372036854775807 :=
  h.slice (k := 3) (f := fD) Tryz.underlying27 (by kernel_rfl) (by kernel_rfl) fun _ => flatD
theorem lfPoints (h : Lf enc Tryz.prog w base spare held T.s_api_Point c) : ∃ (u : Slc) (xs : List (Int × Int × Int)), c = u.v ∧ Rd 3 fD (HW w) u xs ∧ (∀ x ∈ xs, inI x.1 ∧ inI x.2.1 ∧ inI x.2.2) ∧ xs.length ≤ 9223372036854775807 :=
  h.slice (k := 3) (f := fD) Tryz.underlying24 (by kernel_rfl) (by kernel_rfl) fun _ => flatP
theorem lfEvents (h : Lf enc Tryz.prog w base spare held T.s_api_Event c) : ∃ (u : Slc) (xs : List Ev), c = u.v ∧ Rd 5 fE (HW w) u xs ∧ (∀ x ∈ xs, fitE x) ∧ xs.length ≤ 9223372036854775807 :=
  h.slice (k := 5) (f := fE) Tryz.underlying34 (by kernel_rfl) (by kernel_rfl) fun _ => flatE

theorem openCert (hv : Value.okWide Tryz.prog w r b0 T.api_Cert v) (h : DataW.Trod enc Tryz.prog w base spare held T.api_Cert v d p) : ∃ x : Int × Int, v = .agg #[.int .i64 x.1, .int .i64 x.2] ∧ inI x.1 ∧ inI x.2 := by
  obtain ⟨cs, rfl, a0⟩ := open_flat Tryz.underlying49 (by kernel_rfl) hv h
  rw [ftCert] at a0
  obtain ⟨c1, cs1, rfl, h1, a1⟩ := a0.c
  obtain ⟨n, rfl, hn⟩ := h1.i64 Tryz.underlying3
  obtain ⟨c2, cs2, rfl, h2, a2⟩ := a1.c
  obtain ⟨m, rfl, hm⟩ := h2.i64 Tryz.underlying3
  have e := a2.n; subst e
  exact ⟨(n, m), rfl, hn, hm⟩
theorem openRatio (hv : Value.okWide Tryz.prog w r b0 T.api_Ratio v) (h : DataW.Trod enc Tryz.prog w base spare held T.api_Ratio v d p) : ∃ x : Int × Int, v = .agg #[.int .i64 x.1, .int .i64 x.2] ∧ fitR x := by
  obtain ⟨cs, rfl, a0⟩ := open_flat Tryz.underlying23 (by kernel_rfl) hv h
  rw [ftRatio] at a0
  obtain ⟨c1, cs1, rfl, h1, a1⟩ := a0.c
  obtain ⟨n, rfl, hn⟩ := h1.i64 Tryz.underlying2
  obtain ⟨c2, cs2, rfl, h2, a2⟩ := a1.c
  obtain ⟨m, rfl, hm⟩ := h2.i64 Tryz.underlying2
  have e := a2.n; subst e
  exact ⟨(n, m), rfl, hn, hm⟩
/-- The numbers of points are ints. -/
def fitF (f : List (Int × Int × Int)) : Prop := (∀ x ∈ f, inI x.1 ∧ inI x.2.1 ∧ inI x.2.2) ∧ f.length ≤ 9223372036854775807
theorem openField (hv : Value.okWide Tryz.prog w r b0 T.api_Field v) (h : DataW.Trod enc Tryz.prog w base spare held T.api_Field v d p) : ∃ (u : Slc) (f : List (Int × Int × Int)), v = .agg #[u.v] ∧ Rd 3 fD (HW w) u f ∧ fitF f := by
  obtain ⟨cs, rfl, a0⟩ := open_flat Tryz.underlying26 (by kernel_rfl) hv h
  rw [ftField] at a0
  obtain ⟨c1, cs1, rfl, h1, a1⟩ := a0.c
  obtain ⟨u, xs, rfl, hr, hx, hl⟩ := lfPoints h1
  have e := a1.n; subst e
  exact ⟨u, xs, rfl, hr, hx, hl⟩
end
end Go.Proofs.YtodmhdfenpkbdaaGreat
