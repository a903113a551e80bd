/- Tables and handles that came in. Conditions: none. -/
import Derived.Test.YthmlkdflhnjhcaaP2
import Derived.Test.YthmlkdflhnjhcaaBri
import Derived.Test.YthmlkdflhnjhcaaFs
set_option linter.unusedVariables false
set_option maxRecDepth 100000
open Go Go.Eng Go.Proofs
open Go.ChangeShapes Go.WideShapes Go.Deep Go.RowKit
namespace Go.Proofs.Ythmlkdflhnjhcaa
theorem ft3 : flatT Try.prog 9 3 = [3] := by kernel_rfl
theorem ft4 : flatT Try.prog 9 4 = [4] := by kernel_rfl
theorem ftHandle : flatT Try.prog 9 67 = [3, 3] := by kernel_rfl
theorem ftSlots : flatT Try.prog 9 62 = [23, 60, 23] := by kernel_rfl
section
variable {H : Type} {enc : TypeId × Value → H} {w : World} {base : Nat} {spare : Nat → Bool} {held : Bool} {r : Reach} {b0 : Nat} {v c : Value} {d : DataW H} {p : List MemPlace}

theorem flatI {cs : List Value} (h : All2 (Lf enc Try.prog w base spare held) (flatT Try.prog 9 3) cs) : ∃ x, cs = fI x ∧ inI x := by
  have a0 := h; rw [ft3] at a0
  obtain ⟨c1, cs1, rfl, h1, a1⟩ := a0.c
  obtain ⟨n, rfl, hn⟩ := h1.i64 Try.underlying3
  have e := a1.n; subst e
  exact ⟨n, rfl, hn⟩
theorem flatB {cs : List Value} (h : All2 (Lf enc Try.prog w base spare held) (flatT Try.prog 9 4) cs) : ∃ x, cs = fB x ∧ True := by
  have a0 := h; rw [ft4] at a0
  obtain ⟨c1, cs1, rfl, h1, a1⟩ := a0.c
  obtain ⟨n, rfl⟩ := h1.bool Try.underlying4
  have e := a1.n; subst e
  exact ⟨n, rfl, trivial⟩
theorem lfInts (h : Lf enc Try.prog w base spare held 23 c) : ∃ (u : Slc) (xs : List Int), c = u.v ∧ RdI (HW w) u xs ∧ (∀ x ∈ xs, inI x) ∧ xs.length ≤ 9223372036854775807 :=
  h.slice (k := 1) (f := fI) Try.underlying23 (by kernel_rfl) (by kernel_rfl) fun _ => flatI
theorem lfBools (h : Lf enc Try.prog w base spare held 60 c) : ∃ (u : Slc) (xs : List Bool), c = u.v ∧ RdB (HW w) u xs ∧ (∀ x ∈ xs, True) ∧ xs.length ≤ 9223372036854775807 :=
  h.slice (k := 1) (f := fB) Try.underlying60 (by kernel_rfl) (by kernel_rfl) fun _ => flatB

/-- The numbers of a table are ints. -/
def fitT (t : Tb) : Prop := (∀ x ∈ t.uses, inI x) ∧ (∀ x ∈ t.free, inI x) ∧ t.uses.length ≤ 9223372036854775807 ∧ t.used.length ≤ 9223372036854775807 ∧ t.free.length ≤ 9223372036854775807

theorem openInt (hv : Value.okWide Try.prog w r b0 3 v) (h : DataW.Trod enc Try.prog w base spare held 3 v d p) : ∃ n, v = .int .i64 n ∧ inI n := by
  obtain ⟨n, rfl, _, _, hw⟩ := open_int Try.underlying3 hv h
  have hb : -9223372036854775808 ≤ n ∧ n ≤ 9223372036854775807 := bounds_i64 hw
  exact ⟨n, rfl, hb⟩

theorem openInts (hv : Value.okWide Try.prog w r b0 23 v) (h : DataW.Trod enc Try.prog w base spare held 23 v d p) : ∃ (u : Slc) (xs : List Int), v = u.v ∧ RdI (HW w) u xs ∧ (∀ x ∈ xs, inI x) ∧ xs.length ≤ 9223372036854775807 := by
  obtain ⟨a, n, c, rfl⟩ := okWide_slice Try.underlying23 hv
  obtain ⟨m, hm⟩ := h
  exact lfInts ⟨m, (d, p), by simpa [Value.cells] using hm⟩

theorem openHandle (hv : Value.okWide Try.prog w r b0 67 v) (h : DataW.Trod enc Try.prog w base spare held 67 v d p) : ∃ i u, v = .agg #[.int .i64 i, .int .i64 u] ∧ inI i ∧ inI u := by
  obtain ⟨cs, rfl, a0⟩ := open_flat Try.underlying67 (by kernel_rfl) hv h
  rw [ftHandle] at a0
  obtain ⟨c1, cs1, rfl, h1, a1⟩ := a0.c
  obtain ⟨n, rfl, hn⟩ := h1.i64 Try.underlying3
  obtain ⟨c2, cs2, rfl, h2, a2⟩ := a1.c
  obtain ⟨m, rfl, hm⟩ := h2.i64 Try.underlying3
  have e := a2.n; subst e
  exact ⟨n, m, rfl, hn, hm⟩

theorem openSlots (hv : Value.okWide Try.prog w r b0 62 v) (h : DataW.Trod enc Try.prog w base spare held 62 v d p) : ∃ (u1 u2 u3 : Slc) (t : Tb), v = .agg #[u1.v, u2.v, u3.v] ∧ RdT (HW w) u1 u2 u3 t ∧ fitT t := by
  obtain ⟨cs, rfl, a0⟩ := open_flat Try.underlying62 (by kernel_rfl) hv h
  rw [ftSlots] at a0
  obtain ⟨c1, cs1, rfl, h1, a1⟩ := a0.c
  obtain ⟨u1, xs, rfl, r1, g1, l1⟩ := lfInts h1
  obtain ⟨c2, cs2, rfl, h2, a2⟩ := a1.c
  obtain ⟨u2, ys, rfl, r2, g2, l2⟩ := lfBools h2
  obtain ⟨c3, cs3, rfl, h3, a3⟩ := a2.c
  obtain ⟨u3, zs, rfl, r3, g3, l3⟩ := lfInts h3
  have e := a3.n; subst e
  exact ⟨u1, u2, u3, ⟨xs, ys, zs⟩, rfl, ⟨r1, r2, r3⟩, g1, g3, l1, l2, l3⟩
end
end Go.Proofs.Ythmlkdflhnjhcaa
