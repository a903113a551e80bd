/- Tables and handles that came in. Conditions: none. -/
import Derived.Test.YtodmhdfenpkbdaaGreatP2
import Derived.Test.YtodmhdfenpkbdaaGreatBri
set_option linter.unusedVariables false
set_option maxRecDepth 100000
open Go Go.Eng Go.Proofs
open Go.ChangeShapes Go.WideShapes Go.Deep Go.RowKit
namespace Go.Proofs.YtodmhdfenpkbdaaGreat
theorem ft3 : flatT Tryz.prog 9 3 = [3] := by kernel_rfl
theorem ft4 : flatT Tryz.prog 9 4 = [4] := by kernel_rfl
section
variable {H : Type} {enc : TypeId × Value → H} {w : World} {base : Nat} {spare : Nat → Bool} {held : Bool} {r : Reach} {b0 : Nat} {v c : Value} {d : DataW H} {p : List MemPlace}

theorem flatI {cs : List Value} (h : All2 (Lf enc Tryz.prog w base spare held) (flatT Tryz.prog 9 3) cs) : ∃ x, cs = fI x ∧ inI x := by
  have a0 := h; rw [ft3] at a0
  obtain ⟨c1, cs1, rfl, h1, a1⟩ := a0.c
  obtain ⟨n, rfl, hn⟩ := h1.i64 Tryz.underlying3
  have e := a1.n; subst e
  exact ⟨n, rfl, hn⟩
theorem flatB {cs : List Value} (h : All2 (Lf enc Tryz.prog w base spare held) (flatT Tryz.prog 9 4) cs) : ∃ x, cs = fB x ∧ True := by
  have a0 := h; rw [ft4] at a0
  obtain ⟨c1, cs1, rfl, h1, a1⟩ := a0.c
  obtain ⟨n, rfl⟩ := h1.bool Tryz.underlying4
  have e := a1.n; subst e
  exact ⟨n, rfl, trivial⟩
theorem lfInts (h : Lf enc Tryz.prog w base spare held 30 c) : ∃ (u : Slc) (xs : List Int), c = u.v ∧ RdI (HW w) u xs ∧ (∀ x ∈ xs, inI x) ∧ xs.length ≤ 9223372036854775807 :=
  h.slice (k := 1) (f := fI) Tryz.underlying30 (by kernel_rfl) (by kernel_rfl) fun _ => flatI
theorem lfBools (h : Lf enc Tryz.prog w base spare held 31 c) : ∃ (u : Slc) (xs : List Bool), c = u.v ∧ RdB (HW w) u xs ∧ (∀ x ∈ xs, True) ∧ xs.length ≤ 9223372036854775807 :=
  h.slice (k := 1) (f := fB) Tryz.underlying31 (by kernel_rfl) (by kernel_rfl) fun _ => flatB

theorem openInt (hv : Value.okWide Tryz.prog w r b0 3 v) (h : DataW.Trod enc Tryz.prog w base spare held 3 v d p) : ∃ n, v = .int .i64 n ∧ inI n := by
  obtain ⟨n, rfl, _, _, hw⟩ := open_int Tryz.underlying3 hv h
  have hb : -9223372036854775808 ≤ n ∧ n ≤ 9223372036854775807 := bounds_i64 hw
  exact ⟨n, rfl, hb⟩

end
end Go.Proofs.YtodmhdfenpkbdaaGreat
