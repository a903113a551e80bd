/- Clocks that came in. Conditions: none. -/
import Derived.Test.YtodmhdfenpkbdaaGreatAO
import Derived.Test.YtodmhdfenpkbdaaGreatPL2
set_option linter.unusedVariables false
set_option maxRecDepth 100000
open Go Go.Eng Go.Proofs
open Go.ChangeShapes Go.WideShapes Go.Deep Go.RowKit
namespace Go.Proofs.YtodmhdfenpkbdaaGreat
theorem ftClock : flatT Tryz.prog 9 T.api_Clock = [2, 2, 24, 3, 27, 30, 31, 30, 34, 30, 37] := by kernel_rfl
theorem ftDue : flatT Tryz.prog 9 T.api_Due = [3, 3, 3] := by kernel_rfl
section
variable {H : Type} {enc : TypeId × Value → H} {w : World} {base : Nat} {spare : Nat → Bool} {held : Bool} {r : Reach} {b0 : Nat} {v c : Value} {d : DataW H} {p : List MemPlace}
theorem flatDue {cs : List Value} (h : All2 (Lf enc Tryz.prog w base spare held) (flatT Tryz.prog 9 T.api_Due) cs) : ∃ x : Int × Int × Int, cs = fD x ∧ (inI x.1 ∧ inI x.2.1 ∧ inI x.2.2) := by
  have a0 := h; rw [ftDue] at a0
  obtain ⟨c1, cs1, rfl, h1, a1⟩ := a0.c
  obtain ⟨n, rfl, hn⟩ := h1.i64 Tryz.underlying3
  obtain ⟨c2, cs2, rfl, h2, a2⟩ := a1.c
  obtain ⟨m, rfl, hm⟩ := h2.i64 Tryz.underlying3
  obtain ⟨c3, cs3, rfl, h3, a3⟩ := a2.c
  obtain ⟨l, rfl, hl⟩ := h3.i64 Tryz.underlying3
  have e := a3.n; subst e
  exact ⟨(n, m, l), rfl, hn, hm, hl⟩
theorem lfDues (h : Lf enc Tryz.prog w base spare held T.s_api_Due c) : ∃ (u : Slc) (xs : List (Int × Int × Int)), c = u.v ∧ Rd 3 fD (HW w) u xs ∧ (∀ x ∈ xs, inI x.1 ∧ inI x.2.1 ∧ inI x.2.2) ∧ xs.length ≤ 9223372036854775807 :=
  h.slice (k := 3) (f := fD) Tryz.underlying37 (by kernel_rfl) (by kernel_rfl) fun _ => flatDue
theorem openClock (hv : Value.okWide Tryz.prog w r b0 T.api_Clock v) (h : DataW.Trod enc Tryz.prog w base spare held T.api_Clock v d p) : ∃ (u : Cu) (c : Ck), v = ckV u c ∧ RdK (HW w) u c ∧ fitR c.now ∧ ∀ x ∈ c.ag.heap, fitR x.at_ := by
  obtain ⟨cs, rfl, a0⟩ := open_flat Tryz.underlying39 (by kernel_rfl) hv h
  rw [ftClock] at a0
  obtain ⟨c1, cs1, rfl, h1, a1⟩ := a0.c
  obtain ⟨n1, rfl, q1⟩ := h1.i64 Tryz.underlying2
  obtain ⟨c2, cs2, rfl, h2, a2⟩ := a1.c
  obtain ⟨n2, rfl, q2⟩ := h2.i64 Tryz.underlying2
  obtain ⟨c3, cs3, rfl, h3, a3⟩ := a2.c
  obtain ⟨uf, fs, rfl, rf, _, _⟩ := lfPoints h3
  obtain ⟨c4, cs4, rfl, h4, a4⟩ := a3.c
  obtain ⟨nx, rfl, _⟩ := h4.i64 Tryz.underlying3
  obtain ⟨c5, cs5, rfl, h5, a5⟩ := a4.c
  obtain ⟨ul, ls, rfl, rl, _, _⟩ := lfHelds h5
  obtain ⟨c6, cs6, rfl, h6, a6⟩ := a5.c
  obtain ⟨u1, xs, rfl, r1, _, _⟩ := lfInts h6
  obtain ⟨c7, cs7, rfl, h7, a7⟩ := a6.c
  obtain ⟨u2, ys, rfl, r2, _, _⟩ := lfBools h7
  obtain ⟨c8, cs8, rfl, h8, a8⟩ := a7.c
  obtain ⟨u3, zs, rfl, r3, _, _⟩ := lfInts h8
  obtain ⟨c9, cs9, rfl, h9, a9⟩ := a8.c
  obtain ⟨u4, es, rfl, r4, g4, _⟩ := lfEvents h9
  obtain ⟨c10, cs10, rfl, h10, a10⟩ := a9.c
  obtain ⟨u5, ws, rfl, r5, _, _⟩ := lfInts h10
  obtain ⟨c11, cs11, rfl, h11, a11⟩ := a10.c
  obtain ⟨ud, ds, rfl, rd, _, _⟩ := lfDues h11
  have e := a11.n; subst e
  exact ⟨⟨uf, ul, u1, u2, u3, u4, u5, ud⟩, ⟨(n1, n2), fs, ⟨nx, ls⟩, ⟨⟨xs, ys, zs⟩, es, ws⟩, ds⟩, rfl, ⟨rf, rl, ⟨⟨r1, r2, r3⟩, r4, r5⟩, rd⟩, ⟨q1, q2⟩, fun x hx => (g4 x hx).1⟩
end
end Go.Proofs.YtodmhdfenpkbdaaGreat
