/- Blocks that are laid down whole. Conditions: none. -/
import Derived.Test.YtmnbekffebdfmaaUK
set_option linter.unusedVariables false
namespace Go.Eng
theorem rdConst {α : Type} {k : Nat} {f : α → List Value} {e : TypeId} {H H' : Hp} {b : Nat} {xs : List α} {cs : Array Value} {n : Nat} (hk : ∀ x, (f x).length = k) (h : H' = H.put b (.cells cs e (0, 0))) (hc : cs = (xs.flatMap f).toArray) (hn : n = xs.length) :
    Rd k f H' ⟨some ⟨b, 0, none⟩, n, n⟩ xs := by
  subst h; subst hc; subst hn
  refine Own.rd (e := e) (b := b) hk ⟨rfl, Nat.le_refl _, rfl, _, Hp.put_same _ _ _, ?_, ?_⟩
  · rw [List.size_toArray, flatMap_len hk]
  · rw [List.take_of_length_le (by simp only [flatMap_len hk]; exact Nat.le_refl _)]
/-- Three slices in a row. -/
def fS (x : Slc × Slc × Slc) : List Value := [x.1.v, x.2.1.v, x.2.2.v]
theorem Rd.gS {H : Hp} {u : Slc} {xs : List (Slc × Slc × Slc)} {i : Int} {x : Slc × Slc × Slc} (h : Rd 3 fS H u xs) (h0 : 0 ≤ i) (hx : xs[i.toNat]? = some x) :
    H.at (eaddr u.a 3 i) = some x.1.v ∧ H.at ((eaddr u.a 3 i).add 1) = some x.2.1.v ∧ H.at ((eaddr u.a 3 i).add 2) = some x.2.2.v :=
  ⟨h.at0 h0 hx rfl, h.atj h0 hx (j := 1) rfl, h.atj h0 hx (j := 2) rfl⟩
theorem RdI.none {H : Hp} : RdI H ⟨none, 0, 0⟩ [] := Rd.nil
theorem RdB.none {H : Hp} : RdB H ⟨none, 0, 0⟩ [] := Rd.nil
end Go.Eng
