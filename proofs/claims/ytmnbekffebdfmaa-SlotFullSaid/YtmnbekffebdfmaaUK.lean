/- Pairs of ints in slices. Conditions: none. -/
import Derived.Test.YtmnbekffebdfmaaTabL
set_option linter.unusedVariables false
namespace Go.Eng
/-- A handle, or another pair of ints. -/
def fH (x : Int × Int) : List Value := [.int .i64 x.1, .int .i64 x.2]
section
variable {H H' : Hp} {u : Slc} {xs : List (Int × Int)} {i : Int}
theorem getX {α : Type} {xs : List α} {i : Int} {d : α} (h0 : 0 ≤ i) (h1 : i < xs.length) : xs[i.toNat]? = some (xs.getD i.toNat d) := by
  have : i.toNat < xs.length := by omega
  simp [List.getD, this]
theorem Rd.gH (h : Rd 2 fH H u xs) (h0 : 0 ≤ i) (h1 : i < xs.length) : H.at (eaddr u.a 2 i) = some (.int .i64 (xs.getD i.toNat (0, 0)).1) ∧ H.at ((eaddr u.a 2 i).add 1) = some (.int .i64 (xs.getD i.toNat (0, 0)).2) :=
  ⟨h.at0 h0 (getX h0 h1) rfl, h.atj h0 (getX h0 h1) (j := 1) rfl⟩
theorem Rd.ldH {Q : Int → Int → Prop} (h : Rd 2 fH H u xs) (h0 : 0 ≤ i) (h1 : i < xs.length) (q : Q (xs.getD i.toNat (0, 0)).1 (xs.getD i.toNat (0, 0)).2) :
    inSl u.a u.n i ∧ ∃ n m, (H.at (eaddr u.a 2 i) = some (.int .i64 n) ∧ H.at ((eaddr u.a 2 i).add 1) = some (.int .i64 m)) ∧ Q n m := ⟨h.inS h0 h1, _, _, h.gH h0 h1, q⟩
theorem Mine.rdH {e : TypeId} {H0 H : Hp} {u : Slc} {xs : List (Int × Int)} (h : Mine 2 fH e H0 H u xs) : Rd 2 fH H u xs := Mine.rd (k := 2) (f := fH) (fun _ => rfl) h
end
/-- A table that stands apart from a slice. -/
def SepT (a b c u : Slc) : Prop := Sep a u ∧ Sep b u ∧ Sep c u
def OldT (H : Hp) (a b c : Slc) : Prop := Old H a ∧ Old H b ∧ Old H c
theorem NewT.old {H0 H : Hp} {a b c : Slc} {t : Tb} (h : NewT H0 H a b c t) : OldT H a b c := ⟨h.uses.isOld, h.used.isOld, h.free.isOld⟩
theorem OldT.le {H H' : Hp} {a b c : Slc} (h : OldT H a b c) (hl : Hp.le H H') : OldT H' a b c := ⟨h.1.le hl, h.2.1.le hl, h.2.2.le hl⟩
theorem SepT.ext {H : Hp} {a b c u u' : Slc} (h : SepT a b c u) (ho : OldT H a b c) (he : Ext H u u') : SepT a b c u' :=
  ⟨(h.1.symm.ext ho.1 he).symm, (h.2.1.symm.ext ho.2.1 he).symm, (h.2.2.symm.ext ho.2.2 he).symm⟩
theorem Old.chg {H H' : Hp} {u v : Slc} (h : Old H u) (hc : Chg H H' v) (hs : Sep u v) : Old H' u := fun p hp => by
  rw [hc _ (h p hp) fun q hq e => hs p q hp hq e.symm]; exact h p hp
theorem OldT.chg {H H' : Hp} {a b c v : Slc} (h : OldT H a b c) (hc : Chg H H' v) (hs : SepT a b c v) : OldT H' a b c := ⟨h.1.chg hc hs.1, h.2.1.chg hc hs.2.1, h.2.2.chg hc hs.2.2⟩
theorem Chg.new {H H2 H' : Hp} {u : Slc} {b : Nat} {o : Obj} (h : Chg H2 H' u) (hb : H b = none) (hH : H2 = H.put b o) : Chg H H' u := fun c hc hn => by
  subst hH
  have hne : c ≠ b := fun e => by subst e; exact hc hb
  rw [h c (by rw [Hp.put_ne _ _ hne]; exact hc) hn, Hp.put_ne _ _ hne]
end Go.Eng
