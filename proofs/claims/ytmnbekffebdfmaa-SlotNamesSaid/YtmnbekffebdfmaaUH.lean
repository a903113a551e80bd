/- Stores into one's own slices. Conditions: none. -/
import Derived.Test.YtmnbekffebdfmaaUG
set_option linter.unusedVariables false
namespace Go.Eng

theorem Hp.le_put {H H' : Hp} {b : Nat} {o : Obj} (hl : Hp.le H H') (hb : H b = none) : Hp.le H (H'.put b o) := fun k x hk => by
  have : k ≠ b := fun e => by subst e; rw [hb] at hk; cases hk
  rw [Hp.put_ne _ _ this]; exact hl k x hk

theorem setIf_toList (cs : Array Value) (i : Nat) (v : Value) : (cs.setIfInBounds i v).toList = cs.toList.set i v := by simp

section
variable {α : Type} {f : α → List Value} {g : α → Value} {e : TypeId} {H : Hp} {b : Nat} {u : Slc} {xs : List α}

theorem flatMap_one (hf : ∀ x, f x = [g x]) : ∀ xs : List α, xs.flatMap f = xs.map g
  | [] => rfl
  | x :: xs => by rw [List.flatMap_cons, hf, flatMap_one hf xs]; rfl

theorem Own.can (hf : ∀ x, f x = [g x]) (h : Own 1 f e H b u xs) {i : Int} (h0 : 0 ≤ i) (h1 : i < xs.length) (v : Value) : H.canStore (eaddr u.a 1 i) 0 [v] := by
  obtain ⟨o1, o2, o3, cs, o4, o5, o6⟩ := h
  rw [o3]
  simp only [eaddr, Addr.add_lit, Nat.zero_add, Nat.mul_one]
  exact Cel.can (b := b) (cs := cs) (T := e) o4 (by rw [o5]; omega) v

theorem Own.store (hf : ∀ x, f x = [g x]) (h : Own 1 f e H b u xs) {i : Int} (h0 : 0 ≤ i) (h1 : i < xs.length) (y : α) :
    ∃ o, H.store (eaddr u.a 1 i) 0 [g y] = H.put b o ∧ Own 1 f e (H.put b o) b u (xs.set i.toNat y) := by
  obtain ⟨o1, o2, o3, cs, o4, o5, o6⟩ := h
  refine ⟨.cells (cs.setIfInBounds i.toNat (g y)) e (0, 0), ?_, ⟨by simpa using o1, o2, o3, _, Hp.put_same _ _ _, by simpa using o5, ?_⟩⟩
  · rw [o3]
    simp only [eaddr, Addr.add_lit, Nat.zero_add, Nat.mul_one]
    exact Cel.store o4 i.toNat (g y)
  · rw [setIf_toList, List.length_set, Nat.mul_one, List.take_set, flatMap_one hf, List.map_set]
    rw [Nat.mul_one, flatMap_one hf] at o6
    rw [o6]

/-- A slice that was just made. -/
theorem Own.made (hf : ∀ x, f x = [g x]) {n : Int} {z : α} {c : Array Value} (hc : c = (List.replicate n.toNat [g z]).flatten.toArray) : Own 1 f e (H.put b (.cells c e (0, 0))) b ⟨some ⟨b, 0, none⟩, n.toNat, n.toNat⟩ (List.replicate n.toNat z) := by
  subst hc
  have hfl : (List.replicate n.toNat [g z]).flatten = List.replicate n.toNat (g z) := by
    induction n.toNat with
    | zero => rfl
    | succ m ih => rw [List.replicate_succ, List.flatten_cons, ih]; rfl
  refine ⟨by simp, Nat.le_refl _, rfl, _, Hp.put_same _ _ _, by rw [hfl]; simp, ?_⟩
  rw [hfl, flatMap_one hf]
  simp
end

theorem hfI (x : Int) : fI x = [(fun x => Value.int .i64 x) x] := rfl
theorem hfB (x : Bool) : fB x = [(fun x => Value.bool x) x] := rfl

theorem Own.rdI {e : TypeId} {H : Hp} {b : Nat} {u : Slc} {xs : List Int} (h : Own 1 fI e H b u xs) : RdI H u xs := Own.rd (k := 1) (f := fI) (fun _ => rfl) h
theorem Own.rdB {e : TypeId} {H : Hp} {b : Nat} {u : Slc} {xs : List Bool} (h : Own 1 fB e H b u xs) : RdB H u xs := Own.rd (k := 1) (f := fB) (fun _ => rfl) h
theorem Mine.rdI {e : TypeId} {H0 H : Hp} {u : Slc} {xs : List Int} (h : Mine 1 fI e H0 H u xs) : RdI H u xs := Mine.rd (k := 1) (f := fI) (fun _ => rfl) h
theorem Mine.rdB {e : TypeId} {H0 H : Hp} {u : Slc} {xs : List Bool} (h : Mine 1 fB e H0 H u xs) : RdB H u xs := Mine.rd (k := 1) (f := fB) (fun _ => rfl) h
theorem Rd.gI {H : Hp} {u : Slc} {xs : List Int} (h : Rd 1 fI H u xs) {i : Int} (h0 : 0 ≤ i) (h1 : i < xs.length) : H.at (eaddr u.a 1 i) = some (.int .i64 (xs.getD i.toNat 0)) := RdI.get h h0 h1
theorem Rd.gB {H : Hp} {u : Slc} {xs : List Bool} (h : Rd 1 fB H u xs) {i : Int} (h0 : 0 ≤ i) (h1 : i < xs.length) : H.at (eaddr u.a 1 i) = some (.bool (xs.getD i.toNat false)) := RdB.get h h0 h1
end Go.Eng
