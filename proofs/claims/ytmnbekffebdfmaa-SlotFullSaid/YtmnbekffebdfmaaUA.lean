/- What is read through a slice, in a view. Conditions: none. -/
import Derived.Test.YtmnbekffebdfmaaEngT
set_option linter.unusedVariables false
namespace Go.Eng

theorem add_zero' (a : Addr) : a.add 0 = a := by cases a; rfl
theorem add_add (a : Addr) (i j : Nat) : (a.add i).add j = a.add (i + j) := by
  cases a
  simp only [Addr.add]
  by_cases h : i = 0 <;> by_cases h' : j = 0 <;> simp [h, h', Nat.add_assoc]

/-- The slice u, read in H, has the elements xs, each of k cells, as f says. -/
structure Rd {α : Type} (k : Nat) (f : α → List Value) (H : Hp) (u : Slc) (xs : List α) : Prop where
  len : u.n = xs.length
  cap : u.n ≤ u.c
  isS : xs ≠ [] → u.a.isSome = true
  cell : ∀ (i : Nat) (x : α), xs[i]? = some x → ∀ (j : Nat) (v : Value), (f x)[j]? = some v → H.at ((eaddr u.a k i).add j) = some v

section
variable {α : Type} {k : Nat} {f : α → List Value} {H H' : Hp} {u : Slc} {xs : List α}

theorem Rd.le (h : Rd k f H u xs) (hl : Hp.le H H') : Rd k f H' u xs := ⟨h.len, h.cap, h.isS, fun i x hx j v hv => Hp.at_le hl (h.cell i x hx j v hv)⟩

theorem Rd.inS (h : Rd k f H u xs) {i : Int} (h0 : 0 ≤ i) (h1 : i < xs.length) : inSl u.a u.n i := by
  refine ⟨h0, by rw [h.len]; exact h1, h.isS fun e => ?_⟩
  subst e; simp at h1; omega

theorem Rd.inN (h : Rd k f H u xs) {i : Int} (h0 : 0 ≤ i) (h1 : i < u.n) : inSl u.a u.n i := h.inS h0 (by rw [← h.len]; exact h1)

theorem Rd.at0 (h : Rd k f H u xs) {i : Int} (h0 : 0 ≤ i) {x : α} (hx : xs[i.toNat]? = some x) {v : Value} (hv : (f x)[0]? = some v) : H.at (eaddr u.a k i) = some v := by
  have := h.cell i.toNat x hx 0 v hv
  rw [add_zero', Int.toNat_of_nonneg h0] at this; exact this

theorem Rd.atj (h : Rd k f H u xs) {i : Int} (h0 : 0 ≤ i) {x : α} (hx : xs[i.toNat]? = some x) {j : Nat} {v : Value} (hv : (f x)[j]? = some v) : H.at ((eaddr u.a k i).add j) = some v := by
  have := h.cell i.toNat x hx j v hv
  rw [Int.toNat_of_nonneg h0] at this; exact this
end

def fI (x : Int) : List Value := [.int .i64 x]
def fB (x : Bool) : List Value := [.bool x]
abbrev RdI := Rd 1 fI
abbrev RdB := Rd 1 fB

theorem getI {xs : List Int} {i : Int} (h0 : 0 ≤ i) (h1 : i < xs.length) : xs[i.toNat]? = some (xs.getD i.toNat 0) := by
  have : i.toNat < xs.length := by omega
  simp [List.getD, this]
theorem getB {xs : List Bool} {i : Int} (h0 : 0 ≤ i) (h1 : i < xs.length) : xs[i.toNat]? = some (xs.getD i.toNat false) := by
  have : i.toNat < xs.length := by omega
  simp [List.getD, this]

theorem RdI.get {H : Hp} {u : Slc} {xs : List Int} (h : RdI H u xs) {i : Int} (h0 : 0 ≤ i) (h1 : i < xs.length) : H.at (eaddr u.a 1 i) = some (.int .i64 (xs.getD i.toNat 0)) := h.at0 h0 (getI h0 h1) rfl
theorem RdB.get {H : Hp} {u : Slc} {xs : List Bool} (h : RdB H u xs) {i : Int} (h0 : 0 ≤ i) (h1 : i < xs.length) : H.at (eaddr u.a 1 i) = some (.bool (xs.getD i.toNat false)) := h.at0 h0 (getB h0 h1) rfl

/-- A block of cells that may be written, as far as it is in view. -/
def Cel (H : Hp) (b : Nat) (cs : Array Value) (T : TypeId) : Prop := H b = some (.cells cs T (0, 0))

theorem Cel.put {H : Hp} {b : Nat} {cs : Array Value} {T : TypeId} : Cel (H.put b (.cells cs T (0, 0))) b cs T := by simp [Cel]

theorem Cel.at {H : Hp} {b : Nat} {cs : Array Value} {T : TypeId} (h : Cel H b cs T) (i : Nat) : H.at ⟨b, i, none⟩ = cs[i]? := by
  unfold Cel at h; simp [Hp.at, h]

theorem Cel.le {H H' : Hp} {b : Nat} {cs : Array Value} {T : TypeId} (h : Cel H b cs T) (hl : Hp.le H H') : Cel H' b cs T := hl _ _ h

theorem Cel.can {H : Hp} {b : Nat} {cs : Array Value} {T : TypeId} (h : Cel H b cs T) {i : Nat} (hi : i < cs.size) (v : Value) : H.canStore ⟨b, i, none⟩ 0 [v] := by
  refine ⟨⟨cs, T, (0, 0), ?_, rfl, ?_, ?_⟩, trivial⟩
  · exact h
  · simpa [Addr.add] using hi
  · simp

theorem Cel.store {H : Hp} {b : Nat} {cs : Array Value} {T : TypeId} (h : Cel H b cs T) (i : Nat) (v : Value) : H.store ⟨b, i, none⟩ 0 [v] = H.put b (.cells (cs.setIfInBounds i v) T (0, 0)) := by
  unfold Cel at h
  funext k
  simp only [Hp.store, Hp.set1, Hp.put, Addr.add, Nat.add_zero]
  by_cases e : k = b
  · subst e; simp [h]
  · have : Nat.beq k b = false := by
      cases hx : Nat.beq k b with
      | false => rfl
      | true => exact absurd ((Nat.beq_iff _ _).1 hx) e
    simp [this, e]

theorem Hp.put_put (H : Hp) (b : Nat) (o o' : Obj) : (H.put b o).put b o' = H.put b o' := by
  funext k; simp only [Hp.put]; split <;> rfl

/-- A change of one block leaves what is read in others. -/
theorem Hp.at_put {H : Hp} {b : Nat} {o : Obj} {a : Addr} (h : a.block ≠ b) : (H.put b o).at a = H.at a := by
  unfold Hp.at; rw [Hp.put_ne _ _ h]

end Go.Eng
