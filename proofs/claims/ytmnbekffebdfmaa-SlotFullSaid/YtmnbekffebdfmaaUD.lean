/- Copies of slices. Conditions: none. -/
import Derived.Test.YtmnbekffebdfmaaUC
set_option linter.unusedVariables false
namespace Go.Eng

/-- The slice u has the elements xs and stands alone in block b, which has room for u.c elements; or it is nil or has no room, and no elements. -/
structure Own {α : Type} (k : Nat) (f : α → List Value) (e : TypeId) (H : Hp) (b : Nat) (u : Slc) (xs : List α) : Prop where
  len : u.n = xs.length
  cap : u.n ≤ u.c
  blk : u.a = some ⟨b, 0, none⟩
  cells : ∃ cs : Array Value, H b = some (.cells cs e (0, 0)) ∧ cs.size = u.c * k ∧ cs.toList.take (xs.length * k) = xs.flatMap f

section
variable {α : Type} {k : Nat} {f : α → List Value} {e : TypeId} {H H' : Hp} {b : Nat} {u : Slc} {xs : List α}

theorem flatMap_get (hk : ∀ x, (f x).length = k) : ∀ {xs : List α} {i : Nat} {x : α}, xs[i]? = some x → ∀ {j : Nat} {v : Value}, (f x)[j]? = some v → (xs.flatMap f)[i * k + j]? = some v
  | [], _, _, h, _, _, _ => by simp at h
  | y :: ys, 0, x, h, j, v, hv => by
    simp at h; subst h
    have : j < (f y).length := (List.getElem?_eq_some_iff.1 hv).1
    rw [List.flatMap_cons, Nat.zero_mul, Nat.zero_add, List.getElem?_append_left this]; exact hv
  | y :: ys, i + 1, x, h, j, v, hv => by
    have h' : ys[i]? = some x := by simpa using h
    rw [List.flatMap_cons, List.getElem?_append_right (by rw [hk, Nat.add_mul]; omega), hk]
    have : (i + 1) * k + j - k = i * k + j := by rw [Nat.add_mul]; omega
    rw [this]; exact flatMap_get hk h' hv

theorem flatMap_len (hk : ∀ x, (f x).length = k) (xs : List α) : (xs.flatMap f).length = xs.length * k := by
  induction xs with
  | nil => simp
  | cons x xs ih => rw [List.flatMap_cons, List.length_append, hk, ih, List.length_cons, Nat.add_mul]; omega

theorem Own.rd (hk : ∀ x, (f x).length = k) (h : Own k f e H b u xs) : Rd k f H u xs := by
  obtain ⟨h1, h2, h3, cs, h4, h5, h6⟩ := h
  refine ⟨h1, h2, fun _ => by rw [h3]; rfl, fun i x hx j v hv => ?_⟩
  rw [h3]
  have hg := flatMap_get hk hx hv
  rw [← h6] at hg
  have hlt : i < xs.length := (List.getElem?_eq_some_iff.1 hx).1
  have hjl : j < k := by rw [← hk x]; exact (List.getElem?_eq_some_iff.1 hv).1
  have hb : i * k + j < xs.length * k := by
    calc i * k + j < i * k + k := by omega
      _ = (i + 1) * k := by rw [Nat.add_mul]; omega
      _ ≤ xs.length * k := Nat.mul_le_mul_right _ hlt
  rw [List.getElem?_take, if_pos hb] at hg
  simp only [eaddr, Int.toNat_natCast, Addr.add_lit, Nat.zero_add, Hp.at, h4, Option.isSome_none, Bool.false_eq_true, if_false]
  simpa using hg

theorem Own.le (h : Own k f e H b u xs) (hl : Hp.le H H') : Own k f e H' b u xs := by
  obtain ⟨h1, h2, h3, cs, h4, h5⟩ := h
  exact ⟨h1, h2, h3, cs, hl _ _ h4, h5⟩
end

/-- All cells of what is read. -/
theorem Rd.cells {α : Type} {k : Nat} {f : α → List Value} {H : Hp} {u : Slc} {xs : List α} (hk : ∀ x, (f x).length = k) (hk0 : 0 < k) (h : Rd k f H u xs) {p : Addr} (hp : u.a = some p) :
    ∀ j v, (xs.flatMap f)[j]? = some v → H.at (p.add j) = some v := by
  intro j v hj
  have hlt : j < xs.length * k := by rw [← flatMap_len hk]; exact (List.getElem?_eq_some_iff.1 hj).1
  have hi : j / k < xs.length := Nat.div_lt_of_lt_mul (by rw [Nat.mul_comm]; exact hlt)
  obtain ⟨x, hx⟩ : ∃ x, xs[j / k]? = some x := ⟨xs[j / k], by simp [hi]⟩
  have hm : j % k < (f x).length := by rw [hk]; exact Nat.mod_lt _ hk0
  have hg := flatMap_get hk hx (j := j % k) (v := (f x)[j % k]) (by simp [hm])
  have e : j / k * k + j % k = j := by rw [Nat.mul_comm]; exact Nat.div_add_mod j k
  rw [e] at hg
  rw [hg] at hj
  cases hj
  have := h.cell (j / k) x hx (j % k) _ (by simp [hm] : (f x)[j % k]? = some (f x)[j % k])
  rw [hp] at this
  simp only [eaddr, Int.toNat_natCast, add_add, e] at this
  exact this
end Go.Eng
