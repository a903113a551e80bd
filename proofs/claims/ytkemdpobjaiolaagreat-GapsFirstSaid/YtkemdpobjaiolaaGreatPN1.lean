/- The engine, parts N1, N2, N3, N4, put together. Conditions: none. -/
import Derived.Test.YtkemdpobjaiolaaGreatPD1
import Derived.Test.YtkemdpobjaiolaaGreatPM3
set_option linter.unusedVariables false
section
/- Places of all points of a list. Conditions: none. -/
set_option maxRecDepth 100000
open Go Go.Eng Go.Proofs
namespace Go.Proofs.YtkemdpobjaiolaaGreat

end Go.Proofs.YtkemdpobjaiolaaGreat
end
section
/- Places of a valid list stand in order. Conditions: none. -/
set_option maxRecDepth 100000
open Go Go.Eng Go.Proofs
namespace Go.Proofs.YtkemdpobjaiolaaGreat

theorem gP_of {f : List Pt} (of : okF f) {p : Pt} (hp : p ∈ f) : gP f (posF f p.1) = p := by
  have h0 : 0 ≤ posF f p.1 := by
    by_cases h : posF f p.1 < 0
    · have := idx_out h p hp
      simp at this
    · omega
  obtain ⟨a, b, c⟩ := posF_range h0
  obtain ⟨j, hj⟩ := List.mem_iff_getElem?.1 hp
  have hi := List.pairwise_iff_getElem.1 (okF_ids of)
  obtain ⟨a1, a2⟩ := List.getElem?_eq_some_iff.1 b
  obtain ⟨j1, j2⟩ := List.getElem?_eq_some_iff.1 hj
  rcases Nat.lt_trichotomy (posF f p.1).toNat j with k | k | k
  · exact absurd (by rw [a2, j2]; exact c) (hi _ _ a1 j1 k)
  · subst k; rw [b] at hj; exact Option.some.inj hj
  · exact absurd (by rw [a2, j2]; exact c.symm) (hi _ _ j1 a1 k)
/-- The point at some place of the order. -/
def ptL (l : Ls) (k : Nat) : Pt := gP l.ck.f (posF l.ck.f (l.ord.getD k 0))
theorem okLs.len {l : Ls} (ok : okLs l) : l.ord.length = l.ck.f.length := by rw [ok.ord, ordM_len]
theorem okLs.sorted {l : Ls} (ok : okLs l) {k : Nat} (hk : k < l.ord.length) : (sortM l.ck.f l.ck.now)[k]? = some (ptL l k) := by
  have hl := ok.len
  obtain ⟨p, hp⟩ : ∃ p, (sortM l.ck.f l.ck.now)[k]? = some p := ⟨_, List.getElem?_eq_getElem (by rw [sortM_len]; omega)⟩
  have hm : p ∈ l.ck.f := (sortM_perm l.ck.now l.ck.f).mem_iff.1 (List.mem_of_getElem? hp)
  have ho : l.ord[k]? = some p.1 := by rw [ok.ord]; unfold ordM; rw [List.getElem?_map, hp]; rfl
  have hg : l.ord.getD k 0 = p.1 := by rw [List.getD_eq_getElem?_getD, ho]; rfl
  unfold ptL
  rw [hg, gP_of ok.ck.f hm]; exact hp
theorem okLs.ptOk {l : Ls} (ok : okLs l) {k : Nat} (hk : k < l.ord.length) : okP (ptL l k) ∧ ptL l k ∈ l.ck.f ∧ (ptL l k).1 = l.ord.getD k 0 := by
  have hm : ptL l k ∈ l.ck.f := (sortM_perm l.ck.now l.ck.f).mem_iff.1 (List.mem_of_getElem? (ok.sorted hk))
  refine ⟨ok.ck.f.each _ hm, hm, ?_⟩
  have := ok.pos (i := (k : Int)) (by omega) (by omega)
  rw [Int.toNat_natCast] at this
  exact (posF_range this).2.2
theorem okLs.leads {l : Ls} (ok : okLs l) {i j : Nat} (hij : i < j) (hj : j < l.ord.length) : leads (ptL l i) (ptL l j) l.ck.now = true := by
  have h := (sortM_sorted (okF_ids ok.ck.f) l.ck.now).ord
  obtain ⟨a1, a2⟩ := List.getElem?_eq_some_iff.1 (ok.sorted (k := i) (by omega))
  obtain ⟨b1, b2⟩ := List.getElem?_eq_some_iff.1 (ok.sorted hj)
  have := List.pairwise_iff_getElem.1 h i j a1 b1 hij
  rw [a2, b2] at this
  exact this
theorem okLs.val {l : Ls} (ok : okLs l) {i j : Nat} (hij : i < j) (hj : j < l.ord.length) : valP (ptL l j) l.ck.now ≤ valP (ptL l i) l.ck.now := by
  have := leads_iff.1 (ok.leads hij hj)
  omega

/-- Fractions, the greatest first. -/
structure Desc (xs : List (Int × Int)) : Prop where
  ok : ∀ x ∈ xs, okR x
  ge : ∀ (i j : Nat) (x y : Int × Int), i < j → xs[i]? = some x → xs[j]? = some y → 0 ≤ cmpR x y
/-- How many come first: those that have something that all before them have. -/
theorem prefix_count {α : Type} (q : α → Bool) : ∀ (xs : List α), (∀ (i j : Nat) (x y : α), i < j → xs[i]? = some x → xs[j]? = some y → q y = true → q x = true) → ∀ (i : Nat) (x : α), xs[i]? = some x → (q x = true ↔ i < xs.countP q)
  | [], _, i, x, h => by simp at h
  | a :: xs, hp, i, x, h => by
    have ih := prefix_count q xs fun i j x y hij hi hj => hp (i + 1) (j + 1) x y (by omega) (by simpa using hi) (by simpa using hj)
    cases ha : q a with
    | true =>
      rw [List.countP_cons_of_pos ha]
      cases i with
      | zero => simp at h; subst h; simp [ha]
      | succ i => rw [ih i x (by simpa using h)]; omega
    | false =>
      rw [List.countP_cons_of_neg (by simp [ha])]
      have none : ∀ y ∈ xs, q y = false := fun y hy => by
        obtain ⟨j, hj⟩ := List.mem_iff_getElem?.1 hy
        cases hq : q y with
        | false => rfl
        | true => have := hp 0 (j + 1) a y (by omega) rfl (by simpa using hj) hq
                  rw [ha] at this; cases this
      have c0 : xs.countP q = 0 := List.countP_eq_zero.2 fun y hy => by rw [none y hy]; simp
      rw [c0]
      cases i with
      | zero => simp at h; subst h; simp [ha]
      | succ i => rw [none x (List.mem_of_getElem? (by simpa using h))]; simp
/-- How many places are above one, or not below it. -/
def upM (xs : List (Int × Int)) (h : Int × Int) : Nat := xs.countP fun x => decide (0 < cmpR x h)
def loM (xs : List (Int × Int)) (h : Int × Int) : Nat := xs.countP fun x => decide (0 ≤ cmpR x h)
theorem cmpR_ge {a b : Int × Int} : 0 ≤ cmpR a b ↔ b.1 * a.2 ≤ a.1 * b.2 := by
  unfold cmpR cmpI
  split <;> (try split) <;> omega
theorem cmpR_gt {a b : Int × Int} : 0 < cmpR a b ↔ b.1 * a.2 < a.1 * b.2 := by
  unfold cmpR cmpI
  split <;> (try split) <;> omega
theorem Desc.up {xs : List (Int × Int)} (d : Desc xs) {h : Int × Int} (oh : okR h) {i : Nat} {x : Int × Int} (hi : xs[i]? = some x) : 0 < cmpR x h ↔ i < upM xs h := by
  have := prefix_count (fun x => decide (0 < cmpR x h)) xs (fun i j x y hij hi hj hq => by
    have o1 := (d.ok x (List.mem_of_getElem? hi)).d1
    have o2 := (d.ok y (List.mem_of_getElem? hj)).d1
    have o3 := oh.d1
    have g := cmpR_ge.1 (d.ge i j x y hij hi hj)
    have hq : 0 < cmpR y h := by simpa using hq
    have q := cmpR_gt.1 hq
    simp only [decide_eq_true_eq]
    exact cmpR_gt.2 (rat_lt (a := h) (b := y) (c := x) o2 o3 o1 (by omega) g (.inl q))) i x hi
  simp only [decide_eq_true_eq] at this
  exact this
theorem Desc.lo {xs : List (Int × Int)} (d : Desc xs) {h : Int × Int} (oh : okR h) {i : Nat} {x : Int × Int} (hi : xs[i]? = some x) : 0 ≤ cmpR x h ↔ i < loM xs h := by
  have := prefix_count (fun x => decide (0 ≤ cmpR x h)) xs (fun i j x y hij hi hj hq => by
    have o1 := (d.ok x (List.mem_of_getElem? hi)).d1
    have o2 := (d.ok y (List.mem_of_getElem? hj)).d1
    have o3 := oh.d1
    have g := cmpR_ge.1 (d.ge i j x y hij hi hj)
    have hq : 0 ≤ cmpR y h := by simpa using hq
    have q := cmpR_ge.1 hq
    simp only [decide_eq_true_eq]
    exact cmpR_ge.2 (rat_le (a := h) (b := y) (c := x) o2 o3 o1 q g)) i x hi
  simp only [decide_eq_true_eq] at this
  exact this
end Go.Proofs.YtkemdpobjaiolaaGreat
end
section
/- Intervals of a list: bounds, In, Count, Up, Down. Conditions: none. -/
set_option maxRecDepth 100000
open Go Go.Eng Go.Proofs
namespace Go.Proofs.YtkemdpobjaiolaaGreat

end Go.Proofs.YtkemdpobjaiolaaGreat
end
section
/- Intervals of a list by the reference. Conditions: none. -/
set_option maxRecDepth 100000
open Go Go.Eng Go.Proofs
namespace Go.Proofs.YtkemdpobjaiolaaGreat

end Go.Proofs.YtkemdpobjaiolaaGreat
end
