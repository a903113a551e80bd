/- Appending, once more. Conditions: none. -/
import Derived.Test.YtmnbekffebdfmaaUF
set_option linter.unusedVariables false
namespace Go.Eng

theorem append_any {α : Type} {k : Nat} {f : α → List Value} {P : Program} {t ty e bytes : Nat} {cs : Array Bool} (hS : sliceOk P t e k bytes = true) (hk0 : 0 < k) (hk : ∀ x, (f x).length = k) (h1c : ∀ x, ∀ v ∈ f x, v.oneCell' = true)
    {H0 H : Hp} {u q : Slc} {xs ys : List α} (hl : Hp.le H0 H) (hu : Mine k f e H0 H u xs) (hq : Rd k f H q ys) (hb : (xs.length + ys.length) * bytes ≤ 140737488355328) (h63 : xs.length + ys.length ≤ 9223372036854775807) :
    OpSem P (bcall .append #[t, t] ty cs [u.v, q.v]) H fun v H' => ∃ u' : Slc, v = u'.v ∧ Hp.le H0 H' ∧ Mine k f e H0 H' u' (xs ++ ys) ∧ (∀ b, H b ≠ none → (∀ p, u.a = some p → p.block ≠ b) → H' b = H b) ∧ (∀ p, u'.a = some p → u.a = some p ∨ H p.block = none) := by
  by_cases hy : ys = []
  · subst hy
    obtain ⟨i, z, h1, h2, _⟩ := sliceOk_out hS
    have hqv : q.v = .slice q.a 0 q.c := by simp [Slc.v, hq.len]
    rw [hqv]
    refine (append_none (P := P) (ty := ty) (cs := cs) h1 h2 (hu.rd hk).cap).mono fun v H' ⟨hv, hH⟩ => ?_
    subst hH
    exact ⟨u, hv, hl, by rw [List.append_nil]; exact hu, fun _ _ _ => rfl, fun p hp => .inl hp⟩
  · exact append_mine hS hk0 hk h1c hl hu hq hy hb h63

/-- An empty slice in a block of its own. -/
theorem Mine.empty {α : Type} {k : Nat} {f : α → List Value} {e : TypeId} {H : Hp} {b : Nat} (hb : H b = none) : Mine k f e H (H.put b (.cells #[] e (0, 0))) ⟨some ⟨b, 0, none⟩, 0, 0⟩ ([] : List α) :=
  .inr ⟨b, hb, ⟨rfl, Nat.le_refl _, rfl, #[], by simp, by simp, by simp⟩⟩

/-- 'append([]T{}, s...)' -/
theorem copy_ok {α : Type} {k : Nat} {f : α → List Value} {P : Program} {t ty e bytes : Nat} {cs : Array Bool} (hS : sliceOk P t e k bytes = true) (hk0 : 0 < k) (hk : ∀ x, (f x).length = k) (h1c : ∀ x, ∀ v ∈ f x, v.oneCell' = true)
    {H H2 : Hp} {s : Slc} {b : Nat} {xs : List α} (hb : H b = none) (hH : H2 = H.put b (.cells #[] e (0, 0))) (hs : Rd k f H s xs) (hby : xs.length * bytes ≤ 140737488355328) (h63 : xs.length ≤ 9223372036854775807) :
    OpSem P (bcall .append #[t, t] ty cs [.slice (some ⟨b, 0, none⟩) 0 0, s.v]) H2 fun v H' => ∃ u : Slc, v = u.v ∧ Hp.le H H' ∧ Mine k f e H H' u xs := by
  subst hH
  have hle := Hp.put_le H (.cells #[] e (0, 0)) hb
  exact (append_any (u := ⟨some ⟨b, 0, none⟩, 0, 0⟩) (xs := []) hS hk0 hk h1c hle (Mine.empty hb) (hs.le hle) (by simpa using hby) (by simpa using h63)).mono fun v H' ⟨u, h1, h2, h3, _⟩ => ⟨u, h1, h2, by simpa using h3⟩
end Go.Eng
