/- slices.Clone. Conditions: none. -/
import Derived.Test.YtmnbekffebdfmaaUD
set_option linter.unusedVariables false
namespace Go.Eng

/-- A slice that is nobody else's: nil, or alone in a block that was not there in H. -/
def Mine {α : Type} (k : Nat) (f : α → List Value) (e : TypeId) (H H' : Hp) (u : Slc) (xs : List α) : Prop :=
  (u = ⟨none, 0, 0⟩ ∧ xs = []) ∨ ∃ b, H b = none ∧ Own k f e H' b u xs

section
variable {α : Type} {k : Nat} {f : α → List Value} {e : TypeId} {H H' H'' : Hp} {u : Slc} {xs : List α}

theorem Rd.nil : Rd k f H ⟨none, 0, 0⟩ ([] : List α) := ⟨rfl, Nat.le_refl _, fun h => absurd rfl h, fun i x h => by simp at h⟩

theorem Mine.rd (hk : ∀ x, (f x).length = k) (h : Mine k f e H H' u xs) : Rd k f H' u xs := by
  rcases h with ⟨rfl, rfl⟩ | ⟨b, _, h⟩
  · exact Rd.nil
  · exact h.rd hk

theorem Mine.le (h : Mine k f e H H' u xs) (hl : Hp.le H' H'') : Mine k f e H H'' u xs := by
  rcases h with h | ⟨b, hb, h⟩
  · exact .inl h
  · exact .inr ⟨b, hb, h.le hl⟩

theorem Mine.low {H0 : Hp} (h : Mine k f e H H' u xs) (hl : Hp.le H0 H) : Mine k f e H0 H' u xs := by
  rcases h with h | ⟨b, hb, h⟩
  · exact .inl h
  · refine .inr ⟨b, ?_, h⟩
    cases hx : H0 b with
    | none => rfl
    | some o => rw [hl b o hx] at hb; cases hb
end

/-- What the conditions of a copy ask. -/
theorem clone_ok {α : Type} {k : Nat} {f : α → List Value} {P : Program} {t ty e : TypeId} {i : TypeInfo} {z : Value} {cs : Array Bool} (ht : P.underlying t = some (.slice e)) (hi : P.info? e = some i) (hz : i.zero = some z) (hzs : z.cells.size = i.size)
    (his : i.size = k) (hk0 : 0 < k) (hk : ∀ x, (f x).length = k)
    {H : Hp} {s : Slc} {xs : List α} (hs : Rd k f H s xs) (hb : xs.length * i.bytes ≤ 140737488355328) (h63 : xs.length ≤ 9223372036854775807) {post : Value → Hp → Prop}
    (hp : ∀ u H', Hp.le H H' → Mine k f e H H' u xs → post u.v H') :
    (s.a.isNone = true → post (.slice none 0 0) H) ∧
    (s.a.isNone = false → ∀ (b1 : Nat) (H2 : Hp), H b1 = none → H2 = H.put b1 (.cells #[] e) →
      OpSem P (bcall .append #[t, t] ty cs [.slice (some ⟨b1, 0, none⟩) 0 0, s.v]) H2 fun v H4 => ∃ u : Slc, v = u.v ∧ post u.v H4) := by
  refine ⟨fun h => ?_, fun h b1 H2 hb1 hH2 => ?_⟩
  · have hx : xs = [] := by
      cases hxs : xs with
      | nil => rfl
      | cons x l => have := hs.isS (by rw [hxs]; simp); cases ha : s.a <;> simp [ha] at this h
    exact hp ⟨none, 0, 0⟩ H (Hp.le_refl H) (.inl ⟨rfl, hx⟩)
  · subst hH2
    have hle : Hp.le H (H.put b1 (.cells #[] e)) := Hp.put_le H _ hb1
    cases ha : s.a with
    | none => simp [ha] at h
    | some q =>
      have hsv : s.v = .slice (some q) xs.length s.c := by simp [Slc.v, ha, hs.len]
      rw [hsv]
      rcases Nat.eq_zero_or_pos xs.length with h0 | h0
      · have hx : xs = [] := List.length_eq_zero_iff.1 h0
        rw [h0]
        refine (append_none (P := P) (ty := ty) (cs := cs) ht hi (u := ⟨some ⟨b1, 0, none⟩, 0, 0⟩) (Nat.le_refl _)).mono fun v H' ⟨hv, hH⟩ => ⟨_, hv, ?_⟩
        subst hH
        exact hp _ _ hle (.inr ⟨b1, hb1, ⟨by rw [h0], Nat.le_refl _, rfl, #[], by simp, by simp, by simp [hx]⟩⟩)
      · have hlen := flatMap_len hk xs
        refine (append_grow (P := P) (ty := ty) (cs := cs) ht hi hz hzs (u := ⟨some ⟨b1, 0, none⟩, 0, 0⟩) (olds := []) (news := xs.flatMap f) (q := q) (m := xs.length) (c := s.c) (by simp) (by simp) (by simp)
          (by rw [hlen, his]) (fun j v hj => Hp.at_le hle (Rd.cells hk hk0 hs ha j v hj)) (by show 0 < 0 + xs.length; omega) (by simpa using h63) (by simpa using hb)).mono fun v H' hg => ?_
        obtain ⟨b, cap, rest, h1, h2, h3, h4, h5⟩ := hg
        simp only [Nat.zero_add, List.nil_append] at h2 h3 h4 h5
        refine ⟨⟨some ⟨b, 0, none⟩, xs.length, cap⟩, h3, ?_⟩
        have hne : b ≠ b1 := fun e => by subst e; simp at h1
        have hbn : H b = none := by rw [Hp.put_ne _ _ hne] at h1; exact h1
        subst h5
        refine hp _ _ (Hp.le_trans hle (Hp.put_le _ _ h1)) (.inr ⟨b, hbn, ⟨rfl, h2, rfl, _, Hp.put_same _ _ _, ?_, ?_⟩⟩)
        · rw [List.size_toArray, List.length_append, hlen, h4, his, ← Nat.add_mul]
          congr 1; show xs.length + (cap - xs.length) = cap; omega
        · rw [← hlen]; simp
end Go.Eng
