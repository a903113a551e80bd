/- Slice types, looked at by a check. Conditions: none. -/
import Derived.Test.YtmnbekffebdfmaaUE
set_option linter.unusedVariables false
namespace Go.Eng

def sliceOk (P : Program) (t e size bytes : Nat) : Bool :=
  match P.underlying t, P.info? e with
  | some (.slice e'), some i => Nat.beq e' e && Nat.beq i.size size && Nat.beq i.bytes bytes && (match i.zero with
    | some z => Nat.beq z.cells.size size
    | none => false)
  | _, _ => false

theorem sliceOk_out {P : Program} {t e size bytes : Nat} (h : sliceOk P t e size bytes = true) : ∃ i z, P.underlying t = some (.slice e) ∧ P.info? e = some i ∧ i.zero = some z ∧ z.cells.size = i.size ∧ i.size = size ∧ i.bytes = bytes := by
  unfold sliceOk at h
  split at h
  · rename_i e' i h1 h2
    simp only [Bool.and_eq_true, Nat.beq_iff] at h
    obtain ⟨⟨⟨h3, h4⟩, h5⟩, h6⟩ := h
    subst h3
    cases hz : i.zero with
    | none => simp [hz] at h6
    | some z =>
      simp only [hz, Nat.beq_iff] at h6
      exact ⟨i, z, h1, h2, hz, h6.trans h4.symm, h4, h5⟩
  · cases h

theorem clone_vc {α : Type} {k : Nat} {f : α → List Value} {P : Program} {t ty e bytes : Nat} {cs : Array Bool} (hS : sliceOk P t e k bytes = true) (hk0 : 0 < k) (hk : ∀ x, (f x).length = k)
    {H : Hp} {s : Slc} {xs : List α} (hs : Rd k f H s xs) (hb : xs.length * bytes ≤ 140737488355328) (h63 : xs.length ≤ 9223372036854775807) :
    (s.a.isNone = true → ∃ u : Slc, Value.slice none 0 0 = u.v ∧ Hp.le H H ∧ Mine k f e H H u xs) ∧
    (s.a.isNone = false → ∀ (b1 : Nat) (H2 : Hp), H b1 = none → H2 = H.put b1 (.cells #[] e) →
      OpSem P (bcall .append #[t, t] ty cs [.slice (some ⟨b1, 0, none⟩) 0 0, s.v]) H2 fun v H4 => ∃ u : Slc, v = u.v ∧ ∃ u' : Slc, u.v = u'.v ∧ Hp.le H H4 ∧ Mine k f e H H4 u' xs) := by
  obtain ⟨i, z, h1, h2, h3, h4, h5, h6⟩ := sliceOk_out hS
  exact clone_ok (post := fun v H' => ∃ u : Slc, v = u.v ∧ Hp.le H H' ∧ Mine k f e H H' u xs) h1 h2 h3 h4 h5 hk0 hk hs (by rw [h6]; exact hb) h63 fun u H' hl hm => ⟨u, rfl, hl, hm⟩

/-- One more element. -/
theorem append_mine {α : Type} {k : Nat} {f : α → List Value} {P : Program} {t ty e bytes : Nat} {cs : Array Bool} (hS : sliceOk P t e k bytes = true) (hk0 : 0 < k) (hk : ∀ x, (f x).length = k) (h1c : ∀ x, ∀ v ∈ f x, v.oneCell' = true)
    {H0 H : Hp} {u q : Slc} {xs ys : List α} (hl : Hp.le H0 H) (hu : Mine k f e H0 H u xs) (hq : Rd k f H q ys) (hy : ys ≠ []) (hb : (xs.length + ys.length) * bytes ≤ 140737488355328) (h63 : xs.length + ys.length ≤ 9223372036854775807) :
    OpSem P (bcall .append #[t, t] ty cs [u.v, q.v]) H fun v H' => ∃ u' : Slc, v = u'.v ∧ Hp.le H0 H' ∧ Mine k f e H0 H' u' (xs ++ ys) ∧ (∀ b, H b ≠ none → (∀ p, u.a = some p → p.block ≠ b) → H' b = H b) ∧ (∀ p, u'.a = some p → u.a = some p ∨ H p.block = none) := by
  obtain ⟨i, z, h1, h2, h3, h4, h5, h6⟩ := sliceOk_out hS
  obtain ⟨qp, hqp⟩ : ∃ qp, q.a = some qp := by
    have := hq.isS hy
    cases hx : q.a with
    | none => simp [hx] at this
    | some p => exact ⟨p, rfl⟩
  have hqv : q.v = .slice (some qp) ys.length q.c := by simp [Slc.v, hqp, hq.len]
  have hylen := flatMap_len hk ys
  have hxlen := flatMap_len hk xs
  have hypos : 0 < ys.length := by cases ys with | nil => exact absurd rfl hy | cons _ _ => simp
  have hrd := hu.rd hk
  have hun := hrd.len
  rw [hqv]
  by_cases hr : u.n + ys.length ≤ u.c
  · -- there is room
    rcases hu with ⟨rfl, rfl⟩ | ⟨b, hb0, ho⟩
    · exfalso; change 0 + ys.length ≤ 0 at hr; omega
    · obtain ⟨o1, o2, o3, cells, o4, o5, o6⟩ := ho
      refine (append_room (P := P) (ty := ty) (cs := cs) h1 h2 o3 o4 (by rw [hylen, h5]) (fun j v hj => Rd.cells hk hk0 hq hqp j v hj) (fun v hv => by
        obtain ⟨x, _, hx⟩ := List.mem_flatMap.1 hv; exact h1c x v hx) hr (by rw [h5, o5, Nat.zero_add]; exact Nat.mul_le_mul_right _ hr)).mono fun v H' ⟨hv, hH⟩ => ?_
      subst hH
      refine ⟨⟨some ⟨b, 0, none⟩, u.n + ys.length, u.c⟩, hv, fun c o hc => ?_, .inr ⟨b, hb0, ⟨?_, hr, rfl, _, Hp.put_same _ _ _, ?_, ?_⟩⟩, fun c hc hne => Hp.put_ne _ _ fun e => hne _ o3 e.symm, fun p hp => .inl (by rw [o3]; exact hp)⟩
      · have : c ≠ b := fun e => by subst e; rw [hb0] at hc; cases hc
        rw [Hp.put_ne _ _ this]; exact hl c o hc
      · simp [hun]
      · have hsz : (u.n + ys.length) * k ≤ u.c * k := Nat.mul_le_mul_right _ hr
        rw [Nat.add_mul] at hsz
        have hcl : cells.toList.length = u.c * k := by simp [o5]
        simp only [List.size_toArray, List.length_append, List.length_take, List.length_drop, hcl, hylen, h5, Nat.zero_add]
        omega
      · have hsz : (u.n + ys.length) * k ≤ u.c * k := Nat.mul_le_mul_right _ hr
        rw [Nat.add_mul] at hsz
        have hcl : cells.toList.length = u.c * k := by simp [o5]
        have ht : cells.toList.take (0 + u.n * i.size) = xs.flatMap f := by rw [Nat.zero_add, h5, hun]; exact o6
        rw [ht]
        have hlen : (xs ++ ys).length * k = (xs.flatMap f ++ ys.flatMap f).length := by rw [List.length_append, List.length_append, hxlen, hylen, Nat.add_mul]
        rw [hlen, List.flatMap_append]
        exact List.take_left
  · refine (append_grow (P := P) (ty := ty) (cs := cs) h1 h2 h3 h4 (u := u) (olds := xs.flatMap f) (news := ys.flatMap f) (q := qp) (m := ys.length) (c := q.c) (by rw [hxlen, h5, hun]) (fun p hp j v hj => Rd.cells hk hk0 hrd hp j v hj)
      (fun ha => by
        rcases hu with ⟨rfl, rfl⟩ | ⟨b, _, ho⟩
        · exact ⟨rfl, rfl⟩
        · rw [ho.blk] at ha; cases ha) (by rw [hylen, h5]) (fun j v hj => Rd.cells hk hk0 hq hqp j v hj) (by omega) (by rw [hun]; exact h63) (by rw [hun, h6]; exact hb)).mono fun v H' hg => ?_
    obtain ⟨b, cap, rest, g1, g2, g3, g4, g5⟩ := hg
    subst g5
    have hb0 : H0 b = none := by
      cases hx : H0 b with
      | none => rfl
      | some o => rw [hl b o hx] at g1; cases g1
    refine ⟨⟨some ⟨b, 0, none⟩, u.n + ys.length, cap⟩, g3, Hp.le_trans hl (Hp.put_le _ _ g1), .inr ⟨b, hb0, ⟨by simp [hun], g2, rfl, _, Hp.put_same _ _ _, ?_, ?_⟩⟩, fun c hc _ => Hp.put_ne _ _ fun e => hc (by rw [e]; exact g1), fun p hp => .inr ?_⟩
    · have : (u.n + ys.length) * k ≤ cap * k := Nat.mul_le_mul_right _ g2
      rw [Nat.add_mul] at this
      have hsub : (cap - (u.n + ys.length)) * k = cap * k - (u.n * k + ys.length * k) := by rw [Nat.sub_mul, Nat.add_mul]
      simp only [List.size_toArray, List.length_append, hxlen, hylen, g4, h5, hsub, ← hun]
      omega
    · have hlen : (xs ++ ys).length * k = (xs.flatMap f ++ ys.flatMap f).length := by rw [List.length_append, List.length_append, hxlen, hylen, Nat.add_mul]
      rw [hlen, List.flatMap_append]
      exact List.take_left
    · cases hp; exact g1
end Go.Eng
