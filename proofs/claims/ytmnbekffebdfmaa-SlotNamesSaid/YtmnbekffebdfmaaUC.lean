/- Appending where there is room. Conditions: none. -/
import Derived.Test.YtmnbekffebdfmaaUB
import Derived.Laws.CopyRow
set_option linter.unusedVariables false
namespace Go.Eng

theorem Tr.setRow {w : World} {H : Hp} (h : View w H) {b : Nat} {cs : Array Value} {T : TypeId} (hb : H b = some (.cells cs T (0, 0))) (row : Array Value) :
    Tr w H (w.setRow b row) (H.put b (.cells row T (0, 0))) := by
  have hw := h b _ hb
  have hlt := h.lt (b := b) (by simp [hb])
  have e : w.setRow b row = { w with heap := w.heap.setIfInBounds b (.cells row T (0, 0)) } := by
    unfold World.setRow
    congr 1
    apply Array.ext_getElem?
    intro k
    rw [Array.getElem?_modify, Array.getElem?_setIfInBounds]
    by_cases e : b = k
    · subst e; simp only [if_true, hlt, hw]; simp
    · simp [e]
  rw [e]
  refine ⟨fun k o hk => ?_, fun k hk hn => ?_, fun k hk => ?_, by simp, rfl, rfl, rfl⟩
  · simp only [Hp.put] at hk
    split at hk
    · rename_i e; subst e; cases hk; simp [hlt]
    · rename_i e
      show (w.heap.setIfInBounds b _)[k]? = _
      rw [Array.getElem?_setIfInBounds_ne (fun h => e h.symm)]; exact h k o hk
  · have hne : k ≠ b := fun e => by subst e; rw [hb] at hn; cases hn
    show (w.heap.setIfInBounds b _)[k]? = _
    rw [Array.getElem?_setIfInBounds_ne (fun h => hne h.symm)]
  · by_cases e : k = b
    · subst e; left; simp [hb]
    · rw [Hp.put_ne _ _ e] at hk; exact .inl hk

theorem append_room {P : Program} {t ty e : TypeId} {i : TypeInfo} {cs : Array Bool} (ht : P.underlying t = some (.slice e)) (hi : P.info? e = some i)
    {H : Hp} {u : Slc} {b off : Nat} {cells : Array Value} {T : TypeId} (ha : u.a = some ⟨b, off, none⟩) (hb : H b = some (.cells cells T (0, 0)))
    {q : Addr} {m c : Nat} {news : List Value} (hl : news.length = m * i.size) (hnews : ∀ j v, news[j]? = some v → H.at (q.add j) = some v) (h1 : ∀ v ∈ news, v.oneCell' = true)
    (hr : u.n + m ≤ u.c) (hsz : off + (u.n + m) * i.size ≤ cells.size) :
    OpSem P (bcall .append #[t, t] ty cs [u.v, .slice (some q) m c]) H fun v H' => v = .slice (some ⟨b, off, none⟩) (u.n + m) u.c ∧
      H' = H.put b (.cells (cells.toList.take (off + u.n * i.size) ++ news ++ cells.toList.drop (off + u.n * i.size + news.length)).toArray T (0, 0)) := by
  intro w hv
  have hf := run_firstCells_some (P := P) w i.size m q m c news hl (fun j v h => hv.cell (hnews j v h))
  have hst := run_storeCells_at (P := P) b (off + u.n * i.size) T news 0 cells w (hv b _ hb) (by rw [hl]; simp only [Nat.add_zero, Nat.add_assoc, ← Nat.add_mul]; exact hsz) h1
  simp only [Nat.add_zero] at hst
  have hu : u.v = .slice (some ⟨b, off, none⟩) u.n u.c := by simp [Slc.v, ha]
  refine ⟨_, _, _, .inl (bcall_append (w' := w.setRow b (cells.toList.take (off + u.n * i.size) ++ news ++ cells.toList.drop (off + u.n * i.size + news.length)).toArray) ?_), Tr.setRow hv hb _, rfl, rfl⟩
  rw [hu]
  simp [Builtin.append_, run_underlying ht, sizeOf, typeInfo, hi, Builtin.lenOf, hr, hf, Addr.add_lit, hst]

/-- Nothing is appended. -/
theorem append_none {P : Program} {t ty e : TypeId} {i : TypeInfo} {cs : Array Bool} (ht : P.underlying t = some (.slice e)) (hi : P.info? e = some i)
    {H : Hp} {u : Slc} {q : Option Addr} {c : Nat} (hr : u.n ≤ u.c) :
    OpSem P (bcall .append #[t, t] ty cs [u.v, .slice q 0 c]) H fun v H' => v = u.v ∧ H' = H := by
  intro w hv
  refine ⟨_, _, _, .inl (bcall_append (w' := w) ?_), Tr.refl hv, rfl, rfl⟩
  have hf : (Builtin.firstCells i.size 0 (.slice q 0 c)).run P w = .ok #[] w := by
    cases q with
    | none => exact run_firstCells_none w i.size 0 0 c
    | some p => exact run_firstCells_some w i.size 0 p 0 c [] (by simp) (by simp)
  cases ha : u.a with
  | none => simp [Builtin.append_, run_underlying ht, sizeOf, typeInfo, hi, Builtin.lenOf, hr, hf, Slc.v, ha]
  | some p => simp [Builtin.append_, run_underlying ht, sizeOf, typeInfo, hi, Builtin.lenOf, hr, hf, Slc.v, ha, storeCells]
end Go.Eng
