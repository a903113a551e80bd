/- Appending. Conditions: none. -/
import Derived.Test.YtmnbekffebdfmaaUA
import Derived.ArgAppend
set_option linter.unusedVariables false
namespace Go.Eng

theorem Tr.drewAlloc {w : World} {H : Hp} (h : View w H) (o : Obj) : H w.heap.size = Option.none ∧ Tr w H (w.drew.alloc o) (Hp.put H w.heap.size o) := by
  obtain ⟨hn, ht⟩ := Tr.alloc h o
  exact ⟨hn, ⟨ht.view, ht.frame, ht.fresh, ht.size, rfl, rfl, rfl⟩⟩

theorem bcall_append {t ty : TypeId} {cs : Array Bool} {x y : Value} {P : Program} {w w' : World} {v : Value} (h : (Builtin.append_ #[t, t] ty #[x, y]).run P w = .ok v w') :
    (bcall .append #[t, t] ty cs [x, y]).run P w = .ok (.value v) w' := by
  simp [bcall, Go.builtin, h]

/-- What is behind an append that grows: a new block. -/
def Grown (e : TypeId) (cells : List Value) (len size : Nat) (H : Hp) (v : Value) (H' : Hp) : Prop :=
  ∃ (b cap : Nat) (rest : List Value), H b = none ∧ len ≤ cap ∧ v = .slice (some ⟨b, 0, none⟩) len cap ∧ rest.length = (cap - len) * size ∧ H' = H.put b (.cells (cells ++ rest).toArray e (0, 0))

theorem zeroCells_len {z : Array Value} {n : Nat} : (Builtin.zeroCells z n).toList.length = n * z.size := by
  simp [Builtin.zeroCells]

theorem append_grow {P : Program} {t ty e : TypeId} {i : TypeInfo} {z : Value} {cs : Array Bool} (ht : P.underlying t = some (.slice e)) (hi : P.info? e = some i) (hz : i.zero = some z) (hzs : z.cells.size = i.size)
    {H : Hp} {u : Slc} {olds : List Value} (hlo : olds.length = u.n * i.size) (holds : ∀ p, u.a = some p → ∀ j v, olds[j]? = some v → H.at (p.add j) = some v) (hnil : u.a = none → u.n = 0 ∧ u.c = 0)
    {q : Addr} {m c : Nat} {news : List Value} (hl : news.length = m * i.size) (hnews : ∀ j v, news[j]? = some v → H.at (q.add j) = some v)
    (hg : u.c < u.n + m) (h63 : u.n + m ≤ 9223372036854775807) (hb : (u.n + m) * i.bytes ≤ 140737488355328) :
    OpSem P (bcall .append #[t, t] ty cs [u.v, .slice (some q) m c]) H (Grown e (olds ++ news) (u.n + m) i.size H) := by
  intro w hv
  have hn' : ∀ j v, news[j]? = some v → w.cell? (q.add j) = some v := fun j v h => hv.cell (hnews j v h)
  cases ha : u.a with
  | none =>
    obtain ⟨h1, h2⟩ := hnil ha
    have ho : olds = [] := List.length_eq_zero_iff.1 (by rw [hlo, h1, Nat.zero_mul])
    subst ho
    rw [h1, h2] at hg
    rw [h1] at h63 hb ⊢
    simp only [Nat.zero_add] at hg h63 hb ⊢
    have hr := run_append_nil (P := P) w t ty e i z ht hi hz q m c news hl hn' hg (by omega) (by omega)
    have hu : u.v = .slice none 0 0 := by simp [Slc.v, ha, h1, h2]
    obtain ⟨hn, htr⟩ := Tr.drewAlloc hv (.cells (news.toArray ++ Builtin.zeroCells z.cells (grownCap w m 0 e - m)) e)
    refine ⟨_, _, _, .inl (bcall_append (by rw [hu]; exact hr)), htr, w.heap.size, grownCap w m 0 e, (Builtin.zeroCells z.cells (grownCap w m 0 e - m)).toList, hn, grownCap_ge w m 0 e, rfl, by rw [zeroCells_len, hzs], ?_⟩
    congr 2
    simp
  | some p =>
    have hr := run_append_grow (P := P) w t ty e i z ht hi hz p u.n u.c olds hlo (fun j v h => hv.cell (holds p ha j v h)) q m c news hl hn' hg (by omega) (growslice_fits hg hb)
    have hu : u.v = .slice (some p) u.n u.c := by simp [Slc.v, ha]
    obtain ⟨hn, htr⟩ := Tr.drewAlloc hv (.cells (olds.toArray ++ news.toArray ++ Builtin.zeroCells z.cells (grownCap w (u.n + m) u.c e - (u.n + m))) e)
    refine ⟨_, _, _, .inl (bcall_append (by rw [hu]; exact hr)), htr, w.heap.size, grownCap w (u.n + m) u.c e, (Builtin.zeroCells z.cells (grownCap w (u.n + m) u.c e - (u.n + m))).toList, hn, grownCap_ge w _ _ e, rfl, by rw [zeroCells_len, hzs], ?_⟩
    congr 2
    simp
end Go.Eng
