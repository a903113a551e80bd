/- The engine, parts UA, UB, UC, UD, UE, UF, UG, UH, Tab, UI, UJ, TabL, UK, UL, put together. Conditions: none. -/
import Derived.Test.YtkemdpobjaiolaaGreatE3
import Derived.ArgAppend
import Derived.Laws.CopyRow
set_option linter.unusedVariables false
section
/- What is read through a slice, in a view. Conditions: none. -/
namespace Go.Eng

theorem add_zero' (a : Addr) : a.add 0 = a := by cases a; rfl
theorem add_add (a : Addr) (i j : Nat) : (a.add i).add j = a.add (i + j) := by
  cases a
  simp only [Addr.add]
  by_cases h : i = 0 <;> by_cases h' : j = 0 <;> simp [h, h', Nat.add_assoc]

/-- The slice u, read in H, has the elements xs, each of k cells, as f says. -/
structure Rd {α : Type} (k : Nat) (f : α → List Value) (H : Hp) (u : Slc) (xs : List α) : Prop where
  len : u.n = xs.length
  cap : u.n ≤ u.c
  isS : xs ≠ [] → u.a.isSome = true
  cell : ∀ (i : Nat) (x : α), xs[i]? = some x → ∀ (j : Nat) (v : Value), (f x)[j]? = some v → H.at ((eaddr u.a k i).add j) = some v

section
variable {α : Type} {k : Nat} {f : α → List Value} {H H' : Hp} {u : Slc} {xs : List α}

theorem Rd.le (h : Rd k f H u xs) (hl : Hp.le H H') : Rd k f H' u xs := ⟨h.len, h.cap, h.isS, fun i x hx j v hv => Hp.at_le hl (h.cell i x hx j v hv)⟩

theorem Rd.inS (h : Rd k f H u xs) {i : Int} (h0 : 0 ≤ i) (h1 : i < xs.length) : inSl u.a u.n i := by
  refine ⟨h0, by rw [h.len]; exact h1, h.isS fun e => ?_⟩
  subst e; simp at h1; omega

theorem Rd.inN (h : Rd k f H u xs) {i : Int} (h0 : 0 ≤ i) (h1 : i < u.n) : inSl u.a u.n i := h.inS h0 (by rw [← h.len]; exact h1)

theorem Rd.at0 (h : Rd k f H u xs) {i : Int} (h0 : 0 ≤ i) {x : α} (hx : xs[i.toNat]? = some x) {v : Value} (hv : (f x)[0]? = some v) : H.at (eaddr u.a k i) = some v := by
  have := h.cell i.toNat x hx 0 v hv
  rw [add_zero', Int.toNat_of_nonneg h0] at this; exact this

theorem Rd.atj (h : Rd k f H u xs) {i : Int} (h0 : 0 ≤ i) {x : α} (hx : xs[i.toNat]? = some x) {j : Nat} {v : Value} (hv : (f x)[j]? = some v) : H.at ((eaddr u.a k i).add j) = some v := by
  have := h.cell i.toNat x hx j v hv
  rw [Int.toNat_of_nonneg h0] at this; exact this
end

def fI (x : Int) : List Value := [.int .i64 x]
def fB (x : Bool) : List Value := [.bool x]
abbrev RdI := Rd 1 fI
abbrev RdB := Rd 1 fB

theorem getI {xs : List Int} {i : Int} (h0 : 0 ≤ i) (h1 : i < xs.length) : xs[i.toNat]? = some (xs.getD i.toNat 0) := by
  have : i.toNat < xs.length := by omega
  simp [List.getD, this]
theorem getB {xs : List Bool} {i : Int} (h0 : 0 ≤ i) (h1 : i < xs.length) : xs[i.toNat]? = some (xs.getD i.toNat false) := by
  have : i.toNat < xs.length := by omega
  simp [List.getD, this]

theorem RdI.get {H : Hp} {u : Slc} {xs : List Int} (h : RdI H u xs) {i : Int} (h0 : 0 ≤ i) (h1 : i < xs.length) : H.at (eaddr u.a 1 i) = some (.int .i64 (xs.getD i.toNat 0)) := h.at0 h0 (getI h0 h1) rfl
theorem RdB.get {H : Hp} {u : Slc} {xs : List Bool} (h : RdB H u xs) {i : Int} (h0 : 0 ≤ i) (h1 : i < xs.length) : H.at (eaddr u.a 1 i) = some (.bool (xs.getD i.toNat false)) := h.at0 h0 (getB h0 h1) rfl

/-- A block of cells that may be written, as far as it is in view. -/
def Cel (H : Hp) (b : Nat) (cs : Array Value) (T : TypeId) : Prop := H b = some (.cells cs T (0, 0))

theorem Cel.put {H : Hp} {b : Nat} {cs : Array Value} {T : TypeId} : Cel (H.put b (.cells cs T (0, 0))) b cs T := by simp [Cel]

theorem Cel.at {H : Hp} {b : Nat} {cs : Array Value} {T : TypeId} (h : Cel H b cs T) (i : Nat) : H.at ⟨b, i, none⟩ = cs[i]? := by
  unfold Cel at h; simp [Hp.at, h]

theorem Cel.le {H H' : Hp} {b : Nat} {cs : Array Value} {T : TypeId} (h : Cel H b cs T) (hl : Hp.le H H') : Cel H' b cs T := hl _ _ h

theorem Cel.can {H : Hp} {b : Nat} {cs : Array Value} {T : TypeId} (h : Cel H b cs T) {i : Nat} (hi : i < cs.size) (v : Value) : H.canStore ⟨b, i, none⟩ 0 [v] := by
  refine ⟨⟨cs, T, (0, 0), ?_, rfl, ?_, ?_⟩, trivial⟩
  · exact h
  · simpa [Addr.add] using hi
  · simp

theorem Cel.store {H : Hp} {b : Nat} {cs : Array Value} {T : TypeId} (h : Cel H b cs T) (i : Nat) (v : Value) : H.store ⟨b, i, none⟩ 0 [v] = H.put b (.cells (cs.setIfInBounds i v) T (0, 0)) := by
  unfold Cel at h
  funext k
  simp only [Hp.store, Hp.set1, Hp.put, Addr.add, Nat.add_zero]
  by_cases e : k = b
  · subst e; simp [h]
  · have : Nat.beq k b = false := by
      cases hx : Nat.beq k b with
      | false => rfl
      | true => exact absurd ((Nat.beq_iff _ _).1 hx) e
    simp [this, e]

theorem Hp.put_put (H : Hp) (b : Nat) (o o' : Obj) : (H.put b o).put b o' = H.put b o' := by
  funext k; simp only [Hp.put]; split <;> rfl

end Go.Eng
end
section
/- Appending. Conditions: none. -/
namespace Go.Eng

theorem Tr.drewAlloc {w : World} {H : Hp} (h : View w H) (o : Obj) : H w.heap.size = Option.none ∧ Tr w H (w.drew.alloc o) (Hp.put H w.heap.size o) := by
  obtain ⟨hn, ht⟩ := Tr.alloc h o
  exact ⟨hn, ⟨ht.view, ht.frame, ht.fresh, ht.size, rfl, rfl, rfl, Nat.le_succ _⟩⟩

theorem bcall_append {t ty : TypeId} {cs : Array Bool} {x y : Value} {P : Program} {w w' : World} {v : Value} (h : (Builtin.append_ #[t, t] ty #[x, y]).run P w = .ok v w') :
    (bcall .append #[t, t] ty cs [x, y]).run P w = .ok (.value v) w' := by
  simp [bcall, Go.builtin, h]

/-- What is behind an append that grows: a new block. -/
def Grown (e : TypeId) (cells : List Value) (len size : Nat) (H : Hp) (v : Value) (H' : Hp) : Prop :=
  ∃ (b cap : Nat) (rest : List Value), H b = none ∧ len ≤ cap ∧ v = .slice (some ⟨b, 0, none⟩) len cap ∧ rest.length = (cap - len) * size ∧ H' = H.put b (.cells (cells ++ rest).toArray e (0, 0))

theorem zeroCells_len {z : Array Value} {n : Nat} : (Builtin.zeroCells z n).toList.length = n * z.size := by
  simp [Builtin.zeroCells]

theorem append_grow {P : Program} {t ty e : TypeId} {i : TypeInfo} {z : Value} {cs : Array Bool} (ht : P.underlying t = some (.slice e)) (hi : P.info? e = some i) (hz : i.zero = some z) (hzs : z.cells.size = i.size)
    {H : Hp} {u : Slc} {olds : List Value} (hlo : olds.length = u.n * i.size) (holds : ∀ p, u.a = some p → ∀ j v, olds[j]? = some v → H.at (p.add j) = some v) (hnil : u.a = none → u.n = 0 ∧ u.c = 0)
    {q : Addr} {m c : Nat} {news : List Value} (hl : news.length = m * i.size) (hnews : ∀ j v, news[j]? = some v → H.at (q.add j) = some v)
    (hg : u.c < u.n + m) (h63 : u.n + m ≤ 9223372036854775807) (hb : (u.n + m) * i.bytes ≤ 140737488355328) :
    OpSem P (bcall .append #[t, t] ty cs [u.v, .slice (some q) m c]) H (Grown e (olds ++ news) (u.n + m) i.size H) := by
  intro w hv
  have hn' : ∀ j v, news[j]? = some v → w.cell? (q.add j) = some v := fun j v h => hv.cell (hnews j v h)
  cases ha : u.a with
  | none =>
    obtain ⟨h1, h2⟩ := hnil ha
    have ho : olds = [] := List.length_eq_zero_iff.1 (by rw [hlo, h1, Nat.zero_mul])
    subst ho
    rw [h1, h2] at hg
    rw [h1] at h63 hb ⊢
    simp only [Nat.zero_add] at hg h63 hb ⊢
    have hr := run_append_nil (P := P) w t ty e i z ht hi hz q m c news hl hn' hg (by omega) (by omega)
    have hu : u.v = .slice none 0 0 := by simp [Slc.v, ha, h1, h2]
    obtain ⟨hn, htr⟩ := Tr.drewAlloc hv (.cells (news.toArray ++ Builtin.zeroCells z.cells (grownCap w m 0 e - m)) e)
    refine ⟨_, _, _, .inl (bcall_append (by rw [hu]; exact hr)), htr, w.heap.size, grownCap w m 0 e, (Builtin.zeroCells z.cells (grownCap w m 0 e - m)).toList, hn, grownCap_ge w m 0 e, rfl, by rw [zeroCells_len, hzs], ?_⟩
    congr 2
    simp
  | some p =>
    have hr := run_append_grow (P := P) w t ty e i z ht hi hz p u.n u.c olds hlo (fun j v h => hv.cell (holds p ha j v h)) q m c news hl hn' hg (by omega) (growslice_fits hg hb)
    have hu : u.v = .slice (some p) u.n u.c := by simp [Slc.v, ha]
    obtain ⟨hn, htr⟩ := Tr.drewAlloc hv (.cells (olds.toArray ++ news.toArray ++ Builtin.zeroCells z.cells (grownCap w (u.n + m) u.c e - (u.n + m))) e)
    refine ⟨_, _, _, .inl (bcall_append (by rw [hu]; exact hr)), htr, w.heap.size, grownCap w (u.n + m) u.c e, (Builtin.zeroCells z.cells (grownCap w (u.n + m) u.c e - (u.n + m))).toList, hn, grownCap_ge w _ _ e, rfl, by rw [zeroCells_len, hzs], ?_⟩
    congr 2
    simp
end Go.Eng
end
section
/- Appending where there is room. Conditions: none. -/
namespace Go.Eng

theorem Tr.setRow {w : World} {H : Hp} (h : View w H) {b : Nat} {cs : Array Value} {T : TypeId} (hb : H b = some (.cells cs T (0, 0))) (row : Array Value) :
    Tr w H (w.setRow b row) (H.put b (.cells row T (0, 0))) := by
  have hw := h b _ hb
  have hlt := h.lt (b := b) (by simp [hb])
  have e : w.setRow b row = { w with heap := w.heap.setIfInBounds b (.cells row T (0, 0)) } := by
    unfold World.setRow
    congr 1
    apply Array.ext_getElem?
    intro k
    rw [Array.getElem?_modify, Array.getElem?_setIfInBounds]
    by_cases e : b = k
    · subst e; simp only [if_true, hlt, hw]; simp
    · simp [e]
  rw [e]
  refine ⟨fun k o hk => ?_, fun k hk hn => ?_, fun k hk => ?_, by simp, rfl, rfl, rfl, Nat.le_refl _⟩
  · simp only [Hp.put] at hk
    split at hk
    · rename_i e; subst e; cases hk; simp [hlt]
    · rename_i e
      show (w.heap.setIfInBounds b _)[k]? = _
      rw [Array.getElem?_setIfInBounds_ne (fun h => e h.symm)]; exact h k o hk
  · have hne : k ≠ b := fun e => by subst e; rw [hb] at hn; cases hn
    show (w.heap.setIfInBounds b _)[k]? = _
    rw [Array.getElem?_setIfInBounds_ne (fun h => hne h.symm)]
  · by_cases e : k = b
    · subst e; left; simp [hb]
    · rw [Hp.put_ne _ _ e] at hk; exact .inl hk

theorem append_room {P : Program} {t ty e : TypeId} {i : TypeInfo} {cs : Array Bool} (ht : P.underlying t = some (.slice e)) (hi : P.info? e = some i)
    {H : Hp} {u : Slc} {b off : Nat} {cells : Array Value} {T : TypeId} (ha : u.a = some ⟨b, off, none⟩) (hb : H b = some (.cells cells T (0, 0)))
    {q : Addr} {m c : Nat} {news : List Value} (hl : news.length = m * i.size) (hnews : ∀ j v, news[j]? = some v → H.at (q.add j) = some v) (h1 : ∀ v ∈ news, v.oneCell' = true)
    (hr : u.n + m ≤ u.c) (hsz : off + (u.n + m) * i.size ≤ cells.size) :
    OpSem P (bcall .append #[t, t] ty cs [u.v, .slice (some q) m c]) H fun v H' => v = .slice (some ⟨b, off, none⟩) (u.n + m) u.c ∧
      H' = H.put b (.cells (cells.toList.take (off + u.n * i.size) ++ news ++ cells.toList.drop (off + u.n * i.size + news.length)).toArray T (0, 0)) := by
  intro w hv
  have hf := run_firstCells_some (P := P) w i.size m q m c news hl (fun j v h => hv.cell (hnews j v h))
  have hst := run_storeCells_at (P := P) b (off + u.n * i.size) T news 0 cells w (hv b _ hb) (by rw [hl]; simp only [Nat.add_zero, Nat.add_assoc, ← Nat.add_mul]; exact hsz) h1
  simp only [Nat.add_zero] at hst
  have hu : u.v = .slice (some ⟨b, off, none⟩) u.n u.c := by simp [Slc.v, ha]
  refine ⟨_, _, _, .inl (bcall_append (w' := w.setRow b (cells.toList.take (off + u.n * i.size) ++ news ++ cells.toList.drop (off + u.n * i.size + news.length)).toArray) ?_), Tr.setRow hv hb _, rfl, rfl⟩
  rw [hu]
  simp [Builtin.append_, run_underlying ht, sizeOf, typeInfo, hi, Builtin.lenOf, hr, hf, Addr.add_lit, hst]

/-- Nothing is appended. -/
theorem append_none {P : Program} {t ty e : TypeId} {i : TypeInfo} {cs : Array Bool} (ht : P.underlying t = some (.slice e)) (hi : P.info? e = some i)
    {H : Hp} {u : Slc} {q : Option Addr} {c : Nat} (hr : u.n ≤ u.c) :
    OpSem P (bcall .append #[t, t] ty cs [u.v, .slice q 0 c]) H fun v H' => v = u.v ∧ H' = H := by
  intro w hv
  refine ⟨_, _, _, .inl (bcall_append (w' := w) ?_), Tr.refl hv, rfl, rfl⟩
  have hf : (Builtin.firstCells i.size 0 (.slice q 0 c)).run P w = .ok #[] w := by
    cases q with
    | none => exact run_firstCells_none w i.size 0 0 c
    | some p => exact run_firstCells_some w i.size 0 p 0 c [] (by simp) (by simp)
  cases ha : u.a with
  | none => simp [Builtin.append_, run_underlying ht, sizeOf, typeInfo, hi, Builtin.lenOf, hr, hf, Slc.v, ha]
  | some p => simp [Builtin.append_, run_underlying ht, sizeOf, typeInfo, hi, Builtin.lenOf, hr, hf, Slc.v, ha, storeCells]
end Go.Eng
end
section
/- Copies of slices. Conditions: none. -/
namespace Go.Eng

/-- The slice u has the elements xs and stands alone in block b, which has room for u.c elements; or it is nil or has no room, and no elements. -/
structure Own {α : Type} (k : Nat) (f : α → List Value) (e : TypeId) (H : Hp) (b : Nat) (u : Slc) (xs : List α) : Prop where
  len : u.n = xs.length
  cap : u.n ≤ u.c
  blk : u.a = some ⟨b, 0, none⟩
  cells : ∃ cs : Array Value, H b = some (.cells cs e (0, 0)) ∧ cs.size = u.c * k ∧ cs.toList.take (xs.length * k) = xs.flatMap f

section
variable {α : Type} {k : Nat} {f : α → List Value} {e : TypeId} {H H' : Hp} {b : Nat} {u : Slc} {xs : List α}

theorem flatMap_get (hk : ∀ x, (f x).length = k) : ∀ {xs : List α} {i : Nat} {x : α}, xs[i]? = some x → ∀ {j : Nat} {v : Value}, (f x)[j]? = some v → (xs.flatMap f)[i * k + j]? = some v
  | [], _, _, h, _, _, _ => by simp at h
  | y :: ys, 0, x, h, j, v, hv => by
    simp at h; subst h
    have : j < (f y).length := (List.getElem?_eq_some_iff.1 hv).1
    rw [List.flatMap_cons, Nat.zero_mul, Nat.zero_add, List.getElem?_append_left this]; exact hv
  | y :: ys, i + 1, x, h, j, v, hv => by
    have h' : ys[i]? = some x := by simpa using h
    rw [List.flatMap_cons, List.getElem?_append_right (by rw [hk, Nat.add_mul]; omega), hk]
    have : (i + 1) * k + j - k = i * k + j := by rw [Nat.add_mul]; omega
    rw [this]; exact flatMap_get hk h' hv

theorem flatMap_len (hk : ∀ x, (f x).length = k) (xs : List α) : (xs.flatMap f).length = xs.length * k := by
  induction xs with
  | nil => simp
  | cons x xs ih => rw [List.flatMap_cons, List.length_append, hk, ih, List.length_cons, Nat.add_mul]; omega

theorem Own.rd (hk : ∀ x, (f x).length = k) (h : Own k f e H b u xs) : Rd k f H u xs := by
  obtain ⟨h1, h2, h3, cs, h4, h5, h6⟩ := h
  refine ⟨h1, h2, fun _ => by rw [h3]; rfl, fun i x hx j v hv => ?_⟩
  rw [h3]
  have hg := flatMap_get hk hx hv
  rw [← h6] at hg
  have hlt : i < xs.length := (List.getElem?_eq_some_iff.1 hx).1
  have hjl : j < k := by rw [← hk x]; exact (List.getElem?_eq_some_iff.1 hv).1
  have hb : i * k + j < xs.length * k := by
    calc i * k + j < i * k + k := by omega
      _ = (i + 1) * k := by rw [Nat.add_mul]; omega
      _ ≤ xs.length * k := Nat.mul_le_mul_right _ hlt
  rw [List.getElem?_take, if_pos hb] at hg
  simp only [eaddr, Int.toNat_natCast, Addr.add_lit, Nat.zero_add, Hp.at, h4, Option.isSome_none, Bool.false_eq_true, if_false]
  simpa using hg

theorem Own.le (h : Own k f e H b u xs) (hl : Hp.le H H') : Own k f e H' b u xs := by
  obtain ⟨h1, h2, h3, cs, h4, h5⟩ := h
  exact ⟨h1, h2, h3, cs, hl _ _ h4, h5⟩
end

/-- All cells of what is read. -/
theorem Rd.cells {α : Type} {k : Nat} {f : α → List Value} {H : Hp} {u : Slc} {xs : List α} (hk : ∀ x, (f x).length = k) (hk0 : 0 < k) (h : Rd k f H u xs) {p : Addr} (hp : u.a = some p) :
    ∀ j v, (xs.flatMap f)[j]? = some v → H.at (p.add j) = some v := by
  intro j v hj
  have hlt : j < xs.length * k := by rw [← flatMap_len hk]; exact (List.getElem?_eq_some_iff.1 hj).1
  have hi : j / k < xs.length := Nat.div_lt_of_lt_mul (by rw [Nat.mul_comm]; exact hlt)
  obtain ⟨x, hx⟩ : ∃ x, xs[j / k]? = some x := ⟨xs[j / k], by simp [hi]⟩
  have hm : j % k < (f x).length := by rw [hk]; exact Nat.mod_lt _ hk0
  have hg := flatMap_get hk hx (j := j % k) (v := (f x)[j % k]) (by simp [hm])
  have e : j / k * k + j % k = j := by rw [Nat.mul_comm]; exact Nat.div_add_mod j k
  rw [e] at hg
  rw [hg] at hj
  cases hj
  have := h.cell (j / k) x hx (j % k) _ (by simp [hm] : (f x)[j % k]? = some (f x)[j % k])
  rw [hp] at this
  simp only [eaddr, Int.toNat_natCast, add_add, e] at this
  exact this
end Go.Eng
end
section
/- slices.Clone. Conditions: none. -/
namespace Go.Eng

/-- A slice that is nobody else's: nil, or alone in a block that was not there in H. -/
def Mine {α : Type} (k : Nat) (f : α → List Value) (e : TypeId) (H H' : Hp) (u : Slc) (xs : List α) : Prop :=
  (u = ⟨none, 0, 0⟩ ∧ xs = []) ∨ ∃ b, H b = none ∧ Own k f e H' b u xs

section
variable {α : Type} {k : Nat} {f : α → List Value} {e : TypeId} {H H' H'' : Hp} {u : Slc} {xs : List α}

theorem Rd.nil : Rd k f H ⟨none, 0, 0⟩ ([] : List α) := ⟨rfl, Nat.le_refl _, fun h => absurd rfl h, fun i x h => by simp at h⟩

theorem Mine.rd (hk : ∀ x, (f x).length = k) (h : Mine k f e H H' u xs) : Rd k f H' u xs := by
  rcases h with ⟨rfl, rfl⟩ | ⟨b, _, h⟩
  · exact Rd.nil
  · exact h.rd hk

theorem Mine.le (h : Mine k f e H H' u xs) (hl : Hp.le H' H'') : Mine k f e H H'' u xs := by
  rcases h with h | ⟨b, hb, h⟩
  · exact .inl h
  · exact .inr ⟨b, hb, h.le hl⟩

theorem Mine.low {H0 : Hp} (h : Mine k f e H H' u xs) (hl : Hp.le H0 H) : Mine k f e H0 H' u xs := by
  rcases h with h | ⟨b, hb, h⟩
  · exact .inl h
  · refine .inr ⟨b, ?_, h⟩
    cases hx : H0 b with
    | none => rfl
    | some o => rw [hl b o hx] at hb; cases hb
end

/-- What the conditions of a copy ask. -/
theorem clone_ok {α : Type} {k : Nat} {f : α → List Value} {P : Program} {t ty e : TypeId} {i : TypeInfo} {z : Value} {cs : Array Bool} (ht : P.underlying t = some (.slice e)) (hi : P.info? e = some i) (hz : i.zero = some z) (hzs : z.cells.size = i.size)
    (his : i.size = k) (hk0 : 0 < k) (hk : ∀ x, (f x).length = k)
    {H : Hp} {s : Slc} {xs : List α} (hs : Rd k f H s xs) (hb : xs.length * i.bytes ≤ 140737488355328) (h63 : xs.length ≤ 9223372036854775807) {post : Value → Hp → Prop}
    (hp : ∀ u H', Hp.le H H' → Mine k f e H H' u xs → post u.v H') :
    (s.a.isNone = true → post (.slice none 0 0) H) ∧
    (s.a.isNone = false → ∀ (b1 : Nat) (H2 : Hp), H b1 = none → H2 = H.put b1 (.cells #[] e) →
      OpSem P (bcall .append #[t, t] ty cs [.slice (some ⟨b1, 0, none⟩) 0 0, s.v]) H2 fun v H4 => ∃ u : Slc, v = u.v ∧ post u.v H4) := by
  refine ⟨fun h => ?_, fun h b1 H2 hb1 hH2 => ?_⟩
  · have hx : xs = [] := by
      cases hxs : xs with
      | nil => rfl
      | cons x l => have := hs.isS (by rw [hxs]; simp); cases ha : s.a <;> simp [ha] at this h
    exact hp ⟨none, 0, 0⟩ H (Hp.le_refl H) (.inl ⟨rfl, hx⟩)
  · subst hH2
    have hle : Hp.le H (H.put b1 (.cells #[] e)) := Hp.put_le H _ hb1
    cases ha : s.a with
    | none => simp [ha] at h
    | some q =>
      have hsv : s.v = .slice (some q) xs.length s.c := by simp [Slc.v, ha, hs.len]
      rw [hsv]
      rcases Nat.eq_zero_or_pos xs.length with h0 | h0
      · have hx : xs = [] := List.length_eq_zero_iff.1 h0
        rw [h0]
        refine (append_none (P := P) (ty := ty) (cs := cs) ht hi (u := ⟨some ⟨b1, 0, none⟩, 0, 0⟩) (Nat.le_refl _)).mono fun v H' ⟨hv, hH⟩ => ⟨_, hv, ?_⟩
        subst hH
        exact hp _ _ hle (.inr ⟨b1, hb1, ⟨by rw [h0], Nat.le_refl _, rfl, #[], by simp, by simp, by simp [hx]⟩⟩)
      · have hlen := flatMap_len hk xs
        refine (append_grow (P := P) (ty := ty) (cs := cs) ht hi hz hzs (u := ⟨some ⟨b1, 0, none⟩, 0, 0⟩) (olds := []) (news := xs.flatMap f) (q := q) (m := xs.length) (c := s.c) (by simp) (by simp) (by simp)
          (by rw [hlen, his]) (fun j v hj => Hp.at_le hle (Rd.cells hk hk0 hs ha j v hj)) (by show 0 < 0 + xs.length; omega) (by simpa using h63) (by simpa using hb)).mono fun v H' hg => ?_
        obtain ⟨b, cap, rest, h1, h2, h3, h4, h5⟩ := hg
        simp only [Nat.zero_add, List.nil_append] at h2 h3 h4 h5
        refine ⟨⟨some ⟨b, 0, none⟩, xs.length, cap⟩, h3, ?_⟩
        have hne : b ≠ b1 := fun e => by subst e; simp at h1
        have hbn : H b = none := by rw [Hp.put_ne _ _ hne] at h1; exact h1
        subst h5
        refine hp _ _ (Hp.le_trans hle (Hp.put_le _ _ h1)) (.inr ⟨b, hbn, ⟨rfl, h2, rfl, _, Hp.put_same _ _ _, ?_, ?_⟩⟩)
        · rw [List.size_toArray, List.length_append, hlen, h4, his, ← Nat.add_mul]
          congr 1; show xs.length + (cap - xs.length) = cap; omega
        · rw [← hlen]; simp
end Go.Eng
end
section
/- Slice types, looked at by a check. Conditions: none. -/
namespace Go.Eng

def sliceOk (P : Program) (t e size bytes : Nat) : Bool :=
  match P.underlying t, P.info? e with
  | some (.slice e'), some i => Nat.beq e' e && Nat.beq i.size size && Nat.beq i.bytes bytes && (match i.zero with
    | some z => Nat.beq z.cells.size size
    | none => false)
  | _, _ => false

theorem sliceOk_out {P : Program} {t e size bytes : Nat} (h : sliceOk P t e size bytes = true) : ∃ i z, P.underlying t = some (.slice e) ∧ P.info? e = some i ∧ i.zero = some z ∧ z.cells.size = i.size ∧ i.size = size ∧ i.bytes = bytes := by
  unfold sliceOk at h
  split at h
  · rename_i e' i h1 h2
    simp only [Bool.and_eq_true, Nat.beq_iff] at h
    obtain ⟨⟨⟨h3, h4⟩, h5⟩, h6⟩ := h
    subst h3
    cases hz : i.zero with
    | none => simp [hz] at h6
    | some z =>
      simp only [hz, Nat.beq_iff] at h6
      exact ⟨i, z, h1, h2, hz, h6.trans h4.symm, h4, h5⟩
  · cases h

theorem clone_vc {α : Type} {k : Nat} {f : α → List Value} {P : Program} {t ty e bytes : Nat} {cs : Array Bool} (hS : sliceOk P t e k bytes = true) (hk0 : 0 < k) (hk : ∀ x, (f x).length = k)
    {H : Hp} {s : Slc} {xs : List α} (hs : Rd k f H s xs) (hb : xs.length * bytes ≤ 140737488355328) (h63 : xs.length ≤ 9223372036854775807) :
    (s.a.isNone = true → ∃ u : Slc, Value.slice none 0 0 = u.v ∧ Hp.le H H ∧ Mine k f e H H u xs) ∧
    (s.a.isNone = false → ∀ (b1 : Nat) (H2 : Hp), H b1 = none → H2 = H.put b1 (.cells #[] e) →
      OpSem P (bcall .append #[t, t] ty cs [.slice (some ⟨b1, 0, none⟩) 0 0, s.v]) H2 fun v H4 => ∃ u : Slc, v = u.v ∧ ∃ u' : Slc, u.v = u'.v ∧ Hp.le H H4 ∧ Mine k f e H H4 u' xs) := by
  obtain ⟨i, z, h1, h2, h3, h4, h5, h6⟩ := sliceOk_out hS
  exact clone_ok (post := fun v H' => ∃ u : Slc, v = u.v ∧ Hp.le H H' ∧ Mine k f e H H' u xs) h1 h2 h3 h4 h5 hk0 hk hs (by rw [h6]; exact hb) h63 fun u H' hl hm => ⟨u, rfl, hl, hm⟩

/-- One more element. -/
theorem append_mine {α : Type} {k : Nat} {f : α → List Value} {P : Program} {t ty e bytes : Nat} {cs : Array Bool} (hS : sliceOk P t e k bytes = true) (hk0 : 0 < k) (hk : ∀ x, (f x).length = k) (h1c : ∀ x, ∀ v ∈ f x, v.oneCell' = true)
    {H0 H : Hp} {u q : Slc} {xs ys : List α} (hl : Hp.le H0 H) (hu : Mine k f e H0 H u xs) (hq : Rd k f H q ys) (hy : ys ≠ []) (hb : (xs.length + ys.length) * bytes ≤ 140737488355328) (h63 : xs.length + ys.length ≤ 9223372036854775807) :
    OpSem P (bcall .append #[t, t] ty cs [u.v, q.v]) H fun v H' => ∃ u' : Slc, v = u'.v ∧ Hp.le H0 H' ∧ Mine k f e H0 H' u' (xs ++ ys) ∧ (∀ b, H b ≠ none → (∀ p, u.a = some p → p.block ≠ b) → H' b = H b) ∧ (∀ p, u'.a = some p → u.a = some p ∨ H p.block = none) := by
  obtain ⟨i, z, h1, h2, h3, h4, h5, h6⟩ := sliceOk_out hS
  obtain ⟨qp, hqp⟩ : ∃ qp, q.a = some qp := by
    have := hq.isS hy
    cases hx : q.a with
    | none => simp [hx] at this
    | some p => exact ⟨p, rfl⟩
  have hqv : q.v = .slice (some qp) ys.length q.c := by simp [Slc.v, hqp, hq.len]
  have hylen := flatMap_len hk ys
  have hxlen := flatMap_len hk xs
  have hypos : 0 < ys.length := by cases ys with | nil => exact absurd rfl hy | cons _ _ => simp
  have hrd := hu.rd hk
  have hun := hrd.len
  rw [hqv]
  by_cases hr : u.n + ys.length ≤ u.c
  · -- there is room
    rcases hu with ⟨rfl, rfl⟩ | ⟨b, hb0, ho⟩
    · exfalso; change 0 + ys.length ≤ 0 at hr; omega
    · obtain ⟨o1, o2, o3, cells, o4, o5, o6⟩ := ho
      refine (append_room (P := P) (ty := ty) (cs := cs) h1 h2 o3 o4 (by rw [hylen, h5]) (fun j v hj => Rd.cells hk hk0 hq hqp j v hj) (fun v hv => by
        obtain ⟨x, _, hx⟩ := List.mem_flatMap.1 hv; exact h1c x v hx) hr (by rw [h5, o5, Nat.zero_add]; exact Nat.mul_le_mul_right _ hr)).mono fun v H' ⟨hv, hH⟩ => ?_
      subst hH
      refine ⟨⟨some ⟨b, 0, none⟩, u.n + ys.length, u.c⟩, hv, fun c o hc => ?_, .inr ⟨b, hb0, ⟨?_, hr, rfl, _, Hp.put_same _ _ _, ?_, ?_⟩⟩, fun c hc hne => Hp.put_ne _ _ fun e => hne _ o3 e.symm, fun p hp => .inl (by rw [o3]; exact hp)⟩
      · have : c ≠ b := fun e => by subst e; rw [hb0] at hc; cases hc
        rw [Hp.put_ne _ _ this]; exact hl c o hc
      · simp [hun]
      · have hsz : (u.n + ys.length) * k ≤ u.c * k := Nat.mul_le_mul_right _ hr
        rw [Nat.add_mul] at hsz
        have hcl : cells.toList.length = u.c * k := by simp [o5]
        simp only [List.size_toArray, List.length_append, List.length_take, List.length_drop, hcl, hylen, h5, Nat.zero_add]
        omega
      · have hsz : (u.n + ys.length) * k ≤ u.c * k := Nat.mul_le_mul_right _ hr
        rw [Nat.add_mul] at hsz
        have hcl : cells.toList.length = u.c * k := by simp [o5]
        have ht : cells.toList.take (0 + u.n * i.size) = xs.flatMap f := by rw [Nat.zero_add, h5, hun]; exact o6
        rw [ht]
        have hlen : (xs ++ ys).length * k = (xs.flatMap f ++ ys.flatMap f).length := by rw [List.length_append, List.length_append, hxlen, hylen, Nat.add_mul]
        rw [hlen, List.flatMap_append]
        exact List.take_left
  · refine (append_grow (P := P) (ty := ty) (cs := cs) h1 h2 h3 h4 (u := u) (olds := xs.flatMap f) (news := ys.flatMap f) (q := qp) (m := ys.length) (c := q.c) (by rw [hxlen, h5, hun]) (fun p hp j v hj => Rd.cells hk hk0 hrd hp j v hj)
      (fun ha => by
        rcases hu with ⟨rfl, rfl⟩ | ⟨b, _, ho⟩
        · exact ⟨rfl, rfl⟩
        · rw [ho.blk] at ha; cases ha) (by rw [hylen, h5]) (fun j v hj => Rd.cells hk hk0 hq hqp j v hj) (by omega) (by rw [hun]; exact h63) (by rw [hun, h6]; exact hb)).mono fun v H' hg => ?_
    obtain ⟨b, cap, rest, g1, g2, g3, g4, g5⟩ := hg
    subst g5
    have hb0 : H0 b = none := by
      cases hx : H0 b with
      | none => rfl
      | some o => rw [hl b o hx] at g1; cases g1
    refine ⟨⟨some ⟨b, 0, none⟩, u.n + ys.length, cap⟩, g3, Hp.le_trans hl (Hp.put_le _ _ g1), .inr ⟨b, hb0, ⟨by simp [hun], g2, rfl, _, Hp.put_same _ _ _, ?_, ?_⟩⟩, fun c hc _ => Hp.put_ne _ _ fun e => hc (by rw [e]; exact g1), fun p hp => .inr ?_⟩
    · have : (u.n + ys.length) * k ≤ cap * k := Nat.mul_le_mul_right _ g2
      rw [Nat.add_mul] at this
      have hsub : (cap - (u.n + ys.length)) * k = cap * k - (u.n * k + ys.length * k) := by rw [Nat.sub_mul, Nat.add_mul]
      simp only [List.size_toArray, List.length_append, hxlen, hylen, g4, h5, hsub, ← hun]
      omega
    · have hlen : (xs ++ ys).length * k = (xs.flatMap f ++ ys.flatMap f).length := by rw [List.length_append, List.length_append, hxlen, hylen, Nat.add_mul]
      rw [hlen, List.flatMap_append]
      exact List.take_left
    · cases hp; exact g1
end Go.Eng
end
section
/- Appending, once more. Conditions: none. -/
namespace Go.Eng

theorem append_any {α : Type} {k : Nat} {f : α → List Value} {P : Program} {t ty e bytes : Nat} {cs : Array Bool} (hS : sliceOk P t e k bytes = true) (hk0 : 0 < k) (hk : ∀ x, (f x).length = k) (h1c : ∀ x, ∀ v ∈ f x, v.oneCell' = true)
    {H0 H : Hp} {u q : Slc} {xs ys : List α} (hl : Hp.le H0 H) (hu : Mine k f e H0 H u xs) (hq : Rd k f H q ys) (hb : (xs.length + ys.length) * bytes ≤ 140737488355328) (h63 : xs.length + ys.length ≤ 9223372036854775807) :
    OpSem P (bcall .append #[t, t] ty cs [u.v, q.v]) H fun v H' => ∃ u' : Slc, v = u'.v ∧ Hp.le H0 H' ∧ Mine k f e H0 H' u' (xs ++ ys) ∧ (∀ b, H b ≠ none → (∀ p, u.a = some p → p.block ≠ b) → H' b = H b) ∧ (∀ p, u'.a = some p → u.a = some p ∨ H p.block = none) := by
  by_cases hy : ys = []
  · subst hy
    obtain ⟨i, z, h1, h2, _⟩ := sliceOk_out hS
    have hqv : q.v = .slice q.a 0 q.c := by simp [Slc.v, hq.len]
    rw [hqv]
    refine (append_none (P := P) (ty := ty) (cs := cs) h1 h2 (hu.rd hk).cap).mono fun v H' ⟨hv, hH⟩ => ?_
    subst hH
    exact ⟨u, hv, hl, by rw [List.append_nil]; exact hu, fun _ _ _ => rfl, fun p hp => .inl hp⟩
  · exact append_mine hS hk0 hk h1c hl hu hq hy hb h63

/-- An empty slice in a block of its own. -/
theorem Mine.empty {α : Type} {k : Nat} {f : α → List Value} {e : TypeId} {H : Hp} {b : Nat} (hb : H b = none) : Mine k f e H (H.put b (.cells #[] e (0, 0))) ⟨some ⟨b, 0, none⟩, 0, 0⟩ ([] : List α) :=
  .inr ⟨b, hb, ⟨rfl, Nat.le_refl _, rfl, #[], by simp, by simp, by simp⟩⟩

/-- 'append([]T{}, s...)' -/
theorem copy_ok {α : Type} {k : Nat} {f : α → List Value} {P : Program} {t ty e bytes : Nat} {cs : Array Bool} (hS : sliceOk P t e k bytes = true) (hk0 : 0 < k) (hk : ∀ x, (f x).length = k) (h1c : ∀ x, ∀ v ∈ f x, v.oneCell' = true)
    {H H2 : Hp} {s : Slc} {b : Nat} {xs : List α} (hb : H b = none) (hH : H2 = H.put b (.cells #[] e (0, 0))) (hs : Rd k f H s xs) (hby : xs.length * bytes ≤ 140737488355328) (h63 : xs.length ≤ 9223372036854775807) :
    OpSem P (bcall .append #[t, t] ty cs [.slice (some ⟨b, 0, none⟩) 0 0, s.v]) H2 fun v H' => ∃ u : Slc, v = u.v ∧ Hp.le H H' ∧ Mine k f e H H' u xs := by
  subst hH
  have hle := Hp.put_le H (.cells #[] e (0, 0)) hb
  exact (append_any (u := ⟨some ⟨b, 0, none⟩, 0, 0⟩) (xs := []) hS hk0 hk h1c hle (Mine.empty hb) (hs.le hle) (by simpa using hby) (by simpa using h63)).mono fun v H' ⟨u, h1, h2, h3, _⟩ => ⟨u, h1, h2, by simpa using h3⟩
end Go.Eng
end
section
/- Stores into one's own slices. Conditions: none. -/
namespace Go.Eng

theorem Hp.le_put {H H' : Hp} {b : Nat} {o : Obj} (hl : Hp.le H H') (hb : H b = none) : Hp.le H (H'.put b o) := fun k x hk => by
  have : k ≠ b := fun e => by subst e; rw [hb] at hk; cases hk
  rw [Hp.put_ne _ _ this]; exact hl k x hk

theorem setIf_toList (cs : Array Value) (i : Nat) (v : Value) : (cs.setIfInBounds i v).toList = cs.toList.set i v := by simp

section
variable {α : Type} {f : α → List Value} {g : α → Value} {e : TypeId} {H : Hp} {b : Nat} {u : Slc} {xs : List α}

theorem flatMap_one (hf : ∀ x, f x = [g x]) : ∀ xs : List α, xs.flatMap f = xs.map g
  | [] => rfl
  | x :: xs => by rw [List.flatMap_cons, hf, flatMap_one hf xs]; rfl

theorem Own.can (hf : ∀ x, f x = [g x]) (h : Own 1 f e H b u xs) {i : Int} (h0 : 0 ≤ i) (h1 : i < xs.length) (v : Value) : H.canStore (eaddr u.a 1 i) 0 [v] := by
  obtain ⟨o1, o2, o3, cs, o4, o5, o6⟩ := h
  rw [o3]
  simp only [eaddr, Addr.add_lit, Nat.zero_add, Nat.mul_one]
  exact Cel.can (b := b) (cs := cs) (T := e) o4 (by rw [o5]; omega) v

theorem Own.store (hf : ∀ x, f x = [g x]) (h : Own 1 f e H b u xs) {i : Int} (h0 : 0 ≤ i) (h1 : i < xs.length) (y : α) :
    ∃ o, H.store (eaddr u.a 1 i) 0 [g y] = H.put b o ∧ Own 1 f e (H.put b o) b u (xs.set i.toNat y) := by
  obtain ⟨o1, o2, o3, cs, o4, o5, o6⟩ := h
  refine ⟨.cells (cs.setIfInBounds i.toNat (g y)) e (0, 0), ?_, ⟨by simpa using o1, o2, o3, _, Hp.put_same _ _ _, by simpa using o5, ?_⟩⟩
  · rw [o3]
    simp only [eaddr, Addr.add_lit, Nat.zero_add, Nat.mul_one]
    exact Cel.store o4 i.toNat (g y)
  · rw [setIf_toList, List.length_set, Nat.mul_one, List.take_set, flatMap_one hf, List.map_set]
    rw [Nat.mul_one, flatMap_one hf] at o6
    rw [o6]

/-- A slice that was just made. -/
theorem Own.made (hf : ∀ x, f x = [g x]) {n : Int} {z : α} {c : Array Value} (hc : c = (List.replicate n.toNat [g z]).flatten.toArray) : Own 1 f e (H.put b (.cells c e (0, 0))) b ⟨some ⟨b, 0, none⟩, n.toNat, n.toNat⟩ (List.replicate n.toNat z) := by
  subst hc
  have hfl : (List.replicate n.toNat [g z]).flatten = List.replicate n.toNat (g z) := by
    induction n.toNat with
    | zero => rfl
    | succ m ih => rw [List.replicate_succ, List.flatten_cons, ih]; rfl
  refine ⟨by simp, Nat.le_refl _, rfl, _, Hp.put_same _ _ _, by rw [hfl]; simp, ?_⟩
  rw [hfl, flatMap_one hf]
  simp
end

theorem hfI (x : Int) : fI x = [(fun x => Value.int .i64 x) x] := rfl
theorem hfB (x : Bool) : fB x = [(fun x => Value.bool x) x] := rfl

theorem Own.rdI {e : TypeId} {H : Hp} {b : Nat} {u : Slc} {xs : List Int} (h : Own 1 fI e H b u xs) : RdI H u xs := Own.rd (k := 1) (f := fI) (fun _ => rfl) h
theorem Own.rdB {e : TypeId} {H : Hp} {b : Nat} {u : Slc} {xs : List Bool} (h : Own 1 fB e H b u xs) : RdB H u xs := Own.rd (k := 1) (f := fB) (fun _ => rfl) h
theorem Mine.rdI {e : TypeId} {H0 H : Hp} {u : Slc} {xs : List Int} (h : Mine 1 fI e H0 H u xs) : RdI H u xs := Mine.rd (k := 1) (f := fI) (fun _ => rfl) h
theorem Mine.rdB {e : TypeId} {H0 H : Hp} {u : Slc} {xs : List Bool} (h : Mine 1 fB e H0 H u xs) : RdB H u xs := Mine.rd (k := 1) (f := fB) (fun _ => rfl) h
theorem Rd.gI {H : Hp} {u : Slc} {xs : List Int} (h : Rd 1 fI H u xs) {i : Int} (h0 : 0 ≤ i) (h1 : i < xs.length) : H.at (eaddr u.a 1 i) = some (.int .i64 (xs.getD i.toNat 0)) := RdI.get h h0 h1
theorem Rd.gB {H : Hp} {u : Slc} {xs : List Bool} (h : Rd 1 fB H u xs) {i : Int} (h0 : 0 ≤ i) (h1 : i < xs.length) : H.at (eaddr u.a 1 i) = some (.bool (xs.getD i.toNat false)) := RdB.get h h0 h1
end Go.Eng
end
section
/- Tables of slots, in plain words. Conditions: none. -/
namespace Go.Eng

theorem nodup_le : ∀ (n : Nat) (l : List Int), l.Nodup → (∀ x ∈ l, 0 ≤ x ∧ x < n) → l.length ≤ n
  | 0, l, _, h => by
    cases l with
    | nil => simp
    | cons x l => have := h x (List.mem_cons_self ..); omega
  | n + 1, l, hd, h => by
    have h1 := nodup_le n (l.erase n) (hd.erase _) fun x hx => by
      have := (hd.mem_erase_iff).1 hx
      have h2 := h x this.2
      have h3 : x ≠ (n : Int) := this.1
      omega
    have := List.length_erase (a := (n : Int)) (l := l)
    split at this <;> omega

/-- What a table reads. -/
structure Tb where
  uses : List Int
  used : List Bool
  free : List Int
deriving DecidableEq

def Tb.zero : Tb := ⟨[], [], []⟩
def Tb.small (t : Tb) : Prop := t.uses.length ≤ 1000000 ∧ t.used.length ≤ 1000000 ∧ t.free.length ≤ 1000000

structure okT (t : Tb) : Prop where
  pos : 1 ≤ t.uses.length
  top : t.uses.length ≤ 200
  len : t.used.length = t.uses.length
  rng : ∀ x ∈ t.free, 0 ≤ x ∧ x < t.uses.length
  nod : t.free.Nodup
  each : ∀ i : Nat, i < t.uses.length → 0 ≤ t.uses.getD i 0 ∧ t.uses.getD i 0 ≤ 1000000 ∧ (t.used.getD i false = true ↔ (i : Int) ∉ t.free) ∧ (t.used.getD i false = true → 1 ≤ t.uses.getD i 0)

theorem okT.fl {t : Tb} (h : okT t) : t.free.length ≤ t.uses.length := nodup_le _ _ h.nod h.rng
theorem okT.small {t : Tb} (h : okT t) : t.small := by
  have := h.top; have := h.len; have := h.fl
  exact ⟨by omega, by omega, by omega⟩

instance (t : Tb) : Decidable (okT t) :=
  decidable_of_iff (1 ≤ t.uses.length ∧ t.uses.length ≤ 200 ∧ t.used.length = t.uses.length ∧ (∀ x ∈ t.free, 0 ≤ x ∧ x < t.uses.length) ∧ t.free.Nodup ∧
    ∀ i : Nat, i < t.uses.length → 0 ≤ t.uses.getD i 0 ∧ t.uses.getD i 0 ≤ 1000000 ∧ (t.used.getD i false = true ↔ (i : Int) ∉ t.free) ∧ (t.used.getD i false = true → 1 ≤ t.uses.getD i 0))
    ⟨fun ⟨a, b, c, d, e, f⟩ => ⟨a, b, c, d, e, f⟩, fun ⟨a, b, c, d, e, f⟩ => ⟨a, b, c, d, e, f⟩⟩

def chk (t : Tb) : Int := if okT t then 0 else 8

theorem chk_ok {t : Tb} (h : okT t) : chk t = 0 := by unfold chk; rw [if_pos h]
theorem chk_bad {t : Tb} (h : ¬ okT t) : chk t = 8 := by unfold chk; rw [if_neg h]
theorem chk_zero {t : Tb} : chk t = 0 ↔ okT t := by
  by_cases h : okT t
  · simp [chk_ok h, h]
  · simp [chk_bad h, h]

theorem take_succ {α : Type} {l : List α} {i : Nat} {x : α} (h : l[i]? = some x) : l.take (i + 1) = l.take i ++ [x] := by
  rw [List.take_add_one, h]; rfl

theorem getD_set {α : Type} {l : List α} {i j : Nat} {x d : α} (h : i < l.length) : (l.set i x).getD j d = if i = j then x else l.getD j d := by
  simp only [List.getD_eq_getElem?_getD, List.getElem?_set]
  by_cases e : i = j
  · subst e; simp [h]
  · simp [e]

/-- What is done with tables. -/
def beginT (n : Nat) : Tb := ⟨List.replicate n 0, List.replicate n false, (List.range n).map fun i : Nat => (n : Int) - 1 - (i : Int)⟩
def topL (xs : List Int) : Int := xs.getD (xs.length - 1) 0
def Tb.canTake (t : Tb) : Bool := decide (0 < t.free.length) && decide (t.uses.getD (topL t.free).toNat 0 < 1000000)
def Tb.taken (t : Tb) : Tb := ⟨t.uses.set (topL t.free).toNat (t.uses.getD (topL t.free).toNat 0 + 1), t.used.set (topL t.free).toNat true, t.free.dropLast⟩
def Tb.live (t : Tb) (i u : Int) : Bool := decide (0 ≤ i) && decide (i < t.uses.length) && t.used.getD i.toNat false && t.uses.getD i.toNat 0 == u
theorem okT.topR {t : Tb} (h : okT t) (hf : 0 < t.free.length) : (topL t.free) ∈ t.free ∧ 0 ≤ (topL t.free) ∧ (topL t.free) < t.uses.length := by
  have hm : (topL t.free) ∈ t.free := by
    show topL t.free ∈ t.free
    unfold topL
    have : t.free.length - 1 < t.free.length := by omega
    rw [List.getD_eq_getElem?_getD, List.getElem?_eq_getElem this]
    exact List.getElem_mem this
  exact ⟨hm, h.rng _ hm⟩

end Go.Eng
end
section
/- Reading, storing, loops: short forms. Conditions: none. -/
namespace Go.Eng

section
variable {α β : Type} {k k' : Nat} {f : α → List Value} {f' : β → List Value} {g : α → Value} {e e' : TypeId} {H H' H0 H1 : Hp} {b b' : Nat} {u v : Slc} {xs : List α} {ys : List β} {i : Int}

theorem Rd.ldI {xs : List Int} {Q : Int → Prop} (h : Rd 1 fI H u xs) (h0 : 0 ≤ i) (h1 : i < xs.length) (q : Q (xs.getD i.toNat 0)) :
    inSl u.a u.n i ∧ ∃ n, H.at (eaddr u.a 1 i) = some (.int .i64 n) ∧ Q n := ⟨h.inS h0 h1, _, h.gI h0 h1, q⟩
theorem Rd.ldB {xs : List Bool} {Q : Bool → Prop} (h : Rd 1 fB H u xs) (h0 : 0 ≤ i) (h1 : i < xs.length) (q : Q (xs.getD i.toNat false)) :
    inSl u.a u.n i ∧ ∃ n, H.at (eaddr u.a 1 i) = some (.bool n) ∧ Q n := ⟨h.inS h0 h1, _, h.gB h0 h1, q⟩
theorem Rd.ldcI {xs : List Int} {c : Bool} {Q : Int → Prop} (h : Rd 1 fI H u xs) (hc : c = true → 0 ≤ i ∧ i < xs.length) (q : Q (xs.getD i.toNat 0)) :
    (c = true → inSl u.a u.n i) ∧ ∃ n, (c = true → H.at (eaddr u.a 1 i) = some (.int .i64 n)) ∧ Q n :=
  ⟨fun x => h.inS (hc x).1 (hc x).2, _, fun x => h.gI (hc x).1 (hc x).2, q⟩
theorem Rd.ldcB {xs : List Bool} {c : Bool} {Q : Bool → Prop} (h : Rd 1 fB H u xs) (hc : c = true → 0 ≤ i ∧ i < xs.length) (q : Q (xs.getD i.toNat false)) :
    (c = true → inSl u.a u.n i) ∧ ∃ n, (c = true → H.at (eaddr u.a 1 i) = some (.bool n)) ∧ Q n :=
  ⟨fun x => h.inS (hc x).1 (hc x).2, _, fun x => h.gB (hc x).1 (hc x).2, q⟩

/-- The blocks of two slices are not the same. -/
def Sep (u v : Slc) : Prop := ∀ p q, u.a = some p → v.a = some q → p.block ≠ q.block
theorem Sep.symm (h : Sep u v) : Sep v u := fun p q hp hq e => h q p hq hp e.symm
/-- From H to H', at most the block of u has changed. -/
def Chg (H H' : Hp) (u : Slc) : Prop := ∀ b, H b ≠ none → (∀ p, u.a = some p → p.block ≠ b) → H' b = H b

theorem Own.chg (h : Own k f e H b u xs) (hc : Chg H H' v) (hs : Sep u v) : Own k f e H' b u xs := by
  obtain ⟨h1, h2, h3, cs, h4, h5⟩ := h
  exact ⟨h1, h2, h3, cs, by rw [hc b (by rw [h4]; simp) fun p hp e => hs _ p h3 hp e.symm]; exact h4, h5⟩
theorem Mine.chg (h : Mine k f e H0 H u xs) (hc : Chg H H' v) (hs : Sep u v) : Mine k f e H0 H' u xs := by
  rcases h with h | ⟨b, hb, h⟩
  · exact .inl h
  · exact .inr ⟨b, hb, h.chg hc hs⟩
theorem Hp.at_eq {a : Addr} (h : H' a.block = H a.block) : H'.at a = H.at a := by unfold Hp.at; rw [h]
theorem eaddr_block {a : Option Addr} {p : Addr} {s : Nat} {i : Int} {j : Nat} (h : a = some p) : ((eaddr a s i).add j).block = p.block := by
  subst h
  have ha : ∀ (q : Addr) (n : Nat), (q.add n).block = q.block := fun q n => by unfold Addr.add; split <;> rfl
  rw [ha]; exact ha _ _
theorem Rd.chg (h : Rd k f H u xs) (hc : Chg H H' v) (hs : Sep u v) : Rd k f H' u xs := by
  refine ⟨h.len, h.cap, h.isS, fun i x hx j w hw => ?_⟩
  have hi : u.a.isSome = true := h.isS fun e => by subst e; simp at hx
  cases ha : u.a with
  | none => simp [ha] at hi
  | some p =>
    have hcl := h.cell i x hx j w hw
    rw [ha] at hcl
    rw [Hp.at_eq (H := H)]
    · exact hcl
    · refine hc _ (fun hn => ?_) fun q hq e => hs p q ha hq (by rw [e]; exact (eaddr_block rfl).symm)
      unfold Hp.at at hcl; rw [hn] at hcl; cases hcl

/-- What is new behind H0 stands apart from what was read in it. -/
def Old (H : Hp) (u : Slc) : Prop := ∀ p, u.a = some p → H p.block ≠ none
def New (H : Hp) (u : Slc) : Prop := ∀ p, u.a = some p → H p.block = none
theorem Mine.isNew (h : Mine k f e H0 H u xs) : New H0 u := by
  rcases h with ⟨rfl, _⟩ | ⟨b, hb, h⟩
  · intro p hp; cases hp
  · intro p hp; rw [h.blk] at hp; cases hp; exact hb
theorem Mine.isOld (h : Mine k f e H0 H u xs) : Old H u := by
  rcases h with ⟨rfl, _⟩ | ⟨b, hb, h⟩
  · intro p hp; cases hp
  · intro p hp
    obtain ⟨cs, h4, _⟩ := h.cells
    rw [h.blk] at hp; cases hp; rw [h4]; simp
theorem Old.le (h : Old H u) (hl : Hp.le H H') : Old H' u := fun p hp => by
  cases hx : H p.block with
  | none => exact absurd hx (h p hp)
  | some o => rw [hl _ _ hx]; simp
theorem New.low (h : New H' u) (hl : Hp.le H H') : New H u := fun p hp => by
  cases hx : H p.block with
  | none => rfl
  | some o => have := h p hp; rw [hl _ _ hx] at this; cases this
theorem Sep.of (h : Old H u) (h' : New H v) : Sep u v := fun p q hp hq e => h p hp (by rw [e]; exact h' q hq)
theorem Sep.nil : Sep u ⟨none, 0, 0⟩ := fun p q _ hq => by cases hq

theorem Hp.le_chg (hl : Hp.le H0 H) (hc : Chg H H' u) (hn : New H0 u) : Hp.le H0 H' := fun b o hb => by
  rw [hc b (by rw [hl b o hb]; simp) fun p hp e => by have := hn p hp; rw [e, hb] at this; cases this]; exact hl b o hb

/-- A store into one's own slice. -/
theorem Mine.set (hf : ∀ x, f x = [g x]) (h : Mine 1 f e H0 H u xs) (h0 : 0 ≤ i) (h1 : i < xs.length) (y : α) :
    H.canStore (eaddr u.a 1 i) 0 [g y] ∧ Mine 1 f e H0 (H.store (eaddr u.a 1 i) 0 [g y]) u (xs.set i.toNat y) ∧ Chg H (H.store (eaddr u.a 1 i) 0 [g y]) u := by
  rcases h with ⟨_, rfl⟩ | ⟨b, hb, h⟩
  · simp at h1; omega
  · obtain ⟨o, ho, hw⟩ := h.store hf h0 h1 y
    refine ⟨h.can hf h0 h1 _, .inr ⟨b, hb, by rw [ho]; exact hw⟩, fun c _ hc => ?_⟩
    rw [ho, Hp.put_ne]
    intro ec; exact hc _ h.blk ec.symm

theorem Mine.setI {xs : List Int} (h : Mine 1 fI e H0 H u xs) (h0 : 0 ≤ i) (h1 : i < xs.length) (y : Int) {Q : Hp → Prop}
    (q : ∀ H', Mine 1 fI e H0 H' u (xs.set i.toNat y) → Chg H H' u → Q H') :
    H.canStore (eaddr u.a 1 i) 0 [.int .i64 y] ∧ ∀ H', H' = H.store (eaddr u.a 1 i) 0 [.int .i64 y] → Q H' := by
  obtain ⟨a, b, c⟩ := Mine.set (g := fun x => Value.int .i64 x) hfI h h0 h1 y
  exact ⟨a, fun H' hH => by subst hH; exact q _ b c⟩
theorem Mine.setB {xs : List Bool} (h : Mine 1 fB e H0 H u xs) (h0 : 0 ≤ i) (h1 : i < xs.length) (y : Bool) {Q : Hp → Prop}
    (q : ∀ H', Mine 1 fB e H0 H' u (xs.set i.toNat y) → Chg H H' u → Q H') :
    H.canStore (eaddr u.a 1 i) 0 [.bool y] ∧ ∀ H', H' = H.store (eaddr u.a 1 i) 0 [.bool y] → Q H' := by
  obtain ⟨a, b, c⟩ := Mine.set (g := fun x => Value.bool x) hfB h h0 h1 y
  exact ⟨a, fun H' hH => by subst hH; exact q _ b c⟩

theorem subA_zero {a : Option Addr} {s : Nat} {m : Int} : subA a s 0 m = a := by
  unfold subA
  split
  · rfl
  · cases a with
    | none => rfl
    | some a => simp [add_zero']

/-- The first elements of what is read. -/
theorem Rd.cut (h : Rd k f H u xs) {n c : Nat} (hn : n ≤ xs.length) (hc : n ≤ c) : Rd k f H ⟨u.a, n, c⟩ (xs.take n) := by
  refine ⟨by simp; omega, hc, fun hx => h.isS fun e => by subst e; simp at hx, fun i x hx j v hv => h.cell i x ?_ j v hv⟩
  rw [List.getElem?_take] at hx
  split at hx
  · exact hx
  · cases hx

theorem Own.cut (hk : ∀ x, (f x).length = k) (h : Own k f e H b u xs) {n : Nat} (hn : n ≤ xs.length) : Own k f e H b ⟨u.a, n, u.c⟩ (xs.take n) := by
  obtain ⟨h1, h2, h3, cs, h4, h5, h6⟩ := h
  refine ⟨by simp; omega, by show n ≤ u.c; omega, h3, cs, h4, h5, ?_⟩
  have e : (xs.take n).length = n := by simp; omega
  rw [e]
  have := congrArg (List.take (n * k)) h6
  rw [List.take_take, Nat.min_eq_left (Nat.mul_le_mul_right _ hn)] at this
  rw [this, ← List.take_append_drop n xs, List.flatMap_append, List.take_append_of_le_length (by rw [flatMap_len hk, e]; exact Nat.le_refl _), List.take_of_length_le (by rw [flatMap_len hk, e]; exact Nat.le_refl _), List.take_append_drop]

theorem Mine.cut (hk : ∀ x, (f x).length = k) (h : Mine k f e H0 H u xs) {n : Nat} (hn : n ≤ xs.length) : Mine k f e H0 H ⟨u.a, n, u.c⟩ (xs.take n) := by
  rcases h with ⟨rfl, rfl⟩ | ⟨b, hb, h⟩
  · have : n = 0 := by simpa using hn
    subst this; exact .inl ⟨rfl, rfl⟩
  · exact .inr ⟨b, hb, h.cut hk hn⟩
end

/-- A loop that counts up to N and leaves the view alone. -/
theorem upto {N : Int} {H : Hp} {J : Int → Prop} {B : (Int → Hp → Prop) → (Int → Hp → Nat) → Int → Hp → Prop} (h0 : 0 ≤ N) (j0 : J 0)
    (hb : ∀ n, 0 ≤ n → n ≤ N → J n → B (fun n H' => H' = H ∧ 0 ≤ n ∧ n ≤ N ∧ J n) (fun n _ => (N - n).toNat) n H) :
    ∃ (I : Int → Hp → Prop), ∃ (m : Int → Hp → Nat), I 0 H ∧ ∀ n H', I n H' → B I m n H' :=
  ⟨fun n H' => H' = H ∧ 0 ≤ n ∧ n ≤ N ∧ J n, fun n _ => (N - n).toNat, ⟨rfl, Int.le_refl _, h0, j0⟩, fun n H' ⟨e, a, b, c⟩ => by subst e; exact hb n a b c⟩
theorem upto.nx {N n : Int} {H : Hp} {Jn : Prop} (h0 : 0 ≤ n) (h1 : n < N) (hN : N ≤ 1000000000000) (j : Jn) :
    inI (n + 1) ∧ (H = H ∧ 0 ≤ n + 1 ∧ n + 1 ≤ N ∧ Jn) ∧ (N - (n + 1)).toNat < (N - n).toNat :=
  ⟨by unfold inI; omega, ⟨rfl, by omega, by omega, j⟩, by omega⟩

/-- A loop that counts up to N and changes the view. -/
theorem uptoH {N : Int} {H : Hp} {J : Int → Hp → Prop} {B : (Int → Hp → Prop) → (Int → Hp → Nat) → Int → Hp → Prop} (h0 : 0 ≤ N) (j0 : J 0 H)
    (hb : ∀ n H', 0 ≤ n → n ≤ N → J n H' → B (fun n H' => 0 ≤ n ∧ n ≤ N ∧ J n H') (fun n _ => (N - n).toNat) n H') :
    ∃ (I : Int → Hp → Prop), ∃ (m : Int → Hp → Nat), I 0 H ∧ ∀ n H', I n H' → B I m n H' :=
  ⟨fun n H' => 0 ≤ n ∧ n ≤ N ∧ J n H', fun n _ => (N - n).toNat, ⟨Int.le_refl _, h0, j0⟩, fun n H' ⟨a, b, c⟩ => hb n H' a b c⟩
theorem uptoH.nx {N n : Int} {Jn : Prop} (h0 : 0 ≤ n) (h1 : n < N) (hN : N ≤ 1000000000000) (j : Jn) :
    inI (n + 1) ∧ (0 ≤ n + 1 ∧ n + 1 ≤ N ∧ Jn) ∧ (N - (n + 1)).toNat < (N - n).toNat :=
  ⟨by unfold inI; omega, ⟨by omega, by omega, j⟩, by omega⟩

/-- The first place at which p holds, or -1. -/
def idx {α : Type} (p : α → Bool) (xs : List α) : Int := if xs.any p then (xs.findIdx p : Int) else -1
theorem idx_hit {α : Type} {p : α → Bool} {xs : List α} {i : Nat} {x : α} (hx : xs[i]? = some x) (hp : p x = true) (hj : ∀ y ∈ xs.take i, p y = false) : idx p xs = i := by
  have hlt : i < xs.length := (List.getElem?_eq_some_iff.1 hx).1
  have he : xs[i] = x := (List.getElem?_eq_some_iff.1 hx).2
  have ha : xs.any p = true := List.any_eq_true.2 ⟨x, List.mem_of_getElem? hx, hp⟩
  unfold idx
  rw [if_pos ha]
  congr 1
  rw [List.findIdx_eq hlt]
  refine ⟨by rw [he]; exact hp, fun j hji => hj _ ?_⟩
  rw [List.mem_take_iff_getElem]
  exact ⟨j, by omega, rfl⟩
theorem idx_miss {α : Type} {p : α → Bool} {xs : List α} (h : ∀ y ∈ xs, p y = false) : idx p xs = -1 := by
  unfold idx
  rw [if_neg]
  intro ha
  obtain ⟨x, hx, hp⟩ := List.any_eq_true.1 ha
  rw [h x hx] at hp; cases hp
theorem idx_ge {α : Type} {p : α → Bool} {xs : List α} : decide (idx p xs ≥ 0) = xs.any p := by
  unfold idx
  split
  · rename_i h; rw [h]; simp
  · rename_i h; simp at h; simp; intro x hx; exact h x hx

theorem FnV.mono {P : Program} {F : Value} {args : List Value} {H : Hp} {post post' : Value → Hp → Prop} (h : FnV P F args H post) (hp : ∀ v H', post v H' → post' v H') : FnV P F args H post' := by
  obtain ⟨f, a, c, h1, h2, h3⟩ := h
  exact ⟨f, a, c, h1, h2, h3.mono hp⟩

/-- A variable in a block of its own. -/
def Var (H : Hp) (b : Nat) (v : Value) (T : TypeId) : Prop := Cel H b #[v] T
section
variable {H H' H0 : Hp} {b b' : Nat} {v w : Value} {T : TypeId} {u : Slc}
theorem Var.new (h : H' = H.put b (.cells #[v] T (0, 0))) : Var H' b v T := by subst h; exact Cel.put
theorem Var.at (h : Var H b v T) : H.at ((Addr.mk b 0 none).add 0) = some v := by rw [add_zero']; rw [Cel.at h]; rfl
theorem Var.set (h : Var H b v T) (w : Value) {Q : Hp → Prop} (q : ∀ H', H' = H.put b (.cells #[w] T (0, 0)) → Q H') :
    H.canStore (Addr.mk b 0 none) 0 [w] ∧ ∀ H', H' = H.store (Addr.mk b 0 none) 0 [w] → Q H' := by
  refine ⟨Cel.can h (by simp) w, fun H' hH => q H' ?_⟩
  rw [hH, Cel.store h]; rfl
theorem Var.le (h : Var H b v T) (hl : Hp.le H H') : Var H' b v T := Cel.le h hl
theorem Var.chg (h : Var H b v T) (hc : Chg H H' u) (hn : ∀ p, u.a = some p → p.block ≠ b) : Var H' b v T := by
  unfold Var Cel at *; rw [hc b (by rw [h]; simp) hn]; exact h
theorem Hp.le_new (hl : Hp.le H0 H) (hb : H b = none) {o : Obj} (h : H' = H.put b o) : Hp.le H0 H' := by
  subst h
  exact Hp.le_trans hl (Hp.put_le _ _ hb)
end

/-- One element in a block of its own. -/
theorem rd1 {α : Type} {k : Nat} {f : α → List Value} {e : TypeId} {H H' : Hp} {b : Nat} {x : α} {cs : Array Value} (h : H' = H.put b (.cells cs e (0, 0))) (hc : cs = (f x).toArray) : Rd k f H' ⟨some ⟨b, 0, none⟩, 1, 1⟩ [x] := by
  subst h; subst hc
  refine ⟨rfl, Nat.le_refl _, fun _ => rfl, fun i y hy j v hv => ?_⟩
  have hi : i = 0 := by
    have := (List.getElem?_eq_some_iff.1 hy).1
    simpa using this
  subst hi
  simp at hy; subst hy
  simp only [eaddr, Int.toNat_natCast, Nat.zero_mul, add_zero', Addr.add_lit, Nat.zero_add]
  rw [Cel.at Cel.put]
  simpa using hv

/-- u' is u, or stands in a block that H had not. -/
def Ext (H : Hp) (u u' : Slc) : Prop := ∀ p, u'.a = some p → u.a = some p ∨ H p.block = none
theorem Sep.ext {H : Hp} {u u' v : Slc} (h : Sep u v) (hv : Old H v) (he : Ext H u u') : Sep u' v := fun p q hp hq e => by
  rcases he p hp with h' | h'
  · exact h p q h' hq e
  · exact hv q hq (by rw [← e]; exact h')

/-- One more element. -/
theorem append1 {α : Type} {k : Nat} {f : α → List Value} {P : Program} {t ty e bytes : Nat} {cs : Array Bool} (hS : sliceOk P t e k bytes = true) (hk0 : 0 < k) (hk : ∀ x, (f x).length = k) (h1c : ∀ x, ∀ v ∈ f x, v.oneCell' = true)
    {H0 H H5 : Hp} {u : Slc} {xs : List α} {b : Nat} {x : α} {cells : Array Value} (hl : Hp.le H0 H) (hu : Mine k f e H0 H u xs) (hb : H b = none) (hH : H5 = H.put b (.cells cells e (0, 0))) (hc : cells = (f x).toArray) (hlen : xs.length ≤ 100000000) (hby : bytes ≤ 1000000) :
    OpSem P (bcall .append #[t, t] ty cs [u.v, .slice (some ⟨b, 0, none⟩) 1 1]) H5 fun v H' => ∃ u' : Slc, v = u'.v ∧ Hp.le H0 H' ∧ Mine k f e H0 H' u' (xs ++ [x]) ∧ Chg H H' u ∧ Ext H u u' := by
  have hle : Hp.le H H5 := by subst hH; exact Hp.put_le _ _ hb
  have hby2 : (xs.length + 1) * bytes ≤ 140737488355328 := by
    calc (xs.length + 1) * bytes ≤ 100000001 * 1000000 := Nat.mul_le_mul (by omega) hby
      _ ≤ _ := by omega
  refine (append_mine (q := ⟨some ⟨b, 0, none⟩, 1, 1⟩) (ys := [x]) hS hk0 hk h1c (Hp.le_trans hl hle) (hu.le hle) (rd1 hH hc) (by simp) (by simpa using hby2) (by simp; omega)).mono fun v H' ⟨u', g1, g2, g3, g4, g5⟩ =>
    ⟨u', g1, g2, g3, fun c hc' hn => ?_, fun p hp => ?_⟩
  · obtain ⟨o, ho⟩ := Option.ne_none_iff_exists'.1 hc'
    rw [g4 c (by rw [hle c o ho]; simp) hn, hle c o ho, ho]
  · rcases g5 p hp with h | h
    · exact .inl h
    · right
      cases hx : H p.block with
      | none => rfl
      | some o => rw [hle _ _ hx] at h; cases h

theorem slcCut {s : Slc} {k : Nat} {m : Int} : Value.slice (subA s.a k 0 (s.c : Int)) (m.toNat - Int.toNat 0) ((s.c : Int).toNat - Int.toNat 0) = (⟨s.a, m.toNat, s.c⟩ : Slc).v := by
  simp [Slc.v, subA_zero]

theorem Mine.up {α : Type} {k : Nat} {f : α → List Value} {e : TypeId} {H H' H0 : Hp} {b : Nat} {o : Obj} {u : Slc} {xs : List α} (h : Mine k f e H0 H u xs) (hb : H b = none) (hH : H' = H.put b o) : Mine k f e H0 H' u xs := by
  subst hH; exact h.le (Hp.put_le _ _ hb)

/-- A fresh table. -/
structure NewT (H0 H : Hp) (u1 u2 u3 : Slc) (t : Tb) : Prop where
  le : Hp.le H0 H
  uses : Mine 1 fI 3 H0 H u1 t.uses
  used : Mine 1 fB 4 H0 H u2 t.used
  free : Mine 1 fI 3 H0 H u3 t.free
  s12 : Sep u1 u2
  s13 : Sep u1 u3
  s23 : Sep u2 u3

/-- The table (u1, u2, u3) reads t. -/
structure RdT (H : Hp) (u1 u2 u3 : Slc) (t : Tb) : Prop where
  uses : RdI H u1 t.uses
  used : RdB H u2 t.used
  free : RdI H u3 t.free
theorem RdT.le {H H' : Hp} {u1 u2 u3 : Slc} {t : Tb} (h : RdT H u1 u2 u3 t) (hl : Hp.le H H') : RdT H' u1 u2 u3 t := ⟨h.uses.le hl, h.used.le hl, h.free.le hl⟩
theorem NewT.rd {H H' : Hp} {a b c : Slc} {t : Tb} (h : NewT H H' a b c t) : RdT H' a b c t := ⟨h.uses.rdI, h.used.rdB, h.free.rdI⟩

def zs : Slc := ⟨none, 0, 0⟩
theorem NewT.zero {H H' : Hp} (h : Hp.le H H') : NewT H H' zs zs zs .zero := ⟨h, .inl ⟨rfl, rfl⟩, .inl ⟨rfl, rfl⟩, .inl ⟨rfl, rfl⟩, Sep.nil, Sep.nil, Sep.nil⟩
theorem NewT.up {H H' H'' : Hp} {a b c : Slc} {t : Tb} (h : NewT H H' a b c t) (hl : Hp.le H' H'') : NewT H H'' a b c t := ⟨Hp.le_trans h.le hl, h.uses.le hl, h.used.le hl, h.free.le hl, h.s12, h.s13, h.s23⟩
theorem NewT.low {H0 H H' : Hp} {a b c : Slc} {t : Tb} (h : NewT H H' a b c t) (hl : Hp.le H0 H) : NewT H0 H' a b c t := ⟨Hp.le_trans hl h.le, h.uses.low hl, h.used.low hl, h.free.low hl, h.s12, h.s13, h.s23⟩

end Go.Eng
end
section
/- Tables, once more. Conditions: none. -/
namespace Go.Eng

theorem NewT.sep {H0 H' : Hp} {a b c u : Slc} {t : Tb} (h : NewT H0 H' a b c t) (ho : Old H0 u) : Sep a u ∧ Sep b u ∧ Sep c u :=
  ⟨(Sep.of ho h.uses.isNew).symm, (Sep.of ho h.used.isNew).symm, (Sep.of ho h.free.isNew).symm⟩
theorem RdT.chg {H H' : Hp} {a b c u : Slc} {t : Tb} (h : RdT H a b c t) (hc : Chg H H' u) (hs : Sep a u ∧ Sep b u ∧ Sep c u) : RdT H' a b c t :=
  ⟨h.uses.chg hc hs.1, h.used.chg hc hs.2.1, h.free.chg hc hs.2.2⟩
end Go.Eng
end
section
/- What taking and giving back does to tables, in plain words. Conditions: none. -/
namespace Go.Eng

theorem free_split {l : List Int} (h : 0 < l.length) : l = l.dropLast ++ [topL l] := by
  have hne : l ≠ [] := fun e => by subst e; simp at h
  have h1 := List.dropLast_concat_getLast hne
  have h2 : topL l = l.getLast hne := by
    unfold topL
    rw [List.getLast_eq_getElem hne, List.getD_eq_getElem?_getD, List.getElem?_eq_getElem (by omega)]; rfl
  rw [h2]; exact h1.symm

theorem canTake_iff {t : Tb} : t.canTake = true ↔ 0 < t.free.length ∧ t.uses.getD (topL t.free).toNat 0 < 1000000 := by
  unfold Tb.canTake; simp only [Bool.and_eq_true, decide_eq_true_eq]

theorem live_iff {t : Tb} {i u : Int} : t.live i u = true ↔ 0 ≤ i ∧ i < t.uses.length ∧ t.used.getD i.toNat false = true ∧ t.uses.getD i.toNat 0 = u := by
  unfold Tb.live; simp only [Bool.and_eq_true, decide_eq_true_eq, beq_iff_eq, and_assoc]

theorem okT.topD {t : Tb} (ok : okT t) (h : 0 < t.free.length) : t.used.getD (topL t.free).toNat false = false := by
  obtain ⟨m, r1, r2⟩ := ok.topR h
  have := (ok.each (topL t.free).toNat (by omega)).2.2.1
  rw [Int.toNat_of_nonneg r1] at this
  cases hd : t.used.getD (topL t.free).toNat false with
  | false => rfl
  | true => exact absurd m (this.1 hd)

theorem okT.taken {t : Tb} (ok : okT t) (hc : t.canTake = true) : okT t.taken := by
  obtain ⟨hf, hu⟩ := canTake_iff.1 hc
  obtain ⟨m, r1, r2⟩ := ok.topR hf
  have hs := free_split hf
  have hnd := ok.nod
  rw [hs, List.nodup_append] at hnd
  have hnot : topL t.free ∉ t.free.dropLast := fun h => hnd.2.2 _ h _ (by simp) rfl
  refine ⟨by simpa [Tb.taken] using ok.pos, by simpa [Tb.taken] using ok.top, by simpa [Tb.taken] using ok.len, fun x hx => ?_, hnd.1, fun i hi => ?_⟩
  · have := ok.rng x (by rw [hs]; exact List.mem_append_left _ hx)
    simpa [Tb.taken] using this
  · have hi : i < t.uses.length := by simpa [Tb.taken] using hi
    have hl := ok.len
    obtain ⟨k1, k2, k3, k4⟩ := ok.each i hi
    simp only [Tb.taken]
    rw [getD_set (by omega), getD_set (by omega)]
    by_cases e : (topL t.free).toNat = i
    · rw [if_pos e, if_pos e]
      have e' : (i : Int) = topL t.free := by omega
      rw [e]
      rw [e] at hu
      refine ⟨by omega, by omega, ⟨fun _ => by rw [e']; exact hnot, fun _ => rfl⟩, fun _ => by omega⟩
    · rw [if_neg e, if_neg e]
      refine ⟨k1, k2, ?_, k4⟩
      rw [k3]
      have : (i : Int) ∈ t.free ↔ (i : Int) ∈ t.free.dropLast := by
        constructor
        · intro h
          rw [hs] at h
          rcases List.mem_append.1 h with h | h
          · exact h
          · simp only [List.mem_singleton] at h; omega
        · intro h; rw [hs]; exact List.mem_append_left _ h
      rw [this]

theorem live_taken {t : Tb} (ok : okT t) (hf : 0 < t.free.length) (j u : Int) : t.taken.live j u = if j = topL t.free then (t.uses.getD (topL t.free).toNat 0 + 1 == u) else t.live j u := by
  obtain ⟨m, r1, r2⟩ := ok.topR hf
  have hl := ok.len
  rw [Bool.eq_iff_iff, live_iff]
  simp only [Tb.taken, List.length_set]
  by_cases e : j = topL t.free
  · subst e
    rw [if_pos rfl, beq_iff_eq, getD_set (by omega), getD_set (by omega), if_pos rfl, if_pos rfl]
    exact ⟨fun h => h.2.2.2, fun h => ⟨r1, r2, rfl, h⟩⟩
  · rw [if_neg e, live_iff]
    constructor
    · intro ⟨h1, h2, h3, h4⟩
      rw [getD_set (by omega), if_neg (by omega)] at h3 h4
      exact ⟨h1, h2, h3, h4⟩
    · intro ⟨h1, h2, h3, h4⟩
      rw [getD_set (by omega), getD_set (by omega), if_neg (by omega), if_neg (by omega)]
      exact ⟨h1, h2, h3, h4⟩

theorem okT.begin {n : Nat} (h1 : 1 ≤ n) (h2 : n ≤ 200) : okT (beginT n) := by
  have hmem : ∀ x : Int, x ∈ (beginT n).free ↔ 0 ≤ x ∧ x < n := fun x => by
    simp only [beginT, List.mem_map, List.mem_range]
    constructor
    · rintro ⟨i, hi, rfl⟩; omega
    · intro ⟨a, b⟩; exact ⟨n - 1 - x.toNat, by omega, by omega⟩
  refine ⟨by simpa [beginT] using h1, by simpa [beginT] using h2, by simp [beginT], fun x hx => ?_, ?_, fun i hi => ?_⟩
  · have := (hmem x).1 hx; simpa [beginT] using this
  · show ((List.range n).map fun i : Nat => (n : Int) - 1 - (i : Int)).Nodup
    rw [List.nodup_iff_pairwise_ne, List.pairwise_map]
    exact (List.nodup_iff_pairwise_ne.1 List.nodup_range).imp fun h e => h (by omega)
  · have hi : i < n := by simpa [beginT] using hi
    rw [hmem]
    have a1 : (beginT n).uses.getD i 0 = 0 := by simp [beginT, List.getD, hi]
    have a2 : (beginT n).used.getD i false = false := by simp [beginT, List.getD, hi]
    rw [a1, a2]
    exact ⟨by omega, by omega, ⟨fun h => (by cases h), fun h => absurd ⟨by omega, by omega⟩ h⟩, fun h => (by cases h)⟩

/-- What holds while slots are taken and given back: hs are the handles that were taken, ls says which of them are live. -/
structure FinT (n : Int) (t : Tb) (hs : List (Int × Int)) (ls : List Bool) (used k : Int) : Prop where
  ok : okT t
  len : (t.uses.length : Int) = n
  used : used = n - t.free.length
  ll : ls.length = hs.length
  lk : (hs.length : Int) ≤ k
  use : ∀ i : Nat, t.uses.getD i 0 ≤ k
  each : ∀ (j : Nat) (h : Int × Int), hs[j]? = some h → 0 ≤ h.1 ∧ h.1 < n ∧ h.2 ≤ t.uses.getD h.1.toNat 0 ∧ ls.getD j false = t.live h.1 h.2
  dist : hs.Nodup

theorem FinT.start {N : Nat} (h1 : 1 ≤ N) (h2 : N ≤ 200) : FinT N (beginT N) [] [] 0 0 := by
  refine ⟨okT.begin h1 h2, by simp [beginT], by simp [beginT], rfl, by simp, fun i => ?_, fun j h hj => by simp at hj, List.nodup_nil⟩
  simp only [beginT, List.getD_eq_getElem?_getD]
  rw [List.getElem?_replicate]
  split <;> simp

theorem FinT.skip {n : Int} {t : Tb} {hs : List (Int × Int)} {ls : List Bool} {used k : Int} (h : FinT n t hs ls used k) : FinT n t hs ls used (k + 1) :=
  ⟨h.ok, h.len, h.used, h.ll, by have := h.lk; omega, fun i => by have := h.use i; omega, h.each, h.dist⟩

theorem FinT.can {n : Int} {t : Tb} {hs : List (Int × Int)} {ls : List Bool} {used k : Int} (h : FinT n t hs ls used k) (hk : k ≤ 60) : (t.canTake = true ↔ used < n) := by
  have := h.used
  rw [canTake_iff]
  have h2 := h.use (topL t.free).toNat
  omega

theorem FinT.take {n : Int} {t : Tb} {hs : List (Int × Int)} {ls : List Bool} {used k : Int} (h : FinT n t hs ls used k) (hc : t.canTake = true) :
    FinT n t.taken (hs ++ [(topL t.free, t.uses.getD (topL t.free).toNat 0 + 1)]) (ls ++ [true]) (used + 1) (k + 1) := by
  have hf := (canTake_iff.1 hc).1
  obtain ⟨m, r1, r2⟩ := h.ok.topR hf
  have hl := h.ok.len
  have hln := h.len
  refine ⟨h.ok.taken hc, by simpa [Tb.taken] using h.len, ?_, by simp [h.ll], by have := h.lk; simp; omega, fun i => ?_, fun j x hj => ?_, ?_⟩
  · have := h.used; simp [Tb.taken]; omega
  · simp only [Tb.taken]
    rw [getD_set (by omega)]
    split
    · have := h.use (topL t.free).toNat; omega
    · have := h.use i; omega
  · have hlt : j < (hs ++ [(topL t.free, t.uses.getD (topL t.free).toNat 0 + 1)]).length := (List.getElem?_eq_some_iff.1 hj).1
    rw [live_taken h.ok hf]
    rw [List.getElem?_append] at hj
    split at hj
    · rename_i hjl
      obtain ⟨k1, k2, k3, k4⟩ := h.each j x hj
      have e1 : (ls ++ [true]).getD j false = ls.getD j false := by
        rw [List.getD_eq_getElem?_getD, List.getD_eq_getElem?_getD, List.getElem?_append_left (by rw [h.ll]; exact hjl)]
      rw [e1, k4]
      have k3' : x.2 ≤ t.taken.uses.getD x.1.toNat 0 := by
        simp only [Tb.taken]
        rw [getD_set (by omega)]
        split
        · rename_i e; rw [e]; omega
        · exact k3
      refine ⟨k1, k2, k3', ?_⟩
      split
      · rename_i e
        rw [e] at k3
        have a : t.live x.1 x.2 = false := by
          cases hv : t.live x.1 x.2 with
          | false => rfl
          | true =>
            obtain ⟨_, _, hd, _⟩ := live_iff.1 hv
            rw [e, h.ok.topD hf] at hd; cases hd
        rw [a]
        symm
        rw [beq_eq_false_iff_ne]; omega
      · rfl
    · rename_i hjl
      have ej : j = hs.length := by simp at hlt; omega
      subst ej
      simp [-List.getD_eq_getElem?_getD] at hj
      subst hj
      have e1 : (ls ++ [true]).getD hs.length false = true := by
        rw [List.getD_eq_getElem?_getD, List.getElem?_append_right (by rw [h.ll]; exact Nat.le_refl _), h.ll]; simp
      rw [e1, if_pos rfl]
      refine ⟨r1, by omega, ?_, by simp⟩
      simp only [Tb.taken]
      rw [getD_set (by omega), if_pos rfl]; omega
  · rw [List.nodup_append]
    refine ⟨h.dist, by simp, fun a ha b hb e => ?_⟩
    simp only [List.mem_singleton] at hb
    subst hb; subst e
    obtain ⟨j, hj⟩ := List.mem_iff_getElem?.1 ha
    have := (h.each j _ hj).2.2.1
    simp only at this; omega

/-- Two handles of the list are not the same, nor live with one index. -/
theorem FinT.apart {n : Int} {t : Tb} {hs : List (Int × Int)} {ls : List Bool} {used k : Int} (h : FinT n t hs ls used k) {i j : Nat} {x y : Int × Int} (hi : hs[i]? = some x) (hj : hs[j]? = some y) (hij : j < i) :
    x ≠ y ∧ ¬ (ls.getD i false = true ∧ ls.getD j false = true ∧ y.1 = x.1) := by
  have hne : x ≠ y := fun e => by
    subst e
    have := (List.getElem?_inj (List.getElem?_eq_some_iff.1 hi).1 h.dist).1 (hi.trans hj.symm)
    omega
  refine ⟨hne, fun ⟨a, b, c⟩ => hne ?_⟩
  rw [(h.each i x hi).2.2.2] at a
  rw [(h.each j y hj).2.2.2] at b
  obtain ⟨_, _, _, a'⟩ := live_iff.1 a
  obtain ⟨_, _, _, b'⟩ := live_iff.1 b
  exact Prod.ext c.symm (by rw [← a', ← b', c])

/-- The table after k slots were taken. -/
def tk (t : Tb) : Nat → Tb
  | 0 => t
  | k + 1 => (tk t k).taken
theorem set_same {l : List Bool} {i : Nat} {x : Bool} (h : l.getD i x = x) : l.set i x = l := by
  apply List.ext_getElem?
  intro j
  rw [List.getElem?_set]
  by_cases e : i = j
  · subst e
    rw [if_pos rfl]
    split
    · rename_i hl
      rw [List.getD_eq_getElem?_getD, List.getElem?_eq_getElem hl] at h
      rw [List.getElem?_eq_getElem hl]; exact congrArg some h.symm
    · rename_i hl
      rw [List.getElem?_eq_none (by omega)]
  · rw [if_neg e]

end Go.Eng
end
section
/- Pairs of ints in slices. Conditions: none. -/
namespace Go.Eng
/-- A handle, or another pair of ints. -/
def fH (x : Int × Int) : List Value := [.int .i64 x.1, .int .i64 x.2]
section
variable {H H' : Hp} {u : Slc} {xs : List (Int × Int)} {i : Int}
theorem getX {α : Type} {xs : List α} {i : Int} {d : α} (h0 : 0 ≤ i) (h1 : i < xs.length) : xs[i.toNat]? = some (xs.getD i.toNat d) := by
  have : i.toNat < xs.length := by omega
  simp [List.getD, this]
theorem Rd.gH (h : Rd 2 fH H u xs) (h0 : 0 ≤ i) (h1 : i < xs.length) : H.at (eaddr u.a 2 i) = some (.int .i64 (xs.getD i.toNat (0, 0)).1) ∧ H.at ((eaddr u.a 2 i).add 1) = some (.int .i64 (xs.getD i.toNat (0, 0)).2) :=
  ⟨h.at0 h0 (getX h0 h1) rfl, h.atj h0 (getX h0 h1) (j := 1) rfl⟩
end
/-- A table that stands apart from a slice. -/
def SepT (a b c u : Slc) : Prop := Sep a u ∧ Sep b u ∧ Sep c u
def OldT (H : Hp) (a b c : Slc) : Prop := Old H a ∧ Old H b ∧ Old H c
theorem NewT.old {H0 H : Hp} {a b c : Slc} {t : Tb} (h : NewT H0 H a b c t) : OldT H a b c := ⟨h.uses.isOld, h.used.isOld, h.free.isOld⟩
theorem OldT.le {H H' : Hp} {a b c : Slc} (h : OldT H a b c) (hl : Hp.le H H') : OldT H' a b c := ⟨h.1.le hl, h.2.1.le hl, h.2.2.le hl⟩
theorem SepT.ext {H : Hp} {a b c u u' : Slc} (h : SepT a b c u) (ho : OldT H a b c) (he : Ext H u u') : SepT a b c u' :=
  ⟨(h.1.symm.ext ho.1 he).symm, (h.2.1.symm.ext ho.2.1 he).symm, (h.2.2.symm.ext ho.2.2 he).symm⟩
theorem Old.chg {H H' : Hp} {u v : Slc} (h : Old H u) (hc : Chg H H' v) (hs : Sep u v) : Old H' u := fun p hp => by
  rw [hc _ (h p hp) fun q hq e => hs p q hp hq e.symm]; exact h p hp
theorem OldT.chg {H H' : Hp} {a b c v : Slc} (h : OldT H a b c) (hc : Chg H H' v) (hs : SepT a b c v) : OldT H' a b c := ⟨h.1.chg hc hs.1, h.2.1.chg hc hs.2.1, h.2.2.chg hc hs.2.2⟩
theorem Chg.new {H H2 H' : Hp} {u : Slc} {b : Nat} {o : Obj} (h : Chg H2 H' u) (hb : H b = none) (hH : H2 = H.put b o) : Chg H H' u := fun c hc hn => by
  subst hH
  have hne : c ≠ b := fun e => by subst e; exact hc hb
  rw [h c (by rw [Hp.put_ne _ _ hne]; exact hc) hn, Hp.put_ne _ _ hne]
end Go.Eng
end
section
/- Blocks that are laid down whole. Conditions: none. -/
namespace Go.Eng
theorem rdConst {α : Type} {k : Nat} {f : α → List Value} {e : TypeId} {H H' : Hp} {b : Nat} {xs : List α} {cs : Array Value} {n : Nat} (hk : ∀ x, (f x).length = k) (h : H' = H.put b (.cells cs e (0, 0))) (hc : cs = (xs.flatMap f).toArray) (hn : n = xs.length) :
    Rd k f H' ⟨some ⟨b, 0, none⟩, n, n⟩ xs := by
  subst h; subst hc; subst hn
  refine Own.rd (e := e) (b := b) hk ⟨rfl, Nat.le_refl _, rfl, _, Hp.put_same _ _ _, ?_, ?_⟩
  · rw [List.size_toArray, flatMap_len hk]
  · rw [List.take_of_length_le (by simp only [flatMap_len hk]; exact Nat.le_refl _)]
theorem RdI.none {H : Hp} : RdI H ⟨none, 0, 0⟩ [] := Rd.nil
theorem RdB.none {H : Hp} : RdB H ⟨none, 0, 0⟩ [] := Rd.nil
end Go.Eng
end
