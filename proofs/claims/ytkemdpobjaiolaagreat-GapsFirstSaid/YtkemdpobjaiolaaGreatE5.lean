/- The engine, parts UM, UN, UO, CM, RM, put together. Conditions: none. -/
import Derived.Test.YtkemdpobjaiolaaGreatE4
import Derived.MapKept
set_option linter.unusedVariables false
section
/- Maps that a call makes. Conditions: none. -/
namespace Go.Eng

theorem tr_setObj {w : World} {H : Hp} (h : View w H) {b : Nat} {o : Obj} (hb : H b ≠ none) : Tr w H { w with heap := w.heap.setIfInBounds b o } (H.put b o) := by
  have hlt := h.lt hb
  refine ⟨fun k o' hk => ?_, fun k hk hn => ?_, fun k hk => ?_, by simp, rfl, rfl, rfl, Nat.le_refl _⟩
  · simp only [Hp.put] at hk
    split at hk
    · rename_i e; subst e; cases hk; simp [hlt]
    · rename_i e
      show (w.heap.setIfInBounds b _)[k]? = _
      rw [Array.getElem?_setIfInBounds_ne (fun h => e h.symm)]; exact h k o' hk
  · have hne : k ≠ b := fun e => by subst e; exact hb hn
    show (w.heap.setIfInBounds b _)[k]? = _
    rw [Array.getElem?_setIfInBounds_ne (fun h => hne h.symm)]
  · by_cases e : k = b
    · subst e; exact .inl hb
    · rw [Hp.put_ne _ _ e] at hk; exact .inl hk

/-- How keys of a type are looked for. -/
structure KL {κ : Type} [DecidableEq κ] (P : Program) (k : TypeId) (fk : κ → Value) : Prop where
  find : ∀ (w : World) (x : κ) (es : List MapEntry) (kvs : List (κ × Value)), es.map (fun e => (e.key, e.val)) = kvs.map (fun p => (fk p.1, p.2)) →
    (Instr.findKey k (fk x) es).run P w = .ok ((kvs.findIdx? fun p => decide (p.1 = x)).map fun i => (i, (kvs[i]?.map (·.2)).getD undef)) w
  check : ∀ (w : World) (x : κ) (em : Bool), (Instr.checkKey em 10000 k (fk x)).run P w = .ok () w
  stays : ∀ (w : World) (x : κ), (Instr.keyThatStays (fk x) (fk x)).run P w = .ok (fk x) w

def MapR {κ : Type} (fk : κ → Value) (H : Hp) (b : Nat) (kvs : List (κ × Value)) : Prop :=
  ∃ es n, H b = some (.map es n) ∧ es.toList.map (fun e => (e.key, e.val)) = kvs.map fun p => (fk p.1, p.2)

section
variable {κ : Type} {fk : κ → Value} {H H' : Hp} {b : Nat} {kvs : List (κ × Value)}
theorem MapR.new (h : H' = H.put b (.map #[] 0)) : MapR fk H' b [] := by
  subst h; exact ⟨#[], 0, Hp.put_same _ _ _, rfl⟩
theorem MapR.le (h : MapR fk H b kvs) (hl : Hp.le H H') : MapR fk H' b kvs := by
  obtain ⟨es, n, h1, h2⟩ := h; exact ⟨es, n, hl _ _ h1, h2⟩
theorem MapR.chg {u : Slc} (h : MapR fk H b kvs) (hc : Chg H H' u) (hn : ∀ p, u.a = some p → p.block ≠ b) : MapR fk H' b kvs := by
  obtain ⟨es, n, h1, h2⟩ := h; exact ⟨es, n, by rw [hc b (by rw [h1]; simp) hn]; exact h1, h2⟩

end

section
variable {κ : Type} [DecidableEq κ] {P : Program} {k e t : TypeId} {fk : κ → Value} {H H' : Hp} {b : Nat} {kvs : List (κ × Value)} {x : κ} {v z : Value}

/-- What a map holds at a key. -/
def getM (kvs : List (κ × Value)) (x : κ) : Option Value := (kvs.find? fun p => decide (p.1 = x)).map (·.2)

theorem getM_idx : ∀ (kvs : List (κ × Value)) (x : κ), (kvs.findIdx? fun p => decide (p.1 = x)).map (fun i => (kvs[i]?.map (·.2)).getD undef) = getM kvs x
  | [], x => rfl
  | p :: kvs, x => by
    unfold getM
    rw [List.findIdx?_cons, List.find?_cons]
    by_cases h : p.1 = x
    · simp [h]
    · simp only [h, decide_false, Bool.false_eq_true, if_false, Option.map_map]
      rw [← getM, ← getM_idx kvs x]
      rfl

theorem KL.look (K : KL P k fk) (ht : P.underlying t = some (.map k e)) (hzz : (P.info? e).bind (fun i => i.zero) = some z) (h : MapR fk H b kvs) :
    OpQ P (semV (Instr.lookup t (.map (some b)) (fk x) false)) H ((getM kvs x).getD z) := by
  obtain ⟨es, n, h1, h2⟩ := h
  obtain ⟨i, hi, hz⟩ := Option.bind_eq_some_iff.1 hzz
  intro w hv
  have hf := K.find w x es.toList kvs h2
  rw [← getM_idx]
  cases hx : kvs.findIdx? fun p => decide (p.1 = x) with
  | none =>
    rw [hx] at hf
    simp [semV, Instr.lookup, run_underlying ht, MapKept.run_getObj_map (hv b _ h1), K.check w x, hf, Result.andThen, zeroValue, typeInfo, hi, hz]
  | some j =>
    rw [hx] at hf
    simp [semV, Instr.lookup, run_underlying ht, MapKept.run_getObj_map (hv b _ h1), K.check w x, hf, Result.andThen]

/-- A key that was not there. -/
theorem KL.add (K : KL P k fk) (ht : P.underlying t = some (.map k e)) (h : MapR fk H b kvs) (hn : getM kvs x = none) :
    OpSem P (semU (Instr.mapUpdate t (.map (some b)) (fk x) v)) H fun _ H' => ∃ o, H' = H.put b o ∧ MapR fk H' b (kvs ++ [(x, v)]) := by
  obtain ⟨es, n, h1, h2⟩ := h
  intro w hv
  have hf := K.find w x es.toList kvs h2
  have hx : kvs.findIdx? (fun p => decide (p.1 = x)) = none := by
    have := getM_idx kvs x
    rw [hn] at this
    simpa using this
  rw [hx] at hf
  refine ⟨undef, _, _, .inr ⟨?_, rfl⟩, tr_setObj hv (b := b) (o := .map (es.push ⟨fk x, v, n⟩) (n + 1)) (by rw [h1]; simp), _, rfl, _, _, Hp.put_same _ _ _, ?_⟩
  · simp [semU, Instr.mapUpdate, run_underlying ht, MapKept.run_getObj_map (hv b _ h1), K.check w x, hf, Result.andThen, MapKept.run_setObj_map _ (hv b _ h1)]
  · simp [h2]
end

theorem findNow_at {kd : TypeDesc} {κ : Type} [DecidableEq κ] {fk : κ → Value} (hs : ∀ x y, Instr.sameNow kd (fk x) (fk y) = some (decide (x = y))) (x : κ) : ∀ (es : List MapEntry) (kvs : List (κ × Value)) (j : Nat),
    es.map (fun e => (e.key, e.val)) = kvs.map (fun p => (fk p.1, p.2)) →
    Instr.findNow kd (fk x) es j = some ((kvs.findIdx? fun p => decide (p.1 = x)).map fun i => (j + i, (kvs[i]?.map (·.2)).getD undef))
  | [], [], j, _ => rfl
  | e :: es, p :: kvs, j, h => by
    simp only [List.map_cons, List.cons.injEq, Prod.mk.injEq] at h
    obtain ⟨⟨h1, h2⟩, h3⟩ := h
    rw [Instr.findNow, h1, hs, List.findIdx?_cons]
    by_cases hx : x = p.1
    · subst hx; simp [h2]
    · have hx' : ¬ p.1 = x := fun e => hx e.symm
      simp only [hx, hx', decide_false, Bool.false_eq_true, if_false]
      rw [findNow_at hs x es kvs (j + 1) h3]
      cases kvs.findIdx? fun p => decide (p.1 = x) with
      | none => rfl
      | some i => simp; omega

theorem findAsk_at {P : Program} {k : TypeId} {κ : Type} [DecidableEq κ] {fk : κ → Value} (hs : ∀ x y w, (Op.equal k (fk x) (fk y)).run P w = .ok (decide (x = y)) w) (w : World) (x : κ) : ∀ (es : List MapEntry) (kvs : List (κ × Value)) (j : Nat),
    es.map (fun e => (e.key, e.val)) = kvs.map (fun p => (fk p.1, p.2)) →
    (Instr.findAsking k (fk x) es j).run P w = .ok ((kvs.findIdx? fun p => decide (p.1 = x)).map fun i => (j + i, (kvs[i]?.map (·.2)).getD undef)) w
  | [], [], j, _ => rfl
  | e :: es, p :: kvs, j, h => by
    simp only [List.map_cons, List.cons.injEq, Prod.mk.injEq] at h
    obtain ⟨⟨h1, h2⟩, h3⟩ := h
    rw [Instr.findAsking, h1, Sem.run_bind, hs, Result.andThen_ok, List.findIdx?_cons]
    by_cases hx : x = p.1
    · subst hx; simp [h2]
    · have hx' : ¬ p.1 = x := fun e => hx e.symm
      simp only [hx, hx', decide_false, Bool.false_eq_true, if_false]
      rw [findAsk_at hs w x es kvs (j + 1) h3]
      cases kvs.findIdx? fun p => decide (p.1 = x) with
      | none => rfl
      | some i => simp; omega

theorem KL.of_now {P : Program} {k : TypeId} {κ : Type} [DecidableEq κ] {fk : κ → Value} {kd : TypeDesc} (hk : P.underlying k = some kd) (hs : ∀ x y, Instr.sameNow kd (fk x) (fk y) = some (decide (x = y)))
    (hc : ∀ (w : World) (x : κ) (em : Bool), (Instr.checkKey em 10000 k (fk x)).run P w = .ok () w) (hst : ∀ (w : World) (x : κ), (Instr.keyThatStays (fk x) (fk x)).run P w = .ok (fk x) w) : KL P k fk := by
  refine ⟨fun w x es kvs h => ?_, hc, hst⟩
  rw [Instr.findKey, Sem.run_bind, run_underlying hk, Result.andThen_ok, findNow_at hs x es kvs 0 h]
  simp

/-- Keys that are ints. -/
theorem KL.int {P : Program} {k : TypeId} (hk : P.underlying k = some (.int .i64)) : KL P k (fun x : Int => Value.int .i64 x) := by
  refine KL.of_now hk (fun x y => by simp only [Instr.sameNow, if_true, Option.some.injEq]; rw [Bool.eq_iff_iff]; simp) (fun w x em => ?_) fun w x => by simp [Instr.keyThatStays, Instr.sameBits]
  exact MapKept.run_checkKey (n := 9999) hk (by rfl) em

/-- Keys that are pairs of ints. -/
theorem KL.pair {P : Program} {k t : TypeId} {f0 f1 : Field} (hk : P.underlying k = some (.struct #[f0, f1])) (h0 : f0.type = t) (h1 : f1.type = t) (ht : P.underlying t = some (.int .i64)) (o0 : f0.offset = 0) (o1 : f1.offset = 1)
    (n0 : f0.name ≠ "_") (n1 : f1.name ≠ "_") (hp : P.stoodInHeld k = false) (hs : P.cellsOf t = 1) : KL P k (fun x : Int × Int => Value.agg #[.int .i64 x.1, .int .i64 x.2]) := by
  have hpart : ∀ (cs : Array Value) (i : Nat) (v : Value) (w : World), cs[i]? = some v → (part t cs i).run P w = .ok v w := fun cs i v w h => by
    exact run_part (x := .int .i64) (by unfold partV aggT; rw [ht]; exact h) ht w
  refine ⟨fun w x es kvs h => ?_, fun w x em => ?_, fun w x => ?_⟩
  · rw [Instr.findKey, Sem.run_bind, run_underlying hk, Result.andThen_ok]
    have heq : ∀ (x y : Int × Int) (w : World), (Op.equal k (.agg #[.int .i64 x.1, .int .i64 x.2]) (.agg #[.int .i64 y.1, .int .i64 y.2])).run P w = .ok (decide (x = y)) w := fun x y w => by
      have hv : eqV P 9 none k (.agg #[.int .i64 x.1, .int .i64 x.2]) (.agg #[.int .i64 y.1, .int .i64 y.2]) = some (some (x.1 == y.1 && x.2 == y.2)) := by
        have b0 : (f0.name == "_") = false := by simpa using n0
        have b1 : (f1.name == "_") = false := by simpa using n1
        simp [eqV, hk, hp, eqFs, h0, h1, ht, partV, aggT, o0, o1, b0, b1, andB]
      obtain ⟨r, hr, e⟩ := run_eqV 9 none _ k _ _ hv
      have hrr : r = decide (x = y) := by
        have : (x.1 == y.1 && x.2 == y.2) = r := by simpa [oB] using e
        rw [← this, Bool.eq_iff_iff]
        simp only [Bool.and_eq_true, beq_iff_eq, decide_eq_true_eq]
        exact ⟨fun ⟨a, b⟩ => Prod.ext a b, fun h => by subst h; exact ⟨rfl, rfl⟩⟩
      rw [← hrr]
      exact hr 10000 w (by omega)
    have key := findAsk_at (P := P) (k := k) (fk := fun x : Int × Int => Value.agg #[.int .i64 x.1, .int .i64 x.2]) heq w x es kvs 0 h
    cases es with
    | nil =>
      cases kvs with
      | nil => rfl
      | cons p kvs => simp at h
    | cons e es =>
      simp only [Instr.findNow, Instr.sameNow]
      rw [key]
      simp
  · show (Instr.checkKey em (9999 + 1) k _).run P w = _
    unfold Instr.checkKey
    rw [Sem.run_bind, run_underlying hk, Result.andThen_ok]
    have hc : ∀ (n : Int), (Instr.checkKey em 9999 t (.int .i64 n)).run P w = .ok () w := fun n => MapKept.run_checkKey (n := 9998) ht (by rfl) em
    simp [n0, n1, h0, h1, o0, o1, hpart, hc, Result.andThen]
  · simp [Instr.keyThatStays, Instr.sameBits]
end Go.Eng
end
section
/- slices.Delete, on a slice of one's own. Conditions: none. -/
namespace Go.Eng

theorem Tr.same {w w' : World} {H H' H'' : Hp} (h : Tr w H w' H') (e : H' = H'') : Tr w H w' H'' := by subst e; exact h

section
variable {α : Type} {k : Nat} {f : α → List Value} {P : Program} {t ty ty' e bytes : Nat} {cs cs' : Array Bool} {H0 H : Hp} {s : Slc} {xs : List α} {i j : Int}

end
end Go.Eng
end
section
/- Stores into elements of several cells. Conditions: none. -/
namespace Go.Eng

theorem store_row {b off : Nat} {T : TypeId} : ∀ (vs : List Value) (j : Nat) (H : Hp) (cs : Array Value), H b = some (.cells cs T (0, 0)) → off + j + vs.length ≤ cs.size →
    H.canStore ⟨b, off, none⟩ j vs ∧ H.store ⟨b, off, none⟩ j vs = H.put b (.cells (cs.toList.take (off + j) ++ vs ++ cs.toList.drop (off + j + vs.length)).toArray T (0, 0))
  | [], j, H, cs, h, _ => by
    refine ⟨trivial, ?_⟩
    simp only [Hp.store, List.append_nil, List.length_nil, Nat.add_zero, List.take_append_drop, Array.toArray_toList]
    funext k
    simp only [Hp.put]
    split
    · rename_i e; subst e; exact h
    · rfl
  | v :: vs, j, H, cs, h, hl => by
    simp only [List.length_cons] at hl
    have ha : (Addr.mk b off none).add j = ⟨b, off + j, none⟩ := by simp [Addr.add_lit]
    have hs1 : H.set1 ⟨b, off + j, none⟩ v = H.put b (.cells (cs.setIfInBounds (off + j) v) T (0, 0)) := by
      have := Cel.store (H := H) (b := b) (cs := cs) (T := T) h (off + j) v
      simpa [Hp.store, Addr.add] using this
    have hc : H.canStore ⟨b, off + j, none⟩ 0 [v] := Cel.can h (by omega) v
    have hb1 : (H.put b (.cells (cs.setIfInBounds (off + j) v) T (0, 0))) b = some (.cells (cs.setIfInBounds (off + j) v) T (0, 0)) := Hp.put_same _ _ _
    obtain ⟨i1, i2⟩ := store_row (off := off) vs (j + 1) (H.put b (.cells (cs.setIfInBounds (off + j) v) T (0, 0))) _ hb1 (by simp; omega)
    obtain ⟨j1, _⟩ := store_row (off := off) vs (j + 1) H cs h (by omega)
    refine ⟨⟨?_, j1⟩, ?_⟩
    · rw [ha]; simpa [Hp.canStore, Addr.add] using hc
    · simp only [Hp.store]
      rw [ha, hs1, i2, Hp.put_put]
      congr 3
      have e : (cs.setIfInBounds (off + j) v).toList = cs.toList.take (off + j) ++ v :: cs.toList.drop (off + j + 1) := by
        rw [setIf_toList, List.set_eq_take_append_cons_drop, if_pos (by rw [Array.length_toList]; omega)]
      have htl : (cs.toList.take (off + j)).length = off + j := by rw [List.length_take, Array.length_toList]; omega
      rw [e, show off + (j + 1) = (off + j) + 1 by omega]
      have t1 : (cs.toList.take (off + j) ++ v :: cs.toList.drop (off + j + 1)).take (off + j + 1) = cs.toList.take (off + j) ++ [v] := by
        rw [show cs.toList.take (off + j) ++ v :: cs.toList.drop (off + j + 1) = (cs.toList.take (off + j) ++ [v]) ++ cs.toList.drop (off + j + 1) by simp]
        exact List.take_left' (by simp [htl])
      have t2 : (cs.toList.take (off + j) ++ v :: cs.toList.drop (off + j + 1)).drop (off + j + 1 + vs.length) = cs.toList.drop (off + j + (vs.length + 1)) := by
        rw [show cs.toList.take (off + j) ++ v :: cs.toList.drop (off + j + 1) = (cs.toList.take (off + j) ++ [v]) ++ cs.toList.drop (off + j + 1) by simp]
        rw [List.drop_append, List.drop_of_length_le (by simp [htl]), List.nil_append, List.drop_drop]
        congr 1
        simp [htl]; omega
      rw [t1, t2]
      simp

section
variable {α : Type} {k : Nat} {f : α → List Value} {e : TypeId} {H H0 : Hp} {b : Nat} {u : Slc} {xs : List α} {i : Int} {x y : α} {j : Nat} {vs : List Value}

theorem Own.storeP (hk : ∀ x, (f x).length = k) (h : Own k f e H b u xs) (h0 : 0 ≤ i) (hx : xs[i.toNat]? = some x) (hy : f y = (f x).take j ++ vs ++ (f x).drop (j + vs.length)) (hj : j + vs.length ≤ k) :
    H.canStore ((eaddr u.a k i).add j) 0 vs ∧ ∃ o, H.store ((eaddr u.a k i).add j) 0 vs = H.put b o ∧ Own k f e (H.put b o) b u (xs.set i.toNat y) := by
  obtain ⟨o1, o2, o3, cs, o4, o5, o6⟩ := h
  have hlt : i.toNat < xs.length := (List.getElem?_eq_some_iff.1 hx).1
  have hea : (eaddr u.a k i).add j = ⟨b, i.toNat * k + j, none⟩ := by rw [o3]; simp [eaddr, Addr.add_lit]
  have hik : i.toNat * k + k ≤ xs.length * k := by
    calc i.toNat * k + k = (i.toNat + 1) * k := by rw [Nat.add_mul]; omega
      _ ≤ xs.length * k := Nat.mul_le_mul_right _ hlt
  have hck : xs.length * k ≤ u.c * k := Nat.mul_le_mul_right _ (by omega)
  obtain ⟨s1, s2⟩ := store_row (b := b) (off := i.toNat * k + j) (T := e) vs 0 H cs o4 (by omega)
  rw [hea]
  refine ⟨s1, _, s2, by simpa using o1, o2, o3, _, Hp.put_same _ _ _, ?_, ?_⟩
  · simp only [List.size_toArray, List.length_append, List.length_take, List.length_drop, Array.length_toList, o5, Nat.add_zero]
    omega
  · rw [List.length_set]
    simp only [Nat.add_zero]
    have hsplit : xs = xs.take i.toNat ++ x :: xs.drop (i.toNat + 1) := by
      have hd : xs.drop i.toNat = x :: xs.drop (i.toNat + 1) := by
        rw [List.drop_eq_getElem_cons hlt]; congr 1; exact (List.getElem?_eq_some_iff.1 hx).2
      rw [← hd, List.take_append_drop]
    have hA : ((xs.take i.toNat).flatMap f).length = i.toNat * k := by rw [flatMap_len hk, List.length_take, Nat.min_eq_left (by omega)]
    have hfx := hk x
    -- the row in parts
    have hrow : cs.toList = (xs.take i.toNat).flatMap f ++ f x ++ (xs.drop (i.toNat + 1)).flatMap f ++ cs.toList.drop (xs.length * k) := by
      have e1 : xs.flatMap f = (xs.take i.toNat).flatMap f ++ f x ++ (xs.drop (i.toNat + 1)).flatMap f := by
        conv => lhs; rw [hsplit]
        rw [List.flatMap_append, List.flatMap_cons, List.append_assoc]
      rw [← e1, ← o6, List.take_append_drop]
    have hset : (xs.set i.toNat y).flatMap f = (xs.take i.toNat).flatMap f ++ f y ++ (xs.drop (i.toNat + 1)).flatMap f := by
      rw [List.set_eq_take_append_cons_drop, if_pos hlt, List.flatMap_append, List.flatMap_cons, List.append_assoc]
    rw [hset, hy]
    generalize (xs.take i.toNat).flatMap f = A at *
    generalize hB : (xs.drop (i.toNat + 1)).flatMap f = B at *
    have hBl : B.length = (xs.length - (i.toNat + 1)) * k := by rw [← hB, flatMap_len hk, List.length_drop]
    generalize hD : cs.toList.drop (xs.length * k) = D at *
    have hlenk : xs.length * k = i.toNat * k + k + (xs.length - (i.toNat + 1)) * k := by
      have : xs.length = i.toNat + 1 + (xs.length - (i.toNat + 1)) := by omega
      conv => lhs; rw [this]
      rw [Nat.add_mul, Nat.add_mul]; omega
    have t1 : cs.toList.take (i.toNat * k + j) = A ++ (f x).take j := by
      rw [hrow, List.append_assoc, List.append_assoc, List.take_append, hA, List.take_of_length_le (by omega), Nat.add_sub_cancel_left, List.take_append, hfx]
      rw [show j - k = 0 by omega]; simp
    have t2 : cs.toList.drop (i.toNat * k + j + vs.length) = (f x).drop (j + vs.length) ++ B ++ D := by
      rw [hrow, List.append_assoc, List.append_assoc, List.drop_append, hA, List.drop_of_length_le (by omega), List.nil_append, show i.toNat * k + j + vs.length - i.toNat * k = j + vs.length by omega, List.drop_append, hfx, show j + vs.length - k = 0 by omega]
      simp
    simp only [t1, t2]
    rw [show A ++ (f x).take j ++ vs ++ ((f x).drop (j + vs.length) ++ B ++ D) = (A ++ ((f x).take j ++ vs ++ (f x).drop (j + vs.length)) ++ B) ++ D by simp [List.append_assoc]]
    exact List.take_left' (by
      simp only [List.length_append, List.length_take, List.length_drop, hA, hBl, hfx, hlenk]
      omega)

theorem Mine.setP (hk : ∀ x, (f x).length = k) (h : Mine k f e H0 H u xs) (h0 : 0 ≤ i) (hx : xs[i.toNat]? = some x) (hy : f y = (f x).take j ++ vs ++ (f x).drop (j + vs.length)) (hj : j + vs.length ≤ k) {Q : Hp → Prop}
    (q : ∀ H', Mine k f e H0 H' u (xs.set i.toNat y) → Chg H H' u → Q H') :
    H.canStore ((eaddr u.a k i).add j) 0 vs ∧ ∀ H', H' = H.store ((eaddr u.a k i).add j) 0 vs → Q H' := by
  rcases h with ⟨rfl, rfl⟩ | ⟨b, hb, h⟩
  · simp at hx
  · obtain ⟨c, o, ho, hw⟩ := h.storeP hk h0 hx hy hj
    refine ⟨c, fun H' hH => ?_⟩
    subst hH
    refine q _ (.inr ⟨b, hb, by rw [ho]; exact hw⟩) fun c _ hc => ?_
    rw [ho, Hp.put_ne]
    intro ec; exact hc _ h.blk ec.symm

/-- A whole element, or its first cells. -/
theorem Mine.setE (hk : ∀ x, (f x).length = k) (h : Mine k f e H0 H u xs) (h0 : 0 ≤ i) (hx : xs[i.toNat]? = some x) (hy : f y = vs ++ (f x).drop vs.length) (hj : vs.length ≤ k) {Q : Hp → Prop}
    (q : ∀ H', Mine k f e H0 H' u (xs.set i.toNat y) → Chg H H' u → Q H') :
    H.canStore (eaddr u.a k i) 0 vs ∧ ∀ H', H' = H.store (eaddr u.a k i) 0 vs → Q H' := by
  have := Mine.setP (j := 0) (vs := vs) hk h h0 hx (by simpa using hy) (by omega) q
  rwa [add_zero'] at this
end

/-- A certificate with its number. -/
def fD (x : Int × Int × Int) : List Value := [.int .i64 x.1, .int .i64 x.2.1, .int .i64 x.2.2]
section
variable {H : Hp} {u : Slc} {xs : List (Int × Int × Int)} {i : Int}
theorem Rd.gD (h : Rd 3 fD H u xs) (h0 : 0 ≤ i) (h1 : i < xs.length) : H.at (eaddr u.a 3 i) = some (.int .i64 (xs.getD i.toNat (0, 0, 0)).1) ∧ H.at ((eaddr u.a 3 i).add 1) = some (.int .i64 (xs.getD i.toNat (0, 0, 0)).2.1) ∧ H.at ((eaddr u.a 3 i).add 2) = some (.int .i64 (xs.getD i.toNat (0, 0, 0)).2.2) :=
  ⟨h.at0 h0 (getX h0 h1) rfl, h.atj h0 (getX h0 h1) (j := 1) rfl, h.atj h0 (getX h0 h1) (j := 2) rfl⟩
theorem Rd.gD2 (h : Rd 3 fD H u xs) (h0 : 0 ≤ i) (h1 : i < xs.length) : H.at (((eaddr u.a 3 i).add 1).add 0) = some (.int .i64 (xs.getD i.toNat (0, 0, 0)).2.1) ∧ H.at (((eaddr u.a 3 i).add 1).add 1) = some (.int .i64 (xs.getD i.toNat (0, 0, 0)).2.2) := by
  obtain ⟨_, b, c⟩ := h.gD h0 h1
  rw [add_zero', add_add]; exact ⟨b, c⟩
theorem Rd.ldD {Q : Int → Int → Int → Prop} (h : Rd 3 fD H u xs) (h0 : 0 ≤ i) (h1 : i < xs.length) (q : Q (xs.getD i.toNat (0, 0, 0)).1 (xs.getD i.toNat (0, 0, 0)).2.1 (xs.getD i.toNat (0, 0, 0)).2.2) :
    inSl u.a u.n i ∧ ∃ n m l, (H.at (eaddr u.a 3 i) = some (.int .i64 n) ∧ H.at ((eaddr u.a 3 i).add 1) = some (.int .i64 m) ∧ H.at ((eaddr u.a 3 i).add 2) = some (.int .i64 l)) ∧ Q n m l := ⟨h.inS h0 h1, _, _, _, h.gD h0 h1, q⟩
theorem Mine.rdD {e : TypeId} {H0 H : Hp} {u : Slc} {xs : List (Int × Int × Int)} (h : Mine 3 fD e H0 H u xs) : Rd 3 fD H u xs := Mine.rd (k := 3) (f := fD) (fun _ => rfl) h
end
end Go.Eng
end
section
/- Stores of certificates, in plain words. Conditions: none. -/
namespace Go.Eng

structure Ct where
  next : Int
  list : List (Int × Int × Int)
deriving DecidableEq
def Ct.zero : Ct := ⟨0, []⟩

def validC (x : Int × Int) : Bool := decide (0 ≤ x.1) && decide (x.1 ≤ 65535) && decide (0 ≤ x.2) && decide (x.2 ≤ 65535) && x.1 != x.2

structure okL (nx : Int) (l : List (Int × Int × Int)) : Prop where
  each : ∀ x ∈ l, validC x.2 = true ∧ 0 ≤ x.1 ∧ x.1 < nx
  inc : l.Pairwise fun a b => a.1 < b.1
  dist : (l.map (·.2)).Nodup

structure okC (c : Ct) : Prop where
  len : c.list.length ≤ 200
  n0 : 0 ≤ c.next
  n1 : c.next ≤ 1000000
  ok : okL c.next c.list

instance (c : Ct) : Decidable (okC c) :=
  decidable_of_iff (c.list.length ≤ 200 ∧ 0 ≤ c.next ∧ c.next ≤ 1000000 ∧ (∀ x ∈ c.list, validC x.2 = true ∧ 0 ≤ x.1 ∧ x.1 < c.next) ∧ (c.list.Pairwise fun a b => a.1 < b.1) ∧ (c.list.map (·.2)).Nodup)
    ⟨fun ⟨a, b, d, e, f, g⟩ => ⟨a, b, d, e, f, g⟩, fun ⟨a, b, d, e, f, g⟩ => ⟨a, b, d, e, f, g⟩⟩

def chkC (c : Ct) : Int := if okC c then 0 else 8
theorem chkC_ok {c : Ct} (h : okC c) : chkC c = 0 := by unfold chkC; rw [if_pos h]
theorem chkC_bad {c : Ct} (h : ¬ okC c) : chkC c = 8 := by unfold chkC; rw [if_neg h]
theorem chkC_zero {c : Ct} : chkC c = 0 ↔ okC c := by
  by_cases h : okC c
  · simp [chkC_ok h, h]
  · simp [chkC_bad h, h]

theorem okL.take {nx : Int} {l : List (Int × Int × Int)} (h : okL nx l) (n : Nat) : okL nx (l.take n) :=
  ⟨fun x hx => h.each x (List.mem_of_mem_take hx), h.inc.sublist (List.take_sublist _ _), h.dist.sublist ((List.take_sublist n l).map _)⟩

theorem okL.nil (nx : Int) : okL nx [] := ⟨fun x hx => (by simp at hx), List.Pairwise.nil, List.nodup_nil⟩

theorem okL.snoc {nx : Int} {l : List (Int × Int × Int)} {x : Int × Int × Int} : okL nx (l ++ [x]) ↔ okL nx l ∧ validC x.2 = true ∧ 0 ≤ x.1 ∧ x.1 < nx ∧ (∀ y ∈ l, y.1 < x.1) ∧ x.2 ∉ l.map (·.2) := by
  constructor
  · intro h
    have h1 := h.take l.length
    rw [List.take_left' rfl] at h1
    obtain ⟨a, b, c⟩ := h.each x (by simp)
    have hi := h.inc
    rw [List.pairwise_append] at hi
    have hd := h.dist
    rw [List.map_append, List.nodup_append] at hd
    exact ⟨h1, a, b, c, fun y hy => hi.2.2 y hy x (by simp), fun hm => hd.2.2 _ hm _ (by simp) rfl⟩
  · intro ⟨h, a, b, c, d, e⟩
    refine ⟨fun y hy => ?_, ?_, ?_⟩
    · rcases List.mem_append.1 hy with hy | hy
      · exact h.each y hy
      · simp only [List.mem_singleton] at hy; subst hy; exact ⟨a, b, c⟩
    · rw [List.pairwise_append]
      exact ⟨h.inc, by simp, fun y hy z hz => by simp only [List.mem_singleton] at hz; subst hz; exact d y hy⟩
    · rw [List.map_append, List.nodup_append]
      refine ⟨h.dist, by simp, fun y hy z hz hyz => ?_⟩
      simp only [List.map_cons, List.map_nil, List.mem_singleton] at hz
      subst hz; subst hyz; exact e hy

def hasC (c : Ct) (x : Int × Int) : Bool := c.list.any fun h => h.2 == x
/-- Where a number is, or -1. -/
def atC (c : Ct) (n : Int) : Int := idx (fun h : Int × Int × Int => h.1 == n) c.list
def addC (c : Ct) (x : Int × Int) : Ct × Int × Int :=
  if okC c ∧ validC x = true then (if hasC c x then (.zero, 0, 14) else if c.list.length = 200 ∨ c.next = 1000000 then (.zero, 0, 18) else (⟨c.next + 1, c.list ++ [(c.next, x)]⟩, c.next, 0)) else (.zero, 0, 8)
def getD3 (l : List (Int × Int × Int)) (i : Int) : Int × Int × Int := l.getD i.toNat (0, 0, 0)
def getC (c : Ct) (n : Int) : (Int × Int) × Int :=
  if okC c then (if atC c n < 0 then ((0, 0), 6) else ((getD3 c.list (atC c n)).2, 0)) else ((0, 0), 8)
def cmpI (x y : Int) : Int := if x < y then -1 else if x > y then 1 else 0

/-- Where a number is, or would be, in increasing ones. -/
def posI (l : List Int) (t : Int) : Nat := l.findIdx fun x => decide (t ≤ x)

theorem posI_le (l : List Int) (t : Int) : posI l t ≤ l.length := List.findIdx_le_length
theorem posI_lt {l : List Int} {t : Int} {i : Nat} {x : Int} (hi : i < posI l t) (hx : l[i]? = some x) : x < t := by
  have hl : i < l.length := Nat.lt_of_lt_of_le hi (posI_le l t)
  have := List.not_of_lt_findIdx hi
  have e : l[i] = x := (List.getElem?_eq_some_iff.1 hx).2
  rw [e] at this
  simpa using this
theorem posI_ge {l : List Int} {t : Int} (hs : l.Pairwise (· < ·)) {i : Nat} {x : Int} (hi : posI l t ≤ i) (hx : l[i]? = some x) : t ≤ x := by
  have hl : i < l.length := (List.getElem?_eq_some_iff.1 hx).1
  have hp : posI l t < l.length := Nat.lt_of_le_of_lt hi hl
  have h1 : decide (t ≤ l[posI l t]) = true := List.findIdx_getElem (xs := l) (p := fun x => decide (t ≤ x)) (w := hp)
  have h1 : t ≤ l[posI l t] := by simpa using h1
  rcases Nat.lt_or_ge (posI l t) i with h | h
  · have := List.pairwise_iff_getElem.1 hs _ _ hp hl h
    have e : l[i] = x := (List.getElem?_eq_some_iff.1 hx).2
    omega
  · have e : posI l t = i := by omega
    have e2 : l[i] = x := (List.getElem?_eq_some_iff.1 hx).2
    subst e; omega
/-- It is the one place with smaller ones before it and no smaller one from it on. -/
theorem posI_eq {l : List Int} {t : Int} (hs : l.Pairwise (· < ·)) {p : Nat} (hp : p ≤ l.length) (h1 : ∀ i x, i < p → l[i]? = some x → x < t) (h2 : ∀ i x, p ≤ i → l[i]? = some x → t ≤ x) : p = posI l t := by
  rcases Nat.lt_trichotomy p (posI l t) with h | h | h
  · have hl : p < l.length := Nat.lt_of_lt_of_le h (posI_le l t)
    have a := posI_lt h (List.getElem?_eq_getElem hl)
    have b := h2 p _ (Nat.le_refl _) (List.getElem?_eq_getElem hl)
    omega
  · exact h
  · have hl : posI l t < l.length := Nat.lt_of_lt_of_le h hp
    have a := h1 _ _ h (List.getElem?_eq_getElem hl)
    have b := posI_ge hs (Nat.le_refl _) (List.getElem?_eq_getElem hl)
    omega

theorem okL.nums {nx : Int} {l : List (Int × Int × Int)} (h : okL nx l) : (l.map (·.1)).Pairwise (· < ·) := by
  rw [List.pairwise_map]; exact h.inc

/-- The place of a number by halving is the one by looking at all. -/
theorem at_pos {nx : Int} {l : List (Int × Int × Int)} (h : okL nx l) (n : Int) :
    (decide (posI (l.map (·.1)) n < l.length) && (getD3 l (posI (l.map (·.1)) n)).1 == n) = true ∧ idx (fun h : Int × Int × Int => h.1 == n) l = posI (l.map (·.1)) n ∨
    (decide (posI (l.map (·.1)) n < l.length) && (getD3 l (posI (l.map (·.1)) n)).1 == n) = false ∧ idx (fun h : Int × Int × Int => h.1 == n) l = -1 := by
  have hs := h.nums
  by_cases hc : (decide (posI (l.map (·.1)) n < l.length) && (getD3 l (posI (l.map (·.1)) n)).1 == n) = true
  · left
    refine ⟨hc, ?_⟩
    simp only [Bool.and_eq_true, decide_eq_true_eq, beq_iff_eq] at hc
    obtain ⟨h1, h2⟩ := hc
    have hx : l[posI (l.map (·.1)) n]? = some (getD3 l (posI (l.map (·.1)) n)) := by
      unfold getD3; rw [Int.toNat_natCast]; simp [List.getD, h1]
    rw [idx_hit hx (by simpa using h2) (fun y hy => ?_)]
    obtain ⟨j, hj, e⟩ := List.mem_take_iff_getElem.1 hy
    have := posI_lt (l := l.map (·.1)) (t := n) (i := j) (x := y.1) (by omega) (by
      rw [List.getElem?_map, List.getElem?_eq_getElem (by omega), e]; rfl)
    rw [beq_eq_false_iff_ne]; omega
  · right
    have hc := Bool.eq_false_iff.2 hc
    refine ⟨hc, idx_miss fun y hy => ?_⟩
    rw [beq_eq_false_iff_ne]
    intro e
    obtain ⟨j, hj⟩ := List.mem_iff_getElem?.1 hy
    have hjl : j < l.length := (List.getElem?_eq_some_iff.1 hj).1
    have hm : (l.map (·.1))[j]? = some y.1 := by rw [List.getElem?_map, hj]; rfl
    have hpj : posI (l.map (·.1)) n = j := by
      rcases Nat.lt_trichotomy (posI (l.map (·.1)) n) j with h' | h' | h'
      · have hpl : posI (l.map (·.1)) n < (l.map (·.1)).length := by simp; omega
        have a := posI_ge hs (Nat.le_refl _) (List.getElem?_eq_getElem hpl)
        have b := List.pairwise_iff_getElem.1 hs _ _ hpl (by simpa using hjl) h'
        have e2 : (l.map (·.1))[j]'(by simpa using hjl) = y.1 := (List.getElem?_eq_some_iff.1 hm).2
        rw [e2] at b
        omega
      · exact h'
      · have := posI_lt h' hm; omega
    rw [hpj] at hc
    have hg : getD3 l (j : Int) = y := by unfold getD3; rw [Int.toNat_natCast, List.getD_eq_getElem?_getD, hj]; rfl
    rw [hg] at hc
    simp [hjl, e] at hc

theorem atC_range {c : Ct} {n : Int} (h : 0 ≤ atC c n) : atC c n < c.list.length ∧ ∃ x, c.list[(atC c n).toNat]? = some x ∧ x.1 = n := by
  unfold atC at *
  unfold idx at *
  split at h
  · rename_i ha
    rw [if_pos ha]
    have hl : c.list.findIdx (fun h => h.1 == n) < c.list.length := by
      rw [List.findIdx_lt_length]; simpa using ha
    refine ⟨by omega, _, by rw [Int.toNat_natCast]; exact List.getElem?_eq_getElem hl, ?_⟩
    have := List.findIdx_getElem (xs := c.list) (p := fun h : Int × Int × Int => h.1 == n) (w := hl)
    simpa using this
  · omega
end Go.Eng
end
section
/- Fractions and events, in plain words. Conditions: none. -/
namespace Go.Eng

/-- A valid fraction. -/
structure okR (r : Int × Int) : Prop where
  d1 : 1 ≤ r.2
  d2 : r.2 ≤ 9223372036854775807
  n1 : -9223372036854775807 ≤ r.1
  n2 : r.1 ≤ 9223372036854775807
  g : Nat.gcd r.1.natAbs r.2.natAbs = 1
instance (r : Int × Int) : Decidable (okR r) :=
  decidable_of_iff (1 ≤ r.2 ∧ r.2 ≤ 9223372036854775807 ∧ -9223372036854775807 ≤ r.1 ∧ r.1 ≤ 9223372036854775807 ∧ Nat.gcd r.1.natAbs r.2.natAbs = 1) ⟨fun ⟨a, b, c, d, e⟩ => ⟨a, b, c, d, e⟩, fun ⟨a, b, c, d, e⟩ => ⟨a, b, c, d, e⟩⟩
def chkR (r : Int × Int) : Int := if okR r then 0 else 8
theorem chkR_ok {r : Int × Int} (h : okR r) : chkR r = 0 := by unfold chkR; rw [if_pos h]
theorem chkR_bad {r : Int × Int} (h : ¬ okR r) : chkR r = 8 := by unfold chkR; rw [if_neg h]
theorem chkR_zero {r : Int × Int} : chkR r = 0 ↔ okR r := by
  by_cases h : okR r
  · simp [chkR_ok h, h]
  · simp [chkR_bad h, h]
def fitR (r : Int × Int) : Prop := inI r.1 ∧ inI r.2
theorem okR.fit {r : Int × Int} (h : okR r) : fitR r := by
  have := h.d1; have := h.d2; have := h.n1; have := h.n2
  exact ⟨by unfold inI; omega, by unfold inI; omega⟩

def cmpR (a b : Int × Int) : Int := cmpI (a.1 * b.2) (b.1 * a.2)
theorem cmpI_lt {x y : Int} : cmpI x y < 0 ↔ x < y := by
  unfold cmpI
  split
  · simp [*]
  · split <;> simp [*]
theorem cmpI_eq {x y : Int} : cmpI x y = 0 ↔ x = y := by
  unfold cmpI
  split
  · simp; omega
  · split
    · simp; omega
    · simp; omega
theorem cmpI_gt {x y : Int} : cmpI x y > 0 ↔ x > y := by
  unfold cmpI
  split
  · simp; omega
  · split
    · simp [*]
    · simp; omega
theorem cmpI_neg {x y : Int} : 0 - cmpI x y = cmpI y x := by
  rcases Int.lt_trichotomy x y with h | h | h
  · have a : cmpI x y = -1 := by unfold cmpI; rw [if_pos h]
    have b : cmpI y x = 1 := by unfold cmpI; rw [if_neg (by omega), if_pos (by omega)]
    rw [a, b]; rfl
  · rw [cmpI_eq.2 h, cmpI_eq.2 h.symm]; rfl
  · have a : cmpI x y = 1 := by unfold cmpI; rw [if_neg (by omega), if_pos h]
    have b : cmpI y x = -1 := by unfold cmpI; rw [if_pos h]
    rw [a, b]; rfl
theorem cmpI_range (x y : Int) : -1 ≤ cmpI x y ∧ cmpI x y ≤ 1 := by
  unfold cmpI
  split
  · omega
  · split <;> omega

/-- Less or the same, across denominators. -/
theorem rat_le {a b c : Int × Int} (hb : 1 ≤ b.2) (ha : 1 ≤ a.2) (hc : 1 ≤ c.2) (h : a.1 * b.2 ≤ b.1 * a.2) (h' : b.1 * c.2 ≤ c.1 * b.2) : a.1 * c.2 ≤ c.1 * a.2 := by
  have h1 : a.1 * b.2 * c.2 ≤ b.1 * a.2 * c.2 := Int.mul_le_mul_of_nonneg_right h (by omega)
  have h2 : b.1 * c.2 * a.2 ≤ c.1 * b.2 * a.2 := Int.mul_le_mul_of_nonneg_right h' (by omega)
  refine Int.le_of_mul_le_mul_right (a := b.2) ?_ (by omega)
  have e1 : a.1 * c.2 * b.2 = a.1 * b.2 * c.2 := by ac_rfl
  have e2 : b.1 * a.2 * c.2 = b.1 * c.2 * a.2 := by ac_rfl
  have e3 : c.1 * a.2 * b.2 = c.1 * b.2 * a.2 := by ac_rfl
  omega
theorem rat_lt {a b c : Int × Int} (hb : 1 ≤ b.2) (ha : 1 ≤ a.2) (hc : 1 ≤ c.2) (h : a.1 * b.2 ≤ b.1 * a.2) (h' : b.1 * c.2 ≤ c.1 * b.2) (hs : a.1 * b.2 < b.1 * a.2 ∨ b.1 * c.2 < c.1 * b.2) : a.1 * c.2 < c.1 * a.2 := by
  have h1 : a.1 * b.2 * c.2 ≤ b.1 * a.2 * c.2 := Int.mul_le_mul_of_nonneg_right h (by omega)
  have h2 : b.1 * c.2 * a.2 ≤ c.1 * b.2 * a.2 := Int.mul_le_mul_of_nonneg_right h' (by omega)
  have h3 : a.1 * b.2 * c.2 < b.1 * a.2 * c.2 ∨ b.1 * c.2 * a.2 < c.1 * b.2 * a.2 := by
    rcases hs with hs | hs
    · exact .inl (Int.mul_lt_mul_of_pos_right hs (by omega))
    · exact .inr (Int.mul_lt_mul_of_pos_right hs (by omega))
  have e1 : a.1 * c.2 * b.2 = a.1 * b.2 * c.2 := by ac_rfl
  have e2 : b.1 * a.2 * c.2 = b.1 * c.2 * a.2 := by ac_rfl
  have e3 : c.1 * a.2 * b.2 = c.1 * b.2 * a.2 := by ac_rfl
  refine Int.lt_of_mul_lt_mul_right (a := b.2) ?_ (by omega)
  omega

structure Ev where
  at_ : Int × Int
  no : Int
  h : Int × Int
deriving DecidableEq

def e0 : Ev := ⟨(0, 0), 0, (0, 0)⟩
def fE (x : Ev) : List Value := [.int .i64 x.at_.1, .int .i64 x.at_.2, .int .i64 x.no, .int .i64 x.h.1, .int .i64 x.h.2]
def Ev.v (x : Ev) : Value := .agg #[.int .i64 x.at_.1, .int .i64 x.at_.2, .int .i64 x.no, .int .i64 x.h.1, .int .i64 x.h.2]

def lessE (x y : Ev) : Bool := decide (cmpR x.at_ y.at_ < 0) || (cmpR x.at_ y.at_ == 0 && decide (x.no < y.no))

theorem lessE_iff {x y : Ev} : lessE x y = true ↔ x.at_.1 * y.at_.2 < y.at_.1 * x.at_.2 ∨ (x.at_.1 * y.at_.2 = y.at_.1 * x.at_.2 ∧ x.no < y.no) := by
  unfold lessE cmpR
  simp only [Bool.or_eq_true, Bool.and_eq_true, decide_eq_true_eq, beq_iff_eq, cmpI_lt, cmpI_eq]
theorem lessE_not {x y : Ev} : lessE x y = false ↔ y.at_.1 * x.at_.2 < x.at_.1 * y.at_.2 ∨ (y.at_.1 * x.at_.2 = x.at_.1 * y.at_.2 ∧ y.no ≤ x.no) := by
  rw [← Bool.not_eq_true, lessE_iff]; omega

/-- Not less, one after the other: its denominators are positive. -/
def posD (x : Ev) : Prop := 1 ≤ x.at_.2
theorem leE_trans {x y z : Ev} (hx : posD x) (hy : posD y) (hz : posD z) (h : lessE y x = false) (h' : lessE z y = false) : lessE z x = false := by
  rw [lessE_not] at *
  unfold posD at *
  have a : x.at_.1 * y.at_.2 ≤ y.at_.1 * x.at_.2 := by omega
  have b : y.at_.1 * z.at_.2 ≤ z.at_.1 * y.at_.2 := by omega
  have c := rat_le hy hx hz a b
  by_cases hs : x.at_.1 * y.at_.2 < y.at_.1 * x.at_.2 ∨ y.at_.1 * z.at_.2 < z.at_.1 * y.at_.2
  · exact .inl (rat_lt hy hx hz a b hs)
  · omega
theorem lessE_asymm {x y : Ev} (h : lessE x y = true) : lessE y x = false := by
  rw [lessE_iff] at h; rw [lessE_not]; omega
theorem lessE_irrefl (x : Ev) : lessE x x = false := by rw [lessE_not]; omega
end Go.Eng
end
