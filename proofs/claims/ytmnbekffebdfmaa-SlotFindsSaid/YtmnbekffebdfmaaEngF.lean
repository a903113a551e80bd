/- The engine, part F: each operation means its form, the rest. Conditions: none. -/
import Derived.Test.YtmnbekffebdfmaaEngE
set_option linter.unusedVariables false
namespace Go.Eng
section
variable {P : Program} {n : Nat} {o : Oper} {env : Env} {pr : Priv} {ids : Nat → Nat} {a : Act} {H : Hp} {w : World} {B : Nat} {g : Gd}

theorem new_ptr (ρ : Operand → Value) (ho : (∃ t, o.op = .alloc t) ∨ (∃ t x, o.op = .box t x)) {ob : Obj} {f : Nat → Option Next} (h : newRun P (execOp ρ o) = some (ob, f)) :
    ∀ b, f b = some (.value (.pointer (some ⟨b, 0, none⟩))) := by
  rcases ho with ⟨t, ho⟩ | ⟨t, x, ho⟩
  · simp only [execOp, ho, Instr.alloc, zeroValue, typeInfo, program, newVar, newRow, newObj, Bind.bind, Sem.bind, newRun] at h
    cases hi : P.info? t with
    | none => simp [hi, Sem.bind, stuck, newRun] at h
    | some i =>
      cases hz : i.zero with
      | none => simp [hi, hz, Sem.bind, Pure.pure, unsupported, newRun] at h
      | some z =>
        simp only [hi, Pure.pure, Sem.bind, hz, newRun, Option.some.injEq, Prod.mk.injEq] at h
        obtain ⟨_, rfl⟩ := h
        intro b; rfl
  · simp only [execOp, ho, Instr.box, newVar, newRow, newObj, Bind.bind, Sem.bind, newRun, Pure.pure, Option.some.injEq, Prod.mk.injEq] at h
    obtain ⟨_, rfl⟩ := h
    intro b; rfl

theorem new_map (ρ : Operand → Value) {t : TypeId} (ho : o.op = .makeMap t none) {ob : Obj} {f : Nat → Option Next} (h : newRun P (execOp ρ o) = some (ob, f)) :
    ∀ b, f b = some (.value (.map (some b))) := by
  simp only [execOp, ho, Option.map_none, Instr.makeMap] at h
  simp [newObj, Bind.bind, Sem.bind, newRun, Pure.pure] at h
  obtain ⟨_, rfl⟩ := h
  intro b; rfl

theorem new_slice (ρ : Operand → Value) {t : TypeId} {m : Nat} {ps : Array (Nat × Operand)} (ho : o.op = .buildSlice t m ps) {ob : Obj} {f : Nat → Option Next} (h : newRun P (execOp ρ o) = some (ob, f)) :
    ∀ b, f b = some (.value (.slice (some ⟨b, 0, none⟩) m m)) := by
  simp only [execOp, ho, Instr.buildSlice] at h
  generalize (ps.map fun (i, x) => (i, ρ x)) = qs at h
  cases hu : P.underlying t with
  | none => simp [underlying, program, hu, Bind.bind, Sem.bind, newRun, stuck] at h
  | some d =>
    cases d with
    | slice e =>
      cases hi : P.info? e with
      | none => simp [underlying, program, hu, Bind.bind, Sem.bind, newRun, sizeOf, typeInfo, hi, stuck, Pure.pure] at h
      | some i =>
        simp only [underlying, program, hu, Bind.bind, Sem.bind, newRun, sizeOf, typeInfo, hi, Pure.pure] at h
        split at h
        · simp [unsupported, Sem.bind, newRun] at h
        · split at h
          · split at h
            · simp only [newRow, newObj, Bind.bind, Sem.bind, newRun, Pure.pure, Option.some.injEq, Prod.mk.injEq] at h
              obtain ⟨_, rfl⟩ := h
              intro b; rfl
            · simp [stuck, Sem.bind, newRun] at h
          · simp only [zeroValue, typeInfo, program, hi, Bind.bind, Sem.bind, newRun, Pure.pure] at h
            cases hz : i.zero with
            | none => simp [hz, unsupported, Sem.bind, newRun] at h
            | some z =>
              simp only [hz, Sem.bind] at h
              split at h
              · simp only [newRow, newObj, Bind.bind, Sem.bind, newRun, Pure.pure, Option.some.injEq, Prod.mk.injEq] at h
                obtain ⟨_, rfl⟩ := h
                intro b; rfl
              · simp [stuck, Sem.bind, newRun] at h
    | _ => simp [underlying, program, hu, Bind.bind, Sem.bind, newRun, stuck, Pure.pure] at h

theorem Priv.set_same (pr : Priv) (j : Nat) (x : Option (List Value × TypeId)) : pr.set j x j = x := by
  have h : Nat.beq j j = true := Nat.beq_refl j
  simp only [Priv.set, h]
theorem Priv.set_ne (pr : Priv) {j k : Nat} (x : Option (List Value × TypeId)) (h : k ≠ j) : pr.set j x k = pr k := by
  have hb : Nat.beq k j = false := by
    cases hx : Nat.beq k j
    · rfl
    · exact absurd ((Nat.beq_iff k j).1 hx) h
  simp only [Priv.set, hb]

theorem val_ids {v : V0} {ids' : Nat → Nat} (h : v.known pr) (he : ∀ j, pr j ≠ none → ids' j = ids j) : v.val ids' = v.val ids := by
  cases v with
  | lit v => rfl
  | ptr j o => simp only [V0.val, he j h]

theorem known_up {v : V0} {pr' : Priv} (h : v.known pr) (he : ∀ j, pr j ≠ none → pr' j ≠ none) : v.known pr' := by
  cases v with
  | lit v => trivial
  | ptr j o => exact he j h

theorem EnvOk.reids (h : EnvOk n env pr ids a) {pr' : Priv} {ids' : Nat → Nat} (he : ∀ j, pr j ≠ none → ids' j = ids j) (hk : ∀ j, pr j ≠ none → pr' j ≠ none) : EnvOk n env pr' ids' a :=
  ⟨h.size, h.defers, fun t g v ht hg => by rw [val_ids (h.known t g v ht) he]; exact h.ok t g v ht hg, h.no, fun t g v ht => known_up (h.known t g v ht) hk⟩

theorem nfm_own (hE : EnvOk n env pr ids a) (hP : PrivOk pr ids H w B) (hv : View w H) (hB : B ≤ w.heap.size) (hg : gH a.tmps g) {d : Nat} (ho : (∃ t, o.op = .alloc t) ∨ (∃ t x, o.op = .box t x)) :
    NFm P n o env pr ids a H w B (ownOp P env g o d) := by
  have hs : ∀ cs b, o.op ≠ .select cs b := by rcases ho with ⟨t, ho⟩ | ⟨t, x, ho⟩ <;> simp [ho]
  unfold ownOp
  split
  · rename_i hl
    split
    · rename_i c t f hr
      intro x pr' hf
      dsimp only at hf
      cases hd : pr d with
      | some y => simp [hd] at hf
      | none =>
        simp only [hd, Option.some.injEq, Prod.mk.injEq] at hf
        obtain ⟨rfl, rfl⟩ := hf
        have hptr := new_ptr (P := P) _ ho hr
        have hrun : (execOp a.eval o).run P w = .ok (.value (.pointer (some ⟨w.heap.size, 0, none⟩))) { w with heap := w.heap.push (.cells c t (0, 0)) } := by
          rw [execOp_congr o hs (fun x hx => hE.rho hg hl x (by simpa using hx))]
          exact newRun_run hr w _ (hptr _)
        let ids' : Nat → Nat := fun j => if j = d then w.heap.size else ids j
        have hne : ∀ j, pr j ≠ none → j ≠ d := fun j hj e => by subst e; exact hj hd
        have hids : ∀ j, pr j ≠ none → ids' j = ids j := fun j hj => if_neg (hne j hj)
        have hup : ∀ j, pr j ≠ none → pr.set d (some (c.toList, t)) j ≠ none := fun j hj => by rw [Priv.set_ne _ _ (hne j hj)]; exact hj
        have halloc := Tr.alloc hv (Obj.cells c t (0, 0))
        have hT : Tr w H { w with heap := w.heap.push (.cells c t (0, 0)) } H := halloc.2.forget (Hp.put_le H _ halloc.1)
        have hP' := hP.tr hT
        refine ⟨_, _, ids', .inl hrun, hT.view, fun w0 H0 _ h0 => h0.trans hT, ⟨fun j cs u hj => ?_, fun j hj => ?_, fun j hj => ?_, fun j k hj hk e => ?_⟩, hE.reids hids hup, fun g1 v0 h => ?_⟩
        · by_cases e : j = d
          · subst e
            rw [Priv.set_same] at hj
            cases hj
            simp [ids']
          · rw [Priv.set_ne _ _ e] at hj
            simp only [ids', if_neg e]
            exact hP'.blk j cs u hj
        · by_cases e : j = d
          · subst e; simp only [ids', if_true]; exact halloc.1
          · rw [Priv.set_ne _ _ e] at hj
            simp only [ids', if_neg e]; exact hP.hid j hj
        · by_cases e : j = d
          · subst e; simp only [ids', if_true]; exact hB
          · rw [Priv.set_ne _ _ e] at hj
            simp only [ids', if_neg e]; exact hP.low j hj
        · by_cases e1 : j = d <;> by_cases e2 : k = d
          · rw [e1, e2]
          · rw [Priv.set_ne _ _ e2] at hk
            simp only [ids', if_pos e1, if_neg e2] at e
            have := hP.lt hk; omega
          · rw [Priv.set_ne _ _ e1] at hj
            simp only [ids', if_neg e1, if_pos e2] at e
            have := hP.lt hj; omega
          · rw [Priv.set_ne _ _ e1] at hj
            rw [Priv.set_ne _ _ e2] at hk
            simp only [ids', if_neg e1, if_neg e2] at e
            exact hP.inj j k hj hk e
        · cases h; simp [V0.val, ids']
    · trivial
  · trivial

theorem nfs_own {d : Nat} : NFs g pr (ownOp P env g o d) := by
  unfold ownOp
  split
  · split
    · rename_i c t f hr
      intro x pr' hf
      dsimp only at hf
      cases hd : pr d with
      | some y => simp [hd] at hf
      | none =>
        simp only [hd, Option.some.injEq, Prod.mk.injEq] at hf
        obtain ⟨rfl, rfl⟩ := hf
        exact ⟨SlS.ptr (by simp [Priv.set_same]), fun h => absurd rfl h⟩
    · trivial
  · trivial

/-- Loads out of a row that is known. -/
theorem run_loadCells {b : Nat} {cs : Array Value} {t : TypeId} {fz : Nat × Nat} (hw : w.heap[b]? = some (.cells cs t fz)) : ∀ (k i : Nat) (off : Nat) (acc : Array Value), off + i + k ≤ cs.size →
    (loadCellsFrom ⟨b, off, none⟩ i k acc).run P w = .ok (acc ++ ((cs.toList.drop (off + i)).take k).toArray) w
  | 0, i, off, acc, h => by simp [loadCellsFrom]
  | k + 1, i, off, acc, h => by
    have hlt : off + i < cs.size := by omega
    have hc : w.cell? (Addr.add ⟨b, off, none⟩ i) = some cs[off + i] := by
      have : Addr.add ⟨b, off, none⟩ i = ⟨b, off + i, none⟩ := by
        unfold Addr.add; split
        · rename_i e; subst e; rfl
        · rfl
      rw [this]
      simp [World.cell?, hw, hlt]
    simp only [loadCellsFrom, Sem.run_bind, run_load, hc, Result.andThen_ok]
    rw [run_loadCells hw k (i + 1) off (acc.push cs[off + i]) (by omega)]
    have hd : cs.toList.drop (off + i) = cs[off + i] :: cs.toList.drop (off + i + 1) := by
      rw [List.drop_eq_getElem_cons (by simpa using hlt)]; simp
    rw [hd, List.take_succ_cons, Nat.add_assoc]
    congr 1
    apply Array.ext'
    simp

end
end Go.Eng
