/- The engine, part G: loads and stores mean their forms. Conditions: none. -/
import Derived.Test.YtmnbekffebdfmaaEngF
import Derived.Laws.Cells
set_option linter.unusedVariables false
namespace Go.Eng
section
variable {P : Program} {n : Nat} {o : Oper} {env : Env} {pr : Priv} {ids : Nat → Nat} {a : Act} {H : Hp} {w : World} {B : Nat} {g : Gd}

theorem run_loadVar' {t : TypeId} {x : TypeDesc} {p : Addr} {vs : List Value} (hu : P.underlying t = some x) (h : ∀ j v, vs[j]? = some v → w.cell? (p.add j) = some v)
    (hl : vs.length = P.cellsOf t) (h1 : aggT P t = true ∨ P.cellsOf t = 1) : (loadVar t p).run P w = .ok (mkV (aggT P t) vs) w := by
  unfold loadVar
  rw [Sem.run_bind, run_isAgg hu, Result.andThen_ok]
  cases ha : aggT P t with
  | true =>
    have := run_loadCells_list (P := P) w p vs h
    rw [hl] at this
    simp [run_sizeOf hu, this, mkV]
  | false =>
    rw [ha] at h1
    have h1' : P.cellsOf t = 1 := h1.resolve_left (by simp)
    rw [h1'] at hl
    obtain ⟨v, rfl⟩ := List.length_eq_one_iff.1 hl
    have hc := h 0 v rfl
    have : p.add 0 = p := by simp [Addr.add]
    rw [this] at hc
    simp [hc, mkV]

theorem hasU_some {t : TypeId} (h : hasU P t = true) : ∃ x, P.underlying t = some x := by
  unfold hasU at h
  split at h
  · exact ⟨_, by assumption⟩
  · cases h

theorem add_off (b off j : Nat) : (Addr.add ⟨b, off, none⟩ j) = ⟨b, off + j, none⟩ := by
  unfold Addr.add; split
  · rename_i e; subst e; rfl
  · rfl

theorem cellsAt_get : ∀ (vs : List Value) (i : Nat) (p : Addr), cellsAt H p i vs → ∀ j v, vs[j]? = some v → H.at (p.add (i + j)) = some v
  | [], _, _, _, j, v, h => by simp at h
  | u :: vs, i, p, hc, j, v, h => by
    have h0 : H.at (p.add i) = some u ∧ cellsAt H p (i + 1) vs := by
      cases vs with
      | nil => exact ⟨hc, trivial⟩
      | cons x xs => exact hc
    cases j with
    | zero => simp at h; subst h; exact h0.1
    | succ j =>
      have := cellsAt_get vs (i + 1) p h0.2 j v (by simpa using h)
      rw [show i + (j + 1) = i + 1 + j by omega]; exact this

theorem nfs_load {C : Cfg} {gb : Bool} {t : TypeId} {x : Nat} : NFs g pr (loadNF C env g gb t x) := by
  unfold loadNF
  split
  · rename_i j off _ _ _
    split
    · intro y pr' hf
      dsimp only at hf
      cases hj : pr j with
      | none => simp [hj] at hf
      | some cs =>
        obtain ⟨cs, u⟩ := cs
        simp only [hj] at hf
        split at hf
        · cases hf; exact ⟨SlS.lit, fun _ => rfl⟩
        · cases hf
    · trivial
  · split
    · exact fun _ => SlS.lit
    · trivial
  · trivial

theorem nfm_load {C : Cfg} {t : TypeId} {x : Nat} (hE : EnvOk n env pr ids a) (hP : PrivOk pr ids H w B) (hv : View w H) (hg : gH a.tmps g) (ho : o.op = .load t (.tmp x)) :
    NFm C.P n o env pr ids a H w B (loadNF C env g true t x) := by
  unfold loadNF
  split
  · rename_i j off hpv hx hs
    split
    · intro y pr' hf
      simp only [Bool.and_eq_true, Bool.or_eq_true, Nat.beq_iff] at hs
      obtain ⟨u, hu⟩ := hasU_some hs.2
      dsimp only at hf
      cases hj : pr j with
      | none => simp [hj] at hf
      | some cs =>
        obtain ⟨cs, e⟩ := cs
        simp only [hj] at hf
        split at hf
        · rename_i hle
          cases hf
          have hle' : off + C.P.cellsOf t ≤ cs.length := Nat.le_of_ble_eq_true hle
          have hb := hP.blk j cs e hj
          have e1 : a.eval (.tmp x) = .pointer (some ⟨ids j, off, none⟩) := hE.ev hg hx
          have hr := run_loadVar' (P := C.P) (w := w) (t := t) (p := ⟨ids j, off, none⟩) (vs := (cs.drop off).take (C.P.cellsOf t)) hu (fun i v h => by
              rw [add_off]
              rw [List.getElem?_take] at h
              split at h
              · rw [List.getElem?_drop] at h
                simp [World.cell?, hb, h]
              · cases h) (by simp; omega) hs.1
          refine ⟨_, w, ids, .inl ?_, hv, fun _ _ _ h => h, hP, hE, SlV.lit⟩
          simp only [execOp, ho]
          rw [e1]
          simp [Instr.loadAt, Instr.sureAddr, hr]
        · cases hf
    · trivial
  · rename_i p hpv hx hs
    split
    · rename_i hlen
      intro vs hl hob
      left
      simp only [Bool.and_eq_true, Bool.or_eq_true, Nat.beq_iff] at hs
      obtain ⟨u, hu⟩ := hasU_some hs.2
      have e1 : a.eval (.tmp x) = .pointer (some p) := hE.ev hg hx
      have hc := imp_out hob
      have hr := run_loadVar' (P := C.P) (w := w) (t := t) (p := p) (vs := vs) hu (fun j v h => hv.cell (by have := cellsAt_get vs 0 p hc j v h; simpa using this))
        (by rw [hl]; exact Nat.eq_of_beq_eq_true hlen) hs.1
      refine ⟨_, ?_, SlV.lit⟩
      simp only [execOp, ho]
      rw [e1]
      simp [Instr.loadAt, Instr.sureAddr, hr]
    · trivial
  · trivial

theorem setL_eq : ∀ (cs : List Value) (off : Nat) (vs : List Value), off + vs.length ≤ cs.length → setL cs off vs = cs.take off ++ vs ++ cs.drop (off + vs.length)
  | cs, off, [], _ => by cases cs <;> cases off <;> simp [setL]
  | [], off, v :: vs, h => by simp at h
  | c :: cs, 0, v :: vs, h => by
    have := setL_eq cs 0 vs (by simp at h; omega)
    simp only [setL, this]
    simp [Nat.add_comm]
  | c :: cs, off + 1, v :: vs, h => by
    have := setL_eq cs off (v :: vs) (by simp at h ⊢; omega)
    have e : off + 1 + (v :: vs).length = (off + (v :: vs).length) + 1 := by omega
    rw [e]
    simp only [setL, this]
    simp

theorem setL_length (cs : List Value) (off : Nat) (vs : List Value) (h : off + vs.length ≤ cs.length) : (setL cs off vs).length = cs.length := by
  rw [setL_eq cs off vs h]; simp; omega

theorem vcells_eq {agg : Bool} {v : Value} (h1 : (vcells agg v).all Value.oneCell' = true) (hn : (vcells agg v).length ≠ 0) : v.cells.toList = vcells agg v := by
  cases agg with
  | true =>
    cases v with
    | agg cs => rfl
    | _ => simp [vcells] at hn
  | false =>
    cases v with
    | agg cs => simp [vcells, Value.oneCell'] at h1
    | _ => rfl

theorem run_storeVar' {t : TypeId} {x : TypeDesc} {p : Addr} {v : Value} {w' : World} (hu : P.underlying t = some x) (hl : v.cells.toList.length = P.cellsOf t)
    (h : (storeCells p v.cells.toList).run P w = .ok () w') : (storeVar t p v).run P w = .ok () w' := by
  unfold storeVar
  rw [Sem.run_bind, run_sizeOf hu, Result.andThen_ok]
  have : ¬ (v.cells.size ≠ P.cellsOf t) := by simpa using hl
  simp only [this, if_false]
  simpa using h

theorem setRow_other {b k : Nat} (cs : Array Value) (h : k ≠ b) : (w.setRow b cs).heap[k]? = w.heap[k]? := by
  simp only [World.setRow, Array.getElem?_modify]
  rw [if_neg (fun e => h e.symm)]

theorem canStore_set1 {p q : Addr} {v : Value} : ∀ (vs : List Value) (i : Nat), Hp.canStore H p i vs → Hp.canStore (H.set1 q v) p i vs
  | [], _, _ => trivial
  | u :: vs, i, h => by
    obtain ⟨⟨c, T, fz, h1, h2, h3, h4⟩, hr⟩ := h
    refine ⟨?_, canStore_set1 vs (i + 1) hr⟩
    unfold Hp.set1
    cases hb : Nat.beq (p.add i).block q.block with
    | true => simp only [h1]; exact ⟨_, T, fz, rfl, h2, by simpa using h3, h4⟩
    | false => exact ⟨c, T, fz, h1, h2, h3, h4⟩

theorem tr_set1 {p : Addr} {v : Value} {c : Array Value} {T : TypeId} {fz : Nat × Nat} (hv : View w H) (hb : H p.block = some (.cells c T fz)) (hs : p.spot = none) :
    Tr w H (w.setCell p v) (H.set1 p v) := by
  have hw := hv _ _ hb
  have hlt : p.block < w.heap.size := (Array.getElem?_eq_some_iff.1 hw).1
  refine ⟨fun k o hk => ?_, fun k hk hn => ?_, fun k hk => .inl ?_, by simp [World.setCell], rfl, rfl, rfl⟩
  · unfold Hp.set1 at hk
    simp only [World.setCell, Array.getElem?_modify]
    cases hq : Nat.beq k p.block with
    | true =>
      have e := (Nat.beq_iff _ _).1 hq
      subst e
      simp only [hq, hb, Option.some.injEq] at hk
      subst hk
      simp [hw, hs]
    | false =>
      simp only [hq] at hk
      have e : p.block ≠ k := fun e => by subst e; rw [Nat.beq_refl] at hq; cases hq
      rw [if_neg e]; exact hv _ _ hk
  · have e : p.block ≠ k := fun e => by subst e; rw [hb] at hn; cases hn
    simp only [World.setCell, Array.getElem?_modify]
    rw [if_neg e]
  · unfold Hp.set1 at hk
    intro hn
    cases hq : Nat.beq k p.block with
    | true =>
      have e := (Nat.beq_iff _ _).1 hq
      subst e
      rw [hb] at hn; cases hn
    | false => simp only [hq] at hk; exact hk hn

theorem run_storePub {p : Addr} : ∀ (vs : List Value) (i : Nat) (H : Hp) (w : World), View w H → Hp.canStore H p i vs → vs.all Value.oneCell' = true →
    ∃ w', (storeCells p vs i).run P w = .ok () w' ∧ Tr w H w' (H.store p i vs)
  | [], i, H, w, hv, _, _ => ⟨w, by simp [storeCells], Tr.refl hv⟩
  | v :: vs, i, H, w, hv, hc, h1 => by
    obtain ⟨⟨c, T, fz, hb, hs, hlt, hfz⟩, hr⟩ := hc
    simp only [List.all_cons, Bool.and_eq_true] at h1
    have hw := hv _ _ hb
    have hcell : w.cell? (p.add i) = some c[(p.add i).off] := by simp [World.cell?, hw, hs, hlt]
    have hfro : w.frozen? (p.add i) = false := by
      simp only [World.frozen?, hw]
      simpa using hfz
    have hst : (store (p.add i) v).run P w = .ok () (w.setCell (p.add i) v) := by
      rw [run_store P w _ v _ h1.1, hcell]; simp [hfro]
    have hT := tr_set1 (v := v) hv hb hs
    obtain ⟨w', hr', hT'⟩ := run_storePub vs (i + 1) (H.set1 (p.add i) v) (w.setCell (p.add i) v) hT.view (canStore_set1 vs (i + 1) hr) h1.2
    refine ⟨w', ?_, hT.trans hT'⟩
    simp only [storeCells, Sem.run_bind, hst, Result.andThen_ok, hr']

theorem nfs_store {C : Cfg} {t : TypeId} {x : Nat} {y : Operand} : NFs g pr (storeNF C env g t x y) := by
  unfold storeNF
  split
  · split
    · intro z pr' hf
      dsimp only at hf
      split at hf
      · split at hf
        · cases hf; exact ⟨SlS.none, fun h => absurd rfl h⟩
        · cases hf
      · cases hf
    · trivial
  · split
    · rfl
    · trivial
  · trivial

theorem nfm_store {C : Cfg} {t : TypeId} {x : Nat} {y : Operand} (hE : EnvOk n env pr ids a) (hP : PrivOk pr ids H w B) (hv : View w H) (hg : gH a.tmps g) (ho : o.op = .store t (.tmp x) y) :
    NFm C.P n o env pr ids a H w B (storeNF C env g t x y) := by
  unfold storeNF
  split
  · rename_i _ j off v hpv hx hy
    simp only [Bool.and_eq_true, Bool.not_eq_true'] at hpv
    obtain ⟨⟨_, hu⟩, hz⟩ := hpv
    obtain ⟨u, hu⟩ := hasU_some hu
    split
    · rename_i hc
      simp only [Bool.and_eq_true, Nat.beq_iff] at hc
      obtain ⟨⟨hl, h1⟩, _⟩ := hc
      have hcs := vcells_eq h1 (by rw [hl]; intro e; rw [e] at hz; simp at hz)
      intro z pr' hf
      dsimp only at hf
      cases hj : pr j with
      | none => simp [hj] at hf
      | some cs =>
        obtain ⟨cs, e⟩ := cs
        simp only [hj] at hf
        split at hf
        · rename_i hle
          cases hf
          have hle' : off + C.P.cellsOf t ≤ cs.length := Nat.le_of_ble_eq_true hle
          have hb := hP.blk j cs e hj
          have hjn : pr j ≠ none := by simp [hj]
          have e1 : a.eval (.tmp x) = .pointer (some ⟨ids j, off, none⟩) := hE.ev hg hx
          have e2 : a.eval y = v := hE.ev hg hy
          have hst := run_storeCells_at C.P (ids j) off e v.cells.toList 0 cs.toArray w hb (by rw [hcs, hl]; simpa using hle') (by rw [hcs]; simpa using h1)
          have hrun := run_storeVar' (P := C.P) (t := t) (p := ⟨ids j, off, none⟩) hu (by rw [hcs, hl]) hst
          have hrow : (cs.toArray.toList.take (off + 0) ++ v.cells.toList ++ cs.toArray.toList.drop (off + 0 + v.cells.toList.length)).toArray = (setL cs off (vcells (aggT C.P t) v)).toArray := by
            rw [hcs, setL_eq cs off _ (by rw [hl]; exact hle')]; simp
          rw [hrow] at hrun
          have hup : ∀ k, pr k ≠ none → pr.set j (some (setL cs off (vcells (aggT C.P t) v), e)) k ≠ none := fun k hk => by
            by_cases ek : k = j
            · subst ek; simp [Priv.set_same]
            · rw [Priv.set_ne _ _ ek]; exact hk
          have hdn : ∀ k, pr.set j (some (setL cs off (vcells (aggT C.P t) v), e)) k ≠ none → pr k ≠ none := fun k hk => by
            by_cases ek : k = j
            · subst ek; exact hjn
            · rw [Priv.set_ne _ _ ek] at hk; exact hk
          have hview : View (w.setRow (ids j) (setL cs off (vcells (aggT C.P t) v)).toArray) H := fun k ob hk => by
            have hk' : k ≠ ids j := fun ek => by subst ek; rw [hP.hid j hjn] at hk; cases hk
            rw [setRow_other _ hk']; exact hv k ob hk
          refine ⟨undef, _, ids, .inr ⟨?_, rfl⟩, hview, fun w0 H0 hB h0 => ⟨hview, fun k hk hn => ?_, h0.fresh, by simp only [World.setRow, Array.size_modify]; exact h0.size, h0.os, h0.tape, h0.output⟩,
            ⟨fun k cs' t' hk => ?_, fun k hk => hP.hid k (hdn k hk), fun k hk => hP.low k (hdn k hk), fun k l hk hl' => hP.inj k l (hdn k hk) (hdn l hl')⟩,
            hE.reids (fun _ _ => rfl) hup, SlV.none⟩
          · simp only [execOp, ho]
            rw [e1, e2]
            simp [Instr.storeAt, Instr.sureAddr, hrun]
          · have hk' : k ≠ ids j := fun ek => by have := hP.low j hjn; omega
            rw [setRow_other _ hk']; exact h0.frame k hk hn
          · by_cases ek : k = j
            · subst ek
              rw [Priv.set_same] at hk
              cases hk
              exact setRow_heap w (ids k) _ _ _ _ hb
            · rw [Priv.set_ne _ _ ek] at hk
              have hk' : ids k ≠ ids j := fun e => ek (hP.inj k j (by simp [hk]) hjn e)
              rw [setRow_other _ hk']; exact hP.blk k cs' t' hk
        · cases hf
    · trivial
  · rename_i _ p v hpv hx hy
    simp only [Bool.or_eq_false_iff, Bool.not_eq_false'] at hpv
    obtain ⟨⟨_, hu⟩, hz⟩ := hpv
    obtain ⟨u, hu⟩ := hasU_some hu
    split
    · rename_i hc
      simp only [Bool.and_eq_true, Nat.beq_iff] at hc
      obtain ⟨hl, h1⟩ := hc
      have hcs := vcells_eq h1 (by rw [hl]; intro e; rw [e] at hz; simp at hz)
      intro hcan
      have e1 : a.eval (.tmp x) = .pointer (some p) := hE.ev hg hx
      have e2 : a.eval y = v := hE.ev hg hy
      obtain ⟨w', hst, hT⟩ := run_storePub (P := C.P) (p := p) _ 0 H w hv hcan h1
      rw [← hcs] at hst
      have hrun := run_storeVar' (P := C.P) (t := t) (p := p) hu (by rw [hcs, hl]) hst
      refine ⟨w', ?_, hT⟩
      simp only [execOp, ho]
      rw [e1, e2]
      simp [Instr.storeAt, Instr.sureAddr, hrun]
    · trivial
  · trivial

end
end Go.Eng
