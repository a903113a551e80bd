/- The engine, part S: a function out of its conditions. Conditions: none. -/
import Derived.Test.YtmnbekffebdfmaaEngR
set_option linter.unusedVariables false
namespace Go.Eng

def resOne (tmps : Array Value) : ResultVar → Sem Value
  | .tmp t => pure (tmps.getD t undef)
  | .cell p t => do loadVar t (← asAddr (tmps.getD p undef))

theorem results_eq (fn : Func) (tmps : Array Value) : results fn tmps = (do let vs ← fn.results.mapM (resOne tmps); pure (if h : vs.size = 1 then vs[0] else .tuple vs)) := by
  unfold results
  congr 1

theorem run_results {C : Cfg} {st : St} {ids : Nat → Nat} {a : Act} {H : Hp} {w : World} {B : Nat} (hE : EnvOk C.n st.env st.priv ids a) (hP : PrivOk st.priv ids H w B) :
    ∀ {rs : List ResultVar} {vs : List Value}, resVals C st rs = some vs →
      (rs.mapM (resOne a.tmps)).run C.P w = .ok vs w
  | [], vs, h => by cases h; simp
  | .tmp t :: rs, vs, h => by
    simp only [resVals] at h
    split at h
    · rename_i v vs' hv hr
      cases h
      have e : a.tmps.getD t undef = v := hE.ev (g := []) (by simp [gH]) hv
      rw [List.mapM_cons, Sem.run_bind]
      simp only [resOne, Sem.run_pure, Result.andThen_ok, Sem.run_bind, e]
      rw [run_results hE hP hr]; rfl
    · cases h
  | .cell p t :: rs, vs, h => by
    simp only [resVals] at h
    split at h
    · rename_i j off vs' hv hr
      split at h
      · rename_i cs T hj
        split at h
        · rename_i hc
          cases h
          simp only [Bool.and_eq_true, Bool.or_eq_true, Nat.beq_iff] at hc
          obtain ⟨⟨hle, h1⟩, hu⟩ := hc
          obtain ⟨u, hu⟩ := hasU_some hu
          have hle' : off + C.P.cellsOf t ≤ cs.length := Nat.le_of_ble_eq_true hle
          have e : a.tmps.getD p undef = .pointer (some ⟨ids j, off, none⟩) := hE.ev (g := []) (by simp [gH]) hv
          have hb := hP.blk j cs T hj
          have hrl := run_loadVar' (P := C.P) (w := w) (t := t) (p := ⟨ids j, off, none⟩) (vs := (cs.drop off).take (C.P.cellsOf t)) hu (fun i v h => by
            rw [add_off]
            rw [List.getElem?_take] at h
            split at h
            · rw [List.getElem?_drop] at h
              simp [World.cell?, hb, h]
            · cases h) (by simp; omega) h1
          rw [List.mapM_cons, Sem.run_bind]
          have e1 : (resOne a.tmps (.cell p t)).run C.P w = .ok (mkV (aggT C.P t) ((cs.drop off).take (C.P.cellsOf t))) w := by
            simp only [resOne, Sem.run_bind, e, asAddr, Sem.run_pure, Result.andThen_ok, hrl]
          rw [e1, Result.andThen_ok, Sem.run_bind, run_results hE hP hr]; rfl
        · cases h
      · cases h
    · cases h

/-- A FUNCTION OUT OF ITS CONDITIONS. -/
theorem Fn.of_vc {C : Cfg} {f : FuncId} {fn : Func} {c : Code} {args : List Value} {H : Hp} {post : Value → Hp → Prop} (hN : NoCount C.P) (hM : C.P.follows .mixedOrders = true)
    (hf : C.P.funcs[f]? = some fn) (hb : fn.body = some c) (hn : fn.ntmps = C.n) (ha : Nat.ble args.length C.n = true)
    (h : vc C c (retK C fn.results.toList post) ⟨env0 args, fun _ => none⟩ H) : Fn C.P f args.toArray H post := by
  intro w hv
  have ha' := Nat.le_of_ble_eq_true ha
  refine calls_of_wp hf hb (wp_mono (code_sound (w0 := w) (H0 := H) hN hM c h ?_) ?_)
  · refine ⟨fun _ => 0, ⟨by simp [hn]; omega, rfl, fun t g v ht _ => ?_, fun t g v ht hg => ?_, fun t g v ht => ?_⟩, ⟨fun _ _ _ h => (by cases h), fun _ h => absurd rfl h, fun _ h => absurd rfl h, fun _ _ h => absurd rfl h⟩, Tr.refl hv⟩
    · obtain ⟨v', h1, h2⟩ := env0_get ht
      cases h2
      have hlt : t < args.length := by
        rcases Nat.lt_or_ge t args.length with h | h
        · exact h
        · simp [List.getElem?_eq_none h] at h1
      simp only [V0.val]
      rw [Array.getD_eq_getD_getElem?, Array.getElem?_append_left (by simpa using hlt)]
      simp [h1]
    · obtain ⟨v', h1, h2⟩ := env0_get ht
      cases h2
      exact absurd (by simp [gH]) hg
    · obtain ⟨v', h1, h2⟩ := env0_get ht
      cases h2
      trivial
  · intro e a w' hq
    obtain ⟨st, H', ⟨ids, hE, hP, hT⟩, hk⟩ := hq
    have fin : (match resVals C st fn.results.toList with
        | some [v] => post v H'
        | some vs => post (.tuple vs.toArray) H'
        | none => False) → a.defers = [] ∧ ∃ v, (results fn a.tmps).run C.P w' = .ok v w' ∧ ∃ v1 H1, Ending.returned v = .returned v1 ∧ Tr w H w' H1 ∧ post v1 H1 := by
      intro hk
      refine ⟨hE.defers, ?_⟩
      cases hr : resVals C st fn.results.toList with
      | none => simp [hr] at hk
      | some vs =>
        rw [hr] at hk
        have hrun := run_results (C := C) hE hP hr
        have hres : (results fn a.tmps).run C.P w' = .ok (if h : vs.toArray.size = 1 then vs.toArray[0] else .tuple vs.toArray) w' := by
          rw [results_eq, Sem.run_bind, Array.mapM_eq_mapM_toList, Sem.run_map, hrun]
          rfl
        refine ⟨_, hres, ?_⟩
        refine ⟨_, H', rfl, hT, ?_⟩
        split at hk
        · rename_i v h1; cases h1; simpa using hk
        · rename_i vs' hne h1
          cases h1
          have : vs.toArray.size ≠ 1 := by
            intro hl
            obtain ⟨v, rfl⟩ := List.length_eq_one_iff.1 (by simpa using hl)
            exact hne v rfl
          rw [dif_neg this]; exact hk
        · exact hk.elim
    cases e with
    | normal => exact fin hk
    | ret => exact fin hk
    | _ => exact hk.elim

end Go.Eng
