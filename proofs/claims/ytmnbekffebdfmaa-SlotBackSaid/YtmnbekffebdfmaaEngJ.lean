/- The engine, part J: one operation of a region. Conditions: none. -/
import Derived.Test.YtmnbekffebdfmaaEngI
set_option linter.unusedVariables false
namespace Go.Eng

def dOk (n : Nat) (g : Gd) : Option Tmp → Bool
  | some d => Nat.blt d n && !mentions d g
  | none => true

def putD (env : Env) (dst : Option Tmp) (x : Sl) : Env :=
  match dst with
  | some d => env.put d x
  | none => env

def stepVC (C : Cfg) (draw : Bool) (ops : Array Oper) (i : Nat) (k : St → Hp → Prop) (st : St) (H : Hp) : Prop :=
  match ops[i]? with
  | none => False
  | some o => match chain ops (ops.size + 1) o with
    | none => False
    | some g => match st.env.gb g, dOk C.n g o.dst with
      | some gb, true => NF.vc C.P draw (fun x pr H' => k ⟨putD st.env o.dst x, pr⟩ H') st.priv H (opNF C st.env g gb o)
      | _, _ => False

theorem exL_some : ∀ {ls : List Leaf} {f : List Value → Prop}, exL ls f → ∃ vs, vs.length = ls.length ∧ f vs
  | [], f, h => ⟨[], rfl, h⟩
  | .int k :: ls, f, ⟨x, h⟩ => let ⟨vs, h1, h2⟩ := exL_some (ls := ls) h; ⟨_, by simp [h1], h2⟩
  | .bool :: ls, f, ⟨x, h⟩ => let ⟨vs, h1, h2⟩ := exL_some (ls := ls) h; ⟨_, by simp [h1], h2⟩
  | .sl :: ls, f, ⟨x, h⟩ => let ⟨vs, h1, h2⟩ := exL_some (ls := ls) h; ⟨_, by simp [h1], h2⟩
  | .ptr :: ls, f, ⟨x, h⟩ => let ⟨vs, h1, h2⟩ := exL_some (ls := ls) h; ⟨_, by simp [h1], h2⟩
  | .mp :: ls, f, ⟨x, h⟩ => let ⟨vs, h1, h2⟩ := exL_some (ls := ls) h; ⟨_, by simp [h1], h2⟩
  | .val :: ls, f, ⟨x, h⟩ => let ⟨vs, h1, h2⟩ := exL_some (ls := ls) h; ⟨_, by simp [h1], h2⟩

theorem oAnd_out {ob : Option Prop} {q : Prop} (h : oAnd ob q) : (∀ p, ob = some p → p) ∧ q := by
  cases ob with
  | none => exact ⟨(fun _ h' => by cases h'), h⟩
  | some p => exact ⟨(fun _ h' => by cases h'; exact h.1), h.2⟩

def Kt (n : Nat) (w0 : World) (H0 : Hp) (k : St → Hp → Prop) (a : Act) (w : World) : Prop := ∃ st H, Sim n w0 H0 st H a w ∧ k st H

section
variable {C : Cfg} {o : Oper} {env : Env} {pr : Priv} {ids : Nat → Nat} {a : Act} {H : Hp} {w w0 : World} {H0 : Hp} {g : Gd} {k : St → Hp → Prop}

theorem fin_ok {v : Value} {x : Sl} {pr' : Priv} {ids' : Nat → Nat} {H' : Hp} {w' : World} (hd : dOk C.n g o.dst = true) (hE : EnvOk C.n env pr' ids' a) (hP : PrivOk pr' ids' H' w' w0.heap.size) (hT : Tr w0 H0 w' H')
    (hs : SlS g pr' x) (hv : gH a.tmps g → SlV ids' x v) (hn : ¬ gH a.tmps g → v = undef) (hk : k ⟨putD env o.dst x, pr'⟩ H') : Kt C.n w0 H0 k (a.put o.dst v) w' := by
  refine ⟨_, H', ⟨ids', ?_, hP, hT⟩, hk⟩
  cases ho : o.dst with
  | none => exact hE
  | some d =>
    rw [ho] at hd
    simp only [dOk, Bool.and_eq_true, Bool.not_eq_true'] at hd
    have hlt : d < C.n := by have := hd.1; simp only [Nat.blt] at this; exact Nat.le_of_ble_eq_true this
    refine hE.put hlt fun g1 v0 hx => ?_
    obtain ⟨rfl, hkn⟩ := hs g1 v0 hx
    exact ⟨hd.2, fun h => hv h g1 v0 hx, hn, hkn⟩

theorem op_wp {draw : Bool} {Q : Exit → Act → World → Prop} (hN : NoCount C.P) (hE : EnvOk C.n env pr ids a) (hP : PrivOk pr ids H w w0.heap.size) (hT : Tr w0 H0 w H) (hg : gH a.tmps g) (hd : dOk C.n g o.dst = true)
    (h : NF.vc C.P draw (fun x pr H' => k ⟨putD env o.dst x, pr⟩ H') pr H (opNF C env g true o)) : o.wp C.P a w (Kt C.n w0 H0 k) Q := by
  have hs := nfs_op (g := g) (pr := pr) (o := o) (gb := true) (C := C) hE
  have hm := nfm_op (o := o) hN hE hP hT.view hT.size hg
  revert h hs hm
  generalize opNF C env g true o = nf
  intro h hs hm
  have fin {v : Value} {x : Sl} {pr' : Priv} {ids' : Nat → Nat} {H' : Hp} {w' : World} (hE' : EnvOk C.n env pr' ids' a) (hP' : PrivOk pr' ids' H' w' w0.heap.size) (hT' : Tr w0 H0 w' H')
      (hs : SlS g pr' x) (hv : SlV ids' x v) (hk : k ⟨putD env o.dst x, pr'⟩ H') : Kt C.n w0 H0 k (a.put o.dst v) w' :=
    fin_ok hd hE' hP' hT' hs (fun _ => hv) (fun hn => absurd hg hn) hk
  unfold Oper.wp
  cases nf with
  | bad => exact h.elim
  | pu ob x =>
    obtain ⟨ho, hk⟩ := oAnd_out h
    obtain ⟨v, hr, hv⟩ := hm ho
    rw [hr]; exact fin hE hP hT hs hv hk
  | px ls ob x =>
    obtain ⟨vs, hl, ho, hk⟩ := exL_some h
    obtain ⟨v, hr, hv⟩ := hm vs hl ho
    rw [hr]; exact fin hE hP hT (hs vs) hv hk
  | rd ls ob x =>
    obtain ⟨vs, hl, ho, hk⟩ := exL_some h
    rcases hm vs hl ho with ⟨v, hr, hv⟩ | ⟨f, args, hr, hc⟩
    · rw [hr]; exact fin hE hP hT (hs vs) hv hk
    · rw [hr, Oper.upon_enter]
      refine hc.mono fun e w' ⟨v, he, hv, ht⟩ => ?_
      subst he
      exact fin hE (hP.tr ht) (hT.trans ht) (hs vs) hv hk
  | ow f =>
    simp only [NF.vc] at h
    cases hf : f pr with
    | none => simp [hf] at h
    | some y =>
      obtain ⟨x, pr'⟩ := y
      simp only [hf] at h
      obtain ⟨v, w', ids', hr, hv', ht, hP', hE', hv⟩ := hm x pr' hf
      have hs' := (hs x pr' hf).1
      rcases hr with hr | ⟨hr, rfl⟩
      · rw [hr]; exact fin hE' hP' (ht w0 H0 rfl hT) hs' hv h
      · rw [hr]; exact fin hE' hP' (ht w0 H0 rfl hT) hs' hv h
  | al c x ob =>
    obtain ⟨ho, hk⟩ := oAnd_out h
    obtain ⟨v, hr, hv⟩ := hm ho
    obtain ⟨hn, ht⟩ := Tr.alloc hT.view ob
    rw [hr]; exact fin hE (hP.tr ht) (hT.trans ht) (hs.2 _) hv (hk _ _ hn rfl)
  | cf f args sh =>
    rw [show (execOp a.eval o).run C.P w = _ from hm, Oper.upon_enter]
    refine (h w hT.view).mono fun e w' ⟨v, H', he, ht, hq⟩ => ?_
    subst he
    obtain ⟨_, hq⟩ := oAnd_out hq
    obtain ⟨vs, _, rfl, hk⟩ := exL_some hq
    have hs' : g = [] := hs
    subst hs'
    exact fin hE (hP.tr ht) (hT.trans ht) SlS.lit SlV.lit hk
  | cv F args sh =>
    obtain ⟨f, first, cap, hF, hcl, hfn⟩ := h
    rw [hm f first cap hF hcl, Oper.upon_enter]
    refine (hfn w hT.view).mono fun e w' ⟨v, H', he, ht, hq⟩ => ?_
    subst he
    obtain ⟨_, hq⟩ := oAnd_out hq
    obtain ⟨vs, _, rfl, hk⟩ := exL_some hq
    have hs' : g = [] := hs
    subst hs'
    exact fin hE (hP.tr ht) (hT.trans ht) SlS.lit SlV.lit hk
  | ef s sh =>
    obtain ⟨v, w', H', hr, ht, hq⟩ := h w hT.view
    obtain ⟨vs, _, rfl, hk⟩ := exL_some hq
    have hs' : g = [] := hs
    subst hs'
    have hm' : execOp a.eval o = s := hm
    rw [hm']
    rcases hr with hr | ⟨hr, hu⟩
    · rw [hr]; exact fin hE (hP.tr ht) (hT.trans ht) SlS.lit SlV.lit hk
    · rw [hr, Oper.upon_skip, ← hu]; exact fin hE (hP.tr ht) (hT.trans ht) SlS.lit SlV.lit hk
  | st ad vs =>
    obtain ⟨w', hr, ht⟩ := hm h.1
    rw [hr, Oper.upon_skip]; exact fin hE (hP.tr ht) (hT.trans ht) SlS.none SlV.none (h.2 _ rfl)

theorem op_skip {draw gb : Bool} (hE : EnvOk C.n env pr ids a) (hP : PrivOk pr ids H w w0.heap.size) (hT : Tr w0 H0 w H) (hg : ¬ gH a.tmps g) (hd : dOk C.n g o.dst = true)
    (h : NF.vc C.P draw (fun x pr H' => k ⟨putD env o.dst x, pr⟩ H') pr H (opNF C env g gb o)) : Kt C.n w0 H0 k (a.put o.dst undef) w := by
  have hs := nfs_op (g := g) (pr := pr) (o := o) (gb := gb) (C := C) hE
  have hne : g ≠ [] := fun e => hg (by subst e; simp [gH])
  revert h hs
  generalize opNF C env g gb o = nf
  intro h hs
  have fin {x : Sl} (hs : SlS g pr x) (hk : k ⟨putD env o.dst x, pr⟩ H) : Kt C.n w0 H0 k (a.put o.dst undef) w :=
    fin_ok hd hE hP hT hs (fun h => absurd h hg) (fun _ => rfl) hk
  cases nf with
  | bad => exact h.elim
  | pu ob x => exact fin hs (oAnd_out h).2
  | px ls ob x => obtain ⟨vs, _, _, hk⟩ := exL_some h; exact fin (hs vs) hk
  | rd ls ob x => obtain ⟨vs, _, _, hk⟩ := exL_some h; exact fin (hs vs) hk
  | ow f =>
    simp only [NF.vc] at h
    cases hf : f pr with
    | none => simp [hf] at h
    | some y =>
      obtain ⟨x, pr'⟩ := y
      simp only [hf] at h
      obtain ⟨h1, h2⟩ := hs x pr' hf
      have := h2 hne
      subst this
      exact fin h1 h
  | al c x ob => exact absurd hs.1 hne
  | cf f args sh => exact absurd hs hne
  | cv F args sh => exact absurd hs hne
  | ef s sh => exact absurd hs hne
  | st ad vs => exact absurd hs hne

end

theorem step_sound {C : Cfg} {draw : Bool} {ops : Array Oper} {i : Nat} {k : St → Hp → Prop} {st : St} {H H0 : Hp} {a : Act} {w w0 : World} {Q : Exit → Act → World → Prop} (hN : NoCount C.P)
    (h : stepVC C draw ops i k st H) (hs : Sim C.n w0 H0 st H a w) : wpOp C.P ops Q i (Kt C.n w0 H0 k) a w := by
  unfold stepVC at h
  unfold wpOp
  cases ho : ops[i]? with
  | none => simp [ho] at h
  | some o =>
    simp only [ho] at h ⊢
    cases hc : chain ops (ops.size + 1) o with
    | none => simp [hc] at h
    | some g =>
      simp only [hc] at h
      obtain ⟨ids, hE, hP, hT⟩ := hs
      cases hb : st.env.gb g with
      | none => simp [hb] at h
      | some gb =>
        cases hd : dOk C.n g o.dst with
        | false => simp [hb, hd] at h
        | true =>
          simp only [hb, hd] at h
          have hw := hE.wanted hc hb
          have hgb := hE.gb hb
          by_cases hg : gH a.tmps g
          · rw [if_pos (hw.2 hg)]
            have := hgb.1 hg
            subst this
            exact .inl (op_wp hN hE hP hT hg hd h)
          · rw [if_neg (fun h' => hg (hw.1 h'))]
            exact op_skip hE hP hT hg hd h

end Go.Eng
