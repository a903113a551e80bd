/- The engine, part P: what code leaves as it was. Conditions: none. -/
import Derived.Test.YtmnbekffebdfmaaEngO
set_option linter.unusedVariables false
namespace Go.Eng

structure Keep (ms ps : List Nat) (st st' : St) : Prop where
  env : ∀ t g v, memN t ms = false → (∀ p ∈ g, memN p.1 ms = false) → st.env t = some (g, v) → st'.env t = some (g, v)
  priv : ∀ j, memN j ps = false → st.priv j ≠ none → st'.priv j = st.priv j
  typ : ∀ j cs T, st.priv j = some (cs, T) → ∃ cs', st'.priv j = some (cs', T)

theorem memN_append {d : Nat} {a b : List Nat} : memN d (a ++ b) = (memN d a || memN d b) := by
  induction a with
  | nil => rfl
  | cons x a ih => simp only [List.cons_append, memN, ih, Bool.or_assoc]

theorem Keep.refl (ms ps : List Nat) (st : St) : Keep ms ps st st := ⟨fun _ _ _ _ _ h => h, fun _ _ _ => rfl, fun _ cs _ h => ⟨cs, h⟩⟩

theorem Keep.up {ms ps ms' ps' : List Nat} {st st' : St} (h : Keep ms ps st st') (h1 : ∀ t, memN t ms' = false → memN t ms = false) (h2 : ∀ t, memN t ps' = false → memN t ps = false) : Keep ms' ps' st st' :=
  ⟨fun t g v a b c => h.env t g v (h1 t a) (fun p hp => h1 _ (b p hp)) c, fun j a b => h.priv j (h2 j a) b, h.typ⟩

theorem Keep.trans {ms ps ms' ps' : List Nat} {st st1 st' : St} (h : Keep ms ps st st1) (h' : Keep ms' ps' st1 st') : Keep (ms ++ ms') (ps ++ ps') st st' := by
  refine ⟨fun t g v a b c => ?_, fun j a b => ?_, fun j cs T hj => ?_⟩
  · simp only [memN_append, Bool.or_eq_false_iff] at a b
    exact h'.env t g v a.2 (fun p hp => (b p hp).2) (h.env t g v a.1 (fun p hp => (b p hp).1) c)
  · simp only [memN_append, Bool.or_eq_false_iff] at a
    have e := h.priv j a.1 b
    rw [h'.priv j a.2 (by rw [e]; exact b), e]
  · obtain ⟨c1, h1⟩ := h.typ j cs T hj
    exact h'.typ j c1 T h1

section
variable {P : Program} {draw : Bool} {K K' : Kop} {pr : Priv} {H : Hp}

theorem vc_mono0 {nf : NF} (h : nf.vc P draw K pr H) (hk : ∀ s p H', K s p H' → K' s p H') : nf.vc P draw K' pr H := by
  cases nf with
  | bad => exact h
  | pu ob x => exact oAnd_mono h (hk _ _ _)
  | px ls ob x => exact exL_mono h fun vs h' => ⟨h'.1, hk _ _ _ h'.2⟩
  | rd ls ob x => exact exL_mono h fun vs h' => ⟨h'.1, hk _ _ _ h'.2⟩
  | ow f =>
    simp only [NF.vc] at h ⊢
    cases hf : f pr with
    | none => simp [hf] at h
    | some y => simp only [hf] at h ⊢; exact hk _ _ _ h
  | al c x ob => exact oAnd_mono h fun h' b H1 hb e => hk _ _ _ (h' b H1 hb e)
  | cf f args sh => exact Fn.mono h fun v H' hq => oAnd_mono hq fun hq => exL_mono hq fun vs hq => ⟨hq.1, hk _ _ _ hq.2⟩
  | cv F args sh =>
    obtain ⟨f, first, cap, hF, hc, h⟩ := h
    exact ⟨f, first, cap, hF, hc, Fn.mono h fun v H' hq => oAnd_mono hq fun hq => exL_mono hq fun vs hq => ⟨hq.1, hk _ _ _ hq.2⟩⟩
  | ef s sh =>
    intro w hv
    obtain ⟨v, w', H', hr, ht, hq⟩ := h w hv
    exact ⟨v, w', H', hr, ht, exL_mono hq fun vs hq => ⟨hq.1, hk _ _ _ hq.2⟩⟩
  | st ad vs => exact ⟨h.1, fun H1 e => hk _ _ _ (h.2 H1 e)⟩

/-- What becomes of the call's own blocks. -/
def NFP (ps : List Nat) : NF → Prop
  | .ow f => ∀ pr x pr', f pr = some (x, pr') → (∀ j, memN j ps = false → pr j ≠ none → pr' j = pr j) ∧ ∀ j cs T, pr j = some (cs, T) → ∃ cs', pr' j = some (cs', T)
  | _ => True

theorem vc_priv {nf : NF} {ps : List Nat} (hp : NFP ps nf) (h : nf.vc P draw K pr H) :
    nf.vc P draw (fun s p H' => ((∀ j, memN j ps = false → pr j ≠ none → p j = pr j) ∧ ∀ j cs T, pr j = some (cs, T) → ∃ cs', p j = some (cs', T)) ∧ K s p H') pr H := by
  have same : (∀ j, memN j ps = false → pr j ≠ none → pr j = pr j) ∧ ∀ j cs T, pr j = some (cs, T) → ∃ cs', pr j = some (cs', T) := ⟨fun _ _ _ => rfl, fun j cs T h => ⟨cs, h⟩⟩
  cases nf with
  | bad => exact h
  | pu ob x => exact oAnd_mono h fun h => ⟨same, h⟩
  | px ls ob x => exact exL_mono h fun vs h' => ⟨h'.1, same, h'.2⟩
  | rd ls ob x => exact exL_mono h fun vs h' => ⟨h'.1, same, h'.2⟩
  | ow f =>
    simp only [NF.vc] at h ⊢
    cases hf : f pr with
    | none => simp [hf] at h
    | some y => simp only [hf] at h ⊢; exact ⟨hp pr _ _ hf, h⟩
  | al c x ob => exact oAnd_mono h fun h' b H1 hb e => ⟨same, h' b H1 hb e⟩
  | cf f args sh => exact Fn.mono h fun v H' hq => oAnd_mono hq fun hq => exL_mono hq fun vs hq => ⟨hq.1, same, hq.2⟩
  | cv F args sh =>
    obtain ⟨f, first, cap, hF, hc, h⟩ := h
    exact ⟨f, first, cap, hF, hc, Fn.mono h fun v H' hq => oAnd_mono hq fun hq => exL_mono hq fun vs hq => ⟨hq.1, same, hq.2⟩⟩
  | ef s sh =>
    intro w hv
    obtain ⟨v, w', H', hr, ht, hq⟩ := h w hv
    exact ⟨v, w', H', hr, ht, exL_mono hq fun vs hq => ⟨hq.1, same, hq.2⟩⟩
  | st ad vs => exact ⟨h.1, fun H1 e => ⟨same, h.2 H1 e⟩⟩

end

theorem nfp_load {C : Cfg} {env : Env} {g : Gd} {gb : Bool} {t : TypeId} {x : Nat} {ps : List Nat} : NFP ps (loadNF C env g gb t x) := by
  unfold loadNF
  split
  · split
    · intro pr x pr' hf
      dsimp only at hf
      (repeat' split at hf) <;> first | cases hf; exact ⟨fun _ _ _ => rfl, fun j cs T h => ⟨cs, h⟩⟩ | cases hf
    · trivial
  · split <;> trivial
  · trivial

theorem nfp_store {C : Cfg} {env : Env} {g : Gd} {o : Oper} {t : TypeId} {x : Nat} {y : Operand} (ho : o.op = .store t (.tmp x) y) : NFP (opMd C o).2 (storeNF C env g t x y) := by
  unfold storeNF
  split
  · rename_i _ j off v hpv hx hy
    simp only [Bool.and_eq_true] at hpv
    split
    · rename_i hc
      simp only [Bool.and_eq_true, Nat.beq_iff] at hc
      have hps : (opMd C o).2 = [j] := by simp [opMd, ho, hpv.1.1, hc.2]
      rw [hps]
      intro pr z pr' hf
      dsimp only at hf
      cases hj : pr j with
      | none => simp [hj] at hf
      | some b =>
        obtain ⟨cs, e⟩ := b
        simp only [hj] at hf
        split at hf
        · cases hf
          refine ⟨fun k hk _ => Priv.set_ne _ _ fun e => ?_, fun k c T hk => ?_⟩
          · subst e; simp only [memN, Nat.beq_refl, Bool.true_or] at hk; cases hk
          · by_cases e' : k = j
            · subst e'; rw [hj] at hk; cases hk; exact ⟨_, Priv.set_same _ _ _⟩
            · rw [Priv.set_ne _ _ e']; exact ⟨c, hk⟩
        · cases hf
    · trivial
  · split <;> trivial
  · trivial

theorem nfp_own {P : Program} {env : Env} {g : Gd} {o : Oper} {d : Nat} {ps : List Nat} : NFP ps (ownOp P env g o d) := by
  unfold ownOp
  split
  · split
    · intro pr x pr' hf
      dsimp only at hf
      cases hd : pr d with
      | some y => simp [hd] at hf
      | none =>
        simp only [hd, Option.some.injEq, Prod.mk.injEq] at hf
        obtain ⟨rfl, rfl⟩ := hf
        have hne : ∀ j, pr j ≠ none → j ≠ d := fun j hj e => by subst e; exact hj hd
        exact ⟨fun j _ hj => Priv.set_ne _ _ (hne j hj), fun j cs T hj => ⟨cs, by rw [Priv.set_ne _ _ (hne j (by simp [hj]))]; exact hj⟩⟩
    · trivial
  · trivial

theorem nfp_op {C : Cfg} {env : Env} {g : Gd} {gb : Bool} {o : Oper} : NFP (opMd C o).2 (opNF C env g gb o) := by
  unfold opNF
  (repeat' split) <;> rename_i ho <;> first
    | trivial
    | exact nfp_load
    | exact nfp_store ho
    | exact nfp_own
    | (unfold moveNF; split <;> trivial)
    | (unfold pickNF; (repeat' split) <;> trivial)
    | (unfold ofPv; split <;> trivial)
    | (unfold convNF; (repeat' split) <;> trivial)
    | (unfold idxNF; (repeat' split) <;> trivial)
    | (unfold pureOp; (repeat' split) <;> trivial)
    | (unfold newOp; (repeat' split) <;> trivial)
    | (unfold builtinNF; (repeat' split) <;> trivial)
    | (unfold callNF; (repeat' split) <;> trivial)

theorem putD_keep {C : Cfg} {o : Oper} {env : Env} {x : Sl} {t : Nat} {g : Gd} {v : V0} (h1 : memN t (opMd C o).1 = false) (h2 : ∀ p ∈ g, memN p.1 (opMd C o).1 = false) (h : env t = some (g, v)) : putD env o.dst x t = some (g, v) := by
  cases hd : o.dst with
  | none => exact h
  | some d =>
    have hm : (opMd C o).1 = [d] := by simp [opMd, hd]
    rw [hm] at h1 h2
    have ne : ∀ {k : Nat}, memN k [d] = false → k ≠ d := fun {k} hk e => by subst e; simp only [memN, Nat.beq_refl, Bool.true_or] at hk; cases hk
    show env.put d x t = _
    rw [Env.put_ne (ne h1), h]
    simp only
    cases hmm : mentions d g with
    | false => rfl
    | true =>
      obtain ⟨p, hp, e⟩ := mentions_iff.1 hmm
      exact absurd e (ne (h2 p hp))

theorem stepVC_mono0 {C : Cfg} {draw : Bool} {ops : Array Oper} {i : Nat} {k k' : St → Hp → Prop} {st : St} {H : Hp} (h : stepVC C draw ops i k st H) (hk : ∀ st H, k st H → k' st H) : stepVC C draw ops i k' st H := by
  unfold stepVC at *
  cases ho : ops[i]? with
  | none => simp [ho] at h
  | some o =>
    simp only [ho] at h ⊢
    cases hc : chain ops (ops.size + 1) o with
    | none => simp [hc] at h
    | some g =>
      simp only [hc] at h ⊢
      cases hb : st.env.gb g with
      | none => simp [hb] at h
      | some gb =>
        cases hd : dOk C.n g o.dst with
        | false => simp [hb, hd] at h
        | true =>
          simp only [hb, hd] at h ⊢
          exact vc_mono0 h fun _ _ _ h' => hk _ _ h'

theorem opsMd_mem {C : Cfg} {o : Oper} : ∀ {l : List Oper}, o ∈ l → (∀ t, memN t (opsMd C l).1 = false → memN t (opMd C o).1 = false) ∧ (∀ t, memN t (opsMd C l).2 = false → memN t (opMd C o).2 = false)
  | [], h => by cases h
  | x :: l, h => by
    simp only [opsMd, memN_append, Bool.or_eq_false_iff]
    rcases List.mem_cons.1 h with rfl | h
    · exact ⟨fun t h => h.1, fun t h => h.1⟩
    · obtain ⟨h1, h2⟩ := opsMd_mem h
      exact ⟨fun t h => h1 t h.2, fun t h => h2 t h.2⟩

theorem step_keep {C : Cfg} {draw : Bool} {ops : Array Oper} {i : Nat} {k : St → Hp → Prop} {st : St} {H : Hp} (h : stepVC C draw ops i k st H) :
    stepVC C draw ops i (fun st' H' => Keep (opsMd C ops.toList).1 (opsMd C ops.toList).2 st st' ∧ k st' H') st H := by
  unfold stepVC at *
  cases ho : ops[i]? with
  | none => simp [ho] at h
  | some o =>
    have hmem : o ∈ ops.toList := by simpa using Array.mem_of_getElem? ho
    obtain ⟨hm1, hm2⟩ := opsMd_mem (C := C) hmem
    simp only [ho] at h ⊢
    cases hc : chain ops (ops.size + 1) o with
    | none => simp [hc] at h
    | some g =>
      simp only [hc] at h ⊢
      cases hb : st.env.gb g with
      | none => simp [hb] at h
      | some gb =>
        cases hd : dOk C.n g o.dst with
        | false => simp [hb, hd] at h
        | true =>
          simp only [hb, hd] at h ⊢
          refine vc_mono0 (vc_priv nfp_op h) fun s p H' ⟨⟨h1, h2⟩, h3⟩ => ⟨⟨fun t g v a b c => ?_, fun j a b => h1 j (hm2 j a) b, h2⟩, h3⟩
          exact putD_keep (hm1 t a) (fun p hp => hm1 _ (b p hp)) c

theorem list_mono0 {C : Cfg} {draw : Bool} {ops : Array Oper} {k k' : St → Hp → Prop} (hk : ∀ st H, k st H → k' st H) : ∀ {l : List Nat} {st : St} {H : Hp}, listVC C draw ops l k st H → listVC C draw ops l k' st H
  | [], _, _, h => hk _ _ h
  | _ :: _, _, _, h => stepVC_mono0 h fun _ _ h' => list_mono0 hk h'

theorem list_keep {C : Cfg} {draw : Bool} {ops : Array Oper} {k : St → Hp → Prop} : ∀ {l : List Nat} {st : St} {H : Hp}, listVC C draw ops l k st H →
    listVC C draw ops l (fun st' H' => Keep (opsMd C ops.toList).1 (opsMd C ops.toList).2 st st' ∧ k st' H') st H
  | [], st, _, h => ⟨Keep.refl _ _ st, h⟩
  | i :: l, st, _, h => stepVC_mono0 (step_keep h) fun st1 H1 ⟨hk, h'⟩ => list_mono0 (fun st2 H2 ⟨hk', h''⟩ => ⟨(hk.trans hk').up (fun t ht => by rw [memN_append, ht]; rfl) (fun t ht => by rw [memN_append, ht]; rfl), h''⟩) (list_keep h')

theorem allL_mono : ∀ {ls : List Leaf} {f f' : List Value → Prop}, allL ls f → (∀ vs, f vs → f' vs) → allL ls f'
  | [], _, _, h, hf => hf _ h
  | .int _ :: ls, _, _, h, hf => fun x => allL_mono (ls := ls) (h x) fun _ => hf _
  | .bool :: ls, _, _, h, hf => fun x => allL_mono (ls := ls) (h x) fun _ => hf _
  | .sl :: ls, _, _, h, hf => fun x => allL_mono (ls := ls) (h x) fun _ => hf _
  | .ptr :: ls, _, _, h, hf => fun x => allL_mono (ls := ls) (h x) fun _ => hf _
  | .mp :: ls, _, _, h, hf => fun x => allL_mono (ls := ls) (h x) fun _ => hf _
  | .val :: ls, _, _, h, hf => fun x => allL_mono (ls := ls) (h x) fun _ => hf _

theorem code_mono0 {C : Cfg} : ∀ (c : Code) {K K' : Kc} {st : St} {H : Hp}, (∀ e st H, K e st H → K' e st H) → vc C c K st H → vc C c K' st H
  | .skip, _, _, _, _, hk, h => hk _ _ _ h
  | .ret, _, _, _, _, hk, h => hk _ _ _ h
  | .exit _, _, _, _, _, hk, h => hk _ _ _ h
  | .region id ops draw, K, K', st, H, hk, h => by
    simp only [vc] at h ⊢
    cases draw with
    | false => exact list_mono0 (hk .normal) h
    | true =>
      simp only at h ⊢
      cases hp : C.perm id with
      | none => simp [hp] at h
      | some l =>
        simp only [hp] at h ⊢
        cases ho : permOk C ops l with
        | false => simp [ho] at h
        | true => simp only [ho] at h; exact list_mono0 (hk .normal) h
  | .seq a b, K, K', st, H, hk, h => by
    simp only [vc] at h ⊢
    refine code_mono0 a (fun e st H h' => ?_) h
    cases e <;> first | exact code_mono0 b hk h' | exact hk _ _ _ h'
  | .cond c a b, K, K', st, H, hk, h => by
    simp only [vc] at h ⊢
    split at h
    · exact ⟨fun e => code_mono0 a hk (h.1 e), fun e => code_mono0 b hk (h.2 e)⟩
    · exact h.elim
  | .block id b, K, K', st, H, hk, h => by
    simp only [vc] at h ⊢
    refine code_mono0 b (fun e st H h' => ?_) h
    cases e with
    | exit k =>
      simp only at h' ⊢
      cases hb : Nat.beq k id with
      | true => simp only [hb] at h' ⊢; exact hk _ _ _ h'
      | false => simp only [hb] at h' ⊢; exact hk _ _ _ h'
    | _ => exact hk _ _ _ h'
  | .loop b, K, K', st, H, hk, h => by
    simp only [vc] at h ⊢
    cases hf : firstId b with
    | none => simp [hf] at h
    | some id =>
      cases hm : mod C b none with
      | none =>
        rw [hf, hm] at h
        refine code_mono0 b (fun e st' H' h' => ?_) h
        cases e <;> first | exact h' | exact hk _ _ _ h'
      | some mp =>
        obtain ⟨ms, ps⟩ := mp
        rw [hf, hm] at h
        dsimp only at h ⊢
        split at h
        · unfold loopVC at h ⊢
          cases hl : lpVals (C.lp id) st with
          | none => simp [hl] at h
          | some v0 =>
            simp only [hl] at h ⊢
            obtain ⟨I, m, h0, h1⟩ := h
            refine ⟨I, m, h0, allL_mono h1 fun vs h2 H hI => code_mono0 b (fun e st' H' h' => ?_) (h2 H hI)⟩
            cases e <;> first | exact h' | exact hk _ _ _ h'
        · exact h.elim
  | .rangeFunc .., _, _, _, _, _, h => h
  | .scope _, _, _, _, _, _, h => h
  | .label _, _, _, _, _, _, h => h
  | .goto _, _, _, _, _, _, h => h
  | .refuse _, _, _, _, _, _, h => h

/-- What is kept on the way to an end. -/
def KeepE (C : Cfg) (c : Code) (e : Exit) (st st' : St) : Prop :=
  match e with
  | .normal => ∃ ms ps, mod C c none = some (ms, ps) ∧ Keep ms ps st st'
  | .exit k => ∃ ms ps, mod C c (some k) = some (ms, ps) ∧ Keep ms ps st st'
  | _ => True

theorem alt_l {x y : Md} {ms ps : List Nat} {st st' : St} (h : x = some (ms, ps)) (hk : Keep ms ps st st') : ∃ ms' ps', Md.alt x y = some (ms', ps') ∧ Keep ms' ps' st st' := by
  subst h
  cases y with
  | none => exact ⟨ms, ps, rfl, hk⟩
  | some z =>
    obtain ⟨c, d⟩ := z
    exact ⟨_, _, rfl, hk.up (fun t ht => by simp only [memN_append, Bool.or_eq_false_iff] at ht; exact ht.1) (fun t ht => by simp only [memN_append, Bool.or_eq_false_iff] at ht; exact ht.1)⟩

theorem alt_r {x y : Md} {ms ps : List Nat} {st st' : St} (h : y = some (ms, ps)) (hk : Keep ms ps st st') : ∃ ms' ps', Md.alt x y = some (ms', ps') ∧ Keep ms' ps' st st' := by
  subst h
  cases x with
  | none => exact ⟨ms, ps, rfl, hk⟩
  | some z =>
    obtain ⟨c, d⟩ := z
    exact ⟨_, _, rfl, hk.up (fun t ht => by simp only [memN_append, Bool.or_eq_false_iff] at ht; exact ht.2) (fun t ht => by simp only [memN_append, Bool.or_eq_false_iff] at ht; exact ht.2)⟩

theorem seq_k {x y : Md} {ms ps ms' ps' : List Nat} {st st1 st' : St} (h : x = some (ms, ps)) (h' : y = some (ms', ps')) (hk : Keep ms ps st st1) (hk' : Keep ms' ps' st1 st') : ∃ a b, Md.seq x y = some (a, b) ∧ Keep a b st st' := by
  subst h; subst h'
  exact ⟨_, _, rfl, hk.trans hk'⟩

end Go.Eng
