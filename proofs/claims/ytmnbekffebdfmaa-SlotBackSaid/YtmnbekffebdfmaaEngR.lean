/- The engine, part R: code is sound; a function out of its conditions. Conditions: none. -/
import Derived.Test.YtmnbekffebdfmaaEngQ
set_option linter.unusedVariables false
namespace Go.Eng

theorem appC_wt {R : Type} : ∀ {ls : List Leaf} {r : Cur R ls} {vs : List Value} {x : R}, appC ls r vs = some x → ∀ f, allL ls f → f vs
  | [], _, [], _, _, f, h => h
  | [], _, _ :: _, _, h, _, _ => by simp [appC] at h
  | .int k :: ls, r, vs, x, h, f, hf => by
    cases vs with
    | nil => simp [appC] at h
    | cons v vs =>
      cases v with
      | int k' n =>
        simp only [appC] at h
        split at h
        · rename_i hk
          have := of_decide_eq_true hk
          subst this
          exact appC_wt h _ (hf n)
        · cases h
      | _ => simp [appC] at h
  | .bool :: ls, r, vs, x, h, f, hf => by
    cases vs with
    | nil => simp [appC] at h
    | cons v vs =>
      cases v with
      | bool b => simp only [appC] at h; exact appC_wt h _ (hf b)
      | _ => simp [appC] at h
  | .sl :: ls, r, vs, x, h, f, hf => by
    cases vs with
    | nil => simp [appC] at h
    | cons v vs =>
      cases v with
      | slice a n c => simp only [appC] at h; exact appC_wt h _ (hf ⟨a, n, c⟩)
      | _ => simp [appC] at h
  | .ptr :: ls, r, vs, x, h, f, hf => by
    cases vs with
    | nil => simp [appC] at h
    | cons v vs =>
      cases v with
      | pointer a =>
        cases a with
        | none => simp [appC] at h
        | some a => simp only [appC] at h; exact appC_wt h _ (hf a)
      | _ => simp [appC] at h
  | .mp :: ls, r, vs, x, h, f, hf => by
    cases vs with
    | nil => simp [appC] at h
    | cons v vs =>
      cases v with
      | map r => simp only [appC] at h; exact appC_wt h _ (hf r)
      | _ => simp [appC] at h
  | .val :: ls, r, vs, x, h, f, hf => by
    cases vs with
    | nil => simp [appC] at h
    | cons v vs => simp only [appC] at h; exact appC_wt h _ (hf v)

theorem appC_ex {R S : Type} : ∀ {ls : List Leaf} {r : Cur R ls} {s : Cur S ls} {vs : List Value} {x : R}, appC ls r vs = some x → ∃ y, appC ls s vs = some y
  | [], _, s, [], _, _ => ⟨s, rfl⟩
  | [], _, _, _ :: _, _, h => by simp [appC] at h
  | .int k :: ls, r, s, vs, x, h => by
    cases vs with
    | nil => simp [appC] at h
    | cons v vs =>
      cases v with
      | int k' n =>
        simp only [appC] at h ⊢
        split at h
        · exact appC_ex h
        · cases h
      | _ => simp [appC] at h
  | .bool :: ls, r, s, vs, x, h => by
    cases vs with
    | nil => simp [appC] at h
    | cons v vs =>
      cases v with
      | bool b => simp only [appC] at h ⊢; exact appC_ex h
      | _ => simp [appC] at h
  | .sl :: ls, r, s, vs, x, h => by
    cases vs with
    | nil => simp [appC] at h
    | cons v vs =>
      cases v with
      | slice a n c => simp only [appC] at h ⊢; exact appC_ex h
      | _ => simp [appC] at h
  | .ptr :: ls, r, s, vs, x, h => by
    cases vs with
    | nil => simp [appC] at h
    | cons v vs =>
      cases v with
      | pointer a =>
        cases a with
        | none => simp [appC] at h
        | some a => simp only [appC] at h ⊢; exact appC_ex h
      | _ => simp [appC] at h
  | .mp :: ls, r, s, vs, x, h => by
    cases vs with
    | nil => simp [appC] at h
    | cons v vs =>
      cases v with
      | map r => simp only [appC] at h ⊢; exact appC_ex h
      | _ => simp [appC] at h
  | .val :: ls, r, s, vs, x, h => by
    cases vs with
    | nil => simp [appC] at h
    | cons v vs => simp only [appC] at h ⊢; exact appC_ex h

structure Weak (st' st : St) : Prop where
  env : ∀ t e, st.env t = some e → st'.env t = some e
  priv : ∀ j b, st.priv j = some b → st'.priv j = some b
  known : ∀ t g v, st.env t = some (g, v) → v.known st.priv

theorem Sim.weak {n : Nat} {w0 w : World} {H0 H : Hp} {st st' : St} {a : Act} (h : Sim n w0 H0 st' H a w) (hw : Weak st' st) : Sim n w0 H0 st H a w := by
  obtain ⟨ids, hE, hP, hT⟩ := h
  have hn : ∀ j, st.priv j ≠ none → st'.priv j ≠ none := fun j hj => by
    cases hx : st.priv j with
    | none => exact absurd hx hj
    | some b => rw [hw.priv j b hx]; simp
  exact ⟨ids, ⟨hE.size, hE.defers, fun t g v ht => hE.ok t g v (hw.env t _ ht), fun t g v ht => hE.no t g v (hw.env t _ ht), hw.known⟩,
    ⟨fun j cs t hj => hP.blk j cs t (hw.priv j _ hj), fun j hj => hP.hid j (hn j hj), fun j hj => hP.low j (hn j hj), fun j k hj hk => hP.inj j k (hn j hj) (hn k hk)⟩, hT⟩

theorem head_env {ms : List Nat} {base env' : Env} (hb : ∀ t g v, memN t ms = false → (∀ p ∈ g, memN p.1 ms = false) → base t = some (g, v) → env' t = some (g, v)) :
    ∀ {l : List (Nat × Leaf)} {vs us : List Value}, slotVals env' l = some vs → ∀ t e, headEnv ms base l (vs ++ us) t = some e → env' t = some e ∨ ∃ x ∈ l, x.1 = t ∧ env' t = some e
  | [], vs, us, _, t, e, h => by
    left
    simp only [headEnv] at h
    split at h
    · cases h
    · rename_i hm
      split at h
      · rename_i g v hbt
        split at h
        · cases h
        · rename_i hg
          cases h
          exact hb t g v hm (fun p hp => by rw [List.any_eq_false] at hg; simpa using hg p hp) hbt
      · cases h
  | (s, lf) :: l, vs, us, hv, t, e, h => by
    simp only [slotVals] at hv
    split at hv
    · rename_i v hs
      split at hv
      · rename_i vs' hv'
        cases hv
        cases hx : Nat.beq t s with
        | true =>
          simp only [headEnv, hx, List.cons_append] at h
          cases h
          have := (Nat.beq_iff _ _).1 hx
          subst this
          exact .inl hs
        | false =>
          simp only [headEnv, hx, List.cons_append, List.tail_cons] at h
          rcases head_env hb hv' t e h with h' | ⟨x, hx', h'⟩
          · exact .inl h'
          · exact .inl h'.2
      · cases hv
    · cases hv

theorem head_priv' {base pr' : Priv} (ht : ∀ j cs T, base j = some (cs, T) → ∃ cs', pr' j = some (cs', T)) : ∀ {l : List (Nat × List Leaf)} {vs us : List Value} {k : Nat} {b : List Value × TypeId},
    privVals pr' l = some vs → ((∀ x ∈ l, x.1 ≠ k) → base k ≠ none → pr' k = base k) → headPriv base l (vs ++ us) k = some b → pr' k = some b
  | [], vs, us, k, b, _, hk, h => by
    simp only [headPriv] at h
    rw [hk (by simp) (by simp [h]), h]
  | (j, ls) :: l, vs, us, k, b, hv, hk, h => by
    simp only [privVals] at hv
    split at hv
    · rename_i cs T hj
      split at hv
      · rename_i vs' hlen hv'
        cases hv
        have hlen' : cs.length = ls.length := Nat.eq_of_beq_eq_true hlen
        cases hx : Nat.beq k j with
        | true =>
          have e := (Nat.beq_iff _ _).1 hx
          subst e
          simp only [headPriv, hx] at h
          cases hb : base k with
          | none => simp [hb] at h
          | some b0 =>
            obtain ⟨c0, T0⟩ := b0
            simp only [hb, Option.some.injEq] at h
            obtain ⟨cs', h2⟩ := ht k c0 T0 hb
            rw [hj] at h2
            cases h2
            rw [hj, ← h]
            simp [← hlen']
        | false =>
          simp only [headPriv, hx] at h
          have hd : (cs ++ vs' ++ us).drop ls.length = vs' ++ us := by rw [← hlen', List.append_assoc, List.drop_left]
          rw [hd] at h
          refine head_priv' ht hv' (fun hn => hk fun x hx' => ?_) h
          rcases List.mem_cons.1 hx' with rfl | hx'
          · intro e; have e' : j = k := e; rw [e', Nat.beq_refl] at hx; cases hx
          · exact hn x hx'
      · cases hv
    · cases hv

theorem slotVals_length {env : Env} : ∀ {l : List (Nat × Leaf)} {vs : List Value}, slotVals env l = some vs → vs.length = l.length
  | [], vs, h => by cases h; rfl
  | (s, lf) :: l, vs, h => by
    simp only [slotVals] at h
    split at h
    · split at h
      · rename_i hv; cases h; simp [slotVals_length hv]
      · cases h
    · cases h

theorem weak_head {ms ps : List Nat} {l : Lp} {st st' : St} {vs : List Value} (hv : lpVals l st' = some vs) (hps : ∀ j, memN j ps = true → st.priv j ≠ none → ∃ x ∈ l.2, x.1 = j) (hkn : ∀ t g v, st.env t = some (g, v) → v.known st.priv)
    (he : ∀ t g v, memN t ms = false → (∀ p ∈ g, memN p.1 ms = false) → st.env t = some (g, v) → st'.env t = some (g, v)) (hp : ∀ j, memN j ps = false → st.priv j ≠ none → (∀ x ∈ l.2, x.1 ≠ j) → st'.priv j = st.priv j)
    (ht : ∀ j cs T, st.priv j = some (cs, T) → ∃ cs', st'.priv j = some (cs', T)) : Weak st' (headSt ms l st vs) := by
  unfold lpVals at hv
  split at hv
  · rename_i v1 v2 h1 h2
    cases hv
    have hlen := slotVals_length h1
    refine ⟨fun t e h => ?_, fun j b h => ?_, fun t g v h => ?_⟩
    · rcases head_env he h1 t e h with h | ⟨_, _, _, h⟩ <;> exact h
    · simp only [headSt] at h
      have hd : (v1 ++ v2).drop l.1.length = v2 ++ [] := by rw [← hlen, List.drop_left]; simp
      rw [hd] at h
      refine head_priv' ht h2 (fun hn hb => ?_) h
      refine hp j ?_ hb hn
      cases hm : memN j ps with
      | false => rfl
      | true => obtain ⟨x, hx, e⟩ := hps j hm hb; exact absurd e (hn x hx)
    · -- what is known of the pointers
      cases v with
      | lit v => trivial
      | ptr j o =>
        have key : ∀ (l1 : List (Nat × Leaf)) (vs : List Value), headEnv ms st.env l1 vs t = some (g, .ptr j o) → st.env t = some (g, .ptr j o) := by
          intro l1
          induction l1 with
          | nil =>
            intro vs h
            simp only [headEnv] at h
            split at h
            · cases h
            · split at h
              · rename_i hbt
                split at h
                · cases h
                · cases h; exact hbt
              · cases h
          | cons x l1 ih =>
            intro vs h
            simp only [headEnv] at h
            split at h
            · split at h <;> cases h
            · exact ih _ h
        have h3 := hkn t g _ (key _ _ h)
        show (headSt ms l st (v1 ++ v2)).priv j ≠ none
        intro hn
        cases hb : st.priv j with
        | none => exact h3 hb
        | some b =>
          obtain ⟨cs, T⟩ := b
          obtain ⟨cs', h4⟩ := headPriv_typ hb (l := l.2) (vs := (v1 ++ v2).drop l.1.length)
          simp only [headSt] at hn
          rw [h4] at hn; cases hn
  · cases hv

/-- What is to hold where code ends. -/
def Qk (n : Nat) (w0 : World) (H0 : Hp) (K : Kc) : Exit → Act → World → Prop := fun e a w => ∃ st H, Sim n w0 H0 st H a w ∧ K e st H

theorem code_sound {C : Cfg} {w0 : World} {H0 : Hp} (hN : NoCount C.P) (hM : C.P.follows .mixedOrders = true) : ∀ (c : Code) {K : Kc} {st : St} {H : Hp} {a : Act} {w : World},
    vc C c K st H → Sim C.n w0 H0 st H a w → c.wp C.P (Qk C.n w0 H0 K) a w
  | .skip, K, st, H, a, w, h, hs => wp_skip ⟨st, H, hs, h⟩
  | .ret, K, st, H, a, w, h, hs => wp_ret ⟨st, H, hs, h⟩
  | .exit id, K, st, H, a, w, h, hs => wp_exit ⟨st, H, hs, h⟩
  | .region id ops draw, K, st, H, a, w, h, hs => by
    simp only [vc] at h
    cases draw with
    | false => exact wp_region (list_sound hN (fun a w h => h) _ st H a w h hs)
    | true =>
      simp only at h
      cases hp : C.perm id with
      | none => simp [hp] at h
      | some l =>
        simp only [hp] at h
        cases ho : permOk C ops l with
        | false => simp [ho] at h
        | true => simp only [ho] at h; exact region_draw hN hM (fun a w h => h) ho h hs
  | .seq x y, K, st, H, a, w, h, hs => by
    simp only [vc] at h
    refine wp_seq (wp_mono (code_sound hN hM x h hs) fun e a w hq => ?_)
    obtain ⟨st', H', hs', h'⟩ := hq
    cases e with
    | normal => exact code_sound hN hM y h' hs'
    | _ => exact ⟨st', H', hs', h'⟩
  | .cond c x y, K, st, H, a, w, h, hs => by
    simp only [vc] at h
    split at h
    · rename_i b hb
      have e : a.eval c = .bool b := by
        obtain ⟨ids, hE, _, _⟩ := hs
        exact hE.ev (g := []) (by simp [gH]) hb
      refine wp_cond e ?_
      cases b with
      | true => exact code_sound hN hM x (h.1 rfl) hs
      | false => exact code_sound hN hM y (h.2 rfl) hs
    · exact h.elim
  | .block id b, K, st, H, a, w, h, hs => by
    simp only [vc] at h
    refine wp_block (wp_mono (code_sound hN hM b h hs) fun e a w hq => ?_)
    obtain ⟨st', H', hs', h'⟩ := hq
    cases e with
    | exit k =>
      simp only [Exit.inBlock]
      by_cases hk : k = id
      · subst hk
        rw [if_pos rfl]
        simp only [Nat.beq_refl] at h'
        exact ⟨st', H', hs', h'⟩
      · rw [if_neg hk]
        have : Nat.beq k id = false := by
          cases hx : Nat.beq k id with
          | false => rfl
          | true => exact absurd ((Nat.beq_iff _ _).1 hx) hk
        simp only [this] at h'
        exact ⟨st', H', hs', h'⟩
    | _ => exact ⟨st', H', hs', h'⟩
  | .loop b, K, st, H, a, w, h, hs => by
    simp only [vc] at h
    cases hf : firstId b with
    | none => simp [hf] at h
    | some id =>
      cases hm : mod C b none with
      | none =>
        rw [hf, hm] at h
        refine wp_loop_ghost (fun _ a' w' => a' = a ∧ w' = w) 0 ⟨rfl, rfl⟩ fun n a' w' ⟨ha, hw⟩ => ?_
        subst ha; subst hw
        refine wp_mono (code_sound hN hM b h hs) fun e a w hq => ?_
        obtain ⟨st', H', hs', h'⟩ := hq
        cases e with
        | normal => exact h'.elim
        | _ => exact ⟨st', H', hs', h'⟩
      | some mp =>
        obtain ⟨ms, ps⟩ := mp
        rw [hf, hm] at h
        dsimp only at h
        split at h
        · rename_i hps
          simp only [Bool.and_eq_true, List.all_eq_true] at hps
          obtain ⟨⟨hps, hl1⟩, hl2⟩ := hps
          have hps' : ∀ j, memN j ps = true → st.priv j ≠ none → ∃ x ∈ (C.lp id).2, x.1 = j := fun j hj hn => by
            rcases Bool.or_eq_true _ _ ▸ hps j (memN_iff.1 hj) with this | this
            · obtain ⟨x, hx, e⟩ := List.mem_map.1 (memN_iff.1 this)
              exact ⟨x, hx, e⟩
            · exact absurd (privNone_iff this) hn
          unfold loopVC at h
          cases hl : lpVals (C.lp id) st with
          | none => simp [hl] at h
          | some v0 =>
            simp only [hl] at h
            obtain ⟨I, m, h0, h1⟩ := h
            have hkn : ∀ t g v, st.env t = some (g, v) → v.known st.priv := by obtain ⟨ids, hE, _, _⟩ := hs; exact hE.known
            -- the relation that is handed on
            cases ha0 : appC (Lp.leaves (C.lp id)) I v0 with
            | none => simp [ha0] at h0
            | some p0 =>
              simp only [ha0] at h0
              have hm0 : ∀ vs (p : Hp → Prop), appC (Lp.leaves (C.lp id)) I vs = some p → ∃ f, appC (Lp.leaves (C.lp id)) m vs = some f := by
                intro vs p hp; exact appC_ex hp
              obtain ⟨f0, hf0⟩ := hm0 v0 p0 ha0
              refine wp_loop_ghost (fun k a' w' => ∃ vs H' p f, appC (Lp.leaves (C.lp id)) I vs = some p ∧ p H' ∧ appC (Lp.leaves (C.lp id)) m vs = some f ∧ f H' = k ∧ Sim C.n w0 H0 (headSt ms (C.lp id) st vs) H' a' w') (f0 H)
                ⟨v0, H, p0, f0, ha0, h0, hf0, rfl, hs.weak (weak_head hl hps' hkn (fun _ _ _ _ _ h => h) (fun _ _ _ _ => rfl) (fun j cs T h => ⟨cs, h⟩))⟩ ?_
              intro k a1 w1 hJ
              obtain ⟨vs, H1, p, f, hp, hpH, hf1, hk, hs1⟩ := hJ
              have h2 := appC_wt hp _ h1 H1 (by rw [hp]; exact hpH)
              refine wp_mono (code_sound hN hM b (code_keep b h2) hs1) fun e a2 w2 hq => ?_
              obtain ⟨st2, H2, hs2, hkeep, h'⟩ := hq
              cases e with
              | normal =>
                obtain ⟨ms', ps', hm', hke⟩ := hkeep
                rw [hm] at hm'
                cases hm'
                simp only at h'
                cases hl' : lpVals (C.lp id) st2 with
                | none => simp [hl'] at h'
                | some vs' =>
                  simp only [hl'] at h'
                  cases hp' : appC (Lp.leaves (C.lp id)) I vs' with
                  | none => simp [hp'] at h'
                  | some p' =>
                    cases hf' : appC (Lp.leaves (C.lp id)) m vs' with
                    | none => simp [hp', hf'] at h'
                    | some f' =>
                      simp only [hp', hf', hf1] at h'
                      refine ⟨f' H2, by rw [← hk]; exact h'.2, vs', H2, p', f', hp', h'.1, hf', rfl, hs2.weak (weak_head hl' hps' hkn (fun t g v hm1 hm2 hb => ?_) (fun j hm1 hb hn => ?_) (fun j cs T hj => ?_))⟩
                      · by_cases hc : ∃ x ∈ (C.lp id).1, x.1 = t
                        · obtain ⟨x, hx, e⟩ := hc
                          have := hl1 x hx
                          rw [e, hm1] at this; cases this
                        · refine hke.env t g v hm1 hm2 ?_
                          simp only [headSt]
                          rw [headEnv_at fun x hx e => hc ⟨x, hx, e⟩]
                          have hg : (g.any fun p => memN p.1 ms) = false := by
                            rw [List.any_eq_false]; intro p hp; rw [hm2 p hp]; simp
                          rw [hm1, hb]; simp only [hg]
                      · have e1 : (headSt ms (C.lp id) st vs).priv j = st.priv j := headPriv_at hn
                        rw [hke.priv j hm1 (by rw [e1]; exact hb), e1]
                      · obtain ⟨cs1, h3⟩ := headPriv_typ hj (l := (C.lp id).2) (vs := vs.drop (C.lp id).1.length)
                        exact hke.typ j cs1 T h3
              | _ => exact ⟨st2, H2, hs2, h'⟩
        · exact h.elim
  | .rangeFunc .., _, _, _, _, _, h, _ => h.elim
  | .scope _, _, _, _, _, _, h, _ => h.elim
  | .label _, _, _, _, _, _, h, _ => h.elim
  | .goto _, _, _, _, _, _, h, _ => h.elim
  | .refuse _, _, _, _, _, _, h, _ => h.elim

/-- The results, where the function ends. -/
def resVals (C : Cfg) (st : St) : List ResultVar → Option (List Value)
  | [] => some []
  | .tmp t :: rs => match st.env.ev [] (.tmp t), resVals C st rs with
    | some (.lit v), some vs => some (v :: vs)
    | _, _ => none
  | .cell t ty :: rs => match st.env.ev [] (.tmp t), resVals C st rs with
    | some (.ptr j off), some vs => match st.priv j with
      | some (cs, _) => match Nat.ble (off + C.P.cellsOf ty) cs.length && (aggT C.P ty || Nat.beq (C.P.cellsOf ty) 1) && hasU C.P ty with
        | true => some (mkV (aggT C.P ty) ((cs.drop off).take (C.P.cellsOf ty)) :: vs)
        | false => none
      | none => none
    | _, _ => none

def retK (C : Cfg) (rs : List ResultVar) (post : Value → Hp → Prop) : Kc := fun e st H => match e with
  | .normal => match resVals C st rs with
    | some [v] => post v H
    | some vs => post (.tuple vs.toArray) H
    | none => False
  | .ret => match resVals C st rs with
    | some [v] => post v H
    | some vs => post (.tuple vs.toArray) H
    | none => False
  | _ => False

def env0 : List Value → Env
  | [] => fun _ => none
  | v :: vs => fun t => match t with
    | 0 => some ([], .lit v)
    | t + 1 => env0 vs t

theorem env0_get : ∀ {vs : List Value} {t : Nat} {e : Gd × V0}, env0 vs t = some e → ∃ v, vs[t]? = some v ∧ e = ([], .lit v)
  | [], t, e, h => by cases h
  | v :: vs, 0, e, h => by cases h; exact ⟨v, rfl, rfl⟩
  | v :: vs, t + 1, e, h => env0_get (vs := vs) h

end Go.Eng
