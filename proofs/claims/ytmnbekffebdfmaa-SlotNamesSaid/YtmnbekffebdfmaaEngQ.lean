/- The engine, part Q: code is sound; functions. Conditions: none. -/
import Derived.Test.YtmnbekffebdfmaaEngP
set_option linter.unusedVariables false
namespace Go.Eng

theorem headEnv_at {ms : List Nat} {base : Env} {t : Nat} : ∀ {l : List (Nat × Leaf)} {vs : List Value}, (∀ x ∈ l, x.1 ≠ t) → headEnv ms base l vs t = match memN t ms with
    | true => none
    | false => match base t with
      | some (g, v) => match g.any fun p => memN p.1 ms with
        | true => none
        | false => some (g, v)
      | none => none
  | [], _, _ => rfl
  | x :: l, vs, h => by
    have hb : Nat.beq t x.1 = false := by
      cases hx : Nat.beq t x.1 with
      | false => rfl
      | true => exact absurd ((Nat.beq_iff _ _).1 hx).symm (h x (List.mem_cons_self ..))
    simp only [headEnv, hb]
    exact headEnv_at (l := l) fun y hy => h y (List.mem_cons_of_mem _ hy)

theorem headPriv_at {base : Priv} {k : Nat} : ∀ {l : List (Nat × List Leaf)} {vs : List Value}, (∀ x ∈ l, x.1 ≠ k) → headPriv base l vs k = base k
  | [], _, _ => rfl
  | x :: l, vs, h => by
    have hb : Nat.beq k x.1 = false := by
      cases hx : Nat.beq k x.1 with
      | false => rfl
      | true => exact absurd ((Nat.beq_iff _ _).1 hx).symm (h x (List.mem_cons_self ..))
    simp only [headPriv, hb]
    exact headPriv_at (l := l) fun y hy => h y (List.mem_cons_of_mem _ hy)

theorem headPriv_typ {base : Priv} {k : Nat} {cs : List Value} {T : TypeId} (hb : base k = some (cs, T)) : ∀ {l : List (Nat × List Leaf)} {vs : List Value}, ∃ cs', headPriv base l vs k = some (cs', T)
  | [], _ => ⟨cs, hb⟩
  | x :: l, vs => by
    cases hx : Nat.beq k x.1 with
    | false => simp only [headPriv, hx]; exact headPriv_typ hb
    | true =>
      have e := (Nat.beq_iff _ _).1 hx
      simp only [headPriv, hx]
      rw [← e, hb]
      exact ⟨_, rfl⟩

theorem headPriv_none {base : Priv} {k : Nat} (hb : base k = none) : ∀ {l : List (Nat × List Leaf)} {vs : List Value}, headPriv base l vs k = none
  | [], _ => hb
  | x :: l, vs => by
    cases hx : Nat.beq k x.1 with
    | false => simp only [headPriv, hx]; exact headPriv_none hb
    | true =>
      have e := (Nat.beq_iff _ _).1 hx
      simp only [headPriv, hx]
      rw [← e, hb]

theorem head_keep {ms ps : List Nat} {l : Lp} {st : St} {vs : List Value} (h1 : (l.1.all fun x => memN x.1 ms) = true) (h2 : (l.2.all fun x => memN x.1 ps) = true) : Keep ms ps st (headSt ms l st vs) := by
  simp only [List.all_eq_true] at h1 h2
  refine ⟨fun t g v a b c => ?_, fun j a b => ?_, fun j cs T hj => headPriv_typ hj⟩
  · simp only [headSt]
    rw [headEnv_at fun x hx e => by have := h1 x hx; rw [e, a] at this; cases this]
    have hg : (g.any fun p => memN p.1 ms) = false := by
      rw [List.any_eq_false]; intro p hp; rw [b p hp]; simp
    rw [a, c]; simp only [hg]
  · simp only [headSt]
    exact headPriv_at fun x hx e => by have := h2 x hx; rw [e, a] at this; cases this

/-- What code leaves as it was, said beside what comes behind it. -/
theorem code_keep {C : Cfg} : ∀ (c : Code) {K : Kc} {st : St} {H : Hp}, vc C c K st H → vc C c (fun e st' H' => KeepE C c e st st' ∧ K e st' H') st H
  | .skip, _, st, _, h => ⟨⟨_, _, rfl, Keep.refl _ _ st⟩, h⟩
  | .ret, _, _, _, h => ⟨trivial, h⟩
  | .exit id, _, st, _, h => ⟨⟨[], [], by simp [mod, Nat.beq_refl], Keep.refl _ _ st⟩, h⟩
  | .region id ops draw, K, st, H, h => by
    simp only [vc] at h ⊢
    have key : ∀ (dr : Bool) (l : List Nat), listVC C dr ops l (K .normal) st H → listVC C dr ops l (fun st' H' => KeepE C (.region id ops draw) .normal st st' ∧ K .normal st' H') st H :=
      fun dr l h => list_mono0 (fun st' H' ⟨hk, h'⟩ => ⟨⟨_, _, rfl, hk⟩, h'⟩) (list_keep h)
    cases draw with
    | false => exact key _ _ h
    | true =>
      simp only at h ⊢
      cases hp : C.perm id with
      | none => simp [hp] at h
      | some l =>
        simp only [hp] at h ⊢
        cases ho : permOk C ops l with
        | false => simp [ho] at h
        | true => simp only [ho] at h; exact key _ _ h
  | .seq a b, K, st, H, h => by
    simp only [vc] at h ⊢
    refine code_mono0 a (fun e st1 H1 h' => ?_) (code_keep a h)
    obtain ⟨hk, h'⟩ := h'
    cases e with
    | normal =>
      obtain ⟨ms, ps, hm, hk⟩ := hk
      refine code_mono0 b (fun e st2 H2 h'' => ?_) (code_keep b h')
      obtain ⟨hk', h''⟩ := h''
      refine ⟨?_, h''⟩
      cases e with
      | normal => obtain ⟨ms', ps', hm', hk'⟩ := hk'; exact seq_k hm hm' hk hk'
      | exit k =>
        obtain ⟨ms', ps', hm', hk'⟩ := hk'
        obtain ⟨x, y, h1, h2⟩ := seq_k hm hm' hk hk'
        exact alt_r h1 h2
      | _ => trivial
    | exit k =>
      obtain ⟨ms, ps, hm, hk⟩ := hk
      exact ⟨alt_l hm hk, h'⟩
    | _ => exact ⟨trivial, h'⟩
  | .cond c a b, K, st, H, h => by
    simp only [vc] at h ⊢
    split at h
    · refine ⟨fun e => ?_, fun e => ?_⟩
      · refine code_mono0 a (fun e st1 H1 h' => ⟨?_, h'.2⟩) (code_keep a (h.1 e))
        cases e with
        | normal => obtain ⟨ms, ps, hm, hk⟩ := h'.1; exact alt_l hm hk
        | exit k => obtain ⟨ms, ps, hm, hk⟩ := h'.1; exact alt_l hm hk
        | _ => trivial
      · refine code_mono0 b (fun e st1 H1 h' => ⟨?_, h'.2⟩) (code_keep b (h.2 e))
        cases e with
        | normal => obtain ⟨ms, ps, hm, hk⟩ := h'.1; exact alt_r hm hk
        | exit k => obtain ⟨ms, ps, hm, hk⟩ := h'.1; exact alt_r hm hk
        | _ => trivial
    · exact h.elim
  | .block id b, K, st, H, h => by
    simp only [vc] at h ⊢
    refine code_mono0 b (fun e st1 H1 h' => ?_) (code_keep b h)
    obtain ⟨hk, h'⟩ := h'
    cases e with
    | normal => obtain ⟨ms, ps, hm, hk⟩ := hk; exact ⟨alt_l hm hk, h'⟩
    | exit k =>
      obtain ⟨ms, ps, hm, hk⟩ := hk
      simp only at h' ⊢
      cases hb : Nat.beq k id with
      | true =>
        simp only [hb] at h' ⊢
        have e := (Nat.beq_iff _ _).1 hb
        subst e
        exact ⟨alt_r hm hk, h'⟩
      | false =>
        simp only [hb] at h' ⊢
        refine ⟨⟨ms, ps, ?_, hk⟩, h'⟩
        have : Nat.beq id k = false := by
          cases hx : Nat.beq id k with
          | false => rfl
          | true => rw [(Nat.beq_iff _ _).1 hx, Nat.beq_refl] at hb; cases hb
        simp only [mod, this]; exact hm
    | _ => exact ⟨trivial, h'⟩
  | .loop b, K, st, H, h => by
    simp only [vc] at h ⊢
    cases hf : firstId b with
    | none => simp [hf] at h
    | some id =>
      cases hm : mod C b none with
      | none =>
        rw [hf, hm] at h
        refine code_mono0 b (fun e st1 H1 h' => ?_) (code_keep b h)
        obtain ⟨hk, h'⟩ := h'
        cases e with
        | normal => exact h'
        | exit k => obtain ⟨ms, ps, hm', hk⟩ := hk; exact ⟨alt_l hm' hk, h'⟩
        | _ => exact ⟨trivial, h'⟩
      | some mp =>
        obtain ⟨ms, ps⟩ := mp
        rw [hf, hm] at h
        dsimp only at h ⊢
        split at h
        · rename_i hps
          simp only [Bool.and_eq_true] at hps
          unfold loopVC at h ⊢
          cases hl : lpVals (C.lp id) st with
          | none => simp [hl] at h
          | some v0 =>
            simp only [hl] at h ⊢
            obtain ⟨I, m, h0, h1⟩ := h
            refine ⟨I, m, h0, allL_mono h1 fun vs h2 H hI => code_mono0 b (fun e st1 H1 h' => ?_) (code_keep b (h2 H hI))⟩
            obtain ⟨hk, h'⟩ := h'
            cases e with
            | normal => exact h'
            | exit k =>
              obtain ⟨ms', ps', hm', hk⟩ := hk
              obtain ⟨x, y, e1, e2⟩ := seq_k hm hm' (head_keep hps.1.2 hps.2) hk
              exact ⟨alt_r e1 e2, h'⟩
            | _ => exact ⟨trivial, h'⟩
        · exact h.elim
  | .rangeFunc .., _, _, _, h => h.elim
  | .scope _, _, _, _, h => h.elim
  | .label _, _, _, _, h => h.elim
  | .goto _, _, _, _, h => h.elim
  | .refuse _, _, _, _, h => h.elim

end Go.Eng
