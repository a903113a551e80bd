/- The engine, part C: states and what they say of a frame and a world; the operands. Conditions: none. -/
import Derived.Test.YtmnbekffebdfmaaEngB
set_option linter.unusedVariables false
namespace Go.Eng

structure St where
  env : Env
  priv : Priv

def V0.val (ids : Nat → Nat) : V0 → Value
  | .lit v => v
  | .ptr j off => .pointer (some ⟨ids j, off, none⟩)

def V0.known (pr : Priv) : V0 → Prop
  | .lit _ => True
  | .ptr j _ => pr j ≠ none

def gH (t : Array Value) (g : Gd) : Prop := ∀ p ∈ g, t.getD p.1 undef = .bool p.2

structure EnvOk (n : Nat) (env : Env) (pr : Priv) (ids : Nat → Nat) (a : Act) : Prop where
  size : a.tmps.size = n
  defers : a.defers = []
  ok : ∀ t g v, env t = some (g, v) → gH a.tmps g → a.tmps.getD t undef = v.val ids
  no : ∀ t g v, env t = some (g, v) → ¬ gH a.tmps g → a.tmps.getD t undef = undef
  known : ∀ t g v, env t = some (g, v) → v.known pr

structure PrivOk (pr : Priv) (ids : Nat → Nat) (H : Hp) (w : World) (B : Nat) : Prop where
  blk : ∀ j cs t, pr j = some (cs, t) → w.heap[ids j]? = some (.cells cs.toArray t (0, 0))
  hid : ∀ j, pr j ≠ none → H (ids j) = none
  low : ∀ j, pr j ≠ none → B ≤ ids j
  inj : ∀ j k, pr j ≠ none → pr k ≠ none → ids j = ids k → j = k

def Sim (n : Nat) (w0 : World) (H0 : Hp) (st : St) (H : Hp) (a : Act) (w : World) : Prop :=
  ∃ ids, EnvOk n st.env st.priv ids a ∧ PrivOk st.priv ids H w w0.heap.size ∧ Tr w0 H0 w H

theorem PrivOk.lt {pr : Priv} {ids : Nat → Nat} {H : Hp} {w : World} {B : Nat} (h : PrivOk pr ids H w B) {j : Nat} (hj : pr j ≠ none) : ids j < w.heap.size := by
  cases hx : pr j with
  | none => exact absurd hx hj
  | some x =>
    obtain ⟨cs, t⟩ := x
    have := h.blk j cs t hx
    exact (Array.getElem?_eq_some_iff.1 this).1

/-- What the call keeps for itself stays under a transition of what is in view. -/
theorem PrivOk.tr {pr : Priv} {ids : Nat → Nat} {H H' : Hp} {w w' : World} {B : Nat} (h : PrivOk pr ids H w B) (ht : Tr w H w' H') : PrivOk pr ids H' w' B := by
  refine ⟨fun j cs t hj => ?_, fun j hj => ?_, h.low, h.inj⟩
  · have hk : pr j ≠ none := by simp [hj]
    rw [ht.frame (ids j) (h.lt hk) (h.hid j hk)]; exact h.blk j cs t hj
  · exact ht.none (h.lt hj) (h.hid j hj)

theorem Nat.beq_iff (a b : Nat) : Nat.beq a b = true ↔ a = b := ⟨Nat.eq_of_beq_eq_true, fun h => by subst h; exact Nat.beq_refl a⟩

theorem mentions_iff {d : Nat} : ∀ {g : Gd}, mentions d g = true ↔ ∃ p ∈ g, p.1 = d
  | [] => by simp [mentions]
  | p :: g => by simp [mentions, mentions_iff (g := g)]

theorem bEq_iff {a b : Bool} : bEq a b = true ↔ a = b := by cases a <;> cases b <;> simp [bEq]

theorem gIn_iff {s : Nat} {w : Bool} : ∀ {g : Gd}, gIn s w g = true ↔ (s, w) ∈ g
  | [] => by simp [gIn]
  | (a, b) :: g => by
    simp only [gIn, Bool.or_eq_true, Bool.and_eq_true, Nat.beq_iff, bEq_iff, gIn_iff (g := g), List.mem_cons, Prod.mk.injEq]
    constructor
    · rintro (⟨h1, h2⟩ | h)
      · exact .inl ⟨h1.symm, h2.symm⟩
      · exact .inr h
    · rintro (⟨h1, h2⟩ | h)
      · exact .inl ⟨h1.symm, h2.symm⟩
      · exact .inr h

theorem gSub_iff : ∀ {g' g : Gd}, gSub g' g = true ↔ ∀ p ∈ g', p ∈ g
  | [], g => by simp [gSub]
  | (a, b) :: g', g => by simp [gSub, gIn_iff, gSub_iff (g' := g')]

theorem gEq_eq : ∀ {g g' : Gd}, gEq g g' = true → g = g'
  | [], [], _ => rfl
  | (a, b) :: g, (c, d) :: g', h => by
    simp only [gEq, Bool.and_eq_true, Nat.beq_iff, bEq_iff] at h
    obtain ⟨⟨h1, h2⟩, h3⟩ := h
    rw [h1, h2, gEq_eq h3]
  | [], _ :: _, h => by simp [gEq] at h
  | _ :: _, [], h => by simp [gEq] at h

theorem Env.put_at (env : Env) (d : Nat) (x : Sl) : env.put d x d = x := by
  have h : Nat.beq d d = true := Nat.beq_refl d
  simp only [Env.put, h]
theorem Env.put_ne {env : Env} {d t : Nat} {x : Sl} (h : t ≠ d) : env.put d x t = match env t with
    | some (g, v) => match mentions d g with
      | true => none
      | false => some (g, v)
    | none => none := by
  have hb : Nat.beq t d = false := by
    cases hx : Nat.beq t d
    · rfl
    · exact absurd ((Nat.beq_iff t d).1 hx) h
  simp only [Env.put, hb]
  rfl
theorem Env.put_some {env : Env} {d t : Nat} {x : Sl} {g : Gd} {v : V0} (h : t ≠ d) (hp : env.put d x t = some (g, v)) : env t = some (g, v) ∧ mentions d g = false := by
  rw [Env.put_ne h] at hp
  cases hx : env t with
  | none => simp [hx] at hp
  | some y =>
    obtain ⟨g', v'⟩ := y
    simp only [hx] at hp
    cases hm : mentions d g' with
    | true => simp [hm] at hp
    | false => simp only [hm, Option.some.injEq, Prod.mk.injEq] at hp; obtain ⟨rfl, rfl⟩ := hp; exact ⟨rfl, hm⟩

section
variable {n : Nat} {env : Env} {pr : Priv} {ids : Nat → Nat} {a : Act}

theorem gH_sub {t : Array Value} {g g' : Gd} (h : gH t g) (hs : gSub g' g = true) : gH t g' := fun p hp => h p (gSub_iff.1 hs p hp)

theorem EnvOk.ev (h : EnvOk n env pr ids a) {g : Gd} (hg : gH a.tmps g) {x : Operand} {v : V0} (hx : env.ev g x = some v) : a.eval x = v.val ids := by
  cases x with
  | tmp t =>
    simp only [Env.ev] at hx
    cases he : env t with
    | none => simp [he] at hx
    | some y =>
      obtain ⟨g', v'⟩ := y
      simp only [he] at hx
      cases hs : gSub g' g with
      | false => simp [hs] at hx
      | true =>
        simp only [hs, Option.some.injEq] at hx
        subst hx
        exact h.ok t g' v' he (gH_sub hg hs)
  | const c => simp only [Env.ev, Option.some.injEq] at hx; subst hx; rfl
  | func f => simp only [Env.ev, Option.some.injEq] at hx; subst hx; rfl
  | global g => simp [Env.ev] at hx

theorem EnvOk.evk (h : EnvOk n env pr ids a) {g : Gd} {x : Operand} {v : V0} (hx : env.ev g x = some v) : v.known pr := by
  cases x with
  | tmp t =>
    simp only [Env.ev] at hx
    cases he : env t with
    | none => simp [he] at hx
    | some y =>
      obtain ⟨g', v'⟩ := y
      simp only [he] at hx
      cases hs : gSub g' g with
      | false => simp [hs] at hx
      | true =>
        simp only [hs, Option.some.injEq] at hx
        subst hx
        exact h.known t g' v' he
  | const c => simp only [Env.ev, Option.some.injEq] at hx; subst hx; trivial
  | func f => simp only [Env.ev, Option.some.injEq] at hx; subst hx; trivial
  | global g => simp [Env.ev] at hx

theorem undef_ne_bool (b : Bool) : undef ≠ .bool b := by simp [undef]

theorem EnvOk.gb (h : EnvOk n env pr ids a) : ∀ {g : Gd} {b : Bool}, env.gb g = some b → (gH a.tmps g ↔ b = true)
  | [], b, hb => by simp only [Env.gb, Option.some.injEq] at hb; subst hb; simp [gH]
  | (s, w) :: g, b, hb => by
    simp only [Env.gb] at hb
    cases he : env s with
    | none => simp [he] at hb
    | some y =>
      obtain ⟨g', v⟩ := y
      cases v with
      | ptr j o => simp [he] at hb
      | lit v =>
        cases v with
        | bool x =>
          simp only [he] at hb
          cases hq : gEq g' g with
          | false => simp [hq] at hb
          | true =>
            have e := gEq_eq hq
            subst e
            simp only [hq] at hb
            have hok := h.ok s g' _ he
            have hno := h.no s g' _ he
            have split : gH a.tmps ((s, w) :: g') ↔ gH a.tmps g' ∧ a.tmps.getD s undef = .bool w := by
              simp only [gH, List.mem_cons, forall_eq_or_imp]; exact And.comm
            rw [split]
            have key : (gH a.tmps g' ∧ a.tmps.getD s undef = .bool w) ↔ (gH a.tmps g' ∧ x = w) := by
              constructor
              · rintro ⟨h1, h2⟩
                refine ⟨h1, ?_⟩
                rw [hok h1] at h2
                simpa [V0.val] using h2
              · rintro ⟨h1, rfl⟩
                exact ⟨h1, hok h1⟩
            rw [key]
            cases g' with
            | nil => cases w <;> simp at hb <;> subst hb <;> simp [gH]
            | cons p g'' =>
              cases hgb : env.gb (p :: g'') with
              | none => simp [hgb] at hb
              | some y =>
                have ih := EnvOk.gb h hgb
                rw [ih]
                cases w <;> simp [hgb] at hb <;> subst hb <;> simp
        | _ => simp [he] at hb

theorem gb_entry {g : Gd} {s : Nat} {w b : Bool} (hb : env.gb ((s, w) :: g) = some b) : ∃ x, env s = some (g, .lit (.bool x)) := by
  simp only [Env.gb] at hb
  cases he : env s with
  | none => simp [he] at hb
  | some y =>
    obtain ⟨g', v⟩ := y
    cases v with
    | ptr j o => simp [he] at hb
    | lit v =>
      cases v with
      | bool x =>
        simp only [he] at hb
        cases hq : gEq g' g with
        | false => simp [hq] at hb
        | true => rw [gEq_eq hq]; exact ⟨x, rfl⟩
      | _ => simp [he] at hb

/-- An operation is carried out just where its chain of guards holds. -/
theorem EnvOk.wanted (h : EnvOk n env pr ids a) {ops : Array Oper} {f : Nat} {o : Oper} {g : Gd} {b : Bool} (hc : chain ops f o = some g) (hb : env.gb g = some b) :
    Region.wanted o (yielded ops a.tmps) = true ↔ gH a.tmps g := by
  cases f with
  | zero => simp [chain] at hc
  | succ f =>
    simp only [chain] at hc
    unfold Region.wanted
    cases ho : o.guard with
    | none => simp only [ho, Option.some.injEq] at hc; subst hc; simp [gH]
    | some jw =>
      obtain ⟨j, w⟩ := jw
      simp only [ho] at hc
      cases hj : ops[j]? with
      | none => simp [hj] at hc
      | some oj =>
        simp only [hj] at hc
        cases hd : oj.dst with
        | none => simp [hd] at hc
        | some s =>
          cases hg : chain ops f oj with
          | none => simp [hd, hg] at hc
          | some g' =>
            simp only [hd, hg, Option.some.injEq] at hc
            subst hc
            obtain ⟨x, hx⟩ := gb_entry hb
            have hy : yielded ops a.tmps j = match a.tmps[s]? with
                | some (.bool b) => some b
                | _ => none := by
              unfold yielded
              simp only [hj, hd, Option.bind_some]
              cases a.tmps[s]? with
              | none => rfl
              | some v => cases v <;> rfl
            simp only [hy]
            have hok := h.ok s g' _ hx
            have hno := h.no s g' _ hx
            by_cases hgh : gH a.tmps g'
            · have e := hok hgh
              have e' : a.tmps[s]? = some (.bool x) := by
                rw [Array.getD_eq_getD_getElem?] at e
                cases hs : a.tmps[s]? with
                | none => rw [hs] at e; exact absurd e (undef_ne_bool x)
                | some v => rw [hs] at e; simpa [V0.val] using e
              simp only [e']
              constructor
              · intro hw
                have : x = w := by simpa using hw
                subst this
                intro p hp
                rcases List.mem_cons.1 hp with rfl | hp
                · exact e
                · exact hgh p hp
              · intro hall
                have e2 := hall (s, w) (List.mem_cons_self ..)
                rw [e] at e2
                have : x = w := by simpa [V0.val] using e2
                simp [this]
            · have e := hno hgh
              have hne : ∀ c, a.tmps[s]? ≠ some (.bool c) := by
                intro c hc
                rw [Array.getD_eq_getD_getElem?, hc] at e
                exact undef_ne_bool c (by simpa using e.symm)
              constructor
              · intro hw
                exfalso
                revert hw
                cases hs : a.tmps[s]? with
                | none => simp
                | some v =>
                  cases v with
                  | bool c => exact absurd hs (hne c)
                  | _ => simp
              · intro hall
                exact absurd (fun p hp => hall p (List.mem_cons_of_mem _ hp)) hgh

theorem getD_put (t : Array Value) (d s : Nat) (v : Value) (hd : d < t.size) : (t.setIfInBounds d v).getD s undef = if s = d then v else t.getD s undef := by
  by_cases h : s = d
  · subst h; simp [hd]
  · simp [h, Array.getElem?_setIfInBounds_ne (fun e : d = s => h e.symm)]

theorem gH_put {t : Array Value} {d : Nat} {v : Value} {g : Gd} (hd : d < t.size) (hm : mentions d g = false) : gH (t.setIfInBounds d v) g ↔ gH t g := by
  have hne : ∀ p ∈ g, p.1 ≠ d := fun p hp e => by
    have := mentions_iff.2 ⟨p, hp, e⟩
    rw [hm] at this; cases this
  constructor
  · intro h p hp
    have := h p hp
    rwa [getD_put _ _ _ _ hd, if_neg (hne p hp)] at this
  · intro h p hp
    rw [getD_put _ _ _ _ hd, if_neg (hne p hp)]; exact h p hp

theorem EnvOk.put (h : EnvOk n env pr ids a) {d : Nat} {x : Sl} {v : Value} (hd : d < n)
    (hx : ∀ g v0, x = some (g, v0) → mentions d g = false ∧ (gH a.tmps g → v = v0.val ids) ∧ (¬ gH a.tmps g → v = undef) ∧ v0.known pr) :
    EnvOk n (env.put d x) pr ids (a.put (some d) v) := by
  have hd' : d < a.tmps.size := by rw [h.size]; exact hd
  refine ⟨by simp [Act.put, h.size], by simp [Act.put, h.defers], fun t g u ht hg => ?_, fun t g u ht hg => ?_, fun t g u ht => ?_⟩
  · simp only [Act.put] at hg ⊢
    rw [getD_put _ _ _ _ hd']
    by_cases e : t = d
    · subst e
      rw [Env.put_at] at ht
      obtain ⟨h1, h2, _⟩ := hx g u ht
      rw [if_pos rfl]
      exact h2 ((gH_put hd' h1).1 hg)
    · rw [if_neg e]
      obtain ⟨h1, h2⟩ := Env.put_some e ht
      exact h.ok t g u h1 ((gH_put hd' h2).1 hg)
  · simp only [Act.put] at hg ⊢
    rw [getD_put _ _ _ _ hd']
    by_cases e : t = d
    · subst e
      rw [Env.put_at] at ht
      obtain ⟨h1, _, h2, _⟩ := hx g u ht
      rw [if_pos rfl]
      exact h2 (fun h' => hg ((gH_put hd' h1).2 h'))
    · rw [if_neg e]
      obtain ⟨h1, h2⟩ := Env.put_some e ht
      exact h.no t g u h1 (fun h' => hg ((gH_put hd' h2).2 h'))
  · by_cases e : t = d
    · subst e
      rw [Env.put_at] at ht
      exact (hx g u ht).2.2.2
    · exact h.known t g u (Env.put_some e ht).1

theorem EnvOk.opsv (h : EnvOk n env pr ids a) {g : Gd} (hg : gH a.tmps g) : ∀ {xs : List Operand} {vs : List Value}, opsv env g xs = some vs → xs.map a.eval = vs
  | [], vs, hv => by simp only [Eng.opsv, Option.some.injEq] at hv; subst hv; rfl
  | x :: xs, vs, hv => by
    simp only [Eng.opsv] at hv
    cases hx : env.ev g x with
    | none => simp [hx] at hv
    | some v =>
      cases v with
      | ptr j o => simp [hx] at hv
      | lit v =>
        simp only [hx] at hv
        cases hr : Eng.opsv env g xs with
        | none => simp [hr] at hv
        | some us =>
          simp only [hr, Option.some.injEq] at hv
          subst hv
          rw [List.map_cons, EnvOk.opsv h hg hr, h.ev hg hx]; rfl

theorem EnvOk.rho (h : EnvOk n env pr ids a) {g : Gd} (hg : gH a.tmps g) : ∀ {xs : List Operand}, allLit env g xs = true → ∀ x ∈ xs, a.eval x = rho env g x
  | [], _, x, hx => by cases hx
  | y :: ys, hv, x, hx => by
    simp only [allLit] at hv
    cases hy : env.ev g y with
    | none => simp [hy] at hv
    | some v =>
      cases v with
      | ptr j o => simp [hy] at hv
      | lit v =>
        simp only [hy] at hv
        rcases List.mem_cons.1 hx with rfl | hx
        · rw [h.ev hg hy]; simp [Eng.rho, hy, V0.val]
        · exact EnvOk.rho h hg hv x hx

end

theorem pureRun_run {α : Type} {P : Program} : ∀ {s : Sem α} {v : α}, pureRun P s = some v → ∀ w, s.run P w = .ok v w
  | .pure a, v, h, w => by simp only [pureRun, Option.some.injEq] at h; subst h; simp [Sem.run]
  | .program k, v, h, w => by simp only [pureRun] at h; simp only [Sem.run]; exact pureRun_run h w
  | .mark m k, v, h, w => by simp only [pureRun] at h; simp only [Sem.run]; exact pureRun_run h w
  | .load .., _, h, _ | .store .., _, h, _ | .new .., _, h, _ | .shape .., _, h, _ | .freeze .., _, h, _ | .frozen .., _, h, _ | .getObj .., _, h, _ | .setObj .., _, h, _
  | .choose .., _, h, _ | .sys .., _, h, _ | .halt .., _, h, _ => by simp [pureRun] at h

theorem newRun_run {α : Type} {P : Program} : ∀ {s : Sem α} {ob : Obj} {f : Nat → Option α}, newRun P s = some (ob, f) → ∀ w v, f w.heap.size = some v →
    s.run P w = .ok v { w with heap := w.heap.push ob }
  | .new o k, ob, f, h, w, v, hv => by
    simp only [newRun, Option.some.injEq, Prod.mk.injEq] at h
    obtain ⟨rfl, rfl⟩ := h
    simp only [Sem.run]; exact pureRun_run hv _
  | .program k, ob, f, h, w, v, hv => by simp only [newRun] at h; simp only [Sem.run]; exact newRun_run h w v hv
  | .mark m k, ob, f, h, w, v, hv => by simp only [newRun] at h; simp only [Sem.run]; exact newRun_run h w v hv
  | .pure .., _, _, h, _, _, _ | .load .., _, _, h, _, _, _ | .store .., _, _, h, _, _, _ | .shape .., _, _, h, _, _, _ | .freeze .., _, _, h, _, _, _ | .frozen .., _, _, h, _, _, _
  | .getObj .., _, _, h, _, _, _ | .setObj .., _, _, h, _, _, _ | .choose .., _, _, h, _, _, _ | .sys .., _, _, h, _, _, _ | .halt .., _, _, h, _, _, _ => by simp [newRun] at h

end Go.Eng
