/- The engine, part K: operations of a region whose order is open may change places. Conditions: none. -/
import Derived.Test.YtmnbekffebdfmaaEngJ
set_option linter.unusedVariables false
namespace Go.Eng

theorem exL_mono : ∀ {ls : List Leaf} {f f' : List Value → Prop}, exL ls f → (∀ vs, f vs → f' vs) → exL ls f'
  | [], _, _, h, hf => hf _ h
  | .int _ :: ls, _, _, ⟨x, h⟩, hf => ⟨x, exL_mono (ls := ls) h fun vs => hf _⟩
  | .bool :: ls, _, _, ⟨x, h⟩, hf => ⟨x, exL_mono (ls := ls) h fun vs => hf _⟩
  | .sl :: ls, _, _, ⟨x, h⟩, hf => ⟨x, exL_mono (ls := ls) h fun vs => hf _⟩
  | .ptr :: ls, _, _, ⟨x, h⟩, hf => ⟨x, exL_mono (ls := ls) h fun vs => hf _⟩
  | .mp :: ls, _, _, ⟨x, h⟩, hf => ⟨x, exL_mono (ls := ls) h fun vs => hf _⟩
  | .val :: ls, _, _, ⟨x, h⟩, hf => ⟨x, exL_mono (ls := ls) h fun vs => hf _⟩

theorem exL_pull : ∀ {ls : List Leaf} {f : List Value → Prop} {p : Prop}, p ∧ exL ls f → exL ls fun vs => p ∧ f vs
  | _, _, _, ⟨hp, h⟩ => exL_mono h fun _ hv => ⟨hp, hv⟩

theorem exL_swap : ∀ {ls : List Leaf} {ls' : List Leaf} {f : List Value → List Value → Prop}, (exL ls fun vs => exL ls' fun us => f vs us) → exL ls' fun us => exL ls fun vs => f vs us
  | [], _, _, h => h
  | .int _ :: ls, _, _, ⟨x, h⟩ => exL_mono (exL_swap (ls := ls) h) fun _ h' => ⟨x, h'⟩
  | .bool :: ls, _, _, ⟨x, h⟩ => exL_mono (exL_swap (ls := ls) h) fun _ h' => ⟨x, h'⟩
  | .sl :: ls, _, _, ⟨x, h⟩ => exL_mono (exL_swap (ls := ls) h) fun _ h' => ⟨x, h'⟩
  | .ptr :: ls, _, _, ⟨x, h⟩ => exL_mono (exL_swap (ls := ls) h) fun _ h' => ⟨x, h'⟩
  | .mp :: ls, _, _, ⟨x, h⟩ => exL_mono (exL_swap (ls := ls) h) fun _ h' => ⟨x, h'⟩
  | .val :: ls, _, _, ⟨x, h⟩ => exL_mono (exL_swap (ls := ls) h) fun _ h' => ⟨x, h'⟩

theorem oAnd_mono {ob : Option Prop} {p q : Prop} (h : oAnd ob p) (hq : p → q) : oAnd ob q := by
  cases ob with
  | none => exact hq h
  | some r => exact ⟨h.1, hq h.2⟩

theorem oAnd_in {ob : Option Prop} {q : Prop} (ho : ∀ p, ob = some p → p) (hq : q) : oAnd ob q := by
  cases ob with
  | none => exact hq
  | some p => exact ⟨ho p rfl, hq⟩

theorem store_ex {p : Addr} : ∀ (vs : List Value) (i : Nat) (H : Hp), Ex H → Hp.canStore H p i vs → Ex (H.store p i vs)
  | [], _, _, h, _ => h
  | v :: vs, i, H, ⟨w, hv⟩, ⟨⟨_, _, _, hb, hs, _, _⟩, hr⟩ =>
    store_ex vs (i + 1) _ ⟨_, (tr_set1 (v := v) hv hb hs).view⟩ (canStore_set1 vs (i + 1) hr)

theorem put_ex {H : Hp} {b : Nat} (ob : Obj) (h : Ex H) (hb : H b = none) : Ex (H.put b ob) := by
  obtain ⟨w, hv⟩ := h
  -- a world with room up to b
  refine ⟨{ w with heap := (w.heap ++ Array.replicate (b + 1 - w.heap.size) (default : Obj)).setIfInBounds b ob }, fun k o hk => ?_⟩
  simp only [Hp.put] at hk
  have hlt : b < (w.heap ++ Array.replicate (b + 1 - w.heap.size) (default : Obj)).size := by simp; omega
  split at hk
  · rename_i e
    subst e
    cases hk
    rw [Array.getElem?_setIfInBounds]; simp; omega
  · rename_i e
    rw [Array.getElem?_setIfInBounds_ne (fun h => e h.symm)]
    have := hv k o hk
    have hk' := (Array.getElem?_eq_some_iff.1 this).1
    rw [Array.getElem?_append_left hk']; exact this

section
variable {P : Program} {draw : Bool} {K K' : Kop} {pr pr' : Priv} {H : Hp}

/-- What comes behind may be weakened; of operations on what is in view the call's own blocks may be others besides. -/
def isH : NF → Bool
  | .ow _ => false
  | _ => true

theorem vc_mono {nf : NF} (h : nf.vc P draw K pr H) (hx : Ex H) (hk : ∀ s p H', Ex H' → K s p H' → K' s p H') : nf.vc P draw K' pr H := by
  cases nf with
  | bad => exact h
  | pu ob x => exact oAnd_mono h (hk _ _ _ hx)
  | px ls ob x => exact exL_mono h fun vs h' => ⟨h'.1, hk _ _ _ hx h'.2⟩
  | rd ls ob x => exact exL_mono h fun vs h' => ⟨h'.1, hk _ _ _ hx h'.2⟩
  | ow f =>
    simp only [NF.vc] at h ⊢
    cases hf : f pr with
    | none => simp [hf] at h
    | some y => simp only [hf] at h ⊢; exact hk _ _ _ hx h
  | al c x ob => exact oAnd_mono h fun h' b H1 hb e => hk _ _ _ (e ▸ put_ex ob hx hb) (h' b H1 hb e)
  | cf f args sh =>
    intro w hv
    exact (h w hv).mono fun e w' ⟨v, H', he, ht, hq⟩ => ⟨v, H', he, ht, oAnd_mono hq fun hq => exL_mono hq fun vs hq => ⟨hq.1, hk _ _ _ ⟨w', ht.view⟩ hq.2⟩⟩
  | cv F args sh =>
    obtain ⟨f, first, cap, hF, hc, h⟩ := h
    refine ⟨f, first, cap, hF, hc, fun w hv => ?_⟩
    exact (h w hv).mono fun e w' ⟨v, H', he, ht, hq⟩ => ⟨v, H', he, ht, oAnd_mono hq fun hq => exL_mono hq fun vs hq => ⟨hq.1, hk _ _ _ ⟨w', ht.view⟩ hq.2⟩⟩
  | ef s sh =>
    intro w hv
    obtain ⟨v, w', H', hr, ht, hq⟩ := h w hv
    exact ⟨v, w', H', hr, ht, exL_mono hq fun vs hq => ⟨hq.1, hk _ _ _ ⟨w', ht.view⟩ hq.2⟩⟩
  | st ad vs => exact ⟨h.1, fun H1 e => hk _ _ _ (e ▸ store_ex vs 0 H hx h.1) (h.2 H1 e)⟩

theorem vc_monoH {nf : NF} (hh : isH nf = true) (h : nf.vc P draw K pr H) (hx : Ex H) (hk : ∀ s H', Ex H' → K s pr H' → K' s pr' H') : nf.vc P draw K' pr' H := by
  cases nf with
  | bad => exact h
  | pu ob x => exact oAnd_mono h (hk _ _ hx)
  | px ls ob x => exact exL_mono h fun vs h' => ⟨h'.1, hk _ _ hx h'.2⟩
  | rd ls ob x => exact exL_mono h fun vs h' => ⟨h'.1, hk _ _ hx h'.2⟩
  | ow f => cases hh
  | al c x ob => exact oAnd_mono h fun h' b H1 hb e => hk _ _ (e ▸ put_ex ob hx hb) (h' b H1 hb e)
  | cf f args sh =>
    intro w hv
    exact (h w hv).mono fun e w' ⟨v, H', he, ht, hq⟩ => ⟨v, H', he, ht, oAnd_mono hq fun hq => exL_mono hq fun vs hq => ⟨hq.1, hk _ _ ⟨w', ht.view⟩ hq.2⟩⟩
  | cv F args sh =>
    obtain ⟨f, first, cap, hF, hc, h⟩ := h
    refine ⟨f, first, cap, hF, hc, fun w hv => ?_⟩
    exact (h w hv).mono fun e w' ⟨v, H', he, ht, hq⟩ => ⟨v, H', he, ht, oAnd_mono hq fun hq => exL_mono hq fun vs hq => ⟨hq.1, hk _ _ ⟨w', ht.view⟩ hq.2⟩⟩
  | ef s sh =>
    intro w hv
    obtain ⟨v, w', H', hr, ht, hq⟩ := h w hv
    exact ⟨v, w', H', hr, ht, exL_mono hq fun vs hq => ⟨hq.1, hk _ _ ⟨w', ht.view⟩ hq.2⟩⟩
  | st ad vs => exact ⟨h.1, fun H1 e => hk _ _ (e ▸ store_ex vs 0 H hx h.1) (h.2 H1 e)⟩

theorem vc_live {nf : NF} (h : nf.vc P draw K pr H) (hx : Ex H) : ∃ s p H', Ex H' ∧ K s p H' := by
  cases nf with
  | bad => exact h.elim
  | pu ob x => exact ⟨_, _, _, hx, (oAnd_out h).2⟩
  | px ls ob x => obtain ⟨vs, _, _, h'⟩ := exL_some h; exact ⟨_, _, _, hx, h'⟩
  | rd ls ob x => obtain ⟨vs, _, _, h'⟩ := exL_some h; exact ⟨_, _, _, hx, h'⟩
  | ow f =>
    simp only [NF.vc] at h
    cases hf : f pr with
    | none => simp [hf] at h
    | some y => simp only [hf] at h; exact ⟨_, _, _, hx, h⟩
  | al c x ob =>
    obtain ⟨w, hv⟩ := hx
    obtain ⟨hn, ht⟩ := Tr.alloc hv ob
    exact ⟨_, _, _, ⟨_, ht.view⟩, (oAnd_out h).2 _ _ hn rfl⟩
  | cf f args sh =>
    obtain ⟨v, H', hq, hx'⟩ := Fn.live h hx
    obtain ⟨vs, _, _, h'⟩ := exL_some (oAnd_out hq).2
    exact ⟨_, _, _, hx', h'⟩
  | cv F args sh =>
    obtain ⟨f, first, cap, hF, hc, h⟩ := h
    obtain ⟨v, H', hq, hx'⟩ := Fn.live h hx
    obtain ⟨vs, _, _, h'⟩ := exL_some (oAnd_out hq).2
    exact ⟨_, _, _, hx', h'⟩
  | ef s sh =>
    obtain ⟨w, hv⟩ := hx
    obtain ⟨v, w', H', hr, ht, hq⟩ := h w hv
    obtain ⟨vs, _, _, h'⟩ := exL_some hq
    exact ⟨_, _, _, ⟨w', ht.view⟩, h'⟩
  | st ad vs => exact ⟨_, _, _, store_ex vs 0 H hx h.1, h.2 _ rfl⟩

theorem vc_liveH {nf : NF} (hh : isH nf = true) (h : nf.vc P draw K pr H) (hx : Ex H) : ∃ s H', Ex H' ∧ K s pr H' := by
  have := vc_monoH (K' := fun s p H' => p = pr ∧ K s pr H') (pr' := pr) hh h hx (fun s H' _ h' => ⟨rfl, h'⟩)
  obtain ⟨s, p, H', h1, _, h2⟩ := vc_live this hx
  exact ⟨s, H', h1, h2⟩

end

/-- A read of a block of the call's own. -/
def Ld (f : Priv → Option (Sl × Priv)) : Prop := ∃ j, ∀ pr, (pr j = none → f pr = none) ∧ (∀ x p', f pr = some (x, p') → p' = pr ∧ ∀ pr2, pr2 j = pr j → f pr2 = some (x, pr2))
/-- A new block of the call's own. -/
def Al (d : Nat) (f : Priv → Option (Sl × Priv)) : Prop := ∃ x blk, ∀ pr, f pr = match pr d with
  | none => some (x, pr.set d (some blk))
  | some _ => none

def Mono (ob : List Value → Hp → Prop) : Prop := ∀ vs H H', Hp.le H H' → ob vs H → ob vs H'

/-- The kind of an operation, by its text. -/
def cls (C : Cfg) (o : Oper) : Nat :=
  match o.op with
  | .load _ (.tmp x) => match C.pv x with
    | true => 2
    | false => 1
  | .store _ (.tmp x) _ => match C.pv x with
    | true => 4
    | false => 8
  | .alloc _ => match o.dst with
    | some d => match C.pv d with
      | true => 3
      | false => 5
    | none => 9
  | .box _ _ => match o.dst with
    | some d => match C.pv d with
      | true => 3
      | false => 5
    | none => 9
  | .buildSlice _ _ _ => 5
  | .makeMap _ none => 5
  | .makeSlice _ _ _ => 5
  | .lookup _ _ _ _ => 1
  | .index _ _ _ => 10
  | .call c => match c.callee with
    | .value (.func f) => match flat (shp C.P o.type) && !C.eff f with
      | true => 1
      | false => 6
    | .value _ => match flat (shp C.P o.type) && !C.effv with
      | true => 1
      | false => 6
    | .builtin .len => 0
    | .builtin .min => 0
    | .builtin .max => 0
    | .builtin _ => 7
    | _ => 9
  | .mapUpdate _ _ _ _ => 7
  | .range _ _ => 7
  | .next _ _ => 7
  | .entry _ => 7
  | _ => 0

/-- The block of the call's own that an operation is about. -/
def blkOf (C : Cfg) (o : Oper) : Option Nat :=
  match o.op with
  | .load _ (.tmp x) => match C.pv x with
    | true => some (C.nm x)
    | false => none
  | .store _ (.tmp x) _ => match C.pv x with
    | true => some (C.nm x)
    | false => none
  | .alloc _ => match o.dst with
    | some d => match C.pv d with
      | true => some d
      | false => none
    | none => none
  | .box _ _ => match o.dst with
    | some d => match C.pv d with
      | true => some d
      | false => none
    | none => none
  | _ => none

def sepB : Option Nat → Option Nat → Bool
  | some a, some b => !Nat.beq a b
  | _, _ => false

/-- An operation on one block of the call's own. -/
def AtB (j : Nat) (f : Priv → Option (Sl × Priv)) : Prop := ∃ g : Option (List Value × TypeId) → Option (Sl × Option (List Value × TypeId)), ∀ pr, f pr = match g (pr j) with
  | some (s, c) => some (s, pr.set j c)
  | none => none

theorem blkOf_cls {C : Cfg} {o : Oper} {j : Nat} (h : blkOf C o = some j) : cls C o = 2 ∨ cls C o = 3 ∨ cls C o = 4 := by
  unfold blkOf at h
  unfold cls
  (repeat' split at h) <;> first | cases h; done | simp [*]

def NFk (C : Cfg) (o : Oper) : NF → Prop
  | .bad => True
  | .pu _ _ => cls C o = 0
  | .px _ _ _ => cls C o = 10
  | .rd _ ob _ => cls C o = 1 ∧ Mono ob
  | .ow f => ((cls C o = 2 ∧ Ld f) ∨ (cls C o = 3 ∧ ∃ d, o.dst = some d ∧ Al d f) ∨ cls C o = 4) ∧ ∀ j, blkOf C o = some j → AtB j f
  | .al _ _ _ => cls C o = 5
  | .cf _ _ _ => cls C o = 6
  | .cv _ _ _ => cls C o = 6
  | .ef _ _ => cls C o = 7
  | .st _ _ => cls C o = 8

/-- May the operation of kind x be carried out ahead of that of kind y, in front of which it stands? -/
def swp (y x : Nat) : Bool :=
  Nat.beq y 0 || Nat.beq x 0 || Nat.beq y 10 ||
  match y, x with
  | 2, 2 => true
  | 2, 3 => true
  | 3, 3 => true
  | 2, 4 => false
  | 2, _ => true
  | 3, 2 => false
  | 3, 4 => false
  | 3, _ => true
  | 4, 2 => false
  | 4, 3 => false
  | 4, 4 => false
  | 4, _ => true
  | 1, 1 => true
  | 1, 2 => true
  | 1, 3 => true
  | 1, 4 => true
  | 1, 5 => true
  | 1, 6 => true
  | 5, 2 => true
  | 5, 3 => true
  | 5, 4 => true
  | 5, 5 => true
  | 6, 2 => true
  | 6, 3 => true
  | 6, 4 => true
  | 6, 5 => true
  | 7, 2 => true
  | 7, 3 => true
  | 7, 4 => true
  | 7, 5 => true
  | 8, 2 => true
  | 8, 3 => true
  | 8, 4 => true
  | _, _ => false

section
variable {P : Program}

/-- Two forms may change places. -/
def Comm (P : Program) (y x : NF) : Prop := ∀ (K : Sl → Sl → Priv → Hp → Prop) pr H, Ex H →
  NF.vc P true (fun sy pr H => NF.vc P true (fun sx pr H => K sy sx pr H) pr H x) pr H y → NF.vc P true (fun sx pr H => NF.vc P true (fun sy pr H => K sy sx pr H) pr H y) pr H x

theorem comm_pu_l {ob : Option Prop} {s : Sl} {x : NF} : Comm P (.pu ob s) x := fun K pr H hx h => by
  obtain ⟨ho, hk⟩ := oAnd_out h
  exact vc_mono hk hx fun _ _ _ _ h' => oAnd_in ho h'

theorem comm_px_l {ls : List Leaf} {ob : List Value → Prop} {s : List Value → Sl} {x : NF} : Comm P (.px ls ob s) x := fun K pr H hx h => by
  have key : ∀ (ls : List Leaf) (f : List Value → Prop) (g : List Value → Sl → Priv → Hp → Prop), (exL ls fun vs => f vs ∧ NF.vc P true (g vs) pr H x) → NF.vc P true (fun s p H' => exL ls fun vs => f vs ∧ g vs s p H') pr H x := by
    intro ls
    induction ls with
    | nil => intro f g h; exact vc_mono h.2 hx fun _ _ _ _ h' => ⟨h.1, h'⟩
    | cons l ls ih =>
      intro f g h
      cases l with
      | int k => obtain ⟨n, h⟩ := h; exact vc_mono (ih _ _ h) hx fun _ _ _ _ h' => ⟨n, h'⟩
      | bool => obtain ⟨n, h⟩ := h; exact vc_mono (ih _ _ h) hx fun _ _ _ _ h' => ⟨n, h'⟩
      | sl => obtain ⟨n, h⟩ := h; exact vc_mono (ih _ _ h) hx fun _ _ _ _ h' => ⟨n, h'⟩
      | ptr => obtain ⟨n, h⟩ := h; exact vc_mono (ih _ _ h) hx fun _ _ _ _ h' => ⟨n, h'⟩
      | mp => obtain ⟨n, h⟩ := h; exact vc_mono (ih _ _ h) hx fun _ _ _ _ h' => ⟨n, h'⟩
      | val => obtain ⟨n, h⟩ := h; exact vc_mono (ih _ _ h) hx fun _ _ _ _ h' => ⟨n, h'⟩
  exact key _ _ _ h

theorem comm_pu_r {ob : Option Prop} {s : Sl} {y : NF} : Comm P y (.pu ob s) := fun K pr H hx h => by
  obtain ⟨_, _, _, _, h'⟩ := vc_live h hx
  exact oAnd_in (oAnd_out h').1 (vc_mono h hx fun _ _ _ _ h'' => (oAnd_out h'').2)

theorem comm_ow_H {f : Priv → Option (Sl × Priv)} {x : NF} (hh : isH x = true) : Comm P (.ow f) x := fun K pr H hx h => by
  simp only [NF.vc] at h
  cases hf : f pr with
  | none => simp [hf] at h
  | some y =>
    obtain ⟨sy, p'⟩ := y
    simp only [hf] at h
    exact vc_monoH hh h hx fun s H' _ h' => by simp only [NF.vc, hf]; exact h'

theorem comm_H_ow {f : Priv → Option (Sl × Priv)} {y : NF} (hh : isH y = true) : Comm P y (.ow f) := fun K pr H hx h => by
  obtain ⟨s, H', _, h'⟩ := vc_liveH hh h hx
  simp only [NF.vc] at h' ⊢
  cases hf : f pr with
  | none => simp [hf] at h'
  | some z =>
    obtain ⟨sx, p'⟩ := z
    simp only
    exact vc_monoH hh h hx fun s H' _ h' => by simp only [NF.vc, hf] at h'; exact h'

theorem comm_ld_ld {f f' : Priv → Option (Sl × Priv)} (h1 : Ld f) (h2 : Ld f') : Comm P (.ow f) (.ow f') := fun K pr H _ h => by
  obtain ⟨j, hj⟩ := h1
  obtain ⟨j', hj'⟩ := h2
  simp only [NF.vc] at h ⊢
  cases hf : f pr with
  | none => simp [hf] at h
  | some y =>
    obtain ⟨sy, p1⟩ := y
    have e1 := ((hj pr).2 _ _ hf).1
    subst e1
    simp only [hf] at h
    cases hf' : f' p1 with
    | none => simp [hf'] at h
    | some z =>
      obtain ⟨sx, p2⟩ := z
      have e2 := ((hj' p1).2 _ _ hf').1
      subst e2
      simp only [hf'] at h
      simp only [hf]
      exact h

theorem comm_ld_al {f f' : Priv → Option (Sl × Priv)} {d : Nat} (h1 : Ld f) (h2 : Al d f') : Comm P (.ow f) (.ow f') := fun K pr H _ h => by
  obtain ⟨j, hj⟩ := h1
  obtain ⟨x, blk, h2⟩ := h2
  simp only [NF.vc] at h ⊢
  cases hf : f pr with
  | none => simp [hf] at h
  | some y =>
    obtain ⟨sy, p1⟩ := y
    obtain ⟨e1, hst⟩ := (hj pr).2 _ _ hf
    subst e1
    simp only [hf] at h
    rw [h2 p1] at h ⊢
    cases hd : p1 d with
    | some z => simp [hd] at h
    | none =>
      simp only [hd] at h ⊢
      have hne : j ≠ d := fun e => by subst e; have := (hj p1).1 hd; rw [this] at hf; cases hf
      rw [hst _ (Priv.set_ne p1 _ hne)]
      exact h

theorem Priv.set_comm (pr : Priv) {d e : Nat} (b c : Option (List Value × TypeId)) (h : d ≠ e) : (pr.set d b).set e c = (pr.set e c).set d b := by
  funext k
  by_cases h1 : k = d
  · subst h1
    rw [Priv.set_ne _ _ h, Priv.set_same, Priv.set_same]
  · by_cases h2 : k = e
    · subst h2
      rw [Priv.set_same, Priv.set_ne _ _ h1, Priv.set_same]
    · rw [Priv.set_ne _ _ h2, Priv.set_ne _ _ h1, Priv.set_ne _ _ h1, Priv.set_ne _ _ h2]

theorem comm_al_al {f f' : Priv → Option (Sl × Priv)} {d d' : Nat} (h1 : Al d f) (h2 : Al d' f') (hne : d ≠ d') : Comm P (.ow f) (.ow f') := fun K pr H _ h => by
  obtain ⟨x, blk, h1⟩ := h1
  obtain ⟨x', blk', h2⟩ := h2
  simp only [NF.vc] at h ⊢
  rw [h1 pr] at h
  cases hd : pr d with
  | some z => simp [hd] at h
  | none =>
    simp only [hd] at h
    rw [h2] at h
    rw [Priv.set_ne _ _ (Ne.symm hne)] at h
    cases hd' : pr d' with
    | some z => simp [hd'] at h
    | none =>
      simp only [hd'] at h
      rw [h2 pr]
      simp only [hd']
      rw [h1, Priv.set_ne _ _ hne]
      simp only [hd]
      rw [Priv.set_comm _ _ _ (Ne.symm hne)]
      exact h

theorem comm_rd_rd {ls ls' : List Leaf} {ob ob' : List Value → Hp → Prop} {s s' : List Value → Sl} : Comm P (.rd ls ob s) (.rd ls' ob' s') := fun K pr H _ h => by
  have h1 : exL ls fun vs => exL ls' fun us => ob vs H ∧ ob' us H ∧ K (s vs) (s' us) pr H := exL_mono h fun vs h' => exL_pull h'
  exact exL_mono (exL_swap h1) fun us h2 => by
    obtain ⟨_, _, _, ho, _⟩ := exL_some h2
    exact ⟨ho, exL_mono h2 fun vs h3 => ⟨h3.1, h3.2.2⟩⟩

theorem exL_all {ls : List Leaf} {α : Type} {f : List Value → α → Prop} (h : exL ls fun vs => ∀ b, f vs b) : ∀ b, exL ls fun vs => f vs b := fun b => exL_mono h fun _ h' => h' b

theorem comm_rd_al {ls : List Leaf} {ob : List Value → Hp → Prop} {s : List Value → Sl} {c : Option Prop} {x : Nat → Sl} {bk : Obj} (hm : Mono ob) : Comm P (.rd ls ob s) (.al c x bk) := fun K pr H _ h => by
  have hc : ∀ p, c = some p → p := by
    obtain ⟨_, _, _, h'⟩ := exL_some h
    exact (oAnd_out h').1
  refine oAnd_in hc fun b H1 hb e => ?_
  subst e
  exact exL_mono h fun vs h' => ⟨hm vs _ _ (Hp.put_le H bk hb) h'.1, (oAnd_out h'.2).2 b _ hb rfl⟩

theorem comm_rd_cf {ls : List Leaf} {ob : List Value → Hp → Prop} {s : List Value → Sl} {f : FuncId} {args : Array Value} {sh : Shp} (hm : Mono ob) (K : Sl → Sl → Priv → Hp → Prop) (pr : Priv) (H : Hp)
    (h : exL ls fun vs => ob vs H ∧ Fn P f args H fun v H' => Hp.le H H' ∧ exL sh.leaves fun us => v = sh.mk us ∧ K (s vs) (some ([], .lit (sh.mk us))) pr H') :
    Fn P f args H fun v H' => Hp.le H H' ∧ exL sh.leaves fun us => v = sh.mk us ∧ exL ls fun vs => ob vs H' ∧ K (s vs) (some ([], .lit (sh.mk us))) pr H' := by
  have key : ∀ (ls : List Leaf) (ob : List Value → Hp → Prop) (s : List Value → Sl), Mono ob →
      (exL ls fun vs => ob vs H ∧ Fn P f args H fun v H' => Hp.le H H' ∧ exL sh.leaves fun us => v = sh.mk us ∧ K (s vs) (some ([], .lit (sh.mk us))) pr H') →
      Fn P f args H fun v H' => Hp.le H H' ∧ exL ls fun vs => ob vs H' ∧ exL sh.leaves fun us => v = sh.mk us ∧ K (s vs) (some ([], .lit (sh.mk us))) pr H' := by
    intro ls
    induction ls with
    | nil => intro ob s hm h; exact h.2.mono fun v H' ⟨hl, hq⟩ => ⟨hl, hm _ _ _ hl h.1, hq⟩
    | cons l ls ih =>
      intro ob s hm h
      cases l with
      | int k => obtain ⟨n, h⟩ := h; exact (ih _ _ (fun vs => hm _) h).mono fun v H' ⟨hl, hq⟩ => ⟨hl, n, hq⟩
      | bool => obtain ⟨n, h⟩ := h; exact (ih _ _ (fun vs => hm _) h).mono fun v H' ⟨hl, hq⟩ => ⟨hl, n, hq⟩
      | sl => obtain ⟨n, h⟩ := h; exact (ih _ _ (fun vs => hm _) h).mono fun v H' ⟨hl, hq⟩ => ⟨hl, n, hq⟩
      | ptr => obtain ⟨n, h⟩ := h; exact (ih _ _ (fun vs => hm _) h).mono fun v H' ⟨hl, hq⟩ => ⟨hl, n, hq⟩
      | mp => obtain ⟨n, h⟩ := h; exact (ih _ _ (fun vs => hm _) h).mono fun v H' ⟨hl, hq⟩ => ⟨hl, n, hq⟩
      | val => obtain ⟨n, h⟩ := h; exact (ih _ _ (fun vs => hm _) h).mono fun v H' ⟨hl, hq⟩ => ⟨hl, n, hq⟩
  refine (key ls ob s hm h).mono fun v H' ⟨hl, hq⟩ => ⟨hl, ?_⟩
  have h1 : exL ls fun vs => exL sh.leaves fun us => ob vs H' ∧ v = sh.mk us ∧ K (s vs) (some ([], .lit (sh.mk us))) pr H' := exL_mono hq fun vs h' => exL_pull h'
  exact exL_mono (exL_swap h1) fun us h2 => by
    obtain ⟨_, _, _, hv, _⟩ := exL_some h2
    exact ⟨hv, exL_mono h2 fun vs h3 => ⟨h3.1, h3.2.2⟩⟩

theorem comm_al_al' {c c' : Option Prop} {x x' : Nat → Sl} {o o' : Obj} : Comm P (.al c x o) (.al c' x' o') := fun K pr H hx h => by
  obtain ⟨hc, h1⟩ := oAnd_out h
  have hc' : ∀ p, c' = some p → p := by
    obtain ⟨_, _, _, _, h'⟩ := vc_live h hx
    exact (oAnd_out h').1
  refine oAnd_in hc' fun b H1 hb e => oAnd_in hc fun b' H2 hb' e' => ?_
  subst e; subst e'
  have hne : b' ≠ b := fun e => by subst e; simp at hb'
  rw [Hp.put_ne _ _ hne] at hb'
  have := (oAnd_out (h1 b' _ hb' rfl)).2 b _ (by rw [Hp.put_ne _ _ (Ne.symm hne)]; exact hb) rfl
  rw [Hp.put_comm _ _ _ hne] at this
  exact this

theorem comm_cf_al {f : FuncId} {args : Array Value} {sh : Shp} {c : Option Prop} {x : Nat → Sl} {o : Obj} (K : Sl → Sl → Priv → Hp → Prop) (pr : Priv) (H : Hp) {b : Nat} (hb : H b = none)
    (h : Fn P f args H fun v H' => Hp.le H H' ∧ exL sh.leaves fun us => v = sh.mk us ∧ oAnd c (∀ b H1, H' b = none → H1 = H'.put b o → K (some ([], .lit (sh.mk us))) (x b) pr H1)) :
    Fn P f args (H.put b o) fun v H' => Hp.le (H.put b o) H' ∧ exL sh.leaves fun us => v = sh.mk us ∧ K (some ([], .lit (sh.mk us))) (x b) pr H' :=
  (h.frame_put (o := o) hb).mono fun v H'' ⟨H', ⟨hl, hq⟩, hn, he, hle⟩ => ⟨hle hl, exL_mono hq fun us h' => ⟨h'.1, by rw [he]; exact (oAnd_out h'.2).2 b _ hn rfl⟩⟩

theorem OpSem.frame_put {s : Sem Next} {H : Hp} {post : Value → Hp → Prop} (h : OpSem P s H post) {b : Nat} {o : Obj} (hb : H b = none) :
    OpSem P s (Hp.put H b o) fun v H'' => ∃ H', post v H' ∧ H' b = none ∧ H'' = Hp.put H' b o := by
  intro w hv
  have hl := Hp.put_le H o hb
  obtain ⟨v, w', H', he, ht, hq⟩ := h w (hv.mono hl)
  have hlt : b < w.heap.size := hv.lt (by simp)
  have hn : H' b = Option.none := ht.none hlt hb
  refine ⟨v, w', Hp.put H' b o, he, ⟨fun k o' hk => ?_, fun k hk hkn => ?_, fun k hk => ?_, ht.size, ht.os, ht.tape, ht.output⟩, H', hq, hn, rfl⟩
  · simp only [Hp.put] at hk
    split at hk
    · rename_i e; subst e; cases hk
      rw [ht.frame k hlt hb]; exact hv k o (by simp)
    · exact ht.view k o' hk
  · have : k ≠ b := by intro e; subst e; simp at hkn
    rw [Hp.put_ne _ _ this] at hkn
    exact ht.frame k hk hkn
  · by_cases e : k = b
    · subst e; exact .inl (by simp)
    · rw [Hp.put_ne _ _ e] at hk ⊢; exact ht.fresh k hk

theorem OpSem.mono {s : Sem Next} {H : Hp} {post post' : Value → Hp → Prop} (h : OpSem P s H post) (hp : ∀ v H, post v H → post' v H) : OpSem P s H post' := fun w hv => by
  obtain ⟨v, w', H', he, ht, hq⟩ := h w hv
  exact ⟨v, w', H', he, ht, hp _ _ hq⟩

theorem comm_ef_al {s : Sem Next} {sh : Shp} {c : Option Prop} {x : Nat → Sl} {o : Obj} (K : Sl → Sl → Priv → Hp → Prop) (pr : Priv) (H : Hp) {b : Nat} (hb : H b = none)
    (h : OpSem P s H fun v H' => exL sh.leaves fun us => v = sh.mk us ∧ oAnd c (∀ b H1, H' b = none → H1 = H'.put b o → K (some ([], .lit (sh.mk us))) (x b) pr H1)) :
    OpSem P s (H.put b o) fun v H' => exL sh.leaves fun us => v = sh.mk us ∧ K (some ([], .lit (sh.mk us))) (x b) pr H' :=
  (h.frame_put (o := o) hb).mono fun v H'' ⟨H', hq, hn, he⟩ => exL_mono hq fun us h' => ⟨h'.1, by rw [he]; exact (oAnd_out h'.2).2 b _ hn rfl⟩

theorem Priv.set_self (pr : Priv) (j : Nat) : pr.set j (pr j) = pr := by
  funext k
  by_cases h : k = j
  · subst h; rw [Priv.set_same]
  · rw [Priv.set_ne _ _ h]

theorem comm_at {f f' : Priv → Option (Sl × Priv)} {i j : Nat} (h1 : AtB i f) (h2 : AtB j f') (hne : i ≠ j) : Comm P (.ow f) (.ow f') := fun K pr H _ h => by
  obtain ⟨g, h1⟩ := h1
  obtain ⟨g', h2⟩ := h2
  simp only [NF.vc] at h ⊢
  rw [h1 pr] at h
  cases hg : g (pr i) with
  | none => simp [hg] at h
  | some y =>
    obtain ⟨s, c⟩ := y
    simp only [hg] at h
    rw [h2, Priv.set_ne _ _ (Ne.symm hne)] at h
    rw [h2 pr]
    cases hg' : g' (pr j) with
    | none => simp [hg'] at h
    | some z =>
      obtain ⟨s', c'⟩ := z
      simp only [hg'] at h ⊢
      rw [h1, Priv.set_ne _ _ hne]
      simp only [hg]
      rw [Priv.set_comm _ _ _ (Ne.symm hne)]
      exact h

/-- Operations on two blocks of the call's own may change places. -/
theorem comm_sep {C : Cfg} {oy ox : Oper} {y x : NF} (hy : NFk C oy y) (hx : NFk C ox x) (hs : sepB (blkOf C oy) (blkOf C ox) = true) : Comm P y x := by
  cases ha : blkOf C oy with
  | none => rw [ha] at hs; simp [sepB] at hs
  | some a =>
    cases hb : blkOf C ox with
    | none => rw [ha, hb] at hs; simp [sepB] at hs
    | some b =>
      rw [ha, hb] at hs
      have hne : a ≠ b := fun e => by subst e; simp [sepB] at hs
      have cy := blkOf_cls ha
      have cx := blkOf_cls hb
      cases y with
      | bad => exact fun _ _ _ _ h => h.elim
      | pu => exact comm_pu_l
      | px => exact comm_px_l
      | ow f =>
        cases x with
        | bad => exact fun K pr H hx h => by obtain ⟨_, _, _, _, h'⟩ := vc_live h hx; exact h'.elim
        | pu => exact comm_pu_r
        | ow f' => exact comm_at (hy.2 a ha) (hx.2 b hb) hne
        | _ => exact comm_ow_H rfl
      | rd => have : cls C oy = 1 := hy.1; omega
      | al => have : cls C oy = 5 := hy; omega
      | cf => have : cls C oy = 6 := hy; omega
      | cv => have : cls C oy = 6 := hy; omega
      | ef => have : cls C oy = 7 := hy; omega
      | st => have : cls C oy = 8 := hy; omega

/-- The kinds tell which forms may change places. -/
theorem comm_of {C : Cfg} {oy ox : Oper} {y x : NF} (hy : NFk C oy y) (hx : NFk C ox x) (hs : swp (cls C oy) (cls C ox) = true) (hd : ∀ d, oy.dst = some d → ox.dst ≠ some d) : Comm P y x := by
  cases y with
  | bad => exact fun _ _ _ _ h => h.elim
  | pu => exact comm_pu_l
  | px => exact comm_px_l
  | ow f =>
    cases x with
    | bad => exact fun K pr H hx h => by obtain ⟨_, _, _, _, h'⟩ := vc_live h hx; exact h'.elim
    | pu => exact comm_pu_r
    | ow f' =>
      rcases hy.1 with ⟨h1, h2⟩ | ⟨h1, d, hd1, h2⟩ | h1 <;> rcases hx.1 with ⟨h3, h4⟩ | ⟨h3, d', hd2, h4⟩ | h3 <;> rw [h1, h3] at hs <;> first
        | (exact absurd hs (by decide))
        | exact comm_ld_ld h2 h4
        | exact comm_ld_al h2 h4
        | exact comm_al_al h2 h4 (fun e => hd d hd1 (by rw [e]; exact hd2))
    | _ => exact comm_ow_H rfl
  | rd ls ob s =>
    cases x with
    | bad => exact fun K pr H hx h => by obtain ⟨_, _, _, _, h'⟩ := vc_live h hx; exact h'.elim
    | pu => exact comm_pu_r
    | px => have h3 : cls C ox = 10 := hx; rw [hy.1, h3] at hs; exact absurd hs (by decide)
    | rd => exact comm_rd_rd
    | ow => exact comm_H_ow rfl
    | al => exact comm_rd_al hy.2
    | cf f args sh => exact fun K pr H _ h => comm_rd_cf hy.2 K pr H h
    | cv F args sh =>
        intro K pr H _ h
        have hF : ∃ f first cap, F = .func (.func f) first cap ∧ callable P f := by
          obtain ⟨_, _, _, f, first, cap, hF, hc, _⟩ := exL_some h
          exact ⟨f, first, cap, hF, hc⟩
        obtain ⟨f, first, cap, rfl, hc⟩ := hF
        refine ⟨f, first, cap, rfl, hc, comm_rd_cf hy.2 K pr H (exL_mono h fun vs h' => ⟨h'.1, ?_⟩)⟩
        obtain ⟨_, f', first', cap', e, _, h2⟩ := h'
        cases e
        exact h2
    | ef => have h3 : cls C ox = 7 := hx; rw [hy.1, h3] at hs; exact absurd hs (by decide)
    | st => have h3 : cls C ox = 8 := hx; rw [hy.1, h3] at hs; exact absurd hs (by decide)
  | al c s o =>
    have h1 : cls C oy = 5 := hy
    cases x with
    | bad => exact fun K pr H hx h => by obtain ⟨_, _, _, _, h'⟩ := vc_live h hx; exact h'.elim
    | pu => exact comm_pu_r
    | ow => exact comm_H_ow rfl
    | al => exact comm_al_al'
    | px => have h3 : cls C ox = 10 := hx; rw [h1, h3] at hs; exact absurd hs (by decide)
    | rd => rw [h1, hx.1] at hs; exact absurd hs (by decide)
    | cf => have h3 : cls C ox = 6 := hx; rw [h1, h3] at hs; exact absurd hs (by decide)
    | cv => have h3 : cls C ox = 6 := hx; rw [h1, h3] at hs; exact absurd hs (by decide)
    | ef => have h3 : cls C ox = 7 := hx; rw [h1, h3] at hs; exact absurd hs (by decide)
    | st => have h3 : cls C ox = 8 := hx; rw [h1, h3] at hs; exact absurd hs (by decide)
  | cf f args sh =>
    have h1 : cls C oy = 6 := hy
    cases x with
    | bad => exact fun K pr H hx h => by obtain ⟨_, _, _, _, h'⟩ := vc_live h hx; exact h'.elim
    | pu => exact comm_pu_r
    | ow => exact comm_H_ow rfl
    | al c x o =>
        intro K pr H hx h
        have hc : ∀ p, c = some p → p := by
          obtain ⟨_, _, _, _, h'⟩ := vc_live h hx
          exact (oAnd_out h').1
        exact oAnd_in hc fun b H1 hb e => by subst e; exact comm_cf_al K pr H hb h
    | px => have h3 : cls C ox = 10 := hx; rw [h1, h3] at hs; exact absurd hs (by decide)
    | rd => rw [h1, hx.1] at hs; exact absurd hs (by decide)
    | cf => have h3 : cls C ox = 6 := hx; rw [h1, h3] at hs; exact absurd hs (by decide)
    | cv => have h3 : cls C ox = 6 := hx; rw [h1, h3] at hs; exact absurd hs (by decide)
    | ef => have h3 : cls C ox = 7 := hx; rw [h1, h3] at hs; exact absurd hs (by decide)
    | st => have h3 : cls C ox = 8 := hx; rw [h1, h3] at hs; exact absurd hs (by decide)
  | cv F args sh =>
    have h1 : cls C oy = 6 := hy
    cases x with
    | bad => exact fun K pr H hx h => by obtain ⟨_, _, _, _, h'⟩ := vc_live h hx; exact h'.elim
    | pu => exact comm_pu_r
    | ow => exact comm_H_ow rfl
    | al c x o =>
        intro K pr H hx h
        have hc : ∀ p, c = some p → p := by
          obtain ⟨_, _, _, _, h'⟩ := vc_live h hx
          exact (oAnd_out h').1
        obtain ⟨f, first, cap, hF, hcl, h⟩ := h
        exact oAnd_in hc fun b H1 hb e => by subst e; exact ⟨f, first, cap, hF, hcl, comm_cf_al K pr H hb h⟩
    | px => have h3 : cls C ox = 10 := hx; rw [h1, h3] at hs; exact absurd hs (by decide)
    | rd => rw [h1, hx.1] at hs; exact absurd hs (by decide)
    | cf => have h3 : cls C ox = 6 := hx; rw [h1, h3] at hs; exact absurd hs (by decide)
    | cv => have h3 : cls C ox = 6 := hx; rw [h1, h3] at hs; exact absurd hs (by decide)
    | ef => have h3 : cls C ox = 7 := hx; rw [h1, h3] at hs; exact absurd hs (by decide)
    | st => have h3 : cls C ox = 8 := hx; rw [h1, h3] at hs; exact absurd hs (by decide)
  | ef s sh =>
    have h1 : cls C oy = 7 := hy
    cases x with
    | bad => exact fun K pr H hx h => by obtain ⟨_, _, _, _, h'⟩ := vc_live h hx; exact h'.elim
    | pu => exact comm_pu_r
    | ow => exact comm_H_ow rfl
    | al c x o =>
        intro K pr H hx h
        have hc : ∀ p, c = some p → p := by
          obtain ⟨_, _, _, _, h'⟩ := vc_live h hx
          exact (oAnd_out h').1
        exact oAnd_in hc fun b H1 hb e => by subst e; exact comm_ef_al K pr H hb h
    | px => have h3 : cls C ox = 10 := hx; rw [h1, h3] at hs; exact absurd hs (by decide)
    | rd => rw [h1, hx.1] at hs; exact absurd hs (by decide)
    | cf => have h3 : cls C ox = 6 := hx; rw [h1, h3] at hs; exact absurd hs (by decide)
    | cv => have h3 : cls C ox = 6 := hx; rw [h1, h3] at hs; exact absurd hs (by decide)
    | ef => have h3 : cls C ox = 7 := hx; rw [h1, h3] at hs; exact absurd hs (by decide)
    | st => have h3 : cls C ox = 8 := hx; rw [h1, h3] at hs; exact absurd hs (by decide)
  | st ad vs =>
    have h1 : cls C oy = 8 := hy
    cases x with
    | bad => exact fun K pr H hx h => by obtain ⟨_, _, _, _, h'⟩ := vc_live h hx; exact h'.elim
    | pu => exact comm_pu_r
    | ow => exact comm_H_ow rfl
    | al => have h3 : cls C ox = 5 := hx; rw [h1, h3] at hs; exact absurd hs (by decide)
    | px => have h3 : cls C ox = 10 := hx; rw [h1, h3] at hs; exact absurd hs (by decide)
    | rd => rw [h1, hx.1] at hs; exact absurd hs (by decide)
    | cf => have h3 : cls C ox = 6 := hx; rw [h1, h3] at hs; exact absurd hs (by decide)
    | cv => have h3 : cls C ox = 6 := hx; rw [h1, h3] at hs; exact absurd hs (by decide)
    | ef => have h3 : cls C ox = 7 := hx; rw [h1, h3] at hs; exact absurd hs (by decide)
    | st => have h3 : cls C ox = 8 := hx; rw [h1, h3] at hs; exact absurd hs (by decide)

end
end Go.Eng
