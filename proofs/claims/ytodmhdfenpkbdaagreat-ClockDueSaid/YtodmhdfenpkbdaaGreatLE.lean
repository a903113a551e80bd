/- Clocks, in plain Lean: altering. Conditions: none. -/
import Derived.Test.YtodmhdfenpkbdaaGreatPL4
set_option linter.unusedVariables false
set_option maxRecDepth 100000
open Go Go.Eng Go.Proofs
namespace Go.Proofs.YtodmhdfenpkbdaaGreat

/-- How far altering has come: what lies in the agenda is of the certificates looked at, with the new times, and of the others, with the old ones. -/
structure Alt (c : Ck) (f : List Pt) (ps : List Ev) (i : Nat) (s : Ag × List (Int × Int × Int)) (new rest : List Ev) : Prop where
  ag : okA s.1
  wl : s.1.wh.length = 200
  heap : s.1.heap.Perm (new ++ rest)
  due : s.2 = new.map nh
  newT : dueF f c.now (c.ct.list.take i) = new.map nt
  oldT : dueF c.f c.now (c.ct.list.drop i) = rest.map nt
  mem : ∀ x ∈ rest, x ∈ ps

theorem dueF_cons (f : List Pt) (t : Int × Int) (h : Int × Int × Int) (l : List (Int × Int × Int)) : dueF f t (h :: l) = (match whenM f h.2 t with | some s => [(h.1, s)] | none => []) ++ dueF f t l := by
  unfold dueF
  rw [List.filterMap_cons]
  cases whenM f h.2 t <;> rfl
theorem dueF_no {f : List Pt} {t : Int × Int} {l : List (Int × Int × Int)} {ps : List Ev} (e : dueF f t l = ps.map nt) {x : Ev} (hx : x ∈ ps) : ∃ h ∈ l, h.1 = x.no := by
  have : nt x ∈ dueF f t l := by rw [e]; exact List.mem_map_of_mem hx
  obtain ⟨h, hm, h1, _⟩ := dueF_mem.1 this
  exact ⟨h, hm, h1.symm⟩

section
variable {c : Ck} {f : List Pt} {ps : List Ev}
theorem Alt.start (ok : okK c) (e : Evs c ps) : Alt c f ps 0 (c.ag, []) [] ps := ⟨ok.ag, ok.wl, e.heap, rfl, rfl, e.at_, fun _ h => h⟩

theorem okK.incL (ok : okK c) : c.ct.list.Pairwise fun a b => a.1 < b.1 := ok.ct.ok.inc
theorem take_lt {α : Type} {R : α → α → Prop} {l : List α} (hp : l.Pairwise R) {i : Nat} {h x : α} (hi : l[i]? = some h) : (x ∈ l.take i → R x h) ∧ (x ∈ l.drop (i + 1) → R h x) := by
  have e : l = l.take i ++ h :: l.drop (i + 1) := by rw [← dropX hi]; exact (List.take_append_drop i l).symm
  rw [e] at hp
  obtain ⟨_, h2, h3⟩ := List.pairwise_append.1 hp
  exact ⟨fun hx => h3 x hx h List.mem_cons_self, fun hx => (List.pairwise_cons.1 h2).1 x hx⟩

/-- Where the certificate looked at had an event. -/
theorem Alt.had (ok : okK c) (e : Evs c ps) {i : Nat} {s : Ag × List (Int × Int × Int)} {new rest : List Ev} (a : Alt c f ps i s new rest) {h : Int × Int × Int} (hi : c.ct.list[i]? = some h) :
    (0 ≤ posD c h.1 → ∃ x rest', rest = x :: rest' ∧ x ∈ ps ∧ x.no = h.1 ∧ getD3 c.due (posD c h.1) = nh x ∧ posD c h.1 < c.due.length ∧ dueF c.f c.now (c.ct.list.drop (i + 1)) = rest'.map nt) ∧
    (posD c h.1 < 0 → dueF c.f c.now (c.ct.list.drop (i + 1)) = rest.map nt) := by
  have o := a.oldT
  rw [dropX hi, dueF_cons] at o
  have hm := List.mem_of_getElem? hi
  cases hw : whenM c.f h.2 c.now with
  | none =>
    rw [hw] at o
    refine ⟨fun h0 => ?_, fun _ => o⟩
    obtain ⟨x, hx, hn, _⟩ := e.pos.1 h0
    obtain ⟨h', hm', h1, h2⟩ := e.cert hx
    have : h' = h := by
      obtain ⟨j, hj⟩ := List.mem_iff_getElem?.1 hm'
      have a1 := (getC_at ok.ct hi).1
      have a2 := (getC_at ok.ct hj).1
      have a3 : (j : Int) = i := by rw [← a1, ← a2, h1, hn]
      have a4 : j = i := by omega
      subst a4; rw [hi] at hj; cases hj; rfl
    subst this
    rw [hw] at h2; cases h2
  | some s0 =>
    rw [hw] at o
    cases rest with
    | nil => cases o
    | cons x rest' =>
      simp only [List.singleton_append, List.map_cons, List.cons.injEq] at o
      have hn : x.no = h.1 := (congrArg Prod.fst o.1).symm
      have hx := a.mem x List.mem_cons_self
      refine ⟨fun h0 => ?_, fun h0 => absurd hn (e.pos.2 h0 x hx)⟩
      obtain ⟨y, hy, hyn, hg, hl⟩ := e.pos.1 h0
      have hxy : y = x := by
        have hp := List.pairwise_map.1 (e.inc ok.ct)
        obtain ⟨j, hj⟩ := List.mem_iff_getElem?.1 hy
        obtain ⟨k, hk⟩ := List.mem_iff_getElem?.1 hx
        obtain ⟨j1, j2⟩ := List.getElem?_eq_some_iff.1 hj
        obtain ⟨k1, k2⟩ := List.getElem?_eq_some_iff.1 hk
        have hp' := List.pairwise_iff_getElem.1 hp
        rcases Nat.lt_trichotomy j k with hjk | hjk | hjk
        · have := hp' j k j1 k1 hjk; rw [j2, k2] at this; omega
        · subst hjk; rw [hj] at hk; cases hk; rfl
        · have := hp' k j k1 j1 hjk; rw [j2, k2] at this; omega
      subst hxy
      exact ⟨y, rest', rfl, hx, hn, hg, hl, o.2⟩

theorem Alt.mem_heap {i : Nat} {s : Ag × List (Int × Int × Int)} {new rest : List Ev} (a : Alt c f ps i s new rest) {x : Ev} (hx : x ∈ rest) : x ∈ s.1.heap := a.heap.mem_iff.2 (List.mem_append_right _ hx)
theorem takeS {α : Type} {l : List α} {i : Nat} {h : α} (hi : l[i]? = some h) : l.take (i + 1) = l.take i ++ [h] := take_succ hi
theorem okA.wl2 {a : Ag} (h : okA a) {n : Nat} (e : a.tb.uses.length = n) : a.wh.length = n := by rw [h.wl, e]

/-- The steps of altering. -/
theorem Alt.step (ok : okK c) (e : Evs c ps) (of : okF f) (kn : knownC c.ct f = true) {i : Nat} {s : Ag × List (Int × Int × Int)} {new rest : List Ev} (a : Alt c f ps i s new rest) {h : Int × Int × Int} (hi : c.ct.list[i]? = some h) :
    match altStep c f h s with
    | none => whenM f h.2 c.now ≠ none ∧ posD c h.1 < 0 ∧ ¬ s.1.tb.canTake = true
    | some s' => ∃ new' rest', Alt c f ps (i + 1) s' new' rest' := by
  obtain ⟨b1, b2⟩ := a.had ok e hi
  have hm := List.mem_of_getElem? hi
  have nT : dueF f c.now (c.ct.list.take (i + 1)) = dueF f c.now (c.ct.list.take i) ++ (match whenM f h.2 c.now with | some s => [(h.1, s)] | none => []) := by
    rw [takeS hi, dueF_append, dueF_cons]; simp [dueF]
  have uw : s.1.tb.uses.length = 200 := by rw [← a.ag.wl]; exact a.wl
  unfold altStep
  cases hw : whenM f h.2 c.now with
  | none =>
    rw [hw] at nT
    simp only
    by_cases h0 : 0 ≤ posD c h.1
    · rw [if_pos h0]
      obtain ⟨x, rest', rfl, hx, hn, hg, hl, o⟩ := b1 h0
      have hxh := a.mem_heap List.mem_cons_self
      obtain ⟨r, hwl⟩ := removedA_wl a.ag hxh
      rw [hg]
      refine ⟨new, rest', r.ok, by rw [← a.wl]; exact hwl, ?_, a.due, by rw [nT, List.append_nil]; exact a.newT, o, fun y hy => a.mem y (List.mem_cons_of_mem _ hy)⟩
      exact ((r.perm.trans a.heap).trans List.perm_middle).cons_inv
    · rw [if_neg h0]
      exact ⟨new, rest, a.ag, a.wl, a.heap, a.due, by rw [nT, List.append_nil]; exact a.newT, b2 (by omega), a.mem⟩
  | some t =>
    rw [hw] at nT
    simp only
    have ht : okR t := whenM_okR of kn ok.now hm hw
    by_cases h0 : 0 ≤ posD c h.1
    · rw [if_pos h0]
      obtain ⟨x, rest', rfl, hx, hn, hg, hl, o⟩ := b1 h0
      have hxh := a.mem_heap List.mem_cons_self
      have r := a.ag.rekeyed (h := x.h) (t := t) (a.ag.slot hxh).2.2.2.2 ht
      rw [(find_eq a.ag hxh).2] at r
      rw [hg]
      refine ⟨new ++ [{ x with at_ := t }], rest', r.ok, ?_, ?_, ?_, ?_, o, fun y hy => a.mem y (List.mem_cons_of_mem _ hy)⟩
      · exact okA.wl2 r.ok (by rw [r.tb]; exact uw)
      · have p1 : (x :: (rekeyedA s.1 x.h t).heap).Perm (x :: (new ++ [{ x with at_ := t }] ++ rest')) := by
          refine r.perm.trans ((List.Perm.cons _ (a.heap.trans List.perm_middle)).trans ?_)
          refine (List.Perm.swap _ _ _).trans (List.Perm.cons _ ?_)
          rw [List.append_assoc]
          exact (List.perm_middle (a := ({ x with at_ := t } : Ev)) (l₁ := new) (l₂ := rest')).symm
        exact p1.cons_inv
      · rw [a.due, List.map_append]; rfl
      · rw [nT, a.newT, List.map_append]
        show _ ++ [(h.1, t)] = _ ++ [(x.no, t)]
        rw [hn]
    · rw [if_neg h0]
      by_cases hc : s.1.tb.canTake = true
      · rw [if_pos hc]
        have hno : hasA s.1 h.1 = false := by
          unfold hasA
          rw [List.any_eq_false]
          intro y hy hyn
          have hyn : y.no = h.1 := by simpa using hyn
          rcases List.mem_append.1 (a.heap.mem_iff.1 hy) with hy | hy
          · obtain ⟨h', hm', h1⟩ := dueF_no a.newT hy
            have := (take_lt ok.incL hi).1 hm'
            omega
          · obtain ⟨h', hm', h1⟩ := dueF_no (b2 (by omega)) hy
            have := (take_lt ok.incL hi).2 hm'
            omega
        have bd := ok.ct.ok.each h hm
        have := ok.ct.n1
        have pk := a.ag.pushed (t := t) (n := h.1) ht bd.2.1 (by omega) hno hc
        have pp := pushed_perm (n := h.1) a.ag ht hc
        refine ⟨new ++ [⟨t, h.1, nextH s.1⟩], rest, pk, ?_, ?_, ?_, ?_, b2 (by omega), a.mem⟩
        · refine okA.wl2 pk ?_
          show (s.1.tb.taken).uses.length = 200
          simpa [Tb.taken] using uw
        · refine pp.trans ((List.Perm.cons _ a.heap).trans ?_)
          rw [List.append_assoc]
          exact (List.perm_middle (a := (⟨t, h.1, nextH s.1⟩ : Ev)) (l₁ := new) (l₂ := rest)).symm
        · rw [a.due, List.map_append]; rfl
        · rw [nT, a.newT, List.map_append]; rfl
      · rw [if_neg hc]
        exact ⟨by simp, by omega, hc⟩

/-- Altering, step by step. -/
theorem altL_at (c : Ck) (f : List Pt) : ∀ (l : List (Int × Int × Int)) (h : Int × Int × Int) (s : Ag × List (Int × Int × Int)), altL c f (l ++ [h]) s = (altL c f l s).bind (altStep c f h)
  | [], h, s => by
    show (altStep c f h s).bind (altL c f []) = altStep c f h s
    cases altStep c f h s <;> rfl
  | x :: l, h, s => by
    show (altStep c f x s).bind (altL c f (l ++ [h])) = ((altStep c f x s).bind (altL c f l)).bind (altStep c f h)
    cases altStep c f x s with
    | none => rfl
    | some s' => exact altL_at c f l h s'
theorem altL_none (c : Ck) (f : List Pt) : ∀ (l m : List (Int × Int × Int)) (s : Ag × List (Int × Int × Int)), altL c f l s = none → altL c f (l ++ m) s = none
  | [], _, _, h => by cases h
  | x :: l, m, s, h => by
    have h : (altStep c f x s).bind (altL c f l) = none := h
    show (altStep c f x s).bind (altL c f (l ++ m)) = none
    cases hx : altStep c f x s with
    | none => rfl
    | some s' => rw [hx] at h; exact altL_none c f l m s' h
theorem altL_stop {c : Ck} {f : List Pt} {i : Nat} {h : Int × Int × Int} {s : Ag × List (Int × Int × Int)} (hi : c.ct.list[i]? = some h) (hs : altL c f (c.ct.list.take i) (c.ag, []) = some s) (hn : altStep c f h s = none) : alteredK c f = (.zero, 18) := by
  have e : altL c f (c.ct.list.take (i + 1)) (c.ag, []) = none := by rw [takeS hi, altL_at, hs]; exact hn
  have e2 := altL_none c f _ (c.ct.list.drop (i + 1)) _ e
  rw [List.take_append_drop] at e2
  unfold alteredK; rw [e2]
theorem Alt.done (ok : okK c) (of : okF f) (kn : knownC c.ct f = true) {s : Ag × List (Int × Int × Int)} {new rest : List Ev} (a : Alt c f ps c.ct.list.length s new rest) : okK { c with f := f, ag := s.1, due := s.2 } ∧ Evs { c with f := f, ag := s.1, due := s.2 } new := by
  have hr : rest = [] := by
    have := a.oldT
    rw [List.drop_length] at this
    exact List.map_eq_nil_iff.1 this.symm
  have hn := a.newT
  rw [List.take_length] at hn
  have hp := a.heap
  rw [hr, List.append_nil] at hp
  have ev : Evs { c with f := f, ag := s.1, due := s.2 } new := ⟨hn, a.due, hp⟩
  exact ⟨okK.of ok.now of ok.ct kn a.ag a.wl ev, ev⟩
theorem Alt.upto (ok : okK c) (e : Evs c ps) (of : okF f) (kn : knownC c.ct f = true) : ∀ (i : Nat), i ≤ c.ct.list.length → ∀ s, altL c f (c.ct.list.take i) (c.ag, []) = some s → ∃ new rest, Alt c f ps i s new rest
  | 0, _, s, h => by cases h; exact ⟨_, _, Alt.start ok e⟩
  | i + 1, hi, s, h => by
    obtain ⟨x, hx⟩ : ∃ x, c.ct.list[i]? = some x := ⟨_, List.getElem?_eq_getElem (by omega)⟩
    rw [takeS hx, altL_at] at h
    cases h' : altL c f (c.ct.list.take i) (c.ag, []) with
    | none => rw [h'] at h; cases h
    | some s' =>
      rw [h'] at h
      obtain ⟨new, rest, a⟩ := Alt.upto ok e of kn i (by omega) s' h'
      have st := a.step ok e of kn hx
      have h : altStep c f x s' = some s := h
      rw [h] at st
      exact st
theorem okK.altered (ok : okK c) (of : okF f) (kn : knownC c.ct f = true) : ((alteredK c f).2 = 0 → okK (alteredK c f).1) ∧ ((alteredK c f).2 ≠ 0 → alteredK c f = (.zero, 18)) := by
  obtain ⟨ps, e⟩ := ok.evs
  unfold alteredK
  cases h : altL c f c.ct.list (c.ag, []) with
  | none => exact ⟨fun h => absurd (show (18 : Int) = 0 from h) (by decide), fun _ => rfl⟩
  | some s =>
    refine ⟨fun _ => ?_, fun h => absurd rfl h⟩
    obtain ⟨new, rest, a⟩ := Alt.upto ok e of kn c.ct.list.length (Nat.le_refl _) s (by rw [List.take_length]; exact h)
    exact (a.done ok of kn).1
end
end Go.Proofs.YtodmhdfenpkbdaaGreat
