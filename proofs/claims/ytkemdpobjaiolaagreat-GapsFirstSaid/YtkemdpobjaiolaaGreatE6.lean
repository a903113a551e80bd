/- The engine, parts AM, AN, AP, put together. Conditions: none. -/
import Derived.Test.YtkemdpobjaiolaaGreatE5
set_option linter.unusedVariables false
section
/- Agendas, in plain words. Conditions: none. -/
namespace Go.Eng

structure Ag where
  tb : Tb
  heap : List Ev
  wh : List Int
deriving DecidableEq
def Ag.zero : Ag := ⟨.zero, [], []⟩

def par (i : Nat) : Nat := (i - 1) / 2
def hp (h : List Ev) (i : Nat) : Ev := h.getD i e0
abbrev Hw := List Ev × List Int

structure okA (a : Ag) : Prop where
  tb : okT a.tb
  wl : a.wh.length = a.tb.uses.length
  hl : a.heap.length + a.tb.free.length = a.tb.uses.length
  free : ∀ i : Nat, i < a.tb.uses.length → a.tb.used.getD i false = false → a.wh.getD i 0 = -1
  used : ∀ i : Nat, i < a.tb.uses.length → a.tb.used.getD i false = true → 0 ≤ a.wh.getD i 0 ∧ a.wh.getD i 0 < a.heap.length ∧ (hp a.heap (a.wh.getD i 0).toNat).h = ((i : Int), a.tb.uses.getD i 0)
  each : ∀ x ∈ a.heap, okR x.at_ ∧ 0 ≤ x.no ∧ x.no ≤ 1000000
  nos : (a.heap.map (·.no)).Nodup
  ord : ∀ i : Nat, 1 ≤ i → i < a.heap.length → lessE (hp a.heap i) (hp a.heap (par i)) = false

instance (a : Ag) : Decidable (okA a) :=
  decidable_of_iff (okT a.tb ∧ a.wh.length = a.tb.uses.length ∧ a.heap.length + a.tb.free.length = a.tb.uses.length ∧ (∀ i : Nat, i < a.tb.uses.length → a.tb.used.getD i false = false → a.wh.getD i 0 = -1) ∧
    (∀ i : Nat, i < a.tb.uses.length → a.tb.used.getD i false = true → 0 ≤ a.wh.getD i 0 ∧ a.wh.getD i 0 < a.heap.length ∧ (hp a.heap (a.wh.getD i 0).toNat).h = ((i : Int), a.tb.uses.getD i 0)) ∧
    (∀ x ∈ a.heap, okR x.at_ ∧ 0 ≤ x.no ∧ x.no ≤ 1000000) ∧ (a.heap.map (·.no)).Nodup ∧ (∀ i : Nat, i < a.heap.length → 1 ≤ i → lessE (hp a.heap i) (hp a.heap (par i)) = false))
    ⟨fun ⟨a, b, c, d, e, f, g, h⟩ => ⟨a, b, c, d, e, f, g, fun i h1 h2 => h i h2 h1⟩, fun ⟨a, b, c, d, e, f, g, h⟩ => ⟨a, b, c, d, e, f, g, fun i h1 h2 => h i h2 h1⟩⟩

def chkA (a : Ag) : Int := if okA a then 0 else 8
theorem chkA_ok {a : Ag} (h : okA a) : chkA a = 0 := by unfold chkA; rw [if_pos h]
theorem chkA_bad {a : Ag} (h : ¬ okA a) : chkA a = 8 := by unfold chkA; rw [if_neg h]
theorem chkA_zero {a : Ag} : chkA a = 0 ↔ okA a := by
  by_cases h : okA a
  · simp [chkA_ok h, h]
  · simp [chkA_bad h, h]

theorem hp_get {h : List Ev} {i : Nat} (hi : i < h.length) : h[i]? = some (hp h i) := by simp [hp, List.getD, hi]
theorem hp_mem {h : List Ev} {i : Nat} (hi : i < h.length) : hp h i ∈ h := List.mem_of_getElem? (hp_get hi)
theorem hp_set {h : List Ev} {i j : Nat} {x : Ev} (hi : i < h.length) : hp (h.set i x) j = if i = j then x else hp h j := getD_set hi
theorem par_lt {i : Nat} (h : 1 ≤ i) : par i < i := by unfold par; omega

/-- Two events change places. -/
def swapE (s : Hw) (i k : Nat) : Hw :=
  ((s.1.set i (hp s.1 k)).set k (hp s.1 i), (s.2.set (hp s.1 k).h.1.toNat i).set (hp s.1 i).h.1.toNat k)

def upA : Nat → Hw → Nat → Hw × Nat
  | 0, s, i => (s, i)
  | f + 1, s, i => if 0 < i ∧ lessE (hp s.1 i) (hp s.1 (par i)) = true then upA f (swapE s i (par i)) (par i) else (s, i)
theorem swapE_len (s : Hw) (i k : Nat) : (swapE s i k).1.length = s.1.length ∧ (swapE s i k).2.length = s.2.length := by simp [swapE]
theorem upA_fuel : ∀ (f g : Nat) (s : Hw) (i : Nat), i ≤ f → i ≤ g → upA f s i = upA g s i
  | 0, 0, _, _, _, _ => rfl
  | 0, g + 1, s, i, h, _ => by
    have : i = 0 := by omega
    subst this; simp [upA]
  | f + 1, 0, s, i, _, h => by
    have : i = 0 := by omega
    subst this; simp [upA]
  | f + 1, g + 1, s, i, h, h' => by
    unfold upA
    split
    · rename_i hc
      have := par_lt (i := i) (by omega)
      exact upA_fuel f g _ _ (by omega) (by omega)
    · rfl
/-- Some steps of it. -/
theorem upA_step {f : Nat} {s : Hw} {i : Nat} (hf : i ≤ f) (h0 : 0 < i) (h : lessE (hp s.1 i) (hp s.1 (par i)) = true) : upA f s i = upA f (swapE s i (par i)) (par i) := by
  have := par_lt (i := i) h0
  rw [upA_fuel f (f + 1) s i hf (by omega)]
  conv => lhs; unfold upA
  rw [if_pos ⟨h0, h⟩]
theorem upA_stop {f : Nat} {s : Hw} {i : Nat} (h : ¬ (0 < i ∧ lessE (hp s.1 i) (hp s.1 (par i)) = true)) : upA f s i = (s, i) := by
  cases f with
  | zero => rfl
  | succ f => unfold upA; rw [if_neg h]
/-- Each event is where it is said to be. -/
def plA (s : Hw) : Prop := ∀ p, p < s.1.length → 0 ≤ (hp s.1 p).h.1 ∧ (hp s.1 p).h.1 < s.2.length ∧ s.2.getD (hp s.1 p).h.1.toNat 0 = p

theorem getD_setI {l : List Int} {i j : Nat} {x : Int} (h : i < l.length) : (l.set i x).getD j 0 = if i = j then x else l.getD j 0 := getD_set h

theorem plA.inj {s : Hw} (h : plA s) {p q : Nat} (hp' : p < s.1.length) (hq : q < s.1.length) (e : (hp s.1 p).h.1 = (hp s.1 q).h.1) : p = q := by
  have a := (h p hp').2.2; have b := (h q hq).2.2
  rw [e] at a; omega

theorem hp_swap {s : Hw} {i k : Nat} (hi : i < s.1.length) (hk : k < s.1.length) (j : Nat) : hp (swapE s i k).1 j = if k = j then hp s.1 i else if i = j then hp s.1 k else hp s.1 j := by
  show hp ((s.1.set i (hp s.1 k)).set k (hp s.1 i)) j = _
  rw [hp_set (by simpa using hk), hp_set hi]

theorem plA.swap {s : Hw} (h : plA s) {i k : Nat} (hi : i < s.1.length) (hk : k < s.1.length) : plA (swapE s i k) := by
  intro p hpl
  rw [(swapE_len s i k).1] at hpl
  rw [(swapE_len s i k).2, hp_swap hi hk]
  obtain ⟨i1, i2, i3⟩ := h i hi
  obtain ⟨k1, k2, k3⟩ := h k hk
  have gs : ∀ j : Nat, (swapE s i k).2.getD j 0 = if (hp s.1 i).h.1.toNat = j then (k : Int) else if (hp s.1 k).h.1.toNat = j then (i : Int) else s.2.getD j 0 := fun j => by
    show ((s.2.set _ _).set _ _).getD j 0 = _
    rw [getD_setI (by simp; omega), getD_setI (by omega)]
  rw [gs]
  by_cases e1 : k = p
  · subst e1; rw [if_pos rfl, if_pos rfl]; exact ⟨i1, i2, rfl⟩
  · rw [if_neg e1]
    by_cases e2 : i = p
    · subst e2; rw [if_pos rfl, if_pos rfl]
      refine ⟨k1, k2, ?_⟩
      by_cases e3 : (hp s.1 i).h.1.toNat = (hp s.1 k).h.1.toNat
      · exact absurd (h.inj hi hk (by omega)) (fun e => e1 e.symm)
      · rw [if_neg e3]
    · rw [if_neg e2]
      obtain ⟨p1, p2, p3⟩ := h p hpl
      refine ⟨p1, p2, ?_⟩
      rw [if_neg, if_neg, p3]
      · intro e; exact e1 (h.inj hk hpl (by omega))
      · intro e; exact e2 (h.inj hi hpl (by omega))

theorem perm_swap {s : Hw} {i k : Nat} (hi : i < s.1.length) (hk : k < s.1.length) : (swapE s i k).1.Perm s.1 := by
  show ((s.1.set i (hp s.1 k)).set k (hp s.1 i)).Perm s.1
  generalize s.1 = l at *
  have e1 : hp l k = l[k] := by simp [hp, List.getD, hk]
  have e2 : hp l i = l[i] := by simp [hp, List.getD, hi]
  rw [e1, e2]
  by_cases h : i = k
  · subst h; simp
  · rw [List.perm_iff_count]
    intro x
    have h1 := List.count_set (l := l.set i l[k]) (i := k) (a := l[i]) (b := x) (by simpa using hk)
    have h2 := List.count_set (l := l) (i := i) (a := l[k]) (b := x) hi
    rw [h1, h2, List.getElem_set_ne h]
    by_cases a : l[i] == x <;> by_cases b : l[k] == x <;> simp_all
    all_goals
      have p1 : ∀ (l : List Ev) (j : Nat) (hj : j < l.length), 0 < l.count l[j] := fun l j hj => List.count_pos_iff.2 (List.getElem_mem hj)
      first
        | (have := p1 l i hi; simp_all; done)
        | (have := p1 l k hk; simp_all; done)
        | (have := p1 l i hi; have := p1 l k hk; simp_all; omega)

/-- What moving keeps. -/
structure Kept (s t : Hw) : Prop where
  len : t.1.length = s.1.length
  wlen : t.2.length = s.2.length
  perm : t.1.Perm s.1
  pl : plA t
  same : ∀ j : Nat, (∀ x ∈ s.1, x.h.1.toNat ≠ j) → t.2.getD j 0 = s.2.getD j 0
theorem Kept.refl {s : Hw} (h : plA s) : Kept s s := ⟨rfl, rfl, List.Perm.refl _, h, fun _ _ => rfl⟩
theorem Kept.swap {s : Hw} (h : plA s) {i k : Nat} (hi : i < s.1.length) (hk : k < s.1.length) : Kept s (swapE s i k) := by
  refine ⟨(swapE_len s i k).1, (swapE_len s i k).2, perm_swap hi hk, h.swap hi hk, fun j hj => ?_⟩
  obtain ⟨i1, i2, i3⟩ := h i hi
  obtain ⟨k1, k2, k3⟩ := h k hk
  show ((s.2.set _ _).set _ _).getD j 0 = _
  rw [getD_setI (by simp; omega), getD_setI (by omega), if_neg (hj _ (hp_mem hi)), if_neg (hj _ (hp_mem hk))]
theorem Kept.trans {s t u : Hw} (a : Kept s t) (b : Kept t u) : Kept s u :=
  ⟨b.len.trans a.len, b.wlen.trans a.wlen, b.perm.trans a.perm, b.pl, fun j hj => (b.same j fun x hx => hj x (a.perm.mem_iff.1 hx)).trans (a.same j hj)⟩

theorem upA_kept : ∀ (f : Nat) (s : Hw) (i : Nat), plA s → i < s.1.length → Kept s (upA f s i).1 ∧ (upA f s i).2 ≤ i
  | 0, s, i, h, _ => ⟨Kept.refl h, Nat.le_refl _⟩
  | f + 1, s, i, h, hi => by
    unfold upA
    split
    · rename_i hc
      have hp := par_lt (i := i) hc.1
      have k := Kept.swap h hi (Nat.lt_trans hp hi)
      obtain ⟨a, b⟩ := upA_kept f _ (par i) k.pl (by rw [k.len]; omega)
      exact ⟨k.trans a, by omega⟩
    · exact ⟨Kept.refl h, Nat.le_refl _⟩
/-- The order, but for what touches i. -/
structure MidH (h : List Ev) (i : Nat) : Prop where
  far : ∀ j, 1 ≤ j → j < h.length → j ≠ i → par j ≠ i → lessE (hp h j) (hp h (par j)) = false
  over : ∀ j, 1 ≤ j → j < h.length → par j = i → 1 ≤ i → lessE (hp h j) (hp h (par i)) = false
def ordH (h : List Ev) : Prop := ∀ j, 1 ≤ j → j < h.length → lessE (hp h j) (hp h (par j)) = false
def posH (h : List Ev) : Prop := ∀ x ∈ h, posD x

theorem posH.at {h : List Ev} (p : posH h) {i : Nat} (hi : i < h.length) : posD (hp h i) := p _ (hp_mem hi)
theorem posH.perm {h h' : List Ev} (p : posH h) (e : h'.Perm h) : posH h' := fun x hx => p x (e.mem_iff.1 hx)

theorem MidH.up {s : Hw} {i : Nat} (p : posH s.1) (m : MidH s.1 i) (hi : i < s.1.length) (h0 : 0 < i) (hl : lessE (hp s.1 i) (hp s.1 (par i)) = true) : MidH (swapE s i (par i)).1 (par i) := by
  have pl := par_lt (i := i) h0
  have hpl : par i < s.1.length := Nat.lt_trans pl hi
  have len := (swapE_len s i (par i)).1
  refine ⟨fun j j1 j2 j3 j4 => ?_, fun j j1 j2 j3 j4 => ?_⟩
  · rw [len] at j2
    have jp := par_lt (i := j) j1
    rw [hp_swap hi hpl j, hp_swap hi hpl (par j), if_neg (fun e => j3 e.symm : ¬ par i = j), if_neg (fun e => j4 e.symm : ¬ par i = par j)]
    by_cases e1 : i = j
    · subst e1; exact absurd rfl j4
    · rw [if_neg e1]
      by_cases e2 : i = par j
      · rw [if_pos e2]; exact m.over j j1 j2 e2.symm h0
      · rw [if_neg e2]; exact m.far j j1 j2 (fun e => e1 e.symm) (fun e => e2 e.symm)
  · rw [len] at j2
    have pp := par_lt (i := par i) j4
    rw [hp_swap hi hpl j, hp_swap hi hpl (par (par i))]
    have hgg : lessE (hp s.1 (par i)) (hp s.1 (par (par i))) = false := m.far (par i) j4 hpl (by omega) (by omega)
    rw [if_neg (by omega : ¬ par i = par (par i)), if_neg (by omega : ¬ i = par (par i))]
    rw [if_neg (by have := par_lt (i := j) j1; omega : ¬ par i = j)]
    by_cases e1 : i = j
    · rw [if_pos e1]; exact hgg
    · rw [if_neg e1]
      have := m.far j j1 j2 (fun e => e1 e.symm) (by omega)
      rw [j3] at this
      exact leE_trans (p.at (by omega)) (p.at hpl) (p.at j2) hgg this

/-- The same, where nothing is amiss below. -/
structure TopH (h : List Ev) (i : Nat) : Prop where
  far : ∀ j, 1 ≤ j → j < h.length → j ≠ i → lessE (hp h j) (hp h (par j)) = false
  over : ∀ j, 1 ≤ j → j < h.length → par j = i → 1 ≤ i → lessE (hp h j) (hp h (par i)) = false
theorem TopH.mid {h : List Ev} {i : Nat} (t : TopH h i) : MidH h i := ⟨fun j a b c _ => t.far j a b c, t.over⟩
theorem TopH.up {s : Hw} {i : Nat} (p : posH s.1) (m : TopH s.1 i) (hi : i < s.1.length) (h0 : 0 < i) (hl : lessE (hp s.1 i) (hp s.1 (par i)) = true) : TopH (swapE s i (par i)).1 (par i) := by
  have md := m.mid.up p hi h0 hl
  have pl := par_lt (i := i) h0
  have hpl : par i < s.1.length := Nat.lt_trans pl hi
  have len := (swapE_len s i (par i)).1
  refine ⟨fun j j1 j2 j3 => ?_, md.over⟩
  by_cases e : par j = par i
  · rw [len] at j2
    rw [hp_swap hi hpl j, hp_swap hi hpl (par j), if_pos e.symm, if_neg (fun e => j3 e.symm : ¬ par i = j)]
    by_cases e1 : i = j
    · rw [if_pos e1]; exact lessE_asymm hl
    · rw [if_neg e1]
      have := m.far j j1 j2 (fun e => e1 e.symm)
      rw [e] at this
      exact leE_trans (p.at hi) (p.at hpl) (p.at j2) (lessE_asymm hl) this
  · exact md.far j j1 j2 j3 e
theorem upA_top : ∀ (f : Nat) (s : Hw) (i : Nat), plA s → posH s.1 → TopH s.1 i → i < s.1.length → i ≤ f → ordH (upA f s i).1.1
  | f, s, i, h, p, m, hi, hf => by
    by_cases hc : 0 < i ∧ lessE (hp s.1 i) (hp s.1 (par i)) = true
    · have pl := par_lt (i := i) hc.1
      have k := Kept.swap h hi (Nat.lt_trans pl hi)
      rw [upA_step hf hc.1 hc.2]
      cases f with
      | zero => omega
      | succ f =>
        rw [upA_fuel (f + 1) f _ _ (by omega) (by omega)]
        exact upA_top f _ (par i) k.pl (p.perm k.perm) (m.up p hi hc.1 hc.2) (by rw [k.len]; omega) (by omega)
    · rw [upA_stop hc]
      intro j j1 j2
      by_cases e : j = i
      · subst e
        cases hx : lessE (hp s.1 j) (hp s.1 (par j)) with
        | false => rfl
        | true => exact absurd ⟨by omega, hx⟩ hc
      · exact m.far j j1 j2 e
termination_by f => f

/-- The first one is not more than any other one. -/
theorem ordH.first {h : List Ev} (o : ordH h) (p : posH h) : ∀ (j : Nat), j < h.length → lessE (hp h j) (hp h 0) = false := by
  intro j
  induction j using Nat.strongRecOn with
  | _ j ih =>
    intro hj
    rcases Nat.eq_zero_or_pos j with e | e
    · subst e; exact lessE_irrefl _
    · have pl := par_lt (i := j) e
      exact leE_trans (p.at (by omega)) (p.at (by omega)) (p.at hj) (ih _ pl (by omega)) (o j e hj)
end Go.Eng
end
section
/- What is done with agendas, in plain words. Conditions: none. -/
namespace Go.Eng

theorem nodup_sub {α : Type} [DecidableEq α] : ∀ (A B : List α), A.Nodup → (∀ x ∈ A, x ∈ B) → A.length ≤ B.length
  | [], B, _, _ => by simp
  | x :: A, B, h, hs => by
    have hx : x ∈ B := hs x (List.mem_cons_self ..)
    obtain ⟨h1, h2⟩ := List.nodup_cons.1 h
    have := nodup_sub A (B.erase x) h2 fun y hy => by
      exact (List.mem_erase_of_ne (by rintro rfl; exact h1 hy)).2 (hs y (List.mem_cons_of_mem _ hy))
    rw [List.length_erase_of_mem hx] at this
    have := List.length_pos_of_mem hx
    simp; omega

theorem filter_parts {α : Type} (p : α → Bool) : ∀ l : List α, (l.filter p).length + (l.filter fun x => !p x).length = l.length
  | [] => rfl
  | x :: l => by
    have := filter_parts p l
    cases h : p x <;> simp [h] <;> omega

theorem okA.usedCount {a : Ag} (ok : okA a) : a.heap.length ≤ ((List.range a.tb.uses.length).filter fun i => a.tb.used.getD i false).length := by
  have h1 := filter_parts (fun i => a.tb.used.getD i false) (List.range a.tb.uses.length)
  have h2 : ((List.range a.tb.uses.length).filter fun i => !a.tb.used.getD i false).length ≤ a.tb.free.length := by
    have := nodup_sub ((((List.range a.tb.uses.length).filter fun i => !a.tb.used.getD i false)).map fun i : Nat => (i : Int)) a.tb.free
      (by
        rw [List.nodup_iff_pairwise_ne, List.pairwise_map]
        exact ((List.nodup_range (n := a.tb.uses.length)).sublist List.filter_sublist).imp fun h e => h (by omega))
      (fun x hx => by
        obtain ⟨i, hi, rfl⟩ := List.mem_map.1 hx
        obtain ⟨hr, hu⟩ := List.mem_filter.1 hi
        have := (ok.tb.each i (List.mem_range.1 hr)).2.2.1
        rcases Decidable.em ((i : Int) ∈ a.tb.free) with h | h
        · exact h
        · have e := this.2 h
          have hu : (!a.tb.used.getD i false) = true := hu
          rw [e] at hu; cases hu)
    rw [List.length_map] at this; exact this
  have h3 := ok.hl
  rw [List.length_range] at h1
  omega

/-- Each event is one of a slot that is used, and is where it is said to be. -/
theorem okA.at {a : Ag} (ok : okA a) {p : Nat} (hp' : p < a.heap.length) : ∃ i : Nat, i < a.tb.uses.length ∧ a.tb.used.getD i false = true ∧ a.wh.getD i 0 = p ∧ (hp a.heap p).h = ((i : Int), a.tb.uses.getD i 0) := by
  by_cases h : ∃ i : Nat, i < a.tb.uses.length ∧ a.tb.used.getD i false = true ∧ a.wh.getD i 0 = p
  · obtain ⟨i, h1, h2, h3⟩ := h
    have := (ok.used i h1 h2).2.2
    rw [h3, Int.toNat_natCast] at this
    exact ⟨i, h1, h2, h3, this⟩
  · exfalso
    have hc := ok.usedCount
    have hinj : ∀ i j : Nat, i < a.tb.uses.length → j < a.tb.uses.length → a.tb.used.getD i false = true → a.tb.used.getD j false = true → a.wh.getD i 0 = a.wh.getD j 0 → i = j := fun i j hi hj ui uj e => by
      have x := (ok.used i hi ui).2.2
      have y := (ok.used j hj uj).2.2
      rw [e, y] at x
      have := congrArg Prod.fst x
      simp only at this
      omega
    have hle := nodup_le a.heap.length ((p : Int) :: ((List.range a.tb.uses.length).filter fun i => a.tb.used.getD i false).map fun i => a.wh.getD i 0)
      (List.nodup_cons.2 ⟨fun hm => by
        obtain ⟨i, hi, e⟩ := List.mem_map.1 hm
        obtain ⟨hr, hu⟩ := List.mem_filter.1 hi
        exact h ⟨i, List.mem_range.1 hr, hu, e⟩, by
        rw [List.nodup_iff_pairwise_ne, List.pairwise_map]
        have := (List.nodup_range (n := a.tb.uses.length)).sublist (List.filter_sublist (p := fun i => a.tb.used.getD i false))
        rw [List.nodup_iff_pairwise_ne] at this
        refine List.Pairwise.imp_of_mem (fun {i j} hi hj hne e => ?_) this
        obtain ⟨hr, hu⟩ := List.mem_filter.1 hi
        obtain ⟨hr', hu'⟩ := List.mem_filter.1 hj
        exact hne (hinj i j (List.mem_range.1 hr) (List.mem_range.1 hr') hu hu' e)⟩)
      (fun x hx => by
        rcases List.mem_cons.1 hx with rfl | hx
        · omega
        · obtain ⟨i, hi, rfl⟩ := List.mem_map.1 hx
          obtain ⟨hr, hu⟩ := List.mem_filter.1 hi
          have := ok.used i (List.mem_range.1 hr) hu
          exact ⟨this.1, by omega⟩)
    rw [List.length_cons, List.length_map] at hle
    omega

theorem okA.pl {a : Ag} (ok : okA a) : plA (a.heap, a.wh) := fun p hp' => by
  obtain ⟨i, h1, h2, h3, h4⟩ := ok.at hp'
  have hw := ok.wl
  show 0 ≤ (hp a.heap p).h.1 ∧ (hp a.heap p).h.1 < a.wh.length ∧ a.wh.getD (hp a.heap p).h.1.toNat 0 = p
  rw [h4]
  refine ⟨by simp, by simp; omega, by simpa using h3⟩
theorem okA.posH {a : Ag} (ok : okA a) : Go.Eng.posH a.heap := fun x hx => (ok.each x hx).1.d1

/-- What an event says of its slot. -/
theorem okA.slot {a : Ag} (ok : okA a) {x : Ev} (hx : x ∈ a.heap) : 0 ≤ x.h.1 ∧ x.h.1 < a.tb.uses.length ∧ a.tb.used.getD x.h.1.toNat false = true ∧ a.tb.uses.getD x.h.1.toNat 0 = x.h.2 ∧ a.tb.live x.h.1 x.h.2 = true := by
  obtain ⟨p, hp'⟩ := List.mem_iff_getElem?.1 hx
  have hlt := (List.getElem?_eq_some_iff.1 hp').1
  obtain ⟨i, h1, h2, h3, h4⟩ := ok.at hlt
  have e : hp a.heap p = x := by unfold hp; rw [List.getD_eq_getElem?_getD, hp']; rfl
  rw [e] at h4
  rw [h4]
  simp only [Int.toNat_natCast]
  refine ⟨by omega, by omega, h2, trivial, live_iff.2 ⟨by omega, by omega, by simpa using h2, by simp⟩⟩
theorem okA.slotOf {a : Ag} (ok : okA a) {i u : Int} (hl : a.tb.live i u = true) : 0 ≤ a.wh.getD i.toNat 0 ∧ a.wh.getD i.toNat 0 < a.heap.length ∧ (hp a.heap (a.wh.getD i.toNat 0).toNat).h = (i, u) := by
  obtain ⟨h1, h2, h3, h4⟩ := live_iff.1 hl
  have := ok.used i.toNat (by omega) h3
  refine ⟨this.1, this.2.1, ?_⟩
  rw [this.2.2, Int.toNat_of_nonneg h1, h4]

/-- A valid agenda, put together. -/
theorem okA.make {tb : Tb} {s : Hw} (tok : okT tb) (hwl : s.2.length = tb.uses.length) (hl : s.1.length + tb.free.length = tb.uses.length) (pl : plA s) (o : ordH s.1) (each : ∀ x ∈ s.1, okR x.at_ ∧ 0 ≤ x.no ∧ x.no ≤ 1000000) (nos : (s.1.map (·.no)).Nodup)
    (slot : ∀ x ∈ s.1, tb.uses.getD x.h.1.toNat 0 = x.h.2) (all : ∀ i : Nat, i < tb.uses.length → tb.used.getD i false = true → ∃ x ∈ s.1, x.h.1 = i) (free : ∀ i : Nat, i < tb.uses.length → tb.used.getD i false = false → s.2.getD i 0 = -1) : okA ⟨tb, s.1, s.2⟩ := by
  refine ⟨tok, hwl, hl, free, fun i hi hu => ?_, each, nos, o⟩
  obtain ⟨x, hx, e⟩ := all i hi hu
  obtain ⟨p, hp'⟩ := List.mem_iff_getElem?.1 hx
  have hlt := (List.getElem?_eq_some_iff.1 hp').1
  have ep : hp s.1 p = x := by unfold hp; rw [List.getD_eq_getElem?_getD, hp']; rfl
  obtain ⟨q1, q2, q3⟩ := pl p hlt
  rw [ep, e, Int.toNat_natCast] at q3
  show 0 ≤ s.2.getD i 0 ∧ s.2.getD i 0 < s.1.length ∧ (hp s.1 (s.2.getD i 0).toNat).h = ((i : Int), tb.uses.getD i 0)
  rw [q3, Int.toNat_natCast, ep]
  refine ⟨by omega, by omega, Prod.ext e ?_⟩
  have := slot x hx
  rw [e, Int.toNat_natCast] at this
  exact this.symm

def hasA (a : Ag) (n : Int) : Bool := a.heap.any fun x => x.no == n
def beginA (n : Nat) : Ag := ⟨beginT n, [], List.replicate n (-1)⟩
/-- The handle that is given out next. -/
def nextH (a : Ag) : Int × Int := (topL a.tb.free, a.tb.uses.getD (topL a.tb.free).toNat 0 + 1)
def pushS (a : Ag) (t : Int × Int) (n : Int) : Hw := (a.heap ++ [⟨t, n, nextH a⟩], a.wh.set (topL a.tb.free).toNat a.heap.length)
def pushedA (a : Ag) (t : Int × Int) (n : Int) : Ag := ⟨a.tb.taken, (upA a.heap.length (pushS a t n) a.heap.length).1.1, (upA a.heap.length (pushS a t n) a.heap.length).1.2⟩
def pushA (a : Ag) (t : Int × Int) (n : Int) : Ag × (Int × Int) × Int :=
  if okA a ∧ okR t then (if n < 0 ∨ 1000000 < n then (.zero, (0, 0), 2) else if hasA a n = true then (.zero, (0, 0), 14) else if a.tb.canTake = true then (pushedA a t n, nextH a, 0) else (.zero, (0, 0), 18)) else (.zero, (0, 0), 8)
def topA (a : Ag) : Ev × Int := if okA a then (if a.heap.length = 0 then (e0, 42) else (hp a.heap 0, 0)) else (e0, 8)
def atA (a : Ag) (h : Int × Int) : Nat := (a.wh.getD h.1.toNat 0).toNat
def findA (a : Ag) (h : Int × Int) : Ev × Int := if okA a then (if a.tb.live h.1 h.2 = true then (hp a.heap (atA a h), 0) else (e0, 6)) else (e0, 8)
theorem okA.begin {n : Nat} (h1 : 1 ≤ n) (h2 : n ≤ 200) : okA (beginA n) := by
  refine ⟨okT.begin h1 h2, by simp [beginA, beginT], by simp [beginA, beginT], fun i hi _ => ?_, fun i hi hu => ?_, fun x hx => by simp [beginA] at hx, by simp [beginA], fun i _ hi => by simp [beginA] at hi⟩
  · have : i < n := by simpa [beginA, beginT] using hi
    simp [beginA, List.getD, this]
  · have : i < n := by simpa [beginA, beginT] using hi
    simp [beginA, beginT, List.getD, this] at hu

theorem hp_left {h : List Ev} {x : Ev} {i : Nat} (hi : i < h.length) : hp (h ++ [x]) i = hp h i := by
  unfold hp; rw [List.getD_eq_getElem?_getD, List.getD_eq_getElem?_getD, List.getElem?_append_left hi]
theorem hp_right {h : List Ev} {x : Ev} : hp (h ++ [x]) h.length = x := by
  unfold hp; rw [List.getD_eq_getElem?_getD, List.getElem?_append_right (Nat.le_refl _)]; simp

/-- The parts of pushing. -/
theorem push_parts {a : Ag} {t : Int × Int} {n : Int} (ok : okA a) (ht : okR t) (hc : a.tb.canTake = true) :
    plA (pushS a t n) ∧ Go.Eng.posH (pushS a t n).1 ∧ TopH (pushS a t n).1 a.heap.length ∧ (pushS a t n).1.length = a.heap.length + 1 := by
  obtain ⟨hf, hu⟩ := canTake_iff.1 hc
  obtain ⟨tm, t0, t1⟩ := ok.tb.topR hf
  have td := ok.tb.topD hf
  have hw := ok.wl
  have ix : ∀ p, p < a.heap.length → (hp a.heap p).h.1.toNat ≠ (topL a.tb.free).toNat := fun p hp' e => by
    have := (ok.slot (hp_mem hp')).2.2.1
    rw [e, td] at this; cases this
  refine ⟨fun p hp' => ?_, fun x hx => ?_, ⟨fun j j1 j2 j3 => ?_, fun j j1 j2 j3 j4 => ?_⟩, by simp [pushS]⟩
  · have hpl : p < a.heap.length + 1 := by simpa [pushS] using hp'
    show 0 ≤ (hp (a.heap ++ [_]) p).h.1 ∧ (hp (a.heap ++ [_]) p).h.1 < (a.wh.set _ _).length ∧ (a.wh.set _ _).getD (hp (a.heap ++ [_]) p).h.1.toNat 0 = p
    rw [List.length_set, getD_setI (by omega)]
    rcases Nat.lt_or_ge p a.heap.length with h | h
    · rw [hp_left h]
      obtain ⟨p1, p2, p3⟩ := ok.pl p h
      refine ⟨p1, p2, ?_⟩
      rw [if_neg (fun e => ix p h e.symm)]; exact p3
    · have : p = a.heap.length := by omega
      subst this
      rw [hp_right]
      exact ⟨t0, by show topL a.tb.free < _; omega, if_pos rfl⟩
  · rcases List.mem_append.1 hx with hx | hx
    · exact ok.posH x hx
    · simp only [List.mem_singleton] at hx; subst hx; exact ht.d1
  · have hj : j < a.heap.length := by simp [pushS] at j2; omega
    have := par_lt (i := j) j1
    show lessE (hp (a.heap ++ [_]) j) (hp (a.heap ++ [_]) (par j)) = false
    rw [hp_left hj, hp_left (by omega)]
    exact ok.ord j j1 hj
  · exfalso
    simp [pushS] at j2
    unfold par at j3; omega

theorem pushed_kept {a : Ag} {t : Int × Int} {n : Int} (ok : okA a) (ht : okR t) (hc : a.tb.canTake = true) : Kept (pushS a t n) (upA a.heap.length (pushS a t n) a.heap.length).1 ∧ ordH (upA a.heap.length (pushS a t n) a.heap.length).1.1 := by
  obtain ⟨h1, h2, h3, h4⟩ := push_parts (n := n) ok ht hc
  exact ⟨(upA_kept _ _ _ h1 (by omega)).1, upA_top _ _ _ h1 h2 h3 (by omega) (Nat.le_refl _)⟩

theorem pushed_perm {a : Ag} {t : Int × Int} {n : Int} (ok : okA a) (ht : okR t) (hc : a.tb.canTake = true) : (pushedA a t n).heap.Perm (⟨t, n, nextH a⟩ :: a.heap) :=
  (pushed_kept ok ht hc).1.perm.trans (List.perm_append_singleton _ _)

theorem okA.pushed {a : Ag} {t : Int × Int} {n : Int} (ok : okA a) (ht : okR t) (h0 : 0 ≤ n) (h1 : n ≤ 1000000) (hn : hasA a n = false) (hc : a.tb.canTake = true) : okA (pushedA a t n) := by
  obtain ⟨k, o⟩ := pushed_kept (n := n) ok ht hc
  have pm := pushed_perm (n := n) ok ht hc
  obtain ⟨hf, hu⟩ := canTake_iff.1 hc
  obtain ⟨tm, t0, t1⟩ := ok.tb.topR hf
  have td := ok.tb.topD hf
  have hw := ok.wl
  have hl := ok.hl
  have lu : a.tb.taken.uses.length = a.tb.uses.length := by simp [Tb.taken]
  have lus : a.tb.used.length = a.tb.uses.length := ok.tb.len
  have usd : ∀ i : Nat, a.tb.taken.used.getD i false = if (topL a.tb.free).toNat = i then true else a.tb.used.getD i false := fun i => getD_set (by omega)
  have use : ∀ i : Nat, a.tb.taken.uses.getD i 0 = if (topL a.tb.free).toNat = i then a.tb.uses.getD (topL a.tb.free).toNat 0 + 1 else a.tb.uses.getD i 0 := fun i => getD_set (by omega)
  have memb : ∀ x, x ∈ (upA a.heap.length (pushS a t n) a.heap.length).1.1 ↔ x = ⟨t, n, nextH a⟩ ∨ x ∈ a.heap := fun x => by rw [← List.mem_cons]; exact pm.mem_iff
  have hlen : (upA a.heap.length (pushS a t n) a.heap.length).1.1.length = a.heap.length + 1 := by rw [k.len]; simp [pushS]
  refine okA.make (s := (upA a.heap.length (pushS a t n) a.heap.length).1) (ok.tb.taken hc) ?_ ?_ k.pl o (fun x hx => ?_) ?_ (fun x hx => ?_) (fun i hi hu' => ?_) (fun i hi hu' => ?_)
  · rw [k.wlen, lu]; simp [pushS]; exact hw
  · rw [hlen, lu]
    have : a.tb.taken.free.length = a.tb.free.length - 1 := by simp [Tb.taken]
    omega
  · rcases (memb x).1 hx with rfl | hx
    · exact ⟨ht, h0, h1⟩
    · exact ok.each x hx
  · have : (List.map (·.no) (upA a.heap.length (pushS a t n) a.heap.length).1.1).Perm (n :: a.heap.map (·.no)) := pm.map _
    rw [this.nodup_iff, List.nodup_cons]
    refine ⟨fun hm => ?_, ok.nos⟩
    obtain ⟨y, hy, e⟩ := List.mem_map.1 hm
    have : hasA a n = true := List.any_eq_true.2 ⟨y, hy, by simpa using e⟩
    rw [hn] at this; cases this
  · rcases (memb x).1 hx with rfl | hx
    · rw [use]; simp [nextH]
    · have s := ok.slot hx
      rw [use, if_neg, s.2.2.2.1]
      intro e
      rw [← e, td] at s; exact absurd s.2.2.1 (by simp)
  · rw [usd] at hu'
    by_cases e : (topL a.tb.free).toNat = i
    · exact ⟨_, (memb _).2 (.inl rfl), by show topL a.tb.free = i; omega⟩
    · rw [if_neg e] at hu'
      have hi' : i < a.tb.uses.length := by rw [lu] at hi; exact hi
      have := ok.used i hi' hu'
      exact ⟨_, (memb _).2 (.inr (hp_mem (by omega : (a.wh.getD i 0).toNat < a.heap.length))), by rw [this.2.2]⟩
  · rw [usd] at hu'
    have hi' : i < a.tb.uses.length := by rw [lu] at hi; exact hi
    by_cases e : (topL a.tb.free).toNat = i
    · rw [if_pos e] at hu'; cases hu'
    · rw [if_neg e] at hu'
      rw [k.same i (fun x hx he => ?_)]
      · show (a.wh.set _ _).getD i 0 = -1
        rw [getD_setI (by omega), if_neg e]; exact ok.free i hi' hu'
      · rcases List.mem_append.1 hx with hx | hx
        · have s := ok.slot hx
          rw [he, hu'] at s; exact absurd s.2.2.1 (by simp)
        · simp only [List.mem_singleton] at hx; subst hx; exact e he

/-- What is found. -/
theorem find_mem {a : Ag} {h : Int × Int} (ok : okA a) (hl : a.tb.live h.1 h.2 = true) : hp a.heap (atA a h) ∈ a.heap ∧ (hp a.heap (atA a h)).h = h ∧ atA a h < a.heap.length := by
  obtain ⟨h1, h2, h3⟩ := ok.slotOf hl
  have : atA a h < a.heap.length := by unfold atA; omega
  exact ⟨hp_mem this, h3, this⟩
theorem find_eq {a : Ag} {x : Ev} (ok : okA a) (hx : x ∈ a.heap) : findA a x.h = (x, 0) ∧ hp a.heap (atA a x.h) = x := by
  have hl := (ok.slot hx).2.2.2.2
  obtain ⟨m1, m2, m3⟩ := find_mem ok hl
  have e : hp a.heap (atA a x.h) = x := by
    obtain ⟨p, hp'⟩ := List.mem_iff_getElem?.1 hx
    have hlt := (List.getElem?_eq_some_iff.1 hp').1
    have ep : hp a.heap p = x := by unfold hp; rw [List.getD_eq_getElem?_getD, hp']; rfl
    have := ok.pl.inj m3 hlt (by show (hp a.heap _).h.1 = (hp a.heap p).h.1; rw [m2, ep])
    rw [this, ep]
  refine ⟨?_, e⟩
  unfold findA
  rw [if_pos ok, if_pos hl, e]

end Go.Eng
end
section
/- Agendas: removing, rekeying, the order. Conditions: none. -/
namespace Go.Eng

theorem Kept.neg {s t : Hw} (k : Kept s t) (pl : plA s) {j : Nat} (h : s.2.getD j 0 = -1) : t.2.getD j 0 = -1 := by
  rw [k.same j fun x hx e => ?_, h]
  obtain ⟨p, hp'⟩ := List.mem_iff_getElem?.1 hx
  have hlt := (List.getElem?_eq_some_iff.1 hp').1
  have ep : hp s.1 p = x := by unfold hp; rw [List.getD_eq_getElem?_getD, hp']; rfl
  have := (pl p hlt).2.2
  rw [ep, e, h] at this
  omega

end Go.Eng
end
