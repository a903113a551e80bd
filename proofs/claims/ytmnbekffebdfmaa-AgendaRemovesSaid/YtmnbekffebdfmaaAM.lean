/- Agendas, in plain words. Conditions: none. -/
import Derived.Test.YtmnbekffebdfmaaE5
set_option linter.unusedVariables false
namespace Go.Eng

structure Ag where
  tb : Tb
  heap : List Ev
  wh : List Int
deriving DecidableEq
def Ag.zero : Ag := ⟨.zero, [], []⟩

def par (i : Nat) : Nat := (i - 1) / 2
def hp (h : List Ev) (i : Nat) : Ev := h.getD i e0
abbrev Hw := List Ev × List Int

structure okA (a : Ag) : Prop where
  tb : okT a.tb
  wl : a.wh.length = a.tb.uses.length
  hl : a.heap.length + a.tb.free.length = a.tb.uses.length
  free : ∀ i : Nat, i < a.tb.uses.length → a.tb.used.getD i false = false → a.wh.getD i 0 = -1
  used : ∀ i : Nat, i < a.tb.uses.length → a.tb.used.getD i false = true → 0 ≤ a.wh.getD i 0 ∧ a.wh.getD i 0 < a.heap.length ∧ (hp a.heap (a.wh.getD i 0).toNat).h = ((i : Int), a.tb.uses.getD i 0)
  each : ∀ x ∈ a.heap, okR x.at_ ∧ 0 ≤ x.no ∧ x.no ≤ 1000000
  nos : (a.heap.map (·.no)).Nodup
  ord : ∀ i : Nat, 1 ≤ i → i < a.heap.length → lessE (hp a.heap i) (hp a.heap (par i)) = false

instance (a : Ag) : Decidable (okA a) :=
  decidable_of_iff (okT a.tb ∧ a.wh.length = a.tb.uses.length ∧ a.heap.length + a.tb.free.length = a.tb.uses.length ∧ (∀ i : Nat, i < a.tb.uses.length → a.tb.used.getD i false = false → a.wh.getD i 0 = -1) ∧
    (∀ i : Nat, i < a.tb.uses.length → a.tb.used.getD i false = true → 0 ≤ a.wh.getD i 0 ∧ a.wh.getD i 0 < a.heap.length ∧ (hp a.heap (a.wh.getD i 0).toNat).h = ((i : Int), a.tb.uses.getD i 0)) ∧
    (∀ x ∈ a.heap, okR x.at_ ∧ 0 ≤ x.no ∧ x.no ≤ 1000000) ∧ (a.heap.map (·.no)).Nodup ∧ (∀ i : Nat, i < a.heap.length → 1 ≤ i → lessE (hp a.heap i) (hp a.heap (par i)) = false))
    ⟨fun ⟨a, b, c, d, e, f, g, h⟩ => ⟨a, b, c, d, e, f, g, fun i h1 h2 => h i h2 h1⟩, fun ⟨a, b, c, d, e, f, g, h⟩ => ⟨a, b, c, d, e, f, g, fun i h1 h2 => h i h2 h1⟩⟩

def chkA (a : Ag) : Int := if okA a then 0 else 8
theorem chkA_ok {a : Ag} (h : okA a) : chkA a = 0 := by unfold chkA; rw [if_pos h]
theorem chkA_bad {a : Ag} (h : ¬ okA a) : chkA a = 8 := by unfold chkA; rw [if_neg h]
theorem chkA_zero {a : Ag} : chkA a = 0 ↔ okA a := by
  by_cases h : okA a
  · simp [chkA_ok h, h]
  · simp [chkA_bad h, h]

theorem hp_get {h : List Ev} {i : Nat} (hi : i < h.length) : h[i]? = some (hp h i) := by simp [hp, List.getD, hi]
theorem hp_mem {h : List Ev} {i : Nat} (hi : i < h.length) : hp h i ∈ h := List.mem_of_getElem? (hp_get hi)
theorem hp_set {h : List Ev} {i j : Nat} {x : Ev} (hi : i < h.length) : hp (h.set i x) j = if i = j then x else hp h j := getD_set hi
theorem par_lt {i : Nat} (h : 1 ≤ i) : par i < i := by unfold par; omega

/-- Two events change places. -/
def swapE (s : Hw) (i k : Nat) : Hw :=
  ((s.1.set i (hp s.1 k)).set k (hp s.1 i), (s.2.set (hp s.1 k).h.1.toNat i).set (hp s.1 i).h.1.toNat k)

def upA : Nat → Hw → Nat → Hw × Nat
  | 0, s, i => (s, i)
  | f + 1, s, i => if 0 < i ∧ lessE (hp s.1 i) (hp s.1 (par i)) = true then upA f (swapE s i (par i)) (par i) else (s, i)
/-- The child to look at: the lesser one. -/
def kid (h : List Ev) (i : Nat) : Nat := if 2 * i + 2 < h.length ∧ lessE (hp h (2 * i + 2)) (hp h (2 * i + 1)) = true then 2 * i + 2 else 2 * i + 1
def downA : Nat → Hw → Nat → Hw
  | 0, s, _ => s
  | f + 1, s, i => if 2 * i + 1 < s.1.length ∧ lessE (hp s.1 (kid s.1 i)) (hp s.1 i) = true then downA f (swapE s i (kid s.1 i)) (kid s.1 i) else s
def moveA (s : Hw) (i : Nat) : Hw := let u := upA i s i; downA s.1.length u.1 u.2

theorem swapE_len (s : Hw) (i k : Nat) : (swapE s i k).1.length = s.1.length ∧ (swapE s i k).2.length = s.2.length := by simp [swapE]
theorem upA_fuel : ∀ (f g : Nat) (s : Hw) (i : Nat), i ≤ f → i ≤ g → upA f s i = upA g s i
  | 0, 0, _, _, _, _ => rfl
  | 0, g + 1, s, i, h, _ => by
    have : i = 0 := by omega
    subst this; simp [upA]
  | f + 1, 0, s, i, _, h => by
    have : i = 0 := by omega
    subst this; simp [upA]
  | f + 1, g + 1, s, i, h, h' => by
    unfold upA
    split
    · rename_i hc
      have := par_lt (i := i) (by omega)
      exact upA_fuel f g _ _ (by omega) (by omega)
    · rfl
theorem kid_gt (h : List Ev) (i : Nat) : i < kid h i ∧ (2 * i + 1 < h.length → kid h i < h.length) ∧ par (kid h i) = i := by
  unfold kid par; split <;> omega
theorem downA_fuel : ∀ (f g : Nat) (s : Hw) (i : Nat), s.1.length ≤ f + i → s.1.length ≤ g + i → downA f s i = downA g s i
  | 0, 0, _, _, _, _ => rfl
  | 0, g + 1, s, i, h, _ => by
    unfold downA; rw [if_neg (by omega)]
  | f + 1, 0, s, i, _, h => by
    unfold downA; rw [if_neg (by omega)]
  | f + 1, g + 1, s, i, h, h' => by
    unfold downA
    split
    · have k := kid_gt s.1 i
      have l := (swapE_len s i (kid s.1 i)).1
      exact downA_fuel f g _ _ (by omega) (by omega)
    · rfl

/-- Some steps of it. -/
theorem upA_step {f : Nat} {s : Hw} {i : Nat} (hf : i ≤ f) (h0 : 0 < i) (h : lessE (hp s.1 i) (hp s.1 (par i)) = true) : upA f s i = upA f (swapE s i (par i)) (par i) := by
  have := par_lt (i := i) h0
  rw [upA_fuel f (f + 1) s i hf (by omega)]
  conv => lhs; unfold upA
  rw [if_pos ⟨h0, h⟩]
theorem upA_stop {f : Nat} {s : Hw} {i : Nat} (h : ¬ (0 < i ∧ lessE (hp s.1 i) (hp s.1 (par i)) = true)) : upA f s i = (s, i) := by
  cases f with
  | zero => rfl
  | succ f => unfold upA; rw [if_neg h]
theorem downA_step {f : Nat} {s : Hw} {i : Nat} (hf : s.1.length ≤ f + i) (h0 : 2 * i + 1 < s.1.length) (h : lessE (hp s.1 (kid s.1 i)) (hp s.1 i) = true) : downA f s i = downA f (swapE s i (kid s.1 i)) (kid s.1 i) := by
  have k := kid_gt s.1 i
  have l := (swapE_len s i (kid s.1 i)).1
  rw [downA_fuel f (f + 1) s i hf (by omega)]
  conv => lhs; unfold downA
  rw [if_pos ⟨h0, h⟩]
theorem downA_stop {f : Nat} {s : Hw} {i : Nat} (h : ¬ (2 * i + 1 < s.1.length ∧ lessE (hp s.1 (kid s.1 i)) (hp s.1 i) = true)) : downA f s i = s := by
  cases f with
  | zero => rfl
  | succ f => unfold downA; rw [if_neg h]

/-- Each event is where it is said to be. -/
def plA (s : Hw) : Prop := ∀ p, p < s.1.length → 0 ≤ (hp s.1 p).h.1 ∧ (hp s.1 p).h.1 < s.2.length ∧ s.2.getD (hp s.1 p).h.1.toNat 0 = p

theorem getD_setI {l : List Int} {i j : Nat} {x : Int} (h : i < l.length) : (l.set i x).getD j 0 = if i = j then x else l.getD j 0 := getD_set h

theorem plA.inj {s : Hw} (h : plA s) {p q : Nat} (hp' : p < s.1.length) (hq : q < s.1.length) (e : (hp s.1 p).h.1 = (hp s.1 q).h.1) : p = q := by
  have a := (h p hp').2.2; have b := (h q hq).2.2
  rw [e] at a; omega

theorem hp_swap {s : Hw} {i k : Nat} (hi : i < s.1.length) (hk : k < s.1.length) (j : Nat) : hp (swapE s i k).1 j = if k = j then hp s.1 i else if i = j then hp s.1 k else hp s.1 j := by
  show hp ((s.1.set i (hp s.1 k)).set k (hp s.1 i)) j = _
  rw [hp_set (by simpa using hk), hp_set hi]

theorem plA.swap {s : Hw} (h : plA s) {i k : Nat} (hi : i < s.1.length) (hk : k < s.1.length) : plA (swapE s i k) := by
  intro p hpl
  rw [(swapE_len s i k).1] at hpl
  rw [(swapE_len s i k).2, hp_swap hi hk]
  obtain ⟨i1, i2, i3⟩ := h i hi
  obtain ⟨k1, k2, k3⟩ := h k hk
  have gs : ∀ j : Nat, (swapE s i k).2.getD j 0 = if (hp s.1 i).h.1.toNat = j then (k : Int) else if (hp s.1 k).h.1.toNat = j then (i : Int) else s.2.getD j 0 := fun j => by
    show ((s.2.set _ _).set _ _).getD j 0 = _
    rw [getD_setI (by simp; omega), getD_setI (by omega)]
  rw [gs]
  by_cases e1 : k = p
  · subst e1; rw [if_pos rfl, if_pos rfl]; exact ⟨i1, i2, rfl⟩
  · rw [if_neg e1]
    by_cases e2 : i = p
    · subst e2; rw [if_pos rfl, if_pos rfl]
      refine ⟨k1, k2, ?_⟩
      by_cases e3 : (hp s.1 i).h.1.toNat = (hp s.1 k).h.1.toNat
      · exact absurd (h.inj hi hk (by omega)) (fun e => e1 e.symm)
      · rw [if_neg e3]
    · rw [if_neg e2]
      obtain ⟨p1, p2, p3⟩ := h p hpl
      refine ⟨p1, p2, ?_⟩
      rw [if_neg, if_neg, p3]
      · intro e; exact e1 (h.inj hk hpl (by omega))
      · intro e; exact e2 (h.inj hi hpl (by omega))

theorem perm_swap {s : Hw} {i k : Nat} (hi : i < s.1.length) (hk : k < s.1.length) : (swapE s i k).1.Perm s.1 := by
  show ((s.1.set i (hp s.1 k)).set k (hp s.1 i)).Perm s.1
  generalize s.1 = l at *
  have e1 : hp l k = l[k] := by simp [hp, List.getD, hk]
  have e2 : hp l i = l[i] := by simp [hp, List.getD, hi]
  rw [e1, e2]
  by_cases h : i = k
  · subst h; simp
  · rw [List.perm_iff_count]
    intro x
    have h1 := List.count_set (l := l.set i l[k]) (i := k) (a := l[i]) (b := x) (by simpa using hk)
    have h2 := List.count_set (l := l) (i := i) (a := l[k]) (b := x) hi
    rw [h1, h2, List.getElem_set_ne h]
    by_cases a : l[i] == x <;> by_cases b : l[k] == x <;> simp_all
    all_goals
      have p1 : ∀ (l : List Ev) (j : Nat) (hj : j < l.length), 0 < l.count l[j] := fun l j hj => List.count_pos_iff.2 (List.getElem_mem hj)
      first
        | (have := p1 l i hi; simp_all; done)
        | (have := p1 l k hk; simp_all; done)
        | (have := p1 l i hi; have := p1 l k hk; simp_all; omega)

/-- What moving keeps. -/
structure Kept (s t : Hw) : Prop where
  len : t.1.length = s.1.length
  wlen : t.2.length = s.2.length
  perm : t.1.Perm s.1
  pl : plA t
  same : ∀ j : Nat, (∀ x ∈ s.1, x.h.1.toNat ≠ j) → t.2.getD j 0 = s.2.getD j 0
theorem Kept.refl {s : Hw} (h : plA s) : Kept s s := ⟨rfl, rfl, List.Perm.refl _, h, fun _ _ => rfl⟩
theorem Kept.swap {s : Hw} (h : plA s) {i k : Nat} (hi : i < s.1.length) (hk : k < s.1.length) : Kept s (swapE s i k) := by
  refine ⟨(swapE_len s i k).1, (swapE_len s i k).2, perm_swap hi hk, h.swap hi hk, fun j hj => ?_⟩
  obtain ⟨i1, i2, i3⟩ := h i hi
  obtain ⟨k1, k2, k3⟩ := h k hk
  show ((s.2.set _ _).set _ _).getD j 0 = _
  rw [getD_setI (by simp; omega), getD_setI (by omega), if_neg (hj _ (hp_mem hi)), if_neg (hj _ (hp_mem hk))]
theorem Kept.trans {s t u : Hw} (a : Kept s t) (b : Kept t u) : Kept s u :=
  ⟨b.len.trans a.len, b.wlen.trans a.wlen, b.perm.trans a.perm, b.pl, fun j hj => (b.same j fun x hx => hj x (a.perm.mem_iff.1 hx)).trans (a.same j hj)⟩

theorem upA_kept : ∀ (f : Nat) (s : Hw) (i : Nat), plA s → i < s.1.length → Kept s (upA f s i).1 ∧ (upA f s i).2 ≤ i
  | 0, s, i, h, _ => ⟨Kept.refl h, Nat.le_refl _⟩
  | f + 1, s, i, h, hi => by
    unfold upA
    split
    · rename_i hc
      have hp := par_lt (i := i) hc.1
      have k := Kept.swap h hi (Nat.lt_trans hp hi)
      obtain ⟨a, b⟩ := upA_kept f _ (par i) k.pl (by rw [k.len]; omega)
      exact ⟨k.trans a, by omega⟩
    · exact ⟨Kept.refl h, Nat.le_refl _⟩
theorem downA_kept : ∀ (f : Nat) (s : Hw) (i : Nat), plA s → i < s.1.length → Kept s (downA f s i)
  | 0, s, i, h, _ => Kept.refl h
  | f + 1, s, i, h, hi => by
    unfold downA
    split
    · rename_i hc
      have hk := (kid_gt s.1 i).2.1 hc.1
      have k := Kept.swap h hi hk
      exact k.trans (downA_kept f _ _ k.pl (by rw [k.len]; exact hk))
    · exact Kept.refl h
theorem moveA_kept {s : Hw} {i : Nat} (h : plA s) (hi : i < s.1.length) : Kept s (moveA s i) := by
  obtain ⟨a, b⟩ := upA_kept i s i h hi
  exact a.trans (downA_kept _ _ _ a.pl (by rw [a.len]; omega))

/-- The order, but for what touches i. -/
structure MidH (h : List Ev) (i : Nat) : Prop where
  far : ∀ j, 1 ≤ j → j < h.length → j ≠ i → par j ≠ i → lessE (hp h j) (hp h (par j)) = false
  over : ∀ j, 1 ≤ j → j < h.length → par j = i → 1 ≤ i → lessE (hp h j) (hp h (par i)) = false
/-- The order, but for i and its children. -/
structure LowH (h : List Ev) (i : Nat) : Prop where
  far : ∀ j, 1 ≤ j → j < h.length → par j ≠ i → lessE (hp h j) (hp h (par j)) = false
  over : ∀ j, 1 ≤ j → j < h.length → par j = i → 1 ≤ i → lessE (hp h j) (hp h (par i)) = false
def ordH (h : List Ev) : Prop := ∀ j, 1 ≤ j → j < h.length → lessE (hp h j) (hp h (par j)) = false
def posH (h : List Ev) : Prop := ∀ x ∈ h, posD x

theorem posH.at {h : List Ev} (p : posH h) {i : Nat} (hi : i < h.length) : posD (hp h i) := p _ (hp_mem hi)
theorem posH.perm {h h' : List Ev} (p : posH h) (e : h'.Perm h) : posH h' := fun x hx => p x (e.mem_iff.1 hx)

theorem MidH.up {s : Hw} {i : Nat} (p : posH s.1) (m : MidH s.1 i) (hi : i < s.1.length) (h0 : 0 < i) (hl : lessE (hp s.1 i) (hp s.1 (par i)) = true) : MidH (swapE s i (par i)).1 (par i) := by
  have pl := par_lt (i := i) h0
  have hpl : par i < s.1.length := Nat.lt_trans pl hi
  have len := (swapE_len s i (par i)).1
  refine ⟨fun j j1 j2 j3 j4 => ?_, fun j j1 j2 j3 j4 => ?_⟩
  · rw [len] at j2
    have jp := par_lt (i := j) j1
    rw [hp_swap hi hpl j, hp_swap hi hpl (par j), if_neg (fun e => j3 e.symm : ¬ par i = j), if_neg (fun e => j4 e.symm : ¬ par i = par j)]
    by_cases e1 : i = j
    · subst e1; exact absurd rfl j4
    · rw [if_neg e1]
      by_cases e2 : i = par j
      · rw [if_pos e2]; exact m.over j j1 j2 e2.symm h0
      · rw [if_neg e2]; exact m.far j j1 j2 (fun e => e1 e.symm) (fun e => e2 e.symm)
  · rw [len] at j2
    have pp := par_lt (i := par i) j4
    rw [hp_swap hi hpl j, hp_swap hi hpl (par (par i))]
    have hgg : lessE (hp s.1 (par i)) (hp s.1 (par (par i))) = false := m.far (par i) j4 hpl (by omega) (by omega)
    rw [if_neg (by omega : ¬ par i = par (par i)), if_neg (by omega : ¬ i = par (par i))]
    rw [if_neg (by have := par_lt (i := j) j1; omega : ¬ par i = j)]
    by_cases e1 : i = j
    · rw [if_pos e1]; exact hgg
    · rw [if_neg e1]
      have := m.far j j1 j2 (fun e => e1 e.symm) (by omega)
      rw [j3] at this
      exact leE_trans (p.at (by omega)) (p.at hpl) (p.at j2) hgg this

theorem upA_mid : ∀ (f : Nat) (s : Hw) (i : Nat), plA s → posH s.1 → MidH s.1 i → i < s.1.length → i ≤ f → LowH (upA f s i).1.1 (upA f s i).2
  | f, s, i, h, p, m, hi, hf => by
    by_cases hc : 0 < i ∧ lessE (hp s.1 i) (hp s.1 (par i)) = true
    · have pl := par_lt (i := i) hc.1
      have k := Kept.swap h hi (Nat.lt_trans pl hi)
      rw [upA_step hf hc.1 hc.2]
      cases f with
      | zero => omega
      | succ f =>
        rw [upA_fuel (f + 1) f _ _ (by omega) (by omega)]
        exact upA_mid f _ (par i) k.pl (p.perm k.perm) (m.up p hi hc.1 hc.2) (by rw [k.len]; omega) (by omega)
    · rw [upA_stop hc]
      refine ⟨fun j j1 j2 j3 => ?_, m.over⟩
      by_cases e : j = i
      · subst e
        cases hx : lessE (hp s.1 j) (hp s.1 (par j)) with
        | false => rfl
        | true => exact absurd ⟨by omega, hx⟩ hc
      · exact m.far j j1 j2 e j3
termination_by f => f

/-- The same, where nothing is amiss below. -/
structure TopH (h : List Ev) (i : Nat) : Prop where
  far : ∀ j, 1 ≤ j → j < h.length → j ≠ i → lessE (hp h j) (hp h (par j)) = false
  over : ∀ j, 1 ≤ j → j < h.length → par j = i → 1 ≤ i → lessE (hp h j) (hp h (par i)) = false
theorem TopH.mid {h : List Ev} {i : Nat} (t : TopH h i) : MidH h i := ⟨fun j a b c _ => t.far j a b c, t.over⟩
theorem TopH.up {s : Hw} {i : Nat} (p : posH s.1) (m : TopH s.1 i) (hi : i < s.1.length) (h0 : 0 < i) (hl : lessE (hp s.1 i) (hp s.1 (par i)) = true) : TopH (swapE s i (par i)).1 (par i) := by
  have md := m.mid.up p hi h0 hl
  have pl := par_lt (i := i) h0
  have hpl : par i < s.1.length := Nat.lt_trans pl hi
  have len := (swapE_len s i (par i)).1
  refine ⟨fun j j1 j2 j3 => ?_, md.over⟩
  by_cases e : par j = par i
  · rw [len] at j2
    rw [hp_swap hi hpl j, hp_swap hi hpl (par j), if_pos e.symm, if_neg (fun e => j3 e.symm : ¬ par i = j)]
    by_cases e1 : i = j
    · rw [if_pos e1]; exact lessE_asymm hl
    · rw [if_neg e1]
      have := m.far j j1 j2 (fun e => e1 e.symm)
      rw [e] at this
      exact leE_trans (p.at hi) (p.at hpl) (p.at j2) (lessE_asymm hl) this
  · exact md.far j j1 j2 j3 e
theorem upA_top : ∀ (f : Nat) (s : Hw) (i : Nat), plA s → posH s.1 → TopH s.1 i → i < s.1.length → i ≤ f → ordH (upA f s i).1.1
  | f, s, i, h, p, m, hi, hf => by
    by_cases hc : 0 < i ∧ lessE (hp s.1 i) (hp s.1 (par i)) = true
    · have pl := par_lt (i := i) hc.1
      have k := Kept.swap h hi (Nat.lt_trans pl hi)
      rw [upA_step hf hc.1 hc.2]
      cases f with
      | zero => omega
      | succ f =>
        rw [upA_fuel (f + 1) f _ _ (by omega) (by omega)]
        exact upA_top f _ (par i) k.pl (p.perm k.perm) (m.up p hi hc.1 hc.2) (by rw [k.len]; omega) (by omega)
    · rw [upA_stop hc]
      intro j j1 j2
      by_cases e : j = i
      · subst e
        cases hx : lessE (hp s.1 j) (hp s.1 (par j)) with
        | false => rfl
        | true => exact absurd ⟨by omega, hx⟩ hc
      · exact m.far j j1 j2 e
termination_by f => f

theorem kid_le {h : List Ev} (p : posH h) {i j : Nat} (hj : j < h.length) (j1 : 1 ≤ j) (hpj : par j = i) : lessE (hp h j) (hp h (kid h i)) = false := by
  have hj2 : j = 2 * i + 1 ∨ j = 2 * i + 2 := by unfold par at hpj; omega
  unfold kid
  split
  · rename_i hc
    rcases hj2 with rfl | rfl
    · exact lessE_asymm hc.2
    · exact lessE_irrefl _
  · rename_i hc
    rcases hj2 with rfl | rfl
    · exact lessE_irrefl _
    · cases hx : lessE (hp h (2 * i + 2)) (hp h (2 * i + 1)) with
      | false => rfl
      | true => exact absurd ⟨hj, hx⟩ hc

theorem LowH.down {s : Hw} {i : Nat} (p : posH s.1) (m : LowH s.1 i) (hi : i < s.1.length) (h0 : 2 * i + 1 < s.1.length) (hl : lessE (hp s.1 (kid s.1 i)) (hp s.1 i) = true) : LowH (swapE s i (kid s.1 i)).1 (kid s.1 i) := by
  obtain ⟨k1, k2, k3⟩ := kid_gt s.1 i
  have hk := k2 h0
  have hkid := fun j hj j1 hpj => kid_le (h := s.1) p (i := i) (j := j) hj j1 hpj
  have len := (swapE_len s i (kid s.1 i)).1
  generalize kid s.1 i = k at *
  refine ⟨fun j j1 j2 j3 => ?_, fun j j1 j2 j3 j4 => ?_⟩
  · rw [len] at j2
    have jp := par_lt (i := j) j1
    rw [hp_swap hi hk j, hp_swap hi hk (par j), if_neg (fun e => j3 e.symm : ¬ k = par j)]
    by_cases e1 : i = par j
    · rw [if_pos e1]
      by_cases e2 : k = j
      · rw [if_pos e2]; exact lessE_asymm hl
      · rw [if_neg e2, if_neg (by omega)]; exact hkid j j2 j1 e1.symm
    · rw [if_neg e1]
      by_cases e2 : k = j
      · subst e2; exact absurd k3.symm e1
      · rw [if_neg e2]
        by_cases e3 : i = j
        · subst e3; rw [if_pos rfl]; exact m.over k (by omega) hk k3 j1
        · rw [if_neg e3]; exact m.far j j1 j2 (fun e => e1 e.symm)
  · rw [len] at j2
    have jp := par_lt (i := j) j1
    rw [hp_swap hi hk j, hp_swap hi hk (par k), k3, if_neg (by omega : ¬ k = j), if_neg (by omega : ¬ i = j), if_neg (by omega : ¬ k = i), if_pos rfl]
    have := m.far j j1 j2 (by omega)
    rw [j3] at this; exact this
theorem downA_low : ∀ (f : Nat) (s : Hw) (i : Nat), plA s → posH s.1 → LowH s.1 i → i < s.1.length → s.1.length ≤ f + i → ordH (downA f s i).1
  | f, s, i, h, p, m, hi, hf => by
    by_cases hc : 2 * i + 1 < s.1.length ∧ lessE (hp s.1 (kid s.1 i)) (hp s.1 i) = true
    · obtain ⟨k1, k2, k3⟩ := kid_gt s.1 i
      have hk := k2 hc.1
      have k := Kept.swap h hi hk
      rw [downA_step hf hc.1 hc.2]
      cases f with
      | zero => omega
      | succ f =>
        have hl := k.len
        rw [downA_fuel (f + 1) f _ _ (by omega) (by omega)]
        exact downA_low f _ _ k.pl (p.perm k.perm) (m.down p hi hc.1 hc.2) (by rw [hl]; exact hk) (by omega)
    · rw [downA_stop hc]
      intro j j1 j2
      by_cases e : par j = i
      · have hjk := kid_le p (i := i) j2 j1 e
        have h2 : 2 * i + 1 < s.1.length := by unfold par at e; omega
        have hk := (kid_gt s.1 i).2.1 h2
        have hx : lessE (hp s.1 (kid s.1 i)) (hp s.1 i) = false := by
          cases hx : lessE (hp s.1 (kid s.1 i)) (hp s.1 i) with
          | false => rfl
          | true => exact absurd ⟨h2, hx⟩ hc
        rw [e]
        exact leE_trans (p.at hi) (p.at hk) (p.at j2) hx hjk
      · exact m.far j j1 j2 e
termination_by f => f
theorem moveA_ord {s : Hw} {i : Nat} (h : plA s) (p : posH s.1) (m : MidH s.1 i) (hi : i < s.1.length) : ordH (moveA s i).1 := by
  obtain ⟨a, b⟩ := upA_kept i s i h hi
  have l := upA_mid i s i h p m hi (Nat.le_refl _)
  exact downA_low _ _ _ a.pl (p.perm a.perm) l (by rw [a.len]; omega) (by rw [a.len]; omega)

/-- The first one is not more than any other one. -/
theorem ordH.first {h : List Ev} (o : ordH h) (p : posH h) : ∀ (j : Nat), j < h.length → lessE (hp h j) (hp h 0) = false := by
  intro j
  induction j using Nat.strongRecOn with
  | _ j ih =>
    intro hj
    rcases Nat.eq_zero_or_pos j with e | e
    · subst e; exact lessE_irrefl _
    · have pl := par_lt (i := j) e
      exact leE_trans (p.at (by omega)) (p.at (by omega)) (p.at hj) (ih _ pl (by omega)) (o j e hj)
end Go.Eng
