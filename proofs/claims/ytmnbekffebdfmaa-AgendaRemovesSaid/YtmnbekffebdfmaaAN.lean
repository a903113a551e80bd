/- What is done with agendas, in plain words. Conditions: none. -/
import Derived.Test.YtmnbekffebdfmaaAM
set_option linter.unusedVariables false
namespace Go.Eng

theorem nodup_sub {α : Type} [DecidableEq α] : ∀ (A B : List α), A.Nodup → (∀ x ∈ A, x ∈ B) → A.length ≤ B.length
  | [], B, _, _ => by simp
  | x :: A, B, h, hs => by
    have hx : x ∈ B := hs x (List.mem_cons_self ..)
    obtain ⟨h1, h2⟩ := List.nodup_cons.1 h
    have := nodup_sub A (B.erase x) h2 fun y hy => by
      exact (List.mem_erase_of_ne (by rintro rfl; exact h1 hy)).2 (hs y (List.mem_cons_of_mem _ hy))
    rw [List.length_erase_of_mem hx] at this
    have := List.length_pos_of_mem hx
    simp; omega

theorem filter_parts {α : Type} (p : α → Bool) : ∀ l : List α, (l.filter p).length + (l.filter fun x => !p x).length = l.length
  | [] => rfl
  | x :: l => by
    have := filter_parts p l
    cases h : p x <;> simp [h] <;> omega

theorem okA.usedCount {a : Ag} (ok : okA a) : a.heap.length ≤ ((List.range a.tb.uses.length).filter fun i => a.tb.used.getD i false).length := by
  have h1 := filter_parts (fun i => a.tb.used.getD i false) (List.range a.tb.uses.length)
  have h2 : ((List.range a.tb.uses.length).filter fun i => !a.tb.used.getD i false).length ≤ a.tb.free.length := by
    have := nodup_sub ((((List.range a.tb.uses.length).filter fun i => !a.tb.used.getD i false)).map fun i : Nat => (i : Int)) a.tb.free
      (by
        rw [List.nodup_iff_pairwise_ne, List.pairwise_map]
        exact ((List.nodup_range (n := a.tb.uses.length)).sublist List.filter_sublist).imp fun h e => h (by omega))
      (fun x hx => by
        obtain ⟨i, hi, rfl⟩ := List.mem_map.1 hx
        obtain ⟨hr, hu⟩ := List.mem_filter.1 hi
        have := (ok.tb.each i (List.mem_range.1 hr)).2.2.1
        rcases Decidable.em ((i : Int) ∈ a.tb.free) with h | h
        · exact h
        · have e := this.2 h
          have hu : (!a.tb.used.getD i false) = true := hu
          rw [e] at hu; cases hu)
    rw [List.length_map] at this; exact this
  have h3 := ok.hl
  rw [List.length_range] at h1
  omega

/-- Each event is one of a slot that is used, and is where it is said to be. -/
theorem okA.at {a : Ag} (ok : okA a) {p : Nat} (hp' : p < a.heap.length) : ∃ i : Nat, i < a.tb.uses.length ∧ a.tb.used.getD i false = true ∧ a.wh.getD i 0 = p ∧ (hp a.heap p).h = ((i : Int), a.tb.uses.getD i 0) := by
  by_cases h : ∃ i : Nat, i < a.tb.uses.length ∧ a.tb.used.getD i false = true ∧ a.wh.getD i 0 = p
  · obtain ⟨i, h1, h2, h3⟩ := h
    have := (ok.used i h1 h2).2.2
    rw [h3, Int.toNat_natCast] at this
    exact ⟨i, h1, h2, h3, this⟩
  · exfalso
    have hc := ok.usedCount
    have hinj : ∀ i j : Nat, i < a.tb.uses.length → j < a.tb.uses.length → a.tb.used.getD i false = true → a.tb.used.getD j false = true → a.wh.getD i 0 = a.wh.getD j 0 → i = j := fun i j hi hj ui uj e => by
      have x := (ok.used i hi ui).2.2
      have y := (ok.used j hj uj).2.2
      rw [e, y] at x
      have := congrArg Prod.fst x
      simp only at this
      omega
    have hle := nodup_le a.heap.length ((p : Int) :: ((List.range a.tb.uses.length).filter fun i => a.tb.used.getD i false).map fun i => a.wh.getD i 0)
      (List.nodup_cons.2 ⟨fun hm => by
        obtain ⟨i, hi, e⟩ := List.mem_map.1 hm
        obtain ⟨hr, hu⟩ := List.mem_filter.1 hi
        exact h ⟨i, List.mem_range.1 hr, hu, e⟩, by
        rw [List.nodup_iff_pairwise_ne, List.pairwise_map]
        have := (List.nodup_range (n := a.tb.uses.length)).sublist (List.filter_sublist (p := fun i => a.tb.used.getD i false))
        rw [List.nodup_iff_pairwise_ne] at this
        refine List.Pairwise.imp_of_mem (fun {i j} hi hj hne e => ?_) this
        obtain ⟨hr, hu⟩ := List.mem_filter.1 hi
        obtain ⟨hr', hu'⟩ := List.mem_filter.1 hj
        exact hne (hinj i j (List.mem_range.1 hr) (List.mem_range.1 hr') hu hu' e)⟩)
      (fun x hx => by
        rcases List.mem_cons.1 hx with rfl | hx
        · omega
        · obtain ⟨i, hi, rfl⟩ := List.mem_map.1 hx
          obtain ⟨hr, hu⟩ := List.mem_filter.1 hi
          have := ok.used i (List.mem_range.1 hr) hu
          exact ⟨this.1, by omega⟩)
    rw [List.length_cons, List.length_map] at hle
    omega

theorem okA.pl {a : Ag} (ok : okA a) : plA (a.heap, a.wh) := fun p hp' => by
  obtain ⟨i, h1, h2, h3, h4⟩ := ok.at hp'
  have hw := ok.wl
  show 0 ≤ (hp a.heap p).h.1 ∧ (hp a.heap p).h.1 < a.wh.length ∧ a.wh.getD (hp a.heap p).h.1.toNat 0 = p
  rw [h4]
  refine ⟨by simp, by simp; omega, by simpa using h3⟩
theorem okA.posH {a : Ag} (ok : okA a) : Go.Eng.posH a.heap := fun x hx => (ok.each x hx).1.d1

/-- What an event says of its slot. -/
theorem okA.slot {a : Ag} (ok : okA a) {x : Ev} (hx : x ∈ a.heap) : 0 ≤ x.h.1 ∧ x.h.1 < a.tb.uses.length ∧ a.tb.used.getD x.h.1.toNat false = true ∧ a.tb.uses.getD x.h.1.toNat 0 = x.h.2 ∧ a.tb.live x.h.1 x.h.2 = true := by
  obtain ⟨p, hp'⟩ := List.mem_iff_getElem?.1 hx
  have hlt := (List.getElem?_eq_some_iff.1 hp').1
  obtain ⟨i, h1, h2, h3, h4⟩ := ok.at hlt
  have e : hp a.heap p = x := by unfold hp; rw [List.getD_eq_getElem?_getD, hp']; rfl
  rw [e] at h4
  rw [h4]
  simp only [Int.toNat_natCast]
  refine ⟨by omega, by omega, h2, trivial, live_iff.2 ⟨by omega, by omega, by simpa using h2, by simp⟩⟩
theorem okA.slotOf {a : Ag} (ok : okA a) {i u : Int} (hl : a.tb.live i u = true) : 0 ≤ a.wh.getD i.toNat 0 ∧ a.wh.getD i.toNat 0 < a.heap.length ∧ (hp a.heap (a.wh.getD i.toNat 0).toNat).h = (i, u) := by
  obtain ⟨h1, h2, h3, h4⟩ := live_iff.1 hl
  have := ok.used i.toNat (by omega) h3
  refine ⟨this.1, this.2.1, ?_⟩
  rw [this.2.2, Int.toNat_of_nonneg h1, h4]

/-- A valid agenda, put together. -/
theorem okA.make {tb : Tb} {s : Hw} (tok : okT tb) (hwl : s.2.length = tb.uses.length) (hl : s.1.length + tb.free.length = tb.uses.length) (pl : plA s) (o : ordH s.1) (each : ∀ x ∈ s.1, okR x.at_ ∧ 0 ≤ x.no ∧ x.no ≤ 1000000) (nos : (s.1.map (·.no)).Nodup)
    (slot : ∀ x ∈ s.1, tb.uses.getD x.h.1.toNat 0 = x.h.2) (all : ∀ i : Nat, i < tb.uses.length → tb.used.getD i false = true → ∃ x ∈ s.1, x.h.1 = i) (free : ∀ i : Nat, i < tb.uses.length → tb.used.getD i false = false → s.2.getD i 0 = -1) : okA ⟨tb, s.1, s.2⟩ := by
  refine ⟨tok, hwl, hl, free, fun i hi hu => ?_, each, nos, o⟩
  obtain ⟨x, hx, e⟩ := all i hi hu
  obtain ⟨p, hp'⟩ := List.mem_iff_getElem?.1 hx
  have hlt := (List.getElem?_eq_some_iff.1 hp').1
  have ep : hp s.1 p = x := by unfold hp; rw [List.getD_eq_getElem?_getD, hp']; rfl
  obtain ⟨q1, q2, q3⟩ := pl p hlt
  rw [ep, e, Int.toNat_natCast] at q3
  show 0 ≤ s.2.getD i 0 ∧ s.2.getD i 0 < s.1.length ∧ (hp s.1 (s.2.getD i 0).toNat).h = ((i : Int), tb.uses.getD i 0)
  rw [q3, Int.toNat_natCast, ep]
  refine ⟨by omega, by omega, Prod.ext e ?_⟩
  have := slot x hx
  rw [e, Int.toNat_natCast] at this
  exact this.symm

def hasA (a : Ag) (n : Int) : Bool := a.heap.any fun x => x.no == n
def beginA (n : Nat) : Ag := ⟨beginT n, [], List.replicate n (-1)⟩
def newA (n : Int) : Ag × Int := if n < 1 ∨ n > 200 then (.zero, 2) else (beginA n.toNat, 0)
/-- The handle that is given out next. -/
def nextH (a : Ag) : Int × Int := (topL a.tb.free, a.tb.uses.getD (topL a.tb.free).toNat 0 + 1)
def pushS (a : Ag) (t : Int × Int) (n : Int) : Hw := (a.heap ++ [⟨t, n, nextH a⟩], a.wh.set (topL a.tb.free).toNat a.heap.length)
def pushedA (a : Ag) (t : Int × Int) (n : Int) : Ag := ⟨a.tb.taken, (upA a.heap.length (pushS a t n) a.heap.length).1.1, (upA a.heap.length (pushS a t n) a.heap.length).1.2⟩
def pushA (a : Ag) (t : Int × Int) (n : Int) : Ag × (Int × Int) × Int :=
  if okA a ∧ okR t then (if n < 0 ∨ 1000000 < n then (.zero, (0, 0), 2) else if hasA a n = true then (.zero, (0, 0), 14) else if a.tb.canTake = true then (pushedA a t n, nextH a, 0) else (.zero, (0, 0), 18)) else (.zero, (0, 0), 8)
def topA (a : Ag) : Ev × Int := if okA a then (if a.heap.length = 0 then (e0, 42) else (hp a.heap 0, 0)) else (e0, 8)
def atA (a : Ag) (h : Int × Int) : Nat := (a.wh.getD h.1.toNat 0).toNat
def findA (a : Ag) (h : Int × Int) : Ev × Int := if okA a then (if a.tb.live h.1 h.2 = true then (hp a.heap (atA a h), 0) else (e0, 6)) else (e0, 8)
def remS (a : Ag) (h : Int × Int) : Hw := ((a.heap.set (atA a h) (hp a.heap (a.heap.length - 1))).take (a.heap.length - 1), (a.wh.set (hp a.heap (a.heap.length - 1)).h.1.toNat (atA a h)).set h.1.toNat (-1))
def removedA (a : Ag) (h : Int × Int) : Ag :=
  if atA a h = a.heap.length - 1 then ⟨a.tb.given h.1, a.heap.take (a.heap.length - 1), a.wh.set h.1.toNat (-1)⟩
  else ⟨a.tb.given h.1, (moveA (remS a h) (atA a h)).1, (moveA (remS a h) (atA a h)).2⟩
def removeA (a : Ag) (h : Int × Int) : Ag × Ev × Int := if (findA a h).2 = 0 then (removedA a h, (findA a h).1, 0) else (.zero, e0, (findA a h).2)
def popA (a : Ag) : Ag × Ev × Int := if (topA a).2 = 0 then (removedA a (topA a).1.h, (topA a).1, 0) else (.zero, e0, (topA a).2)
def reS (a : Ag) (h : Int × Int) (t : Int × Int) : Hw := (a.heap.set (atA a h) { hp a.heap (atA a h) with at_ := t }, a.wh)
def rekeyedA (a : Ag) (h : Int × Int) (t : Int × Int) : Ag := ⟨a.tb, (moveA (reS a h t) (atA a h)).1, (moveA (reS a h t) (atA a h)).2⟩
def rekeyA (a : Ag) (h : Int × Int) (t : Int × Int) : Ag × Int := if okA a ∧ okR t then (if a.tb.live h.1 h.2 = true then (rekeyedA a h t, 0) else (.zero, 6)) else (.zero, 8)

theorem okA.begin {n : Nat} (h1 : 1 ≤ n) (h2 : n ≤ 200) : okA (beginA n) := by
  refine ⟨okT.begin h1 h2, by simp [beginA, beginT], by simp [beginA, beginT], fun i hi _ => ?_, fun i hi hu => ?_, fun x hx => by simp [beginA] at hx, by simp [beginA], fun i _ hi => by simp [beginA] at hi⟩
  · have : i < n := by simpa [beginA, beginT] using hi
    simp [beginA, List.getD, this]
  · have : i < n := by simpa [beginA, beginT] using hi
    simp [beginA, beginT, List.getD, this] at hu

theorem hp_left {h : List Ev} {x : Ev} {i : Nat} (hi : i < h.length) : hp (h ++ [x]) i = hp h i := by
  unfold hp; rw [List.getD_eq_getElem?_getD, List.getD_eq_getElem?_getD, List.getElem?_append_left hi]
theorem hp_right {h : List Ev} {x : Ev} : hp (h ++ [x]) h.length = x := by
  unfold hp; rw [List.getD_eq_getElem?_getD, List.getElem?_append_right (Nat.le_refl _)]; simp

/-- The parts of pushing. -/
theorem push_parts {a : Ag} {t : Int × Int} {n : Int} (ok : okA a) (ht : okR t) (hc : a.tb.canTake = true) :
    plA (pushS a t n) ∧ Go.Eng.posH (pushS a t n).1 ∧ TopH (pushS a t n).1 a.heap.length ∧ (pushS a t n).1.length = a.heap.length + 1 := by
  obtain ⟨hf, hu⟩ := canTake_iff.1 hc
  obtain ⟨tm, t0, t1⟩ := ok.tb.topR hf
  have td := ok.tb.topD hf
  have hw := ok.wl
  have ix : ∀ p, p < a.heap.length → (hp a.heap p).h.1.toNat ≠ (topL a.tb.free).toNat := fun p hp' e => by
    have := (ok.slot (hp_mem hp')).2.2.1
    rw [e, td] at this; cases this
  refine ⟨fun p hp' => ?_, fun x hx => ?_, ⟨fun j j1 j2 j3 => ?_, fun j j1 j2 j3 j4 => ?_⟩, by simp [pushS]⟩
  · have hpl : p < a.heap.length + 1 := by simpa [pushS] using hp'
    show 0 ≤ (hp (a.heap ++ [_]) p).h.1 ∧ (hp (a.heap ++ [_]) p).h.1 < (a.wh.set _ _).length ∧ (a.wh.set _ _).getD (hp (a.heap ++ [_]) p).h.1.toNat 0 = p
    rw [List.length_set, getD_setI (by omega)]
    rcases Nat.lt_or_ge p a.heap.length with h | h
    · rw [hp_left h]
      obtain ⟨p1, p2, p3⟩ := ok.pl p h
      refine ⟨p1, p2, ?_⟩
      rw [if_neg (fun e => ix p h e.symm)]; exact p3
    · have : p = a.heap.length := by omega
      subst this
      rw [hp_right]
      exact ⟨t0, by show topL a.tb.free < _; omega, if_pos rfl⟩
  · rcases List.mem_append.1 hx with hx | hx
    · exact ok.posH x hx
    · simp only [List.mem_singleton] at hx; subst hx; exact ht.d1
  · have hj : j < a.heap.length := by simp [pushS] at j2; omega
    have := par_lt (i := j) j1
    show lessE (hp (a.heap ++ [_]) j) (hp (a.heap ++ [_]) (par j)) = false
    rw [hp_left hj, hp_left (by omega)]
    exact ok.ord j j1 hj
  · exfalso
    simp [pushS] at j2
    unfold par at j3; omega

theorem pushed_kept {a : Ag} {t : Int × Int} {n : Int} (ok : okA a) (ht : okR t) (hc : a.tb.canTake = true) : Kept (pushS a t n) (upA a.heap.length (pushS a t n) a.heap.length).1 ∧ ordH (upA a.heap.length (pushS a t n) a.heap.length).1.1 := by
  obtain ⟨h1, h2, h3, h4⟩ := push_parts (n := n) ok ht hc
  exact ⟨(upA_kept _ _ _ h1 (by omega)).1, upA_top _ _ _ h1 h2 h3 (by omega) (Nat.le_refl _)⟩

theorem pushed_perm {a : Ag} {t : Int × Int} {n : Int} (ok : okA a) (ht : okR t) (hc : a.tb.canTake = true) : (pushedA a t n).heap.Perm (⟨t, n, nextH a⟩ :: a.heap) :=
  (pushed_kept ok ht hc).1.perm.trans (List.perm_append_singleton _ _)

theorem okA.pushed {a : Ag} {t : Int × Int} {n : Int} (ok : okA a) (ht : okR t) (h0 : 0 ≤ n) (h1 : n ≤ 1000000) (hn : hasA a n = false) (hc : a.tb.canTake = true) : okA (pushedA a t n) := by
  obtain ⟨k, o⟩ := pushed_kept (n := n) ok ht hc
  have pm := pushed_perm (n := n) ok ht hc
  obtain ⟨hf, hu⟩ := canTake_iff.1 hc
  obtain ⟨tm, t0, t1⟩ := ok.tb.topR hf
  have td := ok.tb.topD hf
  have hw := ok.wl
  have hl := ok.hl
  have lu : a.tb.taken.uses.length = a.tb.uses.length := by simp [Tb.taken]
  have lus : a.tb.used.length = a.tb.uses.length := ok.tb.len
  have usd : ∀ i : Nat, a.tb.taken.used.getD i false = if (topL a.tb.free).toNat = i then true else a.tb.used.getD i false := fun i => getD_set (by omega)
  have use : ∀ i : Nat, a.tb.taken.uses.getD i 0 = if (topL a.tb.free).toNat = i then a.tb.uses.getD (topL a.tb.free).toNat 0 + 1 else a.tb.uses.getD i 0 := fun i => getD_set (by omega)
  have memb : ∀ x, x ∈ (upA a.heap.length (pushS a t n) a.heap.length).1.1 ↔ x = ⟨t, n, nextH a⟩ ∨ x ∈ a.heap := fun x => by rw [← List.mem_cons]; exact pm.mem_iff
  have hlen : (upA a.heap.length (pushS a t n) a.heap.length).1.1.length = a.heap.length + 1 := by rw [k.len]; simp [pushS]
  refine okA.make (s := (upA a.heap.length (pushS a t n) a.heap.length).1) (ok.tb.taken hc) ?_ ?_ k.pl o (fun x hx => ?_) ?_ (fun x hx => ?_) (fun i hi hu' => ?_) (fun i hi hu' => ?_)
  · rw [k.wlen, lu]; simp [pushS]; exact hw
  · rw [hlen, lu]
    have : a.tb.taken.free.length = a.tb.free.length - 1 := by simp [Tb.taken]
    omega
  · rcases (memb x).1 hx with rfl | hx
    · exact ⟨ht, h0, h1⟩
    · exact ok.each x hx
  · have : (List.map (·.no) (upA a.heap.length (pushS a t n) a.heap.length).1.1).Perm (n :: a.heap.map (·.no)) := pm.map _
    rw [this.nodup_iff, List.nodup_cons]
    refine ⟨fun hm => ?_, ok.nos⟩
    obtain ⟨y, hy, e⟩ := List.mem_map.1 hm
    have : hasA a n = true := List.any_eq_true.2 ⟨y, hy, by simpa using e⟩
    rw [hn] at this; cases this
  · rcases (memb x).1 hx with rfl | hx
    · rw [use]; simp [nextH]
    · have s := ok.slot hx
      rw [use, if_neg, s.2.2.2.1]
      intro e
      rw [← e, td] at s; exact absurd s.2.2.1 (by simp)
  · rw [usd] at hu'
    by_cases e : (topL a.tb.free).toNat = i
    · exact ⟨_, (memb _).2 (.inl rfl), by show topL a.tb.free = i; omega⟩
    · rw [if_neg e] at hu'
      have hi' : i < a.tb.uses.length := by rw [lu] at hi; exact hi
      have := ok.used i hi' hu'
      exact ⟨_, (memb _).2 (.inr (hp_mem (by omega : (a.wh.getD i 0).toNat < a.heap.length))), by rw [this.2.2]⟩
  · rw [usd] at hu'
    have hi' : i < a.tb.uses.length := by rw [lu] at hi; exact hi
    by_cases e : (topL a.tb.free).toNat = i
    · rw [if_pos e] at hu'; cases hu'
    · rw [if_neg e] at hu'
      rw [k.same i (fun x hx he => ?_)]
      · show (a.wh.set _ _).getD i 0 = -1
        rw [getD_setI (by omega), if_neg e]; exact ok.free i hi' hu'
      · rcases List.mem_append.1 hx with hx | hx
        · have s := ok.slot hx
          rw [he, hu'] at s; exact absurd s.2.2.1 (by simp)
        · simp only [List.mem_singleton] at hx; subst hx; exact e he

/-- What is found. -/
theorem find_mem {a : Ag} {h : Int × Int} (ok : okA a) (hl : a.tb.live h.1 h.2 = true) : hp a.heap (atA a h) ∈ a.heap ∧ (hp a.heap (atA a h)).h = h ∧ atA a h < a.heap.length := by
  obtain ⟨h1, h2, h3⟩ := ok.slotOf hl
  have : atA a h < a.heap.length := by unfold atA; omega
  exact ⟨hp_mem this, h3, this⟩
theorem find_eq {a : Ag} {x : Ev} (ok : okA a) (hx : x ∈ a.heap) : findA a x.h = (x, 0) ∧ hp a.heap (atA a x.h) = x := by
  have hl := (ok.slot hx).2.2.2.2
  obtain ⟨m1, m2, m3⟩ := find_mem ok hl
  have e : hp a.heap (atA a x.h) = x := by
    obtain ⟨p, hp'⟩ := List.mem_iff_getElem?.1 hx
    have hlt := (List.getElem?_eq_some_iff.1 hp').1
    have ep : hp a.heap p = x := by unfold hp; rw [List.getD_eq_getElem?_getD, hp']; rfl
    have := ok.pl.inj m3 hlt (by show (hp a.heap _).h.1 = (hp a.heap p).h.1; rw [m2, ep])
    rw [this, ep]
  refine ⟨?_, e⟩
  unfold findA
  rw [if_pos ok, if_pos hl, e]

theorem take_last {h : List Ev} (hl : 0 < h.length) : h = h.take (h.length - 1) ++ [hp h (h.length - 1)] := by
  have hg := hp_get (h := h) (i := h.length - 1) (by omega)
  have := take_succ hg
  rw [show h.length - 1 + 1 = h.length by omega, List.take_length] at this
  exact this

theorem set_perm {h : List Ev} {i : Nat} {y : Ev} (hi : i < h.length) : (hp h i :: h.set i y).Perm (y :: h) := by
  have hg := hp_get hi
  have e : h = h.take i ++ hp h i :: h.drop (i + 1) := by
    have hd : h.drop i = hp h i :: h.drop (i + 1) := by
      rw [List.drop_eq_getElem_cons hi]; congr 1; exact (List.getElem?_eq_some_iff.1 hg).2
    rw [← hd, List.take_append_drop]
  rw [List.set_eq_take_append_cons_drop, if_pos hi]
  have p1 : (hp h i :: (h.take i ++ y :: h.drop (i + 1))).Perm (hp h i :: y :: (h.take i ++ h.drop (i + 1))) := List.Perm.cons _ List.perm_middle
  have p3 : h.Perm (hp h i :: (h.take i ++ h.drop (i + 1))) := by
    conv => lhs; rw [e]
    exact List.perm_middle
  have p2 : (y :: h).Perm (y :: hp h i :: (h.take i ++ h.drop (i + 1))) := List.Perm.cons _ p3
  exact p1.trans ((List.Perm.swap _ _ _).trans p2.symm)

/-- The events that are left. -/
theorem removed_perm0 {a : Ag} {h : Int × Int} (ok : okA a) (hl : a.tb.live h.1 h.2 = true) (hne : atA a h ≠ a.heap.length - 1) : ((remS a h).1).length = a.heap.length - 1 ∧ (hp a.heap (atA a h) :: (remS a h).1).Perm a.heap := by
  obtain ⟨m1, m2, m3⟩ := find_mem ok hl
  have hlen : (remS a h).1.length = a.heap.length - 1 := by simp [remS]
  refine ⟨hlen, ?_⟩
  have hpos : 0 < a.heap.length := by omega
  have h1 := set_perm (y := hp a.heap (a.heap.length - 1)) m3
  have hs : (a.heap.set (atA a h) (hp a.heap (a.heap.length - 1))) = (remS a h).1 ++ [hp a.heap (a.heap.length - 1)] := by
    have := take_last (h := a.heap.set (atA a h) (hp a.heap (a.heap.length - 1))) (by simpa using hpos)
    rw [List.length_set] at this
    conv => lhs; rw [this]
    rw [hp_set m3, if_neg hne]; rfl
  rw [hs] at h1
  have h2 : (hp a.heap (a.heap.length - 1) :: (hp a.heap (atA a h) :: (remS a h).1)).Perm (hp a.heap (a.heap.length - 1) :: a.heap) := by
    refine List.Perm.trans ?_ h1
    refine (List.Perm.swap _ _ _).trans (List.Perm.cons _ ?_)
    exact (List.perm_append_singleton _ _).symm
  exact List.Perm.cons_inv h2

theorem rem_parts {a : Ag} {h : Int × Int} (ok : okA a) (hl : a.tb.live h.1 h.2 = true) (hne : atA a h ≠ a.heap.length - 1) :
    plA (remS a h) ∧ Go.Eng.posH (remS a h).1 ∧ MidH (remS a h).1 (atA a h) ∧ atA a h < (remS a h).1.length := by
  obtain ⟨m1, m2, m3⟩ := find_mem ok hl
  obtain ⟨hlen, pm⟩ := removed_perm0 ok hl hne
  have hat : atA a h < a.heap.length - 1 := by omega
  have hg : ∀ p, p < a.heap.length - 1 → hp (remS a h).1 p = if atA a h = p then hp a.heap (a.heap.length - 1) else hp a.heap p := fun p hp' => by
    show hp ((a.heap.set _ _).take _) p = _
    unfold hp
    rw [List.getD_eq_getElem?_getD, List.getElem?_take, if_pos hp', ← List.getD_eq_getElem?_getD]
    exact hp_set m3
  obtain ⟨y1, y2, y3⟩ := ok.pl (a.heap.length - 1) (by show a.heap.length - 1 < a.heap.length; omega)
  have y1 : 0 ≤ (hp a.heap (a.heap.length - 1)).h.1 := y1
  have y2 : (hp a.heap (a.heap.length - 1)).h.1 < a.wh.length := y2
  have hh : h.1.toNat < a.wh.length ∧ 0 ≤ h.1 := by
    have := live_iff.1 hl; have := ok.wl; omega
  have gs : ∀ j : Nat, (remS a h).2.getD j 0 = if h.1.toNat = j then (-1 : Int) else if (hp a.heap (a.heap.length - 1)).h.1.toNat = j then (atA a h : Int) else a.wh.getD j 0 := fun j => by
    show ((a.wh.set _ _).set _ _).getD j 0 = _
    rw [getD_setI (by simp; omega), getD_setI (by omega)]
  refine ⟨fun p hp' => ?_, fun x hx => ok.posH x (pm.mem_iff.1 (List.mem_cons_of_mem _ hx)), ⟨fun j j1 j2 j3 j4 => ?_, fun j j1 j2 j3 j4 => ?_⟩, by rw [hlen]; exact hat⟩
  · rw [hlen] at hp'
    rw [hg p hp', gs]
    have wlen : (remS a h).2.length = a.wh.length := by simp [remS]
    rw [wlen]
    by_cases e : atA a h = p
    · rw [if_pos e]
      refine ⟨y1, y2, ?_⟩
      rw [if_neg, if_pos rfl, e]
      intro e2
      have := ok.pl.inj (p := atA a h) (q := a.heap.length - 1) m3 (by show a.heap.length - 1 < a.heap.length; omega) (by show (hp a.heap _).h.1 = (hp a.heap _).h.1; rw [m2]; omega)
      omega
    · rw [if_neg e]
      obtain ⟨p1, p2, p3⟩ := ok.pl p (by show p < a.heap.length; omega)
      have p1 : 0 ≤ (hp a.heap p).h.1 := p1
      refine ⟨p1, p2, ?_⟩
      rw [if_neg, if_neg]
      · exact p3
      · intro e2
        have := ok.pl.inj (p := p) (q := a.heap.length - 1) (by show p < a.heap.length; omega) (by show a.heap.length - 1 < a.heap.length; omega) (by show (hp a.heap _).h.1 = (hp a.heap _).h.1; omega)
        omega
      · intro e2
        have := ok.pl.inj (p := p) (q := atA a h) (by show p < a.heap.length; omega) m3 (by show (hp a.heap _).h.1 = (hp a.heap _).h.1; rw [m2]; omega)
        omega
  · rw [hlen] at j2
    have jp := par_lt (i := j) j1
    rw [hg j j2, hg (par j) (by omega), if_neg (fun e => j3 e.symm), if_neg (fun e => j4 e.symm)]
    exact ok.ord j j1 (by omega)
  · rw [hlen] at j2
    have jp := par_lt (i := j) j1
    have ip := par_lt (i := atA a h) j4
    rw [hg j j2, hg (par (atA a h)) (by omega), if_neg (by omega), if_neg (by omega)]
    have h1 := ok.ord j j1 (by omega)
    have h2 := ok.ord (atA a h) j4 (by omega)
    rw [j3] at h1
    exact leE_trans (ok.posH.at (by omega)) (ok.posH.at (by omega)) (ok.posH.at (by omega)) h2 h1
end Go.Eng
