/- The engine, parts L4, L5, L6, L7, put together. Conditions: none. -/
import Derived.Test.YtkemdpobjaiolaaGreatPL1
import Derived.Test.YtkemdpobjaiolaaGreatP3
import Derived.Test.YtkemdpobjaiolaaGreatVgBase
import Derived.Test.YtkemdpobjaiolaaGreatVgClock
import Derived.Test.YtkemdpobjaiolaaGreatVgStd
import Derived.Test.YtkemdpobjaiolaaGreatFs
import Derived.Test.YtkemdpobjaiolaaGreatP4
import Derived.Test.YtkemdpobjaiolaaGreatP5
import Derived.Test.YtkemdpobjaiolaaGreatP6
set_option linter.unusedVariables false
section
/- Searches by halving. Conditions: none. -/
set_option maxRecDepth 100000
open Go Go.Eng Go.Proofs
namespace Go.Proofs.YtkemdpobjaiolaaGreat

theorem pos_dich {l : List (Int × Int × Int)} (hs : (l.map (·.1)).Pairwise (· < ·)) (n : Int) :
    (decide (posI (l.map (·.1)) n < l.length) && (getD3 l (posI (l.map (·.1)) n)).1 == n) = true ∧ idx (fun h : Int × Int × Int => h.1 == n) l = posI (l.map (·.1)) n ∨
    (decide (posI (l.map (·.1)) n < l.length) && (getD3 l (posI (l.map (·.1)) n)).1 == n) = false ∧ idx (fun h : Int × Int × Int => h.1 == n) l = -1 := by
  by_cases hc : (decide (posI (l.map (·.1)) n < l.length) && (getD3 l (posI (l.map (·.1)) n)).1 == n) = true
  · left
    refine ⟨hc, ?_⟩
    simp only [Bool.and_eq_true, decide_eq_true_eq, beq_iff_eq] at hc
    obtain ⟨h1, h2⟩ := hc
    have hx : l[posI (l.map (·.1)) n]? = some (getD3 l (posI (l.map (·.1)) n)) := by
      unfold getD3; rw [Int.toNat_natCast]; simp [List.getD, h1]
    rw [idx_hit hx (by simpa using h2) (fun y hy => ?_)]
    obtain ⟨j, hj, e⟩ := List.mem_take_iff_getElem.1 hy
    have := posI_lt (l := l.map (·.1)) (t := n) (i := j) (x := y.1) (by omega) (by
      rw [List.getElem?_map, List.getElem?_eq_getElem (by omega), e]; rfl)
    rw [beq_eq_false_iff_ne]; omega
  · right
    have hc := Bool.eq_false_iff.2 hc
    refine ⟨hc, idx_miss fun y hy => ?_⟩
    rw [beq_eq_false_iff_ne]
    intro e
    obtain ⟨j, hj⟩ := List.mem_iff_getElem?.1 hy
    have hjl : j < l.length := (List.getElem?_eq_some_iff.1 hj).1
    have hm : (l.map (·.1))[j]? = some y.1 := by rw [List.getElem?_map, hj]; rfl
    have hpj : posI (l.map (·.1)) n = j := by
      rcases Nat.lt_trichotomy (posI (l.map (·.1)) n) j with h' | h' | h'
      · have hpl : posI (l.map (·.1)) n < (l.map (·.1)).length := by simp; omega
        have a := posI_ge hs (Nat.le_refl _) (List.getElem?_eq_getElem hpl)
        have b := List.pairwise_iff_getElem.1 hs _ _ hpl (by simpa using hjl) h'
        have e2 : (l.map (·.1))[j]'(by simpa using hjl) = y.1 := (List.getElem?_eq_some_iff.1 hm).2
        rw [e2] at b
        omega
      · exact h'
      · have := posI_lt h' hm; omega
    rw [hpj] at hc
    have hg : getD3 l (j : Int) = y := by unfold getD3; rw [Int.toNat_natCast, List.getD_eq_getElem?_getD, hj]; rfl
    rw [hg] at hc
    simp [hjl, e] at hc


theorem bsearch_pt1 {H : Hp} {x : Int × Int × Int} {n : Int} : QfV Tryz.prog (.func (.func F.clock_point_1) #[] #[]) [.agg #[.int .i64 x.1, .int .i64 x.2.1, .int .i64 x.2.2], .int .i64 n] H (.int .i64 (cmpI x.1 n)) :=
  ⟨F.clock_point_1, #[], _, rfl, clock_point_1_callable, clock_point_1_vc ⟨_, compare_int, rfl, Hp.le_refl _⟩⟩

theorem bsearch_pt {H : Hp} {s : Slc} {xs : List (Int × Int × Int)} {n : Int} (h : Rd 3 fD H s xs) (hs : (xs.map (·.1)).Pairwise (· < ·)) (hl : xs.length ≤ 100000000) :
    Qf Tryz.prog F.slices_BinarySearchFunc_api_Point_api_Point_int #[s.v, .int .i64 n, .func (.func F.clock_point_1) #[] #[]] H
      (.tuple #[.int .i64 (posI (xs.map (·.1)) n), .bool (decide (posI (xs.map (·.1)) n < xs.length) && (getD3 xs (posI (xs.map (·.1)) n)).1 == n)]) := by
  have ls := h.len
  have hml : (xs.map (·.1)).length = xs.length := by simp
  refine slices_BinarySearchFunc_api_Point_api_Point_int_vc ⟨fun i j H' => H' = H ∧ 0 ≤ i ∧ i ≤ j ∧ j ≤ xs.length ∧ (∀ k y, k < i.toNat → (xs.map (·.1))[k]? = some y → y < n) ∧ (∀ k y, j.toNat ≤ k → (xs.map (·.1))[k]? = some y → n ≤ y),
    fun i j _ => (j - i).toNat, ⟨rfl, Int.le_refl _, by omega, by omega, fun k y hk => by simp at hk, fun k y hk hy => ?_⟩, fun i j H' ⟨e, i0, i1, i2, i3, i4⟩ => ?_⟩
  · have := (List.getElem?_eq_some_iff.1 hy).1
    omega
  subst e
  refine ⟨fun hc => ?_, fun hc => ?_⟩
  · have hc : i < j := by simpa using hc
    rw [mid_eq i0 hc (by omega)]
    have m0 : 0 ≤ (i + j) / 2 := by omega
    have m1 : (i + j) / 2 < xs.length := by omega
    have hg := getX (d := ((0 : Int), (0 : Int), (0 : Int))) m0 m1
    refine ⟨by unfold inI; omega, by unfold nn; omega, h.ldD m0 m1 ⟨_, bsearch_pt1 (x := xs.getD ((i + j) / 2).toNat (0, 0, 0)), ?_⟩⟩
    generalize xs.getD ((i + j) / 2).toNat (0, 0, 0) = x at hg ⊢
    have hm : (xs.map (·.1))[((i + j) / 2).toNat]? = some x.1 := by rw [List.getElem?_map, hg]; try rfl
    refine ⟨fun hlt => ?_, fun hge => ?_⟩
    · have hlt : x.1 < n := cmpI_lt.1 (by simpa using hlt)
      refine ⟨by unfold inI; omega, ⟨rfl, by omega, by omega, i2, ?_, i4⟩, ?_⟩
      · rw [show ((i + j) / 2 + 1).toNat = ((i + j) / 2).toNat + 1 by omega]; exact bs_lo hs hm hlt
      · show (j - ((i + j) / 2 + 1)).toNat < (j - i).toNat; omega
    · have hge : n ≤ x.1 := by
        have : ¬ cmpI x.1 n < 0 := by simpa using hge
        rw [cmpI_lt] at this; omega
      refine ⟨⟨rfl, i0, by omega, by omega, i3, bs_hi hs hm hge⟩, ?_⟩
      show ((i + j) / 2 - i).toNat < (j - i).toNat; omega
  · have hc : i = j := by have : ¬ i < j := by simpa using hc
                          omega
    subst hc
    have hp : i.toNat = posI (xs.map (·.1)) n := posI_eq hs (by omega) i3 i4
    have hpi : (posI (xs.map (·.1)) n : Int) = i := by omega
    rw [hpi]
    have key : (decide (i < (s.n : Int)) = true) → i < xs.length := fun hh => by
      have : i < s.n := by simpa using hh
      omega
    refine ⟨fun hh => h.inS i0 (key hh), _, _, _, fun hh => h.gD i0 (key hh), _, fun hh => bsearch_pt1 (x := xs.getD i.toNat (0, 0, 0)), ?_, Hp.le_refl _⟩
    congr 3
    have e1 : decide (i < (s.n : Int)) = decide (posI (xs.map (·.1)) n < xs.length) := by
      rw [Bool.eq_iff_iff, decide_eq_true_eq, decide_eq_true_eq]; omega
    rw [e1]
    congr 2
    congr 1
    unfold getD3
    rw [Bool.eq_iff_iff, beq_iff_eq, beq_iff_eq, cmpI_eq]


theorem bsearch_due1 {H : Hp} {x : Int × Int × Int} {n : Int} : QfV Tryz.prog (.func (.func F.clock_place_1) #[] #[]) [.agg #[.int .i64 x.1, .int .i64 x.2.1, .int .i64 x.2.2], .int .i64 n] H (.int .i64 (cmpI x.1 n)) :=
  ⟨F.clock_place_1, #[], _, rfl, clock_place_1_callable, clock_place_1_vc ⟨_, compare_int, rfl, Hp.le_refl _⟩⟩

theorem bsearch_due {H : Hp} {s : Slc} {xs : List (Int × Int × Int)} {n : Int} (h : Rd 3 fD H s xs) (hs : (xs.map (·.1)).Pairwise (· < ·)) (hl : xs.length ≤ 100000000) :
    Qf Tryz.prog F.slices_BinarySearchFunc_api_Due_api_Due_int #[s.v, .int .i64 n, .func (.func F.clock_place_1) #[] #[]] H
      (.tuple #[.int .i64 (posI (xs.map (·.1)) n), .bool (decide (posI (xs.map (·.1)) n < xs.length) && (getD3 xs (posI (xs.map (·.1)) n)).1 == n)]) := by
  have ls := h.len
  have hml : (xs.map (·.1)).length = xs.length := by simp
  refine slices_BinarySearchFunc_api_Due_api_Due_int_vc ⟨fun i j H' => H' = H ∧ 0 ≤ i ∧ i ≤ j ∧ j ≤ xs.length ∧ (∀ k y, k < i.toNat → (xs.map (·.1))[k]? = some y → y < n) ∧ (∀ k y, j.toNat ≤ k → (xs.map (·.1))[k]? = some y → n ≤ y),
    fun i j _ => (j - i).toNat, ⟨rfl, Int.le_refl _, by omega, by omega, fun k y hk => by simp at hk, fun k y hk hy => ?_⟩, fun i j H' ⟨e, i0, i1, i2, i3, i4⟩ => ?_⟩
  · have := (List.getElem?_eq_some_iff.1 hy).1
    omega
  subst e
  refine ⟨fun hc => ?_, fun hc => ?_⟩
  · have hc : i < j := by simpa using hc
    rw [mid_eq i0 hc (by omega)]
    have m0 : 0 ≤ (i + j) / 2 := by omega
    have m1 : (i + j) / 2 < xs.length := by omega
    have hg := getX (d := ((0 : Int), (0 : Int), (0 : Int))) m0 m1
    refine ⟨by unfold inI; omega, by unfold nn; omega, h.ldD m0 m1 ⟨_, bsearch_due1 (x := xs.getD ((i + j) / 2).toNat (0, 0, 0)), ?_⟩⟩
    generalize xs.getD ((i + j) / 2).toNat (0, 0, 0) = x at hg ⊢
    have hm : (xs.map (·.1))[((i + j) / 2).toNat]? = some x.1 := by rw [List.getElem?_map, hg]; try rfl
    refine ⟨fun hlt => ?_, fun hge => ?_⟩
    · have hlt : x.1 < n := cmpI_lt.1 (by simpa using hlt)
      refine ⟨by unfold inI; omega, ⟨rfl, by omega, by omega, i2, ?_, i4⟩, ?_⟩
      · rw [show ((i + j) / 2 + 1).toNat = ((i + j) / 2).toNat + 1 by omega]; exact bs_lo hs hm hlt
      · show (j - ((i + j) / 2 + 1)).toNat < (j - i).toNat; omega
    · have hge : n ≤ x.1 := by
        have : ¬ cmpI x.1 n < 0 := by simpa using hge
        rw [cmpI_lt] at this; omega
      refine ⟨⟨rfl, i0, by omega, by omega, i3, bs_hi hs hm hge⟩, ?_⟩
      show ((i + j) / 2 - i).toNat < (j - i).toNat; omega
  · have hc : i = j := by have : ¬ i < j := by simpa using hc
                          omega
    subst hc
    have hp : i.toNat = posI (xs.map (·.1)) n := posI_eq hs (by omega) i3 i4
    have hpi : (posI (xs.map (·.1)) n : Int) = i := by omega
    rw [hpi]
    have key : (decide (i < (s.n : Int)) = true) → i < xs.length := fun hh => by
      have : i < s.n := by simpa using hh
      omega
    refine ⟨fun hh => h.inS i0 (key hh), _, _, _, fun hh => h.gD i0 (key hh), _, fun hh => bsearch_due1 (x := xs.getD i.toNat (0, 0, 0)), ?_, Hp.le_refl _⟩
    congr 3
    have e1 : decide (i < (s.n : Int)) = decide (posI (xs.map (·.1)) n < xs.length) := by
      rw [Bool.eq_iff_iff, decide_eq_true_eq, decide_eq_true_eq]; omega
    rw [e1]
    congr 2
    congr 1
    unfold getD3
    rw [Bool.eq_iff_iff, beq_iff_eq, beq_iff_eq, cmpI_eq]


end Go.Proofs.YtkemdpobjaiolaaGreat
end
section
/- Clocks: points, failure times, places of what is due. Conditions: none. -/
set_option maxRecDepth 100000
open Go Go.Eng Go.Proofs
namespace Go.Proofs.YtkemdpobjaiolaaGreat

abbrev ptW (p : Pt) : Value := sI3 p.1 p.2.1 p.2.2
abbrev raW (r : Int × Int) : Value := sI2 r.1 r.2
def o2 (o : Option (Int × Int)) : Int × Int := o.getD (0, 0)

theorem ok01 : okR (0, 1) := by decide
theorem meet_fit {p q : Pt} (hp : okP p) (hq : okP q) : inI (p.2.1 - q.2.1) ∧ inI (q.2.2 - p.2.2) := by
  have := hp.b; have := hq.b
  unfold inI; omega

theorem courseMeet {H : Hp} {p q : Pt} (hp : okP p) (hq : okP q) (hne : p.1 ≠ q.1) (hb : p.2.2 ≠ q.2.2) : Qf Tryz.prog F.course_Meet #[ptW p, ptW q] H (.tuple #[raW (makeM (p.2.1 - q.2.1) (q.2.2 - p.2.2)).1, .int .i64 (makeM (p.2.1 - q.2.1) (q.2.2 - p.2.2)).2]) := by
  have h2 : twoM p q (0, 1) = 0 := twoM_zero.2 ⟨hp, hq, ok01, hne⟩
  have f := meet_fit hp hq
  refine course_Meet_vc ⟨_, courseTwo (p := p) (q := q) (t := (0, 1)) ok01.fit, fun hc => ?_, fun hc => ⟨fun he => ?_, fun he => ⟨f.1, f.2, _, _, _, ratioMake f.1 f.2, rfl, Hp.le_refl _⟩⟩⟩
  · rw [h2] at hc; simp at hc
  · exact absurd (by simpa using he) hb

def failsM (p q : Pt) (t : Int × Int) : (Int × Int) × Bool × Int := if twoM p q t = 0 then (o2 (failM p q t), (failM p q t).isSome, 0) else ((0, 0), false, twoM p q t)
theorem courseFails {H : Hp} {p q : Pt} {t : Int × Int} (ht : fitR t) :
    Qf Tryz.prog F.course_Fails #[ptW p, ptW q, raW t] H (.tuple #[raW (failsM p q t).1, .bool (failsM p q t).2.1, .int .i64 (failsM p q t).2.2]) := by
  refine course_Fails_vc ⟨_, courseTwo ht, fun hc => ?_, fun hc => ?_⟩
  · have hc : twoM p q t ≠ 0 := by simpa using hc
    unfold failsM; rw [if_neg hc]; exact ⟨rfl, Hp.le_refl _⟩
  · have hc : twoM p q t = 0 := by simpa using hc
    obtain ⟨h1, h2, h3, h4⟩ := twoM_zero.1 hc
    unfold failsM; rw [if_pos hc]
    refine ⟨_, courseCompare h2 h1 h3, fun hb => ?_, fun hb => ⟨fun hl => ?_, fun hl => ?_⟩⟩
    · have : leads q p t = true := by rw [← cmpP_leads]; exact hb
      unfold failM; rw [if_pos this]; exact ⟨rfl, Hp.le_refl _⟩
    · have : ¬ leads q p t = true := by rw [← cmpP_leads, hb]; simp
      have hl : q.2.2 ≤ p.2.2 := by simpa using hl
      unfold failM; rw [if_neg this, if_neg (by omega)]; exact ⟨rfl, Hp.le_refl _⟩
    · have : ¬ leads q p t = true := by rw [← cmpP_leads, hb]; simp
      have hl : ¬ q.2.2 ≤ p.2.2 := by simpa using hl
      obtain ⟨x, y, g, _, hm, _⟩ := meet_parts h1 h2 (by omega : p.2.2 < q.2.2)
      refine ⟨_, _, _, courseMeet h1 h2 h4 (by omega), ?_⟩
      unfold failM; rw [if_neg this, if_pos (by omega), hm]; exact ⟨rfl, Hp.le_refl _⟩

theorem posF_lt {f : List Pt} {id : Int} (h : 0 ≤ posF f id) : posF f id < f.length := (posF_range h).1
theorem _root_.Go.Eng.okF.ids {f : List Pt} (of : okF f) : (f.map (·.1)).Pairwise (· < ·) := of.inc
theorem _root_.Go.Eng.okF.small {f : List Pt} (of : okF f) : f.length ≤ 1000000 := by have := of.len; omega
theorem _root_.Go.Eng.okF.pt {f : List Pt} (of : okF f) {id : Int} (h : 0 ≤ posF f id) : okP (gP f (posF f id)) := of.each _ (List.mem_of_getElem? (posF_range h).2.1)

def pointM (f : List Pt) (id : Int) : Pt := if posF f id < 0 then (-1, 0, 0) else gP f (posF f id)
theorem clockPoint {H : Hp} {u : Slc} {f : List Pt} {id : Int} (hf : Rd 3 fD H u f) (of : okF f) : Qf Tryz.prog F.clock_point #[vFd u, .int .i64 id] H (ptW (pointM f id)) := by
  have hl := of.small
  refine clock_point_vc ⟨_, _, bsearch_pt hf of.ids (by omega), fun hb => ?_, fun hb => ?_⟩
  · rcases pos_dich of.ids id with ⟨h1, h2⟩ | ⟨h1, h2⟩
    · rw [h1] at hb; cases hb
    · have : pointM f id = (-1, 0, 0) := by unfold pointM posF; rw [h2]; rfl
      rw [this]; exact ⟨rfl, Hp.le_refl _⟩
  · rcases pos_dich of.ids id with ⟨h1, h2⟩ | ⟨h1, h2⟩
    · have e : posF f id = posI (f.map (·.1)) id := h2
      have h0 : 0 ≤ posF f id := by omega
      have : pointM f id = gP f (posF f id) := by unfold pointM; rw [if_neg (by omega)]
      rw [this, ← e]
      exact (hf.ldD h0 (posF_lt h0) ⟨rfl, Hp.le_refl _⟩)
    · rw [h1] at hb; cases hb
theorem pointM_neg {f : List Pt} (of : okF f) (id : Int) : decide ((pointM f id).1 < 0) = decide (posF f id < 0) := by
  rw [Bool.eq_iff_iff, decide_eq_true_iff, decide_eq_true_iff]
  unfold pointM
  by_cases h : posF f id < 0
  · rw [if_pos h]; simp [h]
  · rw [if_neg h]
    have := (of.pt (by omega : 0 ≤ posF f id)).i0
    omega

def whenP (f : List Pt) (x t : Int × Int) : (Int × Int) × Bool × Int := failsM (pointM f x.2) (pointM f x.1) t
theorem clockWhen {H : Hp} {u : Slc} {f : List Pt} {x t : Int × Int} (hf : Rd 3 fD H u f) (of : okF f) (ht : fitR t) :
    Qf Tryz.prog F.clock_when #[vFd u, raW x, raW t] H (.tuple #[raW (whenP f x t).1, .bool (whenP f x t).2.1, .int .i64 (whenP f x t).2.2]) :=
  clock_when_vc ⟨_, _, _, clockPoint hf of, _, _, _, clockPoint hf of, _, _, _, _, courseFails (p := pointM f x.2) (q := pointM f x.1) ht, rfl, Hp.le_refl _⟩
theorem whenP_known {f : List Pt} {x t : Int × Int} (of : okF f) (ht : okR t) (h1 : 0 ≤ posF f x.1) (h2 : 0 ≤ posF f x.2) (hne : x.1 ≠ x.2) : whenP f x t = (o2 (whenM f x t), (whenM f x t).isSome, 0) := by
  have e1 : pointM f x.2 = gP f (posF f x.2) := by unfold pointM; rw [if_neg (by omega)]
  have e2 : pointM f x.1 = gP f (posF f x.1) := by unfold pointM; rw [if_neg (by omega)]
  unfold whenP failsM
  rw [e1, e2, if_pos (twoM_zero.2 ⟨of.pt h2, of.pt h1, ht, by rw [(posF_range h1).2.2, (posF_range h2).2.2]; exact Ne.symm hne⟩)]
  rfl
theorem whenP_lost {f : List Pt} {x t : Int × Int} (h : posF f x.1 < 0 ∨ posF f x.2 < 0) : (whenP f x t).2.2 ≠ 0 := by
  have : twoM (pointM f x.2) (pointM f x.1) t ≠ 0 := fun e => by
    obtain ⟨a, b, _, _⟩ := twoM_zero.1 e
    have a := a.i0; have b := b.i0
    unfold pointM at a b
    rcases h with h | h
    · rw [if_pos h] at b; simp at b
    · rw [if_pos h] at a; simp at a
  unfold whenP failsM; rw [if_neg this]; exact this
end Go.Proofs.YtkemdpobjaiolaaGreat
end
section
/- Clocks: checked. Conditions: none. -/
set_option maxRecDepth 100000
open Go Go.Eng Go.Proofs
namespace Go.Proofs.YtkemdpobjaiolaaGreat

structure Cu where
  f : Slc
  cl : Slc
  u1 : Slc
  u2 : Slc
  u3 : Slc
  u4 : Slc
  u5 : Slc
  d : Slc
abbrev ckV (u : Cu) (c : Ck) : Value := vCk c.now.1 c.now.2 u.f c.ct.next u.cl u.u1 u.u2 u.u3 u.u4 u.u5 u.d
def zu : Cu := ⟨zs, zs, zs, zs, zs, zs, zs, zs⟩
structure RdK (H : Hp) (u : Cu) (c : Ck) : Prop where
  f : Rd 3 fD H u.f c.f
  cl : Rd 3 fD H u.cl c.ct.list
  ag : RdA H u.u1 u.u2 u.u3 u.u4 u.u5 c.ag
  due : Rd 3 fD H u.d c.due
theorem RdK.le {H H' : Hp} {u : Cu} {c : Ck} (r : RdK H u c) (l : Hp.le H H') : RdK H' u c := ⟨r.f.le l, r.cl.le l, r.ag.le l, r.due.le l⟩
structure fitK (c : Ck) : Prop where
  now : fitR c.now
  f : c.f.length ≤ 1000000
  ct : c.ct.list.length ≤ 1000000
  ag : fitG c.ag
  due : c.due.length ≤ 1000000
theorem okK.fit {c : Ck} (ok : okK c) : fitK c := by
  have a := ok.f.small; have b := ok.ct.len; have g := okA.fitG ok.ag; have h := ok.hl
  have := g.hl
  exact ⟨ok.now.fit, a, by omega, g, by omega⟩

/-- A part of a slice. -/
theorem _root_.Go.Eng.Rd.sub {α : Type} {k : Nat} {f : α → List Value} {H : Hp} {u : Slc} {xs : List α} (h : Rd k f H u xs) {l hi m : Int} (l0 : 0 ≤ l) (lh : l ≤ hi) (hx : hi ≤ xs.length) (hm : hi ≤ m) :
    Rd k f H ⟨subA u.a k l m, hi.toNat - l.toNat, m.toNat - l.toNat⟩ ((xs.take hi.toNat).drop l.toNat) := by
  have hlen : ((xs.take hi.toNat).drop l.toNat).length = hi.toNat - l.toNat := by simp; omega
  refine ⟨hlen.symm, by show hi.toNat - l.toNat ≤ m.toNat - l.toNat; omega, fun hne => ?_, fun i x hi' j v hv => ?_⟩
  · have h1 : 0 < ((xs.take hi.toNat).drop l.toNat).length := List.length_pos_iff.2 hne
    have h2 : xs ≠ [] := fun e => by rw [e] at h1; simp at h1
    have := h.isS h2
    show (subA u.a k l m).isSome = true
    unfold subA; split
    · exact this
    · simpa using this
  · have hl := (List.getElem?_eq_some_iff.1 hi').1
    rw [hlen] at hl
    have hg : xs[l.toNat + i]? = some x := by
      rw [List.getElem?_drop, List.getElem?_take] at hi'
      split at hi'
      · exact hi'
      · cases hi'
    have h2 : xs ≠ [] := fun e => by rw [e] at hg; simp at hg
    obtain ⟨p, hp⟩ := Option.isSome_iff_exists.1 (h.isS h2)
    have c := h.cell _ _ hg j v hv
    rw [hp] at c
    have e : subA u.a k l m = some (p.add (l.toNat * k)) := by unfold subA; rw [if_neg (by omega), hp]; rfl
    show H.at ((eaddr (subA u.a k l m) k i).add j) = some v
    rw [e]
    show H.at (((p.add (l.toNat * k)).add ((i : Int).toNat * k)).add j) = some v
    rw [Int.toNat_natCast, add_add, add_add, ← Nat.add_assoc, ← Nat.add_mul]
    have c' : H.at ((p.add (((l.toNat + i : Nat) : Int).toNat * k)).add j) = some v := c
    rw [Int.toNat_natCast, add_add] at c'
    exact c'

def lostX (f : List Pt) (x : Int × Int) : Bool := decide (posF f x.1 < 0) || decide (posF f x.2 < 0)
def chkDue (h : List Ev) (f : List Pt) (t : Int × Int) : List (Int × Int × Int) → List (Int × Int × Int) → Bool
  | [], ds => ds.isEmpty
  | x :: l, ds => if lostX f x.2 = true then false else match whenM f x.2 t with
    | none => chkDue h f t l ds
    | some s => match ds with
      | [] => false
      | d :: ds => decide (d.1 = x.1) && decide ((⟨s, x.1, d.2⟩ : Ev) ∈ h) && chkDue h f t l ds
theorem chkDue_eq (h : List Ev) (f : List Pt) (t : Int × Int) : ∀ l ds : List (Int × Int × Int), chkDue h f t l ds = ((l.all fun x => !lostX f x.2) && fitD h (dueF f t l) ds)
  | [], [] => rfl
  | [], _ :: _ => rfl
  | x :: l, ds => by
    unfold chkDue dueF
    rw [List.all_cons, List.filterMap_cons]
    cases hx : lostX f x.2 with
    | true => rw [if_pos rfl]; rfl
    | false =>
      rw [if_neg (by simp)]
      cases whenM f x.2 t with
      | none => simp only [Option.map_none]; rw [chkDue_eq h f t l ds]; simp [dueF]
      | some s =>
        simp only [Option.map_some]
        cases ds with
        | nil => simp [fitD]
        | cons d ds =>
          simp only [fitD]
          rw [chkDue_eq h f t l ds]
          simp only [dueF, Bool.not_false, Bool.true_and]
          cases (l.all fun x => !lostX f x.2) <;> simp
theorem knownC_all (ct : Ct) (f : List Pt) : knownC ct f = ct.list.all fun x => !lostX f x.2 := by
  unfold knownC lostX
  congr 1
  funext x
  simp

/-- What is looked at beside the events. -/
structure baseK (c : Ck) : Prop where
  now : okR c.now
  f : okF c.f
  ct : okC c.ct
  ag : okA c.ag
  wl : c.ag.wh.length = 200
  hl : c.ag.heap.length = c.due.length
theorem okK_base {c : Ck} : okK c ↔ baseK c ∧ chkDue c.ag.heap c.f c.now c.ct.list c.due = true := by
  rw [chkDue_eq, Bool.and_eq_true, ← knownC_all]
  exact ⟨fun ok => ⟨⟨ok.now, ok.f, ok.ct, ok.ag, ok.wl, ok.hl⟩, ok.known, ok.due⟩, fun ⟨b, k, d⟩ => ⟨b.now, b.f, b.ct, k, b.ag, b.wl, b.hl, d⟩⟩
theorem chkK_base {c : Ck} (b : baseK c) : chkK c = if chkDue c.ag.heap c.f c.now c.ct.list c.due = true then 0 else 8 := by
  unfold chkK
  by_cases h : chkDue c.ag.heap c.f c.now c.ct.list c.due = true
  · rw [if_pos h, if_pos (okK_base.2 ⟨b, h⟩)]
  · rw [if_neg h, if_neg fun ok => h (okK_base.1 ok).2]

theorem dropX {α : Type} {l : List α} {i : Nat} {x : α} (h : l[i]? = some x) : l.drop i = x :: l.drop (i + 1) := by
  obtain ⟨h1, h2⟩ := List.getElem?_eq_some_iff.1 h
  rw [← h2]; exact List.drop_eq_getElem_cons h1

/-- The test of an event by its handle. -/
theorem evTest {a : Ag} (ok : okA a) (hw : a.wh.length = 200) {d : Int × Int × Int} {s : Int × Int} {n : Int} (hd : d.1 = n) :
    (0 ≤ d.2.1 ∧ d.2.1 < 200 ∧ 0 ≤ a.wh.getD d.2.1.toNat 0 ∧ hp a.heap (a.wh.getD d.2.1.toNat 0).toNat = ⟨s, n, d.2⟩ ∧ a.wh.getD d.2.1.toNat 0 < a.heap.length) ↔ (⟨s, n, d.2⟩ : Ev) ∈ a.heap := by
  constructor
  · rintro ⟨_, _, h3, h4, h5⟩
    rw [← h4]; exact hp_mem (by omega)
  · intro hm
    obtain ⟨a1, a2, a3, a4, a5⟩ := ok.slot hm
    have so := ok.slotOf a5
    have fe := (find_eq ok hm).2
    have wl := ok.wl
    refine ⟨a1, by simp only at a2; omega, so.1, ?_, so.2.1⟩
    unfold atA at fe
    exact fe
end Go.Proofs.YtkemdpobjaiolaaGreat
end
section
/- Clocks: checked by the program. Conditions: none. -/
set_option maxRecDepth 100000
open Go Go.Eng Go.Proofs
namespace Go.Proofs.YtkemdpobjaiolaaGreat

theorem cells208 : Tryz.prog.cellsOf 208 = 3 := by kernel_rfl
theorem okA.whT {a : Ag} (ok : okA a) {i : Int} (h0 : 0 ≤ i) (h1 : i < a.wh.length) (h2 : 0 ≤ a.wh.getD i.toNat 0) : a.wh.getD i.toNat 0 < a.heap.length := by
  have hw := ok.wl
  cases hu : a.tb.used.getD i.toNat false with
  | true => exact (ok.used i.toNat (by omega) hu).2.1
  | false => have := ok.free i.toNat (by omega) hu; omega

theorem clockCheck {H : Hp} {u : Cu} {c : Ck} (r : RdK H u c) (fk : fitK c) : Qf Tryz.prog F.clock_Check #[ckV u c] H (.int .i64 (chkK c)) := by
  have l4 := r.ag.heap.len
  have l5 := r.ag.wh.len
  have ld := r.due.len
  have lc := r.cl.len
  have f1 := fk.ct
  have f2 := fk.due
  refine clock_Check_vc ⟨_, ratioCheck fk.now, _, fieldCheck r.f, _, certCheck r.cl, _, agendaCheck r.ag fk.ag, fun b5 H6 hb5 hH6 => ?_⟩
  have le6 : Hp.le H H6 := Hp.le_new (Hp.le_refl _) hb5 hH6
  have r6 := r.le le6
  have rc : RdI H6 ⟨some ⟨b5, 0, none⟩, 4, 4⟩ [chkR c.now, chkF c.f, chkC c.ct, chkA c.ag] := rdInts hH6 rfl rfl
  refine upto (N := 4) (J := fun i => (0 < i → chkR c.now = 0) ∧ (1 < i → chkF c.f = 0) ∧ (2 < i → chkC c.ct = 0) ∧ (3 < i → chkA c.ag = 0)) (by omega) ⟨by omega, by omega, by omega, by omega⟩
    fun i i0 i1 ⟨j1, j2, j3, j4⟩ => ⟨fun hn => ?_, fun hn => ?_⟩
  · have hn : i < 4 := by simpa using hn
    have k := rc.gI i0 hn
    refine ⟨rc.inS i0 hn, _, k, ?_⟩
    clear k
    rcases (by omega : i = 0 ∨ i = 1 ∨ i = 2 ∨ i = 3) with rfl | rfl | rfl | rfl
    · refine ⟨fun hc => ⟨?_, le6⟩, fun hc => upto.nx i0 hn (by omega) ?_⟩
      · have hc : chkR c.now ≠ 0 := by simpa using hc
        rw [chkK_bad fun ok => hc (chkR_ok ok.now)]
      · have hc : chkR c.now = 0 := by simpa using hc
        exact ⟨fun _ => hc, by omega, by omega, by omega⟩
    · refine ⟨fun hc => ⟨?_, le6⟩, fun hc => upto.nx i0 hn (by omega) ?_⟩
      · have hc : chkF c.f ≠ 0 := by simpa using hc
        rw [chkK_bad fun ok => hc (chkF_zero.2 ok.f)]
      · have hc : chkF c.f = 0 := by simpa using hc
        exact ⟨fun _ => j1 (by omega), fun _ => hc, by omega, by omega⟩
    · refine ⟨fun hc => ⟨?_, le6⟩, fun hc => upto.nx i0 hn (by omega) ?_⟩
      · have hc : chkC c.ct ≠ 0 := by simpa using hc
        rw [chkK_bad fun ok => hc (chkC_ok ok.ct)]
      · have hc : chkC c.ct = 0 := by simpa using hc
        exact ⟨fun _ => j1 (by omega), fun _ => j2 (by omega), fun _ => hc, by omega⟩
    · refine ⟨fun hc => ⟨?_, le6⟩, fun hc => upto.nx i0 hn (by omega) ?_⟩
      · have hc : chkA c.ag ≠ 0 := by simpa using hc
        rw [chkK_bad fun ok => hc (chkA_ok ok.ag)]
      · have hc : chkA c.ag = 0 := by simpa using hc
        exact ⟨fun _ => j1 (by omega), fun _ => j2 (by omega), fun _ => j3 (by omega), fun _ => hc⟩
  have hn : ¬ i < 4 := by simpa using hn
  refine ⟨fun hc => ⟨?_, le6⟩, fun hc => ?_⟩
  · rw [chkK_bad]
    intro ok
    have := ok.wl; have := ok.hl
    rw [l5, l4, ld, ok.wl, ok.hl] at hc
    simp at hc
  simp only [Bool.or_eq_false_iff, bne_eq_false_iff_eq] at hc
  have base : baseK c := ⟨chkR_zero.1 (j1 (by omega)), chkF_zero.1 (j2 (by omega)), chkC_zero.1 (j3 (by omega)), chkA_zero.1 (j4 (by omega)), by omega, by omega⟩
  clear j1 j2 j3 j4 rc
  have wl := base.wl
  refine ⟨fun u i H' => H' = H6 ∧ 0 ≤ i ∧ i ≤ c.ct.list.length ∧ ∃ ds, Rd 3 fD H6 u ds ∧ ds.length ≤ 1000000 ∧ chkDue c.ag.heap c.f c.now c.ct.list c.due = chkDue c.ag.heap c.f c.now (c.ct.list.drop i.toNat) ds,
    fun _ i _ => (c.ct.list.length - i).toNat, ⟨rfl, Int.le_refl _, by omega, c.due, r6.due, fk.due, by simp⟩, fun w i H' ⟨e, i0, i1, ds, rd, dl, hd⟩ => ?_⟩
  subst e
  have ul := rd.len
  refine ⟨fun hn => ?_, fun hn => ?_⟩
  · have hn : i < c.ct.list.length := by have : i < u.cl.n := by simpa using hn
                                         omega
    have hg := getX (d := ((0 : Int), (0 : Int), (0 : Int))) i0 hn
    refine r6.cl.ldD i0 hn ⟨_, _, _, _, clockWhen (x := (c.ct.list.getD i.toNat (0, 0, 0)).2) r6.f base.f fk.now, ?_⟩
    generalize c.ct.list.getD i.toNat (0, 0, 0) = x at hg ⊢
    rw [dropX hg] at hd
    have hv := (base.ct.ok.each x (List.mem_of_getElem? hg)).1
    have hne : x.2.1 ≠ x.2.2 := by
      unfold validC at hv
      simp only [Bool.and_eq_true, bne_iff_ne] at hv
      exact hv.2
    have nx : ∀ {w' : Slc} {ds' : List (Int × Int × Int)}, Rd 3 fD H' w' ds' → ds'.length ≤ 1000000 → chkDue c.ag.heap c.f c.now c.ct.list c.due = chkDue c.ag.heap c.f c.now (c.ct.list.drop (i.toNat + 1)) ds' →
        inI (i + 1) ∧ (H' = H' ∧ 0 ≤ i + 1 ∧ i + 1 ≤ c.ct.list.length ∧ ∃ ds, Rd 3 fD H' w' ds ∧ ds.length ≤ 1000000 ∧ chkDue c.ag.heap c.f c.now c.ct.list c.due = chkDue c.ag.heap c.f c.now (c.ct.list.drop (i + 1).toNat) ds) ∧ (c.ct.list.length - (i + 1)).toNat < (c.ct.list.length - i).toNat := by
      intro w' ds' a b e
      exact ⟨by unfold inI; omega, ⟨rfl, by omega, by omega, ds', a, b, by rw [show (i + 1).toNat = i.toNat + 1 by omega]; exact e⟩, by omega⟩
    by_cases hL : lostX c.f x.2 = true
    · have hz : (whenP c.f x.2 c.now).2.2 ≠ 0 := whenP_lost (by simpa [lostX] using hL)
      refine ⟨fun _ => ⟨?_, le6⟩, fun h => absurd (by simpa using h) hz⟩
      rw [chkK_base base, hd, chkDue, if_pos hL, if_neg (by simp)]
    · have hL' : 0 ≤ posF c.f x.2.1 ∧ 0 ≤ posF c.f x.2.2 := by
        simp only [lostX, Bool.or_eq_true, decide_eq_true_eq] at hL; omega
      rw [whenP_known base.f base.now hL'.1 hL'.2 hne]
      refine ⟨fun h => by simp at h, fun _ => ?_⟩
      rw [chkDue, if_neg hL] at hd
      cases hw : whenM c.f x.2 c.now with
      | none =>
        rw [hw] at hd
        exact ⟨fun _ => nx rd dl hd, fun h => by simp at h⟩
      | some s =>
        rw [hw] at hd
        refine ⟨fun h => by simp at h, fun _ => ?_⟩
        cases ds with
        | nil =>
          have h0 : w.n = 0 := by simpa using ul
          refine ⟨fun h => by simp [h0] at h, 0, fun h => by simp [h0] at h, fun _ => ⟨?_, le6⟩, fun h => by simp [h0] at h⟩
          rw [chkK_base base, hd, if_neg (by simp)]
        | cons d ds =>
          have h0 : w.n = ds.length + 1 := by simpa using ul
          have g1 := rd.gD (i := 0) (Int.le_refl _) (by simp)
          have g2 := rd.gD2 (i := 0) (Int.le_refl _) (by simp)
          have gs := rd.inS (i := 0) (Int.le_refl _) (by simp)
          simp only [Int.toNat_zero, List.getD_cons_zero] at g1 g2
          dsimp only at hd
          refine ⟨fun _ => gs, d.1, fun _ => g1.1, fun hb => ⟨?_, le6⟩, fun hb => ?_⟩
          · have hb : d.1 ≠ x.1 := by
              simp only [Bool.or_eq_true, beq_iff_eq, bne_iff_ne] at hb
              rcases hb with hb | hb
              · omega
              · exact hb
            rw [chkK_base base, hd, decide_eq_false hb, if_neg (by simp)]
          have hb : d.1 = x.1 := by
            simp only [Bool.or_eq_false_iff, bne_eq_false_iff_eq] at hb; exact hb.2
          rw [decide_eq_true hb, Bool.true_and] at hd
          have et := evTest (s := s) base.ag base.wl hb
          refine ⟨gs, _, _, g2, fun h => ?_, _, fun h => r6.ag.wh.gI ?_ ?_, fun h => ?_, _, fun h => r6.ag.wh.gI ?_ ?_, fun h => ?_, _, _, _, _, _, fun h => r6.ag.heap.gE ?_ ?_, fun ht => ⟨?_, le6⟩, fun ht => ?_⟩
          · simp only [Bool.not_eq_true', Bool.or_eq_false_iff, decide_eq_false_iff_not] at h
            exact r6.ag.wh.inS (by omega) (by omega)
          · simp only [Bool.not_eq_true', Bool.or_eq_false_iff, decide_eq_false_iff_not] at h; omega
          · simp only [Bool.not_eq_true', Bool.or_eq_false_iff, decide_eq_false_iff_not] at h; omega
          · simp only [Bool.not_eq_true', Bool.or_eq_false_iff, decide_eq_false_iff_not] at h
            exact r6.ag.wh.inS (by omega) (by omega)
          · simp only [Bool.not_eq_true', Bool.or_eq_false_iff, decide_eq_false_iff_not] at h; omega
          · simp only [Bool.not_eq_true', Bool.or_eq_false_iff, decide_eq_false_iff_not] at h; omega
          · simp only [Bool.not_eq_true', Bool.or_eq_false_iff, decide_eq_false_iff_not] at h
            exact r6.ag.heap.inS (by omega) (okA.whT base.ag (by omega) (by omega) (by omega))
          · simp only [Bool.not_eq_true', Bool.or_eq_false_iff, decide_eq_false_iff_not] at h; omega
          · simp only [Bool.not_eq_true', Bool.or_eq_false_iff, decide_eq_false_iff_not] at h
            exact okA.whT base.ag (by omega) (by omega) (by omega)
          · rw [chkK_base base, hd]
            have : ¬ (⟨s, x.1, d.2⟩ : Ev) ∈ c.ag.heap := fun hm => by
              obtain ⟨t1, t2, t3, t4, t5⟩ := et.2 hm
              rw [t4, decide_eq_false (by omega), decide_eq_false (by omega), decide_eq_false (by omega)] at ht
              simp [o2] at ht
            rw [decide_eq_false this, if_neg (by simp)]
          · simp only [Bool.or_eq_false_iff, decide_eq_false_iff_not, Bool.not_eq_false', Bool.and_eq_true, beq_iff_eq, o2, Option.getD_some] at ht
            obtain ⟨⟨⟨t1, t2⟩, t3⟩, ⟨⟨⟨t4, t5⟩, t6⟩, t7⟩, t8⟩ := ht
            have hm : (⟨s, x.1, d.2⟩ : Ev) ∈ c.ag.heap := et.1 ⟨by omega, by omega, by omega, by
              generalize hp c.ag.heap (c.ag.wh.getD d.2.1.toNat 0).toNat = y at t4 t5 t6 t7 t8
              obtain ⟨⟨y1, y2⟩, y3, y4, y5⟩ := y
              obtain ⟨s1, s2⟩ := s
              simp only at t4 t5 t6 t7 t8
              rw [t4, t5, t6, t7, t8], okA.whT base.ag (by omega) (by omega) (by omega)⟩
            rw [decide_eq_true hm, Bool.true_and] at hd
            have cap := rd.cap
            rw [cells208]
            have sub := rd.sub (l := 1) (hi := w.n) (m := w.c) (by omega) (by omega) (by simp; omega) (by omega)
            rw [show ((d :: ds).take ((w.n : Int)).toNat).drop (1 : Int).toNat = ds by rw [Int.toNat_natCast, h0]; simp] at sub
            exact ⟨⟨by omega, by omega, by omega, by omega⟩, nx sub (by simp at dl; omega) hd⟩
  · have hn : ¬ i < c.ct.list.length := by have : ¬ i < u.cl.n := by simpa using hn
                                           omega
    rw [List.drop_eq_nil_of_le (by omega), chkDue] at hd
    refine ⟨fun hb => ⟨?_, le6⟩, fun hb => ⟨?_, le6⟩⟩
    · have hb : 0 < w.n := by simpa using hb
      have : ds ≠ [] := fun e => by subst e; simp at ul; omega
      rw [chkK_base base, hd, if_neg (by simpa using this)]
    · have hb : ¬ 0 < w.n := by simpa using hb
      have : ds = [] := List.length_eq_zero_iff.1 (by omega)
      rw [chkK_base base, hd, this]; rfl
end Go.Proofs.YtkemdpobjaiolaaGreat
end
