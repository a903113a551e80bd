/- Contracts of course and field, and their references. Conditions: none. -/
import Derived.Test.YtmnbekffebdfmaaR3
import Derived.Test.YtmnbekffebdfmaaVgBase
import Derived.Test.YtmnbekffebdfmaaVgStd
import Derived.Test.YtmnbekffebdfmaaFs
set_option linter.unusedVariables false
set_option maxRecDepth 100000
open Go Go.Eng Go.Proofs
namespace Go.Proofs.Ytmnbekffebdfmaa

theorem courseCheck1 {H : Hp} {n : Int} : QfV Try.prog (.func (.func F.course_Check_1) #[] #[]) [.int .i64 n] H (.bool (decide (n < -1048576) || decide (n > 1048576))) :=
  ⟨F.course_Check_1, #[], _, rfl, course_Check_1_callable, course_Check_1_vc ⟨rfl, Hp.le_refl _⟩⟩
theorem courseCheck {H : Hp} {p : Pt} : Qf Try.prog F.course_Check #[.agg #[.int .i64 p.1, .int .i64 p.2.1, .int .i64 p.2.2]] H (.int .i64 (chkP p)) := by
  refine course_Check_vc ⟨_, fun _ => courseCheck1, _, fun _ => courseCheck1, fun hc => ⟨?_, Hp.le_refl _⟩, fun hc => ⟨?_, Hp.le_refl _⟩⟩
  · rw [chkP_bad]
    intro h
    have := h.i0; have := h.i1; have := h.a0; have := h.a1; have := h.b0; have := h.b1
    simp at hc; omega
  · simp at hc
    rw [chkP_ok ⟨by omega, by omega, by omega, by omega, by omega, by omega⟩]

def twoM (p q : Pt) (t : Int × Int) : Int := if okP p ∧ okP q ∧ okR t then (if p.1 = q.1 then 2 else 0) else 8
theorem courseTwo {H : Hp} {p q : Pt} {t : Int × Int} (ht : fitR t) :
    Qf Try.prog F.course_two #[.agg #[.int .i64 p.1, .int .i64 p.2.1, .int .i64 p.2.2], .agg #[.int .i64 q.1, .int .i64 q.2.1, .int .i64 q.2.2], .agg #[.int .i64 t.1, .int .i64 t.2]] H (.int .i64 (twoM p q t)) := by
  have key : ∀ z, z = (if chkR t > if chkP q > chkP p then chkP q else chkP p then chkR t else if chkP q > chkP p then chkP q else chkP p) → z = if okP p ∧ okP q ∧ okR t then 0 else 8 := fun z hz => by
    rw [hz]
    by_cases h1 : okP p <;> by_cases h2 : okP q <;> by_cases h3 : okR t
    · rw [chkP_ok h1, chkP_ok h2, chkR_ok h3]; simp [h1, h2, h3]
    · rw [chkP_ok h1, chkP_ok h2, chkR_bad h3]; simp [h3]
    · rw [chkP_ok h1, chkP_bad h2, chkR_ok h3]; simp [h2]
    · rw [chkP_ok h1, chkP_bad h2, chkR_bad h3]; simp [h2]
    · rw [chkP_bad h1, chkP_ok h2, chkR_ok h3]; simp [h1]
    · rw [chkP_bad h1, chkP_ok h2, chkR_bad h3]; simp [h1]
    · rw [chkP_bad h1, chkP_bad h2, chkR_ok h3]; simp [h1]
    · rw [chkP_bad h1, chkP_bad h2, chkR_bad h3]; simp [h1]
  have key := key _ rfl
  refine course_two_vc ⟨_, courseCheck, _, courseCheck, _, ratioCheck ht, fun hc => ⟨?_, Hp.le_refl _⟩, fun hc => ⟨fun he => ⟨?_, Hp.le_refl _⟩, fun he => ⟨?_, Hp.le_refl _⟩⟩⟩
  · rw [key] at hc ⊢
    unfold twoM
    by_cases h : okP p ∧ okP q ∧ okR t
    · rw [if_pos h] at hc; simp at hc
    · rw [if_neg h, if_neg h]
  all_goals
    rw [key] at hc
    have h : okP p ∧ okP q ∧ okR t := by
      by_cases h : okP p ∧ okP q ∧ okR t
      · exact h
      · rw [if_neg h] at hc; simp at hc
    unfold twoM
    rw [if_pos h]
  · rw [if_pos (by simpa using he)]
  · rw [if_neg (by simpa using he)]

theorem orInt {H : Hp} {u : Slc} {x y : Int} (h : RdI H u [x, y]) : Qf Try.prog F.cmp_Or_int #[u.v] H (.int .i64 (if x ≠ 0 then x else y)) := by
  have lu := h.len
  simp only [List.length_cons, List.length_nil] at lu
  refine cmp_Or_int_vc (upto (N := 2) (J := fun n => 0 < n → x = 0 ∧ (1 < n → y = 0)) (by omega) (fun h => by omega) fun n h0 h1 hJ => ⟨fun hn => ?_, fun hn => ⟨?_, Hp.le_refl _⟩⟩)
  · have hn : n < 2 := by have : n < u.n := by simpa using hn
                          omega
    have hc : n = 0 ∨ n = 1 := by omega
    rcases hc with rfl | rfl
    · refine h.ldI (by omega) (by simp) ⟨fun hb => ⟨?_, Hp.le_refl _⟩, fun hb => upto.nx (by omega) (by omega) (by omega) fun _ => ⟨?_, fun h => by omega⟩⟩
      · have : x ≠ 0 := by simpa using hb
        rw [if_pos this]; rfl
      · simpa using hb
    · obtain ⟨hx, _⟩ := hJ (by omega)
      refine h.ldI (by omega) (by simp) ⟨fun hb => ⟨?_, Hp.le_refl _⟩, fun hb => upto.nx (by omega) (by omega) (by omega) fun _ => ⟨hx, fun _ => ?_⟩⟩
      · rw [if_neg (by omega)]; rfl
      · simpa using hb
  · have : n = 2 := by have : ¬ n < u.n := by simpa using hn
                       omega
    subst this
    obtain ⟨hx, hy⟩ := hJ (by omega)
    have hy := hy (by omega)
    rw [hx, hy]; rfl

/-- Two ints in a block of their own. -/
theorem rdI2 {H H' : Hp} {b : Nat} {x y : Int} {T : TypeId} (h : H' = H.put b (.cells #[.int .i64 x, .int .i64 y] T (0, 0))) : RdI H' ⟨some ⟨b, 0, none⟩, 2, 2⟩ [x, y] :=
  rdConst (k := 1) (f := fI) (fun _ => rfl) h rfl rfl

theorem courseCompare {H : Hp} {p q : Pt} {t : Int × Int} (hp : okP p) (hq : okP q) (ht : okR t) :
    Qf Try.prog F.course_compare #[.agg #[.int .i64 p.1, .int .i64 p.2.1, .int .i64 p.2.2], .agg #[.int .i64 q.1, .int .i64 q.2.1, .int .i64 q.2.2], .agg #[.int .i64 t.1, .int .i64 t.2]] H (.int .i64 (cmpP p q t)) := by
  obtain ⟨r1, r2, i1, i2⟩ := farR hp hq ht
  obtain ⟨hi, lo, hq', hv, l0, l1⟩ := courseSum (H := H) i1 ht.fit.2 i2 ht.fit.1 r1 r2
  have hv : hi * 18446744073709551616 + lo = farV p q t := hv
  refine course_compare_vc ⟨i1, i2, _, _, hq', fun hc => ⟨fun hn => ⟨?_, Hp.le_refl _⟩, fun hn => ⟨?_, Hp.le_refl _⟩⟩, fun hc => ⟨_, compare_i64, _, compare_int, fun b5 H6 hb5 hH6 => ⟨_, orInt (u := ⟨some ⟨b5, 0, none⟩, 2, 2⟩) (rdI2 hH6), ?_, Hp.le_new (Hp.le_refl _) hb5 hH6⟩⟩⟩
  · have hn : hi < 0 := by simpa using hn
    unfold cmpP
    rw [if_pos (by omega), if_pos (by omega)]
  · have hn : ¬ hi < 0 := by simpa using hn
    simp at hc
    have hne : farV p q t ≠ 0 := by
      intro e
      rw [e] at hv
      rcases hc with hc | hc <;> omega
    unfold cmpP
    rw [if_pos hne, if_neg (by omega)]
  · simp at hc
    have : farV p q t = 0 := by omega
    unfold cmpP
    rw [if_neg (show ¬ farV p q t ≠ 0 by omega)]

def aheadM (p q : Pt) (t : Int × Int) : Bool × Int := if twoM p q t = 0 then (leads p q t, 0) else (false, twoM p q t)
theorem twoM_zero {p q : Pt} {t : Int × Int} : twoM p q t = 0 ↔ okP p ∧ okP q ∧ okR t ∧ p.1 ≠ q.1 := by
  unfold twoM
  constructor
  · intro h
    split at h
    · rename_i k
      split at h
      · cases h
      · exact ⟨k.1, k.2.1, k.2.2, by assumption⟩
    · cases h
  · intro ⟨a, b, c, d⟩
    rw [if_pos ⟨a, b, c⟩, if_neg d]
theorem courseAhead {H : Hp} {p q : Pt} {t : Int × Int} (ht : fitR t) :
    Qf Try.prog F.course_Ahead #[.agg #[.int .i64 p.1, .int .i64 p.2.1, .int .i64 p.2.2], .agg #[.int .i64 q.1, .int .i64 q.2.1, .int .i64 q.2.2], .agg #[.int .i64 t.1, .int .i64 t.2]] H (.tuple #[.bool (aheadM p q t).1, .int .i64 (aheadM p q t).2]) := by
  refine course_Ahead_vc ⟨_, courseTwo ht, fun hc => ⟨?_, Hp.le_refl _⟩, fun hc => ?_⟩
  · have hc : twoM p q t ≠ 0 := by simpa using hc
    unfold aheadM; rw [if_neg hc]
  · have hc : twoM p q t = 0 := by simpa using hc
    obtain ⟨h1, h2, h3, _⟩ := twoM_zero.1 hc
    refine ⟨_, courseCompare h1 h2 h3, ?_, Hp.le_refl _⟩
    unfold aheadM; rw [if_pos hc, ← cmpP_leads]

/-- Points in a slice. -/
theorem fieldCheck {H : Hp} {u : Slc} {f : List Pt} (h : Rd 3 fD H u f) : Qf Try.prog F.field_Check #[.agg #[u.v]] H (.int .i64 (chkF f)) := by
  have lu := h.len
  refine field_Check_vc ⟨fun hc => ⟨?_, Hp.le_refl _⟩, fun hc => ?_⟩
  · unfold chkF; rw [if_pos (by simp at hc; omega)]
  have hl : f.length ≤ 64 := by simp at hc; omega
  refine upto (N := f.length) (J := fun n => ∀ y ∈ f.take n.toNat, okP y) (by omega) (by simp) fun n h0 h1 hJ => ⟨fun hn => ?_, fun hn => ?_⟩
  · have hn : n < f.length := by have : n < u.n := by simpa using hn
                                 omega
    have hg := getX (d := ((0 : Int), (0 : Int), (0 : Int))) h0 hn
    refine h.ldD h0 hn ⟨_, courseCheck (p := f.getD n.toNat (0, 0, 0)), ?_⟩
    generalize f.getD n.toNat (0, 0, 0) = x at hg ⊢
    refine ⟨fun hb => ⟨?_, Hp.le_refl _⟩, fun hb => upto.nx h0 hn (by omega) ?_⟩
    · have hb : chkP x ≠ 0 := by simpa using hb
      have hx : ¬ okP x := fun h => hb (chkP_ok h)
      rw [chkP_bad hx]
      unfold chkF; rw [if_neg (by omega), if_neg fun h => hx (h x (List.mem_of_getElem? hg))]
    · rw [show (n + 1).toNat = n.toNat + 1 by omega, take_succ hg]
      intro y hy
      rcases List.mem_append.1 hy with hy | hy
      · exact hJ y hy
      · simp only [List.mem_singleton] at hy; subst hy; exact chkP_zero.1 (by simpa using hb)
  · have : n = f.length := by have : ¬ n < u.n := by simpa using hn
                              omega
    subst this
    rw [Int.toNat_natCast, List.take_length] at hJ
    refine upto (N := f.length) (J := fun n => ((f.take n.toNat).map (·.1)).Pairwise (· < ·)) (by omega) (by simp) fun n h0 h1 hS => ⟨fun hn => ?_, fun hn => ⟨?_, Hp.le_refl _⟩⟩
    · have hn : n < f.length := by have : n < u.n := by simpa using hn
                                   omega
      have hg := getX (d := ((0 : Int), (0 : Int), (0 : Int))) h0 hn
      refine h.ldD h0 hn ?_
      generalize f.getD n.toNat (0, 0, 0) = x at hg ⊢
      have e1 : (n + 1).toNat = n.toNat + 1 := by omega
      have hts := take_succ hg
      refine ⟨fun hp => by unfold inI; omega, fun hp => h.inS (by simp at hp; omega) (by omega), (f.getD (n - 1).toNat (0, 0, 0)).1, fun hp => (h.gD (by simp at hp; omega) (by omega)).1, fun hb => ⟨?_, Hp.le_refl _⟩, fun hb => upto.nx h0 hn (by omega) ?_⟩
      · simp at hb
        obtain ⟨hp, hb⟩ := hb
        unfold chkF
        rw [if_neg (by omega), if_pos hJ, if_neg]
        intro hpw
        have hg' := getX (d := ((0 : Int), (0 : Int), (0 : Int))) (i := n - 1) (by omega) (by omega : n - 1 < f.length)
        have hm : (f.map (·.1))[n.toNat]? = some x.1 := by rw [List.getElem?_map, hg]; rfl
        have hm' : (f.map (·.1))[(n - 1).toNat]? = some (f.getD (n - 1).toNat (0, 0, 0)).1 := by rw [List.getElem?_map, hg']; rfl
        have := List.pairwise_iff_getElem.1 hpw (n - 1).toNat n.toNat (List.getElem?_eq_some_iff.1 hm').1 (List.getElem?_eq_some_iff.1 hm).1 (by omega)
        rw [(List.getElem?_eq_some_iff.1 hm').2, (List.getElem?_eq_some_iff.1 hm).2] at this
        have en : (n - 1).toNat = n.toNat - 1 := by omega
        simp only [List.getD_eq_getElem?_getD, en] at this hb
        omega
      · rw [e1, hts, List.map_append]
        show (_ ++ [x.1]).Pairwise (· < ·)
        rw [inc_snoc]
        refine ⟨hS, fun y hy => ?_⟩
        simp at hb
        have hp : 0 < n := by
          rcases Int.lt_or_le 0 n with h' | h'
          · exact h'
          · have : n.toNat = 0 := by omega
            rw [this] at hy; simp at hy
        have hb := hb hp
        have hg' := getX (d := ((0 : Int), (0 : Int), (0 : Int))) (i := n - 1) (by omega) (by omega : n - 1 < f.length)
        have hts' := take_succ hg'
        rw [show (n - 1).toNat + 1 = n.toNat by omega] at hts'
        rw [hts', List.map_append] at hS hy
        have hS : (_ ++ [(f.getD (n - 1).toNat (0, 0, 0)).1]).Pairwise (· < ·) := hS
        rw [inc_snoc] at hS
        have hx : (f.getD (n - 1).toNat (0, 0, 0)).1 < x.1 := by
          have en : (n - 1).toNat = n.toNat - 1 := by omega
          simp only [List.getD_eq_getElem?_getD, en] at hb ⊢
          omega
        rcases List.mem_append.1 hy with hy | hy
        · have := hS.2 y hy; omega
        · simp only [List.map_cons, List.map_nil, List.mem_singleton] at hy; rw [hy]; exact hx
    · have : n = f.length := by have : ¬ n < u.n := by simpa using hn
                                omega
      subst this
      rw [Int.toNat_natCast, List.take_length] at hS
      unfold chkF; rw [if_neg (by omega), if_pos hJ, if_pos hS]

theorem refFCheck {H : Hp} {u : Slc} {f : List Pt} (h : Rd 3 fD H u f) : Qf Try.prog F.pelotonref03_Check #[.agg #[u.v]] H (.int .i64 (chkF f)) := by
  have lu := h.len
  refine pelotonref03_Check_vc ⟨fun hc => ⟨?_, Hp.le_refl _⟩, fun hc => ?_⟩
  · unfold chkF; rw [if_pos (by simp at hc; omega)]
  have hl : f.length ≤ 64 := by simp at hc; omega
  refine upto (N := f.length) (J := fun n => ∀ y ∈ f.take n.toNat, okP y) (by omega) (by simp) fun n h0 h1 hJ => ⟨fun hn => ?_, fun hn => ?_⟩
  · have hn : n < f.length := by have : n < u.n := by simpa using hn
                                 omega
    have hg := getX (d := ((0 : Int), (0 : Int), (0 : Int))) h0 hn
    refine h.ldD h0 hn ⟨_, refPCheck (p := f.getD n.toNat (0, 0, 0)), ?_⟩
    generalize f.getD n.toNat (0, 0, 0) = x at hg ⊢
    refine ⟨fun hb => ⟨?_, Hp.le_refl _⟩, fun hb => upto.nx h0 hn (by omega) ?_⟩
    · have hb : chkP x ≠ 0 := by simpa using hb
      have hx : ¬ okP x := fun h => hb (chkP_ok h)
      unfold chkF; rw [if_neg (by omega), if_neg fun h => hx (h x (List.mem_of_getElem? hg))]
    · rw [show (n + 1).toNat = n.toNat + 1 by omega, take_succ hg]
      intro y hy
      rcases List.mem_append.1 hy with hy | hy
      · exact hJ y hy
      · simp only [List.mem_singleton] at hy; subst hy; exact chkP_zero.1 (by simpa using hb)
  · have : n = f.length := by have : ¬ n < u.n := by simpa using hn
                              omega
    subst this
    rw [Int.toNat_natCast, List.take_length] at hJ
    refine ⟨fun n H' => H' = H ∧ 1 ≤ n ∧ (n ≤ f.length ∨ n = 1) ∧ ((f.take n.toNat).map (·.1)).Pairwise (· < ·), fun n _ => (f.length - n).toNat, ⟨rfl, Int.le_refl _, .inr rfl, ?_⟩, fun n H' ⟨e, h0, h1, hS⟩ => ?_⟩
    · cases f with
      | nil => simp
      | cons x l => simp
    subst e
    refine ⟨fun hn => ?_, fun hn => ⟨?_, Hp.le_refl _⟩⟩
    · have hn : n < f.length := by have : n < u.n := by simpa using hn
                                   omega
      have hg := getX (d := ((0 : Int), (0 : Int), (0 : Int))) (by omega : 0 ≤ n) hn
      have hg' := getX (d := ((0 : Int), (0 : Int), (0 : Int))) (i := n - 1) (by omega) (by omega : n - 1 < f.length)
      refine ⟨by unfold inI; omega, h.inS (by omega) (by omega), _, (h.gD (by omega) (by omega)).1, h.inS (by omega) hn, _, (h.gD (by omega) hn).1, ?_⟩
      generalize f.getD n.toNat (0, 0, 0) = x at hg ⊢
      generalize f.getD (n - 1).toNat (0, 0, 0) = y at hg' ⊢
      have e1 : (n + 1).toNat = n.toNat + 1 := by omega
      refine ⟨fun hb => ⟨?_, Hp.le_refl _⟩, fun hb => ⟨by unfold inI; omega, ⟨rfl, by omega, by omega, ?_⟩, ?_⟩⟩
      · have hb : y.1 ≥ x.1 := by simpa using hb
        unfold chkF
        rw [if_neg (by omega), if_pos hJ, if_neg]
        intro hpw
        have hm : (f.map (·.1))[n.toNat]? = some x.1 := by rw [List.getElem?_map, hg]; rfl
        have hm' : (f.map (·.1))[(n - 1).toNat]? = some y.1 := by rw [List.getElem?_map, hg']; rfl
        have := List.pairwise_iff_getElem.1 hpw (n - 1).toNat n.toNat (List.getElem?_eq_some_iff.1 hm').1 (List.getElem?_eq_some_iff.1 hm).1 (by omega)
        rw [(List.getElem?_eq_some_iff.1 hm').2, (List.getElem?_eq_some_iff.1 hm).2] at this
        omega
      · have hb : ¬ y.1 ≥ x.1 := by simpa using hb
        rw [e1, take_succ hg, List.map_append]
        show (_ ++ [x.1]).Pairwise (· < ·)
        rw [inc_snoc]
        refine ⟨hS, fun z hz => ?_⟩
        have hts' := take_succ hg'
        rw [show (n - 1).toNat + 1 = n.toNat by omega] at hts'
        rw [hts', List.map_append] at hS hz
        have hS : (_ ++ [y.1]).Pairwise (· < ·) := hS
        rw [inc_snoc] at hS
        rcases List.mem_append.1 hz with hz | hz
        · have := hS.2 z hz; omega
        · simp only [List.map_cons, List.map_nil, List.mem_singleton] at hz; omega
      · show ((f.length : Int) - (n + 1)).toNat < ((f.length : Int) - n).toNat; omega
    · have hn : ¬ n < f.length := by have : ¬ n < u.n := by simpa using hn
                                     omega
      rw [List.take_of_length_le (by omega)] at hS
      unfold chkF; rw [if_neg (by omega), if_pos hJ, if_pos hS]

theorem refTimed {H : Hp} {u : Slc} {f : List Pt} {t : Int × Int} (h : Rd 3 fD H u f) (ht : fitR t) : Qf Try.prog F.pelotonref03_Timed #[.agg #[u.v], .agg #[.int .i64 t.1, .int .i64 t.2]] H (.int .i64 (timedF f t)) := by
  refine pelotonref03_Timed_vc ⟨_, refFCheck h, fun hc => ⟨?_, Hp.le_refl _⟩, fun hc => ⟨_, refRCheck ht, ?_, Hp.le_refl _⟩⟩
  · have hc : chkF f ≠ 0 := by simpa using hc
    unfold timedF; rw [if_pos hc]
  · have hc : ¬ chkF f ≠ 0 := by simpa using hc
    unfold timedF; rw [if_neg hc]

theorem refFAt {H : Hp} {u : Slc} {f : List Pt} {id : Int} (h : Rd 3 fD H u f) (hl : f.length ≤ 1000000000) : Qf Try.prog F.pelotonref03_At #[.agg #[u.v], .int .i64 id] H (.int .i64 (posF f id)) := by
  have lu := h.len
  refine pelotonref03_At_vc (upto (N := f.length) (J := fun i => ∀ y ∈ f.take i.toNat, (y.1 == id) = false) (by omega) (by simp) fun i i0 i1 i2 => ⟨fun hn => ?_, fun hn => ⟨?_, Hp.le_refl _⟩⟩)
  · have hn : i < f.length := by have : i < u.n := by simpa using hn
                                 omega
    have hg := getX (d := ((0 : Int), (0 : Int), (0 : Int))) i0 hn
    have h2 := (h.gD i0 hn).1
    generalize f.getD i.toNat (0, 0, 0) = x at hg h2
    refine ⟨h.inS i0 hn, _, h2, fun hb => ⟨?_, Hp.le_refl _⟩, fun hb => upto.nx i0 hn (by omega) ?_⟩
    · unfold posF; rw [idx_hit hg hb i2, Int.toNat_of_nonneg i0]
    · rw [show (i + 1).toNat = i.toNat + 1 by omega, take_succ hg]
      intro y hy
      rcases List.mem_append.1 hy with hy | hy
      · exact i2 y hy
      · simp only [List.mem_singleton] at hy; subst hy; exact hb
  · have : i = f.length := by have : ¬ i < u.n := by simpa using hn
                              omega
    subst this
    rw [Int.toNat_natCast, List.take_length] at i2
    unfold posF; rw [idx_miss i2]

theorem refFGreat {H : Hp} {u : Slc} {f : List Pt} (h : Rd 3 fD H u f) : Qf Try.prog F.pelotonref03_Great #[.agg #[u.v]] H (.bool (decide ((16 < f.length ∧ f.length < 64) ∨ 70 < f.length))) := by
  have lu := h.len
  refine pelotonref03_Great_vc ⟨?_, Hp.le_refl _⟩
  congr 1
  rw [Bool.eq_iff_iff]
  simp only [Bool.or_eq_true, Bool.and_eq_true, decide_eq_true_eq]
  omega

theorem refFTwin {H : Hp} {u : Slc} {f : List Pt} (h : Rd 3 fD H u f) (hl : f.length ≤ 1000000000) :
    Go.Eng.Fn Try.prog F.pelotonref03_Twin #[.agg #[u.v]] H fun v H' => ∃ a : Slc, v = .agg #[a.v] ∧ Hp.le H H' ∧ Mine 3 fD T.api_Point H H' a f := by
  refine pelotonref03_Twin_vc fun b1 H2 hb1 hH2 => ?_
  exact (copy_ok (k := 3) (f := fD) (bytes := 24) (e := T.api_Point) (by kernel_rfl) (by decide) (fun _ => rfl) (fun x v hv => by simp [fD] at hv; rcases hv with rfl | rfl | rfl <;> rfl) hb1 hH2 h (by omega) (by omega)).mono
    fun v H1 ⟨a, hv, hl, hm⟩ => ⟨a, hv, a, rfl, hl, hm⟩

theorem refFSame {H : Hp} {a b : Slc} {f g : List Pt} (ha : Rd 3 fD H a f) (hb : Rd 3 fD H b g) (h63 : f.length ≤ 1000000000) :
    Qf Try.prog F.pelotonref03_Same #[.agg #[a.v], .agg #[b.v]] H (.bool (f == g)) := by
  have la := ha.len
  have lb := hb.len
  refine pelotonref03_Same_vc ⟨fun h => ⟨?_, Hp.le_refl H⟩, fun h => ?_⟩
  · have h : (a.n : Int) ≠ b.n := by simpa using h
    have : (f == g) = false := by
      rw [beq_eq_false_iff_ne]; intro e; rw [e] at la; omega
    rw [this]
  · have h2 : (a.n : Int) = b.n := by simpa using h
    refine upto (N := f.length) (J := fun n => f.take n.toNat = g.take n.toNat) (by omega) (by simp) fun n i0 i1 i2 => ⟨fun hn => ?_, fun hn => ⟨?_, Hp.le_refl _⟩⟩
    · have hn : n < a.n := by simpa using hn
      have gx := getX (d := ((0 : Int), (0 : Int), (0 : Int))) i0 (by omega : n < f.length)
      have gy := getX (d := ((0 : Int), (0 : Int), (0 : Int))) i0 (by omega : n < g.length)
      refine ha.ldD i0 (by omega) (hb.ldD i0 (by omega) ?_)
      generalize f.getD n.toNat (0, 0, 0) = x at gx ⊢
      generalize g.getD n.toNat (0, 0, 0) = y at gy ⊢
      refine ⟨fun hne => ⟨?_, Hp.le_refl _⟩, fun he => upto.nx i0 (by omega) (by omega) ?_⟩
      · have : (f == g) = false := by
          rw [beq_eq_false_iff_ne]; intro e; rw [e, gy] at gx; cases gx; simp at hne
        rw [this]
      · have e : (n + 1).toNat = n.toNat + 1 := by omega
        rw [e]
        refine (take_succ_eq gx gy i2).2 ?_
        simp only [Bool.not_eq_false', Bool.and_eq_true, beq_iff_eq] at he
        obtain ⟨⟨q1, q2⟩, q3⟩ := he
        exact Prod.ext q1 (Prod.ext q2 q3)
    · have hn : n = f.length := by
        have : ¬ n < a.n := by simpa using hn
        omega
      subst hn
      have : f = g := by
        have e2 : g.take f.length = g := by
          have : f.length = g.length := by omega
          rw [this]; exact List.take_length
        rw [Int.toNat_natCast, List.take_length, e2] at i2
        exact i2
      rw [this, beq_self_eq_true]
end Go.Proofs.Ytmnbekffebdfmaa
