/- The engine, parts CL, CE, put together. Conditions: none. -/
import Derived.Test.YtkemdpobjaiolaaGreatPQ1
import Derived.Test.YtkemdpobjaiolaaGreatPN2
set_option linter.unusedVariables false
section
/- At a time that is asked for all places and distances are told; the distance of two points, whoever is ahead. Conditions: none. -/
set_option maxRecDepth 100000
open Go Go.Eng Go.Proofs
namespace Go.Proofs.YtkemdpobjaiolaaGreat

def askedR (t : Int × Int) : Prop := okR t ∧ -1073741824 ≤ t.1 ∧ t.1 ≤ 1073741824 ∧ t.2 ≤ 1024
instance (t : Int × Int) : Decidable (askedR t) := inferInstanceAs (Decidable (_ ∧ _))
theorem ediv_le {x g : Int} (h : 0 ≤ x) : x / g ≤ x := Int.ediv_le_self g h
theorem asked_place {p : Pt} {t : Int × Int} (op : okP p) (a : askedR t) : (placeM p t).2 = 0 ∧ absI (placeM p t).1.1 ≤ 2251799813685248 ∧ (placeM p t).1.2 ≤ 1024 := by
  obtain ⟨ot, a1, a2, a3⟩ := a
  have d1 := ot.d1
  have b := op.b
  have s1 := absI_mul_le (x := p.2.1) (y := t.2) (m := 1048576) (n := 1024) (absI_le (by omega) (by omega)) (absI_le (by omega) (by omega))
  have s2 := absI_mul_le (x := p.2.2) (y := t.1) (m := 1048576) (n := 1073741824) (absI_le (by omega) (by omega)) (absI_le (by omega) (by omega))
  have s3 : absI (numP p t) ≤ absI (p.2.1 * t.2) + absI (p.2.2 * t.1) := by unfold numP absI; split <;> split <;> split <;> omega
  have n0 := absI_nonneg (numP p t)
  have q1 : absI (numP p t) / gcdA (numP p t) t.2 ≤ absI (numP p t) := ediv_le n0
  have q2 : t.2 / gcdA (numP p t) t.2 ≤ t.2 := ediv_le (by omega)
  have g0 : 0 ≤ gcdA (numP p t) t.2 := by unfold gcdA; exact Int.natCast_nonneg _
  have q3 : 0 ≤ absI (numP p t) / gcdA (numP p t) t.2 := Int.ediv_nonneg n0 g0
  rw [placeM_ok op ot]
  unfold overM buildM
  rw [if_neg (by omega)]
  refine ⟨rfl, ?_, by show t.2 / _ ≤ 1024; omega⟩
  have q4 : absI (numP p t) / gcdA (numP p t) t.2 ≤ 2251799813685248 := by omega
  generalize absI (numP p t) / gcdA (numP p t) t.2 = z at *
  have q5 : absI (0 - z) ≤ 2251799813685248 := absI_le (by omega) (by omega)
  have q6 : absI z ≤ 2251799813685248 := absI_le (by omega) (by omega)
  have q7 : ∀ c : Bool, absI (if c = true then 0 - z else z) ≤ 2251799813685248 := fun c => by
    cases c
    · rw [if_neg (by simp)]; exact q6
    · rw [if_pos rfl]; exact q5
  exact q7 _
theorem asked_told {f : List Pt} (of : okF f) {t : Int × Int} (a : askedR t) : Told f t := ⟨of, a.1, fun k hk => (asked_place (sP_ok of hk) a).1⟩
theorem asked_sub {p q : Pt} {t : Int × Int} (op : okP p) (oq : okP q) (a : askedR t) : (subM (placeM p t).1 (placeM q t).1).2 = 0 := by
  obtain ⟨h1, h2, h3⟩ := asked_place op a
  obtain ⟨k1, k2, k3⟩ := asked_place oq a
  have o : ∀ {p : Pt}, okP p → (placeM p t).2 = 0 → okR (placeM p t).1 := fun {p} op h => by
    rw [placeM_ok op a.1] at h ⊢
    obtain ⟨_, _, _, _, x⟩ := overM_eq a.1.d1 h
    exact x
  unfold subM
  refine addM_told (o op h1) (okR_neg (o oq k1)) (P := 2251799813685248) (Q := 1024) h2 ?_ h3 k3 (by omega) (by omega)
  show absI (-(placeM q t).1.1) ≤ _
  generalize (placeM q t).1.1 = z at *
  unfold absI at *
  split <;> split at k2 <;> omega
theorem asked_near {f : List Pt} (of : okF f) {t : Int × Int} (a : askedR t) : nearT f t := fun i hi => asked_sub (sP_ok of (by omega)) (sP_ok of (by omega)) a
theorem asked_all {f : List Pt} (of : okF f) {t : Int × Int} (a : askedR t) : allT f t := fun k hk i hi => asked_sub (sP_ok of (by omega)) (sP_ok of hk) a

/-! ### Whoever is ahead -/
def absR (d : Int × Int) : Int × Int := (absI d.1, d.2)
theorem absR_neg {d : Int × Int} : absR d = (if d.1 < 0 then -d.1 else d.1, d.2) := by
  unfold absR absI; rfl
theorem sP_at {f : List Pt} (of : okF f) (t : Int × Int) {p : Pt} (hp : p ∈ f) : rankM f p t < f.length ∧ sP f t (rankM f p t) = p := by
  have S := sortM_sorted (okF_ids of) t
  have a1 := S.at_rank (okF_ids of) hp
  have hl := (List.getElem?_eq_some_iff.1 a1).1
  rw [sortM_len] at hl
  rw [sP_get hl] at a1
  exact ⟨hl, Option.some.inj a1⟩
theorem sub_val {p q : Pt} {t : Int × Int} (op : okP p) (oq : okP q) (ot : okR t) (h1 : (placeM p t).2 = 0) (h2 : (placeM q t).2 = 0) (h : (subM (placeM p t).1 (placeM q t).1).2 = 0) : okR (subM (placeM p t).1 (placeM q t).1).1 ∧ (subM (placeM p t).1 (placeM q t).1).1.1 * t.2 = (valP p t - valP q t) * (subM (placeM p t).1 (placeM q t).1).1.2 := by
  rw [placeM_ok op ot] at h1 h ⊢
  rw [placeM_ok oq ot] at h2 h ⊢
  obtain ⟨g1, p1, y1, y2, oy⟩ := overM_eq ot.d1 h1
  obtain ⟨g2, p2, z1, z2, oz⟩ := overM_eq ot.d1 h2
  obtain ⟨od, e⟩ := subM_ok oy oz h
  refine ⟨od, ?_⟩
  generalize (subM (overM (numP p t) t.2).1 (overM (numP q t) t.2).1).1 = d at *
  generalize (overM (numP p t) t.2).1 = y at *
  generalize (overM (numP q t) t.2).1 = z at *
  have c : 0 < t.2 := ot.d1
  refine Int.eq_of_mul_eq_mul_right (a := t.2) (by omega) ?_
  have a1 : d.1 * t.2 * t.2 = (d.1 * (y.2 * z.2)) * (g1 * g2) := by
    conv => lhs; rw [← y2]; arg 2; rw [y2, ← z2]
    ac_rfl
  have c1 : y.1 * z.2 * (g1 * g2) = (y.1 * g1) * (z.2 * g2) := by ac_rfl
  have c2 : z.1 * y.2 * (g1 * g2) = (z.1 * g2) * (y.2 * g1) := by ac_rfl
  have a3 : (y.1 * z.2 - z.1 * y.2) * d.2 * (g1 * g2) = ((y.1 * z.2 - z.1 * y.2) * (g1 * g2)) * d.2 := by ac_rfl
  have f1 : numP p t = valP p t := rfl
  have f2 : numP q t = valP q t := rfl
  rw [a1, e, a3, Int.sub_mul (y.1 * z.2), c1, c2, y1, y2, z1, z2, ← Int.sub_mul, f1, f2]
  ac_rfl
theorem val_eq {d e : Int × Int} {t : Int × Int} {V : Int} (od : okR d) (oe : okR e) (ot : okR t) (h1 : d.1 * t.2 = V * d.2) (h2 : e.1 * t.2 = V * e.2) : d = e := by
  have c : 0 < t.2 := ot.d1
  have key : d.1 * e.2 = e.1 * d.2 := by
    refine Int.eq_of_mul_eq_mul_right (a := t.2) (by omega) ?_
    have a1 : d.1 * e.2 * t.2 = (d.1 * t.2) * e.2 := by ac_rfl
    have a2 : e.1 * d.2 * t.2 = (e.1 * t.2) * d.2 := by ac_rfl
    rw [a1, a2, h1, h2]; ac_rfl
  exact okR_eq od oe (show d.1 * e.2 ≤ e.1 * d.2 by omega) (show e.1 * d.2 ≤ d.1 * e.2 by omega)
theorem okR_abs {d : Int × Int} (od : okR d) : okR (absR d) := by
  have a := od.n1; have b := od.n2
  refine ⟨od.d1, od.d2, ?_, ?_, ?_⟩
  · show _ ≤ absI d.1; unfold absI; split <;> omega
  · show absI d.1 ≤ _; unfold absI; split <;> omega
  · show Nat.gcd (absI d.1).natAbs d.2.natAbs = 1
    rw [absI_nat, Int.natAbs_natCast]; exact od.g
theorem abs_val {d : Int × Int} {T V : Int} (hT : 0 < T) (hd : 0 < d.2) (h : d.1 * T = V * d.2) : (absR d).1 * T = absI V * (absR d).2 := by
  show absI d.1 * T = absI V * d.2
  by_cases hv : V < 0
  · have : d.1 < 0 := by
      rcases Int.lt_or_le d.1 0 with k | k
      · exact k
      · have a := Int.mul_nonneg k (show 0 ≤ T by omega)
        have b := Int.mul_neg_of_neg_of_pos hv hd
        omega
    unfold absI
    rw [if_pos this, if_pos hv, Int.neg_mul, Int.neg_mul, h]
  · have : ¬ d.1 < 0 := fun k => by
      have a := Int.mul_neg_of_neg_of_pos k hT
      have b := Int.mul_nonneg (show 0 ≤ V by omega) (show 0 ≤ d.2 by omega)
      omega
    unfold absI
    rw [if_neg this, if_neg hv, h]
theorem apart_in {f : List Pt} {t : Int × Int} (w : Told f t) {p q : Pt} (hp : p ∈ f) (hq : q ∈ f) (hne : p.1 ≠ q.1) (hz : (subM (placeM p t).1 (placeM q t).1).2 = 0) {a b : Nat} (hab : a < b) (hb : b < f.length) (h : (sP f t a = p ∧ sP f t b = q) ∨ (sP f t a = q ∧ sP f t b = p)) (hg : (gapD f t a b).2 = 0) : (gapD f t a b).1 = absR (subM (placeM p t).1 (placeM q t).1).1 := by
  have op := w.of.each _ hp; have oq := w.of.each _ hq
  have tp : ∀ {r : Pt}, r ∈ f → (placeM r t).2 = 0 := fun {r} hr => by
    obtain ⟨h1, h2⟩ := sP_at w.of t hr
    have := w.T _ h1
    unfold spot at this
    rw [h2] at this; exact this
  obtain ⟨od, e⟩ := sub_val op oq w.ot (tp hp) (tp hq) hz
  obtain ⟨og, eg⟩ := w.gap (by omega) hb hg
  have v := sP_val w.of (t := t) hab hb
  have av := abs_val (w.ot.d1) (od.d1) e
  refine val_eq og (okR_abs od) w.ot eg ?_
  rw [av]
  congr 1
  rcases h with ⟨h1, h2⟩ | ⟨h1, h2⟩
  · rw [h1, h2] at v ⊢
    unfold absI; rw [if_neg (by omega)]
  · rw [h1, h2] at v ⊢
    unfold absI; split <;> omega
theorem min_max {x y u v : Int} (h : (x = u ∧ y = v) ∨ (x = v ∧ y = u)) (hl : u < v) : min x y = u ∧ max x y = v := by omega

/-! ### No pair comes twice -/
/-! ### The nearest one -/
def pairT (f : List Pt) (t : Int × Int) (k : Nat) : Prop := (spot f t k).2 = 0 ∧ (spot f t (k + 1)).2 = 0 ∧ (gapD f t k (k + 1)).2 = 0
instance (f : List Pt) (t : Int × Int) (k : Nat) : Decidable (pairT f t k) := inferInstanceAs (Decidable (_ ∧ _))
def pairN (f : List Pt) (t : Int × Int) (k : Nat) : Pr × Int := if pairT f t k then (prM f t k (k + 1), 0) else (zPr, 16)
def nearer (f : List Pt) (t : Int × Int) (i : Nat) : Pr := if cmpR (prM f t i (i + 1)).2.2 (prM f t (i - 1) i).2.2 < 0 ∨ (cmpR (prM f t i (i + 1)).2.2 (prM f t (i - 1) i).2.2 = 0 ∧ (sP f t (i + 1)).1 < (sP f t (i - 1)).1) then prM f t i (i + 1) else prM f t (i - 1) i
def nearI (f : List Pt) (t : Int × Int) (i : Nat) : Pr × Int :=
  if i = 0 then pairN f t 0 else if i + 1 = f.length then pairN f t (i - 1) else if pairT f t (i - 1) ∧ pairT f t i then (nearer f t i, 0) else (zPr, 16)
def nearestM (l : Ls) (id : Int) : Pr × Int := if (kRankM l id).2 ≠ 0 then (zPr, (kRankM l id).2) else if l.ord.length < 2 then (zPr, 42) else nearI l.ck.f l.ck.now (kRankM l id).1.toNat

/-! ### All within a distance -/
end Go.Proofs.YtkemdpobjaiolaaGreat
end
