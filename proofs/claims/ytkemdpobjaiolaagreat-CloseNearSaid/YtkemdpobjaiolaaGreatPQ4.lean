/- The engine, parts CL, CE, put together. Conditions: none. -/
import Derived.Test.YtkemdpobjaiolaaGreatPQ1
import Derived.Test.YtkemdpobjaiolaaGreatPN2
set_option linter.unusedVariables false
section
/- At a time that is asked for all places and distances are told; the distance of two points, whoever is ahead. Conditions: none. -/
set_option maxRecDepth 100000
open Go Go.Eng Go.Proofs
namespace Go.Proofs.YtkemdpobjaiolaaGreat

def askedR (t : Int × Int) : Prop := okR t ∧ -1073741824 ≤ t.1 ∧ t.1 ≤ 1073741824 ∧ t.2 ≤ 1024
instance (t : Int × Int) : Decidable (askedR t) := inferInstanceAs (Decidable (_ ∧ _))
theorem ediv_le {x g : Int} (h : 0 ≤ x) : x / g ≤ x := Int.ediv_le_self g h
theorem asked_place {p : Pt} {t : Int × Int} (op : okP p) (a : askedR t) : (placeM p t).2 = 0 ∧ absI (placeM p t).1.1 ≤ 2251799813685248 ∧ (placeM p t).1.2 ≤ 1024 := by
  obtain ⟨ot, a1, a2, a3⟩ := a
  have d1 := ot.d1
  have b := op.b
  have s1 := absI_mul_le (x := p.2.1) (y := t.2) (m := 1048576) (n := 1024) (absI_le (by omega) (by omega)) (absI_le (by omega) (by omega))
  have s2 := absI_mul_le (x := p.2.2) (y := t.1) (m := 1048576) (n := 1073741824) (absI_le (by omega) (by omega)) (absI_le (by omega) (by omega))
  have s3 : absI (numP p t) ≤ absI (p.2.1 * t.2) + absI (p.2.2 * t.1) := by unfold numP absI; split <;> split <;> split <;> omega
  have n0 := absI_nonneg (numP p t)
  have q1 : absI (numP p t) / gcdA (numP p t) t.2 ≤ absI (numP p t) := ediv_le n0
  have q2 : t.2 / gcdA (numP p t) t.2 ≤ t.2 := ediv_le (by omega)
  have g0 : 0 ≤ gcdA (numP p t) t.2 := by unfold gcdA; exact Int.natCast_nonneg _
  have q3 : 0 ≤ absI (numP p t) / gcdA (numP p t) t.2 := Int.ediv_nonneg n0 g0
  rw [placeM_ok op ot]
  unfold overM buildM
  rw [if_neg (by omega)]
  refine ⟨rfl, ?_, by show t.2 / _ ≤ 1024; omega⟩
  have q4 : absI (numP p t) / gcdA (numP p t) t.2 ≤ 2251799813685248 := by omega
  generalize absI (numP p t) / gcdA (numP p t) t.2 = z at *
  have q5 : absI (0 - z) ≤ 2251799813685248 := absI_le (by omega) (by omega)
  have q6 : absI z ≤ 2251799813685248 := absI_le (by omega) (by omega)
  have q7 : ∀ c : Bool, absI (if c = true then 0 - z else z) ≤ 2251799813685248 := fun c => by
    cases c
    · rw [if_neg (by simp)]; exact q6
    · rw [if_pos rfl]; exact q5
  exact q7 _
theorem asked_told {f : List Pt} (of : okF f) {t : Int × Int} (a : askedR t) : Told f t := ⟨of, a.1, fun k hk => (asked_place (sP_ok of hk) a).1⟩
theorem asked_sub {p q : Pt} {t : Int × Int} (op : okP p) (oq : okP q) (a : askedR t) : (subM (placeM p t).1 (placeM q t).1).2 = 0 := by
  obtain ⟨h1, h2, h3⟩ := asked_place op a
  obtain ⟨k1, k2, k3⟩ := asked_place oq a
  have o : ∀ {p : Pt}, okP p → (placeM p t).2 = 0 → okR (placeM p t).1 := fun {p} op h => by
    rw [placeM_ok op a.1] at h ⊢
    obtain ⟨_, _, _, _, x⟩ := overM_eq a.1.d1 h
    exact x
  unfold subM
  refine addM_told (o op h1) (okR_neg (o oq k1)) (P := 2251799813685248) (Q := 1024) h2 ?_ h3 k3 (by omega) (by omega)
  show absI (-(placeM q t).1.1) ≤ _
  generalize (placeM q t).1.1 = z at *
  unfold absI at *
  split <;> split at k2 <;> omega
theorem asked_near {f : List Pt} (of : okF f) {t : Int × Int} (a : askedR t) : nearT f t := fun i hi => asked_sub (sP_ok of (by omega)) (sP_ok of (by omega)) a
theorem asked_all {f : List Pt} (of : okF f) {t : Int × Int} (a : askedR t) : allT f t := fun k hk i hi => asked_sub (sP_ok of (by omega)) (sP_ok of hk) a

/-! ### Whoever is ahead -/
def absR (d : Int × Int) : Int × Int := (absI d.1, d.2)
theorem absR_neg {d : Int × Int} : absR d = (if d.1 < 0 then -d.1 else d.1, d.2) := by
  unfold absR absI; rfl
theorem sP_at {f : List Pt} (of : okF f) (t : Int × Int) {p : Pt} (hp : p ∈ f) : rankM f p t < f.length ∧ sP f t (rankM f p t) = p := by
  have S := sortM_sorted (okF_ids of) t
  have a1 := S.at_rank (okF_ids of) hp
  have hl := (List.getElem?_eq_some_iff.1 a1).1
  rw [sortM_len] at hl
  rw [sP_get hl] at a1
  exact ⟨hl, Option.some.inj a1⟩
theorem sub_val {p q : Pt} {t : Int × Int} (op : okP p) (oq : okP q) (ot : okR t) (h1 : (placeM p t).2 = 0) (h2 : (placeM q t).2 = 0) (h : (subM (placeM p t).1 (placeM q t).1).2 = 0) : okR (subM (placeM p t).1 (placeM q t).1).1 ∧ (subM (placeM p t).1 (placeM q t).1).1.1 * t.2 = (valP p t - valP q t) * (subM (placeM p t).1 (placeM q t).1).1.2 := by
  rw [placeM_ok op ot] at h1 h ⊢
  rw [placeM_ok oq ot] at h2 h ⊢
  obtain ⟨g1, p1, y1, y2, oy⟩ := overM_eq ot.d1 h1
  obtain ⟨g2, p2, z1, z2, oz⟩ := overM_eq ot.d1 h2
  obtain ⟨od, e⟩ := subM_ok oy oz h
  refine ⟨od, ?_⟩
  generalize (subM (overM (numP p t) t.2).1 (overM (numP q t) t.2).1).1 = d at *
  generalize (overM (numP p t) t.2).1 = y at *
  generalize (overM (numP q t) t.2).1 = z at *
  have c : 0 < t.2 := ot.d1
  refine Int.eq_of_mul_eq_mul_right (a := t.2) (by omega) ?_
  have a1 : d.1 * t.2 * t.2 = (d.1 * (y.2 * z.2)) * (g1 * g2) := by
    conv => lhs; rw [← y2]; arg 2; rw [y2, ← z2]
    ac_rfl
  have c1 : y.1 * z.2 * (g1 * g2) = (y.1 * g1) * (z.2 * g2) := by ac_rfl
  have c2 : z.1 * y.2 * (g1 * g2) = (z.1 * g2) * (y.2 * g1) := by ac_rfl
  have a3 : (y.1 * z.2 - z.1 * y.2) * d.2 * (g1 * g2) = ((y.1 * z.2 - z.1 * y.2) * (g1 * g2)) * d.2 := by ac_rfl
  have f1 : numP p t = valP p t := rfl
  have f2 : numP q t = valP q t := rfl
  rw [a1, e, a3, Int.sub_mul (y.1 * z.2), c1, c2, y1, y2, z1, z2, ← Int.sub_mul, f1, f2]
  ac_rfl
theorem val_eq {d e : Int × Int} {t : Int × Int} {V : Int} (od : okR d) (oe : okR e) (ot : okR t) (h1 : d.1 * t.2 = V * d.2) (h2 : e.1 * t.2 = V * e.2) : d = e := by
  have c : 0 < t.2 := ot.d1
  have key : d.1 * e.2 = e.1 * d.2 := by
    refine Int.eq_of_mul_eq_mul_right (a := t.2) (by omega) ?_
    have a1 : d.1 * e.2 * t.2 = (d.1 * t.2) * e.2 := by ac_rfl
    have a2 : e.1 * d.2 * t.2 = (e.1 * t.2) * d.2 := by ac_rfl
    rw [a1, a2, h1, h2]; ac_rfl
  exact okR_eq od oe (show d.1 * e.2 ≤ e.1 * d.2 by omega) (show e.1 * d.2 ≤ d.1 * e.2 by omega)
theorem okR_abs {d : Int × Int} (od : okR d) : okR (absR d) := by
  have a := od.n1; have b := od.n2
  refine ⟨od.d1, od.d2, ?_, ?_, ?_⟩
  · show _ ≤ absI d.1; unfold absI; split <;> omega
  · show absI d.1 ≤ _; unfold absI; split <;> omega
  · show Nat.gcd (absI d.1).natAbs d.2.natAbs = 1
    rw [absI_nat, Int.natAbs_natCast]; exact od.g
theorem abs_val {d : Int × Int} {T V : Int} (hT : 0 < T) (hd : 0 < d.2) (h : d.1 * T = V * d.2) : (absR d).1 * T = absI V * (absR d).2 := by
  show absI d.1 * T = absI V * d.2
  by_cases hv : V < 0
  · have : d.1 < 0 := by
      rcases Int.lt_or_le d.1 0 with k | k
      · exact k
      · have a := Int.mul_nonneg k (show 0 ≤ T by omega)
        have b := Int.mul_neg_of_neg_of_pos hv hd
        omega
    unfold absI
    rw [if_pos this, if_pos hv, Int.neg_mul, Int.neg_mul, h]
  · have : ¬ d.1 < 0 := fun k => by
      have a := Int.mul_neg_of_neg_of_pos k hT
      have b := Int.mul_nonneg (show 0 ≤ V by omega) (show 0 ≤ d.2 by omega)
      omega
    unfold absI
    rw [if_neg this, if_neg hv, h]
theorem apart_in {f : List Pt} {t : Int × Int} (w : Told f t) {p q : Pt} (hp : p ∈ f) (hq : q ∈ f) (hne : p.1 ≠ q.1) (hz : (subM (placeM p t).1 (placeM q t).1).2 = 0) {a b : Nat} (hab : a < b) (hb : b < f.length) (h : (sP f t a = p ∧ sP f t b = q) ∨ (sP f t a = q ∧ sP f t b = p)) (hg : (gapD f t a b).2 = 0) : (gapD f t a b).1 = absR (subM (placeM p t).1 (placeM q t).1).1 := by
  have op := w.of.each _ hp; have oq := w.of.each _ hq
  have tp : ∀ {r : Pt}, r ∈ f → (placeM r t).2 = 0 := fun {r} hr => by
    obtain ⟨h1, h2⟩ := sP_at w.of t hr
    have := w.T _ h1
    unfold spot at this
    rw [h2] at this; exact this
  obtain ⟨od, e⟩ := sub_val op oq w.ot (tp hp) (tp hq) hz
  obtain ⟨og, eg⟩ := w.gap (by omega) hb hg
  have v := sP_val w.of (t := t) hab hb
  have av := abs_val (w.ot.d1) (od.d1) e
  refine val_eq og (okR_abs od) w.ot eg ?_
  rw [av]
  congr 1
  rcases h with ⟨h1, h2⟩ | ⟨h1, h2⟩
  · rw [h1, h2] at v ⊢
    unfold absI; rw [if_neg (by omega)]
  · rw [h1, h2] at v ⊢
    unfold absI; split <;> omega

/-! ### No pair comes twice -/
/-! ### The nearest one -/
def pairT (f : List Pt) (t : Int × Int) (k : Nat) : Prop := (spot f t k).2 = 0 ∧ (spot f t (k + 1)).2 = 0 ∧ (gapD f t k (k + 1)).2 = 0
instance (f : List Pt) (t : Int × Int) (k : Nat) : Decidable (pairT f t k) := inferInstanceAs (Decidable (_ ∧ _))
def pairN (f : List Pt) (t : Int × Int) (k : Nat) : Pr × Int := if pairT f t k then (prM f t k (k + 1), 0) else (zPr, 16)
def nearer (f : List Pt) (t : Int × Int) (i : Nat) : Pr := if cmpR (prM f t i (i + 1)).2.2 (prM f t (i - 1) i).2.2 < 0 ∨ (cmpR (prM f t i (i + 1)).2.2 (prM f t (i - 1) i).2.2 = 0 ∧ (sP f t (i + 1)).1 < (sP f t (i - 1)).1) then prM f t i (i + 1) else prM f t (i - 1) i
def nearI (f : List Pt) (t : Int × Int) (i : Nat) : Pr × Int :=
  if i = 0 then pairN f t 0 else if i + 1 = f.length then pairN f t (i - 1) else if pairT f t (i - 1) ∧ pairT f t i then (nearer f t i, 0) else (zPr, 16)
def nearestM (l : Ls) (id : Int) : Pr × Int := if (kRankM l id).2 ≠ 0 then (zPr, (kRankM l id).2) else if l.ord.length < 2 then (zPr, 42) else nearI l.ck.f l.ck.now (kRankM l id).1.toNat

structure IsNear (f : List Pt) (t : Int × Int) (i : Nat) (p : Pr) : Prop where
  mem : (0 < i ∧ p = prM f t (i - 1) i) ∨ (i + 1 < f.length ∧ p = prM f t i (i + 1))
  lo : 0 < i → leR p.2.2 (gapD f t (i - 1) i).1
  hi : i + 1 < f.length → leR p.2.2 (gapD f t i (i + 1)).1
theorem nearI_ok {f : List Pt} {t : Int × Int} (w : Told f t) (hn : nearT f t) (h2 : 2 ≤ f.length) {i : Nat} (hi : i < f.length) : (nearI f t i).2 = 0 ∧ IsNear f t i (nearI f t i).1 := by
  have T : ∀ k, k + 1 < f.length → pairT f t k := fun k hk => ⟨w.T k (by omega), w.T (k + 1) hk, hn k (by omega)⟩
  have o : ∀ k, k + 1 < f.length → okR (gapD f t k (k + 1)).1 := fun k hk => (w.gap (by omega) hk (hn k (by omega))).1
  unfold nearI
  by_cases h0 : i = 0
  · subst h0
    rw [if_pos rfl]
    unfold pairN
    rw [if_pos (T 0 (by omega))]
    exact ⟨rfl, .inr ⟨by omega, rfl⟩, fun h => by omega, fun _ => leR_refl _⟩
  · rw [if_neg h0]
    have em : i - 1 + 1 = i := by omega
    by_cases h1 : i + 1 = f.length
    · rw [if_pos h1]
      unfold pairN
      rw [if_pos (T (i - 1) (by omega))]
      rw [em]
      exact ⟨rfl, .inl ⟨by omega, rfl⟩, fun _ => leR_refl _, fun h => by omega⟩
    · rw [if_neg h1, if_pos ⟨T (i - 1) (by omega), T i (by omega)⟩]
      refine ⟨rfl, ?_⟩
      show IsNear f t i (nearer f t i)
      unfold nearer
      split
      · rename_i hc
        refine ⟨.inr ⟨by omega, rfl⟩, fun _ => ?_, fun _ => leR_refl _⟩
        show leR (gapD f t i (i + 1)).1 (gapD f t (i - 1) i).1
        have hc : cmpR (gapD f t i (i + 1)).1 (gapD f t (i - 1) i).1 ≤ 0 := by
          rcases hc with hc | hc
          · exact Int.le_of_lt hc
          · exact Int.le_of_eq hc.1
        exact cmpR_le.1 hc
      · rename_i hc
        refine ⟨.inl ⟨by omega, rfl⟩, fun _ => leR_refl _, fun _ => ?_⟩
        show leR (gapD f t (i - 1) i).1 (gapD f t i (i + 1)).1
        have h3 : ¬ cmpR (gapD f t i (i + 1)).1 (gapD f t (i - 1) i).1 < 0 := fun x => hc (.inl x)
        exact Decidable.by_contra fun x => h3 (cmpR_lt.2 x)
theorem IsNear.okR {f : List Pt} {t : Int × Int} (w : Told f t) (hn : nearT f t) {i : Nat} (hi : i < f.length) {p : Pr} (h : IsNear f t i p) : Go.Eng.okR p.2.2 := by
  rcases h.mem with ⟨h0, rfl⟩ | ⟨h0, rfl⟩
  · have := hn (i - 1) (by omega)
    rw [show i - 1 + 1 = i by omega] at this
    exact (w.gap (by omega) hi this).1
  · exact (w.gap (by omega) h0 (hn i (by omega))).1
theorem IsNear.told {f : List Pt} {t : Int × Int} (hn : nearT f t) {i : Nat} (hi : i < f.length) {p : Pr} (h : IsNear f t i p) : p ∈ toldAll f t := by
  rcases h.mem with ⟨h0, rfl⟩ | ⟨h0, rfl⟩
  · have := hn (i - 1) (by omega)
    rw [show i - 1 + 1 = i by omega] at this
    exact mem_toldAll.2 ⟨i - 1, i, by omega, hi, this, rfl⟩
  · exact mem_toldAll.2 ⟨i, i + 1, by omega, h0, hn i (by omega), rfl⟩
theorem IsNear.least {f : List Pt} {t : Int × Int} (w : Told f t) (hn : nearT f t) {i : Nat} {p : Pr} (h : IsNear f t i p) {a b : Nat} (hab : a < b) (hb : b < f.length) (hi : i = a ∨ i = b) (hz : (gapD f t a b).2 = 0) : leR p.2.2 (gapD f t a b).1 := by
  have hil : i < f.length := by omega
  have op := h.okR w hn hil
  have og := (w.gap (by omega) hb hz).1
  have mono : ∀ {x y : Nat}, x ≤ y → y < f.length → valP (sP f t y) t ≤ valP (sP f t x) t := fun {x y} hxy hy => by
    rcases Nat.lt_or_ge x y with q | q
    · exact sP_val w.of q hy
    · rw [show x = y by omega]; exact Int.le_refl _
  rcases hi with rfl | rfl
  · have z1 := hn i (by omega)
    have l1 := h.hi (by omega)
    have o1 := (w.gap (i := i) (k := i + 1) (by omega) (by omega) z1).1
    refine leR_trans op o1 og l1 ((w.le (by omega) (by omega) (by omega) hb z1 hz).2 ?_)
    have := mono (show i + 1 ≤ b by omega) hb
    omega
  · have z1 := hn (i - 1) (by omega)
    rw [show i - 1 + 1 = i by omega] at z1
    have l1 := h.lo (by omega)
    have o1 := (w.gap (i := i - 1) (k := i) (by omega) hil z1).1
    refine leR_trans op o1 og l1 ((w.le (by omega) (by omega) (by omega) hb z1 hz).2 ?_)
    have := mono (show a ≤ i - 1 by omega) (by omega)
    omega
theorem near_best {f : List Pt} {t : Int × Int} (w : Told f t) (hn : nearT f t) (h2 : 2 ≤ f.length) : ∃ a b, a < b ∧ b < f.length ∧ (gapD f t a b).2 = 0 ∧ bestPr f t = prM f t a b ∧ (nearI f t a).1.2.2 = (bestPr f t).2.2 ∧ (nearI f t b).1.2.2 = (bestPr f t).2.2 := by
  have hb := w.best hn h2
  obtain ⟨a, b, h1, h3, h4, e⟩ := mem_toldAll.1 hb.1
  have key : ∀ i, i < f.length → (i = a ∨ i = b) → (nearI f t i).1.2.2 = (bestPr f t).2.2 := fun i hi hc => by
    obtain ⟨_, N⟩ := nearI_ok w hn h2 hi
    have l1 := N.least w hn h1 h3 hc h4
    have l2 := (clP_no.1 (hb.2 _ (N.told hn hi))).1
    have ob := w.okPr _ hb.1
    refine okR_eq (N.okR w hn hi) ob ?_ l2
    rw [e]; exact l1
  exact ⟨a, b, h1, h3, h4, e, key a (by omega) (.inl rfl), key b h3 (.inr rfl)⟩
theorem best_le {f : List Pt} {t : Int × Int} (w : Told f t) (hn : nearT f t) (h2 : 2 ≤ f.length) {p : Pr} (hp : p ∈ toldAll f t) : leR (bestPr f t).2.2 p.2.2 := (clP_no.1 ((w.best hn h2).2 _ hp)).1

/-! ### All within a distance -/
end Go.Proofs.YtkemdpobjaiolaaGreat
end
