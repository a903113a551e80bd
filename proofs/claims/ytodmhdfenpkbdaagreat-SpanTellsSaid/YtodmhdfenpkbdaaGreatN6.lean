/- Hulls; the law SpanTells. Conditions: none. -/
import Derived.Test.YtodmhdfenpkbdaaGreatN5
import Derived.Test.YtodmhdfenpkbdaaGreatVgLSpanTells
import Derived.Test.YtodmhdfenpkbdaaGreatVgSpan
import Derived.Test.YtodmhdfenpkbdaaGreatVgStd
import Derived.Test.YtodmhdfenpkbdaaGreatFs
set_option linter.unusedVariables false
set_option maxRecDepth 100000
open Go Go.Eng Go.Proofs
namespace Go.Proofs.YtodmhdfenpkbdaaGreat

/-- Where an ID stands in the order. -/
def posO (o : List Int) (id : Int) : Int := idx (fun y => id == y) o
theorem posO_in {o : List Int} {id : Int} (h : 0 ≤ posO o id) : posO o id < o.length ∧ o[(posO o id).toNat]? = some id := by
  obtain ⟨x, h1, h2, _, h4⟩ := idx_in h
  refine ⟨h4, ?_⟩
  have : id = x := by simpa using h2
  rw [this] at h1 ⊢; exact h1
theorem posO_at {o : List Int} (hd : o.Pairwise (· ≠ ·)) {i : Nat} {x : Int} (hi : o[i]? = some x) : posO o x = i := by
  refine idx_hit hi (by simp) fun y hy => ?_
  obtain ⟨j, hj, e⟩ := List.mem_take_iff_getElem.1 hy
  obtain ⟨a1, a2⟩ := List.getElem?_eq_some_iff.1 hi
  have := List.pairwise_iff_getElem.1 hd j i (by omega) a1 (by omega)
  rw [e, a2] at this
  simpa using fun h => this h.symm
theorem indexInts {H : Hp} {s : Slc} {xs : List Int} {id : Int} (h : RdI H s xs) (hl : xs.length ≤ 1000000000) : Qf Tryz.prog F.slices_Index_int_int #[s.v, .int .i64 id] H (.int .i64 (posO xs id)) := by
  have ls := h.len
  refine slices_Index_int_int_vc (upto (N := xs.length) (J := fun n => ∀ y ∈ xs.take n.toNat, (id == y) = false) (by omega) (by simp) fun n h0 h1 hJ => ⟨fun hn => ?_, fun hn => ⟨?_, Hp.le_refl _⟩⟩)
  · have hn : n < xs.length := by have : n < s.n := by simpa using hn
                                  omega
    have hg := getI h0 hn
    refine ⟨h.inS h0 hn, _, RdI.get h h0 hn, ?_⟩
    generalize xs.getD n.toNat 0 = x at hg ⊢
    refine ⟨fun hb => ⟨?_, Hp.le_refl _⟩, fun hb => upto.nx h0 hn (by omega) ?_⟩
    · unfold posO; rw [idx_hit hg hb hJ, Int.toNat_of_nonneg h0]
    · rw [show (n + 1).toNat = n.toNat + 1 by omega, take_succ hg]
      intro y hy
      rcases List.mem_append.1 hy with hy | hy
      · exact hJ y hy
      · simp only [List.mem_singleton] at hy; subst hy; exact hb
  · have : n = xs.length := by have : ¬ n < s.n := by simpa using hn
                               omega
    subst this
    rw [Int.toNat_natCast, List.take_length] at hJ
    unfold posO
    rw [idx_miss hJ]

/-- The first and the last index of the first k IDs. -/
def mnO (o ids : List Int) : Nat → Int
  | 0 => o.length
  | k + 1 => if posO o (ids.getD k 0) < mnO o ids k then posO o (ids.getD k 0) else mnO o ids k
def mxO (o ids : List Int) : Nat → Int
  | 0 => -1
  | k + 1 => if posO o (ids.getD k 0) > mxO o ids k then posO o (ids.getD k 0) else mxO o ids k
def allO (o ids : List Int) : Bool := ids.all fun id => decide (0 ≤ posO o id)
theorem allO_of {o ids : List Int} (h : ∀ k : Nat, k < ids.length → 0 ≤ posO o (ids.getD k 0)) : allO o ids = true := by
  refine List.all_eq_true.2 fun x hx => ?_
  obtain ⟨k, hk⟩ := List.mem_iff_getElem?.1 hx
  have := h k (List.getElem?_eq_some_iff.1 hk).1
  rw [List.getD_eq_getElem?_getD, hk] at this
  exact decide_eq_true this
theorem allO_not {o ids : List Int} {k : Nat} (hk : k < ids.length) (h : posO o (ids.getD k 0) < 0) : allO o ids = false := by
  rw [Bool.eq_false_iff]
  intro ha
  have := List.all_eq_true.1 ha _ (List.mem_of_getElem? (getI (xs := ids) (i := (k : Int)) (by omega) (by omega)))
  rw [Int.toNat_natCast] at this
  have := of_decide_eq_true this
  omega
theorem mnmx {o ids : List Int} : ∀ k : Nat, (∀ j, j < k → 0 ≤ posO o (ids.getD j 0)) → 1 ≤ k → 0 ≤ mnO o ids k ∧ mnO o ids k ≤ mxO o ids k ∧ mxO o ids k < o.length
  | 0, _, h => by omega
  | 1, h, _ => by
    have a := h 0 (by omega)
    have b := (posO_in a).1
    have e1 : mnO o ids 1 = posO o (ids.getD 0 0) := by
      show (if posO o (ids.getD 0 0) < (o.length : Int) then _ else _) = _
      rw [if_pos b]
    have e2 : mxO o ids 1 = posO o (ids.getD 0 0) := by
      show (if posO o (ids.getD 0 0) > (-1 : Int) then _ else _) = _
      rw [if_pos (by omega)]
    rw [e1, e2]; omega
  | k + 2, h, _ => by
    obtain ⟨i1, i2, i3⟩ := mnmx (k + 1) (fun j hj => h j (by omega)) (by omega)
    have a := h (k + 1) (by omega)
    have b := (posO_in a).1
    have e1 : mnO o ids (k + 2) = if posO o (ids.getD (k + 1) 0) < mnO o ids (k + 1) then posO o (ids.getD (k + 1) 0) else mnO o ids (k + 1) := rfl
    have e2 : mxO o ids (k + 2) = if posO o (ids.getD (k + 1) 0) > mxO o ids (k + 1) then posO o (ids.getD (k + 1) 0) else mxO o ids (k + 1) := rfl
    rw [e1, e2]
    split <;> split <;> omega
def hullM (l : Ls) (ids : List Int) : (Int × Int) × (Int × Int) × Int :=
  if (placesM l).2 ≠ 0 then ((0, 0), (0, 0), (placesM l).2) else if 64 < ids.length then ((0, 0), (0, 0), 4) else if ids.length = 0 then ((0, 0), (0, 0), 42) else
  if allO l.ord ids = true then ((xsM l).getD (mxO l.ord ids ids.length).toNat (0, 0), (xsM l).getD (mnO l.ord ids ids.length).toNat (0, 0), 0) else ((0, 0), (0, 0), 6)
theorem hullM_err {l : Ls} {ids : List Int} (h : (placesM l).2 ≠ 0) : hullM l ids = ((0, 0), (0, 0), (placesM l).2) := if_pos h
theorem hullM_many {l : Ls} {ids : List Int} (h : (placesM l).2 = 0) (h1 : 64 < ids.length) : hullM l ids = ((0, 0), (0, 0), 4) := by
  unfold hullM; rw [if_neg (by rw [h]; simp), if_pos h1]
theorem hullM_empty {l : Ls} {ids : List Int} (h : (placesM l).2 = 0) (h1 : ids.length = 0) : hullM l ids = ((0, 0), (0, 0), 42) := by
  unfold hullM; rw [if_neg (by rw [h]; simp), if_neg (by omega), if_pos h1]
theorem hullM_none {l : Ls} {ids : List Int} (h : (placesM l).2 = 0) (h1 : ¬ 64 < ids.length) (h2 : ids.length ≠ 0) (h3 : allO l.ord ids = false) : hullM l ids = ((0, 0), (0, 0), 6) := by
  unfold hullM; rw [if_neg (by rw [h]; simp), if_neg h1, if_neg h2, if_neg (by rw [h3]; simp)]
theorem hullM_ok {l : Ls} {ids : List Int} (h : (placesM l).2 = 0) (h1 : ¬ 64 < ids.length) (h2 : ids.length ≠ 0) (h3 : allO l.ord ids = true) : hullM l ids = ((xsM l).getD (mxO l.ord ids ids.length).toNat (0, 0), (xsM l).getD (mnO l.ord ids ids.length).toNat (0, 0), 0) := by
  unfold hullM; rw [if_neg (by rw [h]; simp), if_neg h1, if_neg h2, if_pos h3]
theorem places_ok {l : Ls} (h : (placesM l).2 = 0) : okLs l ∧ (placesN l l.ord.length).2 = 0 ∧ (placesM l).1 = xsM l ∧ (xsM l).length = l.ord.length ∧ Desc (xsM l) := by
  by_cases ok : okLs l
  · have e : placesM l = placesN l l.ord.length := if_pos ok
    rw [e] at h ⊢
    exact ⟨ok, h, rfl, (placesN_all _ h).1, ok.desc h⟩
  · unfold placesM at h; rw [if_neg ok] at h; cases h

theorem spanHull {H : Hp} {u : Lu} {l : Ls} {s : Slc} {ids : List Int} (r : RdL H u l) (fl : fitL l) (ri : RdI H s ids) :
    Qf Tryz.prog F.span_Hull #[lsV u l, s.v] H (.tuple #[sI2 (hullM l ids).1.1 (hullM l ids).1.2, sI2 (hullM l ids).2.1.1 (hullM l ids).2.1.2, .int .i64 (hullM l ids).2.2]) := by
  have li := ri.len
  have lor := r.o.len
  have f1 := fl.o
  refine span_Hull_vc ((spanPlaces r fl).mono fun v H2 ⟨w, hv, l2, m⟩ => ⟨w, _, hv, fun he => ?_, fun he => ?_⟩)
  · have he : (placesM l).2 ≠ 0 := by simpa using he
    rw [hullM_err he]; exact ⟨rfl, l2⟩
  have he : (placesM l).2 = 0 := by simpa using he
  obtain ⟨ok, h0, ex, lx, D⟩ := places_ok he
  rw [ex] at m
  have rx : Rd 2 fH H2 w (xsM l) := m.rdH
  have lw := rx.len
  refine ⟨fun h1 => ?_, fun h1 => ⟨fun h2 => ?_, fun h2 => ?_⟩⟩
  · have h1 : 64 < ids.length := by have : (s.n : Int) > 64 := by simpa using h1
                                    omega
    rw [hullM_many he h1]; exact ⟨rfl, l2⟩
  · have h2 : (s.n : Int) = 0 := by simpa using h2
    rw [hullM_empty he (by omega)]; exact ⟨rfl, l2⟩
  have h1 : ¬ 64 < ids.length := by have : ¬ (s.n : Int) > 64 := by simpa using h1
                                    omega
  have h2 : ids.length ≠ 0 := by have : ¬ (s.n : Int) = 0 := by simpa using h2
                                 omega
  refine ⟨fun a b i H' => H' = H2 ∧ 0 ≤ i ∧ i ≤ ids.length ∧ a = mnO l.ord ids i.toNat ∧ b = mxO l.ord ids i.toNat ∧ ∀ k : Nat, k < i.toNat → 0 ≤ posO l.ord (ids.getD k 0), fun _ _ i _ => (ids.length - i).toNat, ⟨rfl, Int.le_refl _, by omega, by rw [lw, lx]; rfl, rfl, fun k hk => by simp at hk⟩, fun a b i H' ⟨e, i0, i1, ea, eb, hj⟩ => ⟨fun hn => ?_, fun hn => ?_⟩⟩
  · subst e
    have hn : i < ids.length := by have : i < s.n := by simpa using hn
                                   omega
    have es : (i + 1).toNat = i.toNat + 1 := by omega
    refine ⟨ri.inS i0 hn, _, RdI.get (ri.le l2) i0 hn, _, indexInts (r.o.le l2) (by omega), fun hb => ?_, fun hb => ⟨by unfold inI; omega, ⟨rfl, by omega, by omega, ?_, ?_, ?_⟩, ?_⟩⟩
    · have hb : posO l.ord (ids.getD i.toNat 0) < 0 := by simpa using hb
      rw [hullM_none he h1 h2 (allO_not (k := i.toNat) (by omega) hb)]; exact ⟨rfl, l2⟩
    · rw [es, ea]; rfl
    · rw [es, eb]; rfl
    · intro k hk
      by_cases e : k = i.toNat
      · subst e
        have : ¬ posO l.ord (ids.getD i.toNat 0) < 0 := by simpa using hb
        omega
      · exact hj k (by omega)
    · show (ids.length - (i + 1) : Int).toNat < (ids.length - i : Int).toNat; omega
  · subst e
    have hn : i = ids.length := by have : ¬ i < s.n := by simpa using hn
                                   omega
    subst hn
    rw [Int.toNat_natCast] at ea eb hj
    obtain ⟨q1, q2, q3⟩ := mnmx ids.length hj (by omega)
    subst ea; subst eb
    rw [hullM_ok he h1 h2 (allO_of hj)]
    exact ⟨rx.inS (by omega) (by omega), _, _, rx.gH (by omega) (by omega), rx.inS (by omega) (by omega), _, _, rx.gH (by omega) (by omega), rfl, l2⟩

theorem okR.eq_of {a b : Int × Int} (ha : okR a) (hb : okR b) (h : a.1 * b.2 = b.1 * a.2) : a = b := by
  have h1 := ha.d1; have h2 := hb.d1
  have hn : a.1.natAbs * b.2.natAbs = b.1.natAbs * a.2.natAbs := by rw [← Int.natAbs_mul, ← Int.natAbs_mul, h]
  have d1 : a.2.natAbs ∣ b.2.natAbs := by
    have c : Nat.Coprime a.2.natAbs a.1.natAbs := Nat.Coprime.symm ha.g
    exact Nat.Coprime.dvd_of_dvd_mul_left c (by rw [hn]; exact Nat.dvd_mul_left ..)
  have d2 : b.2.natAbs ∣ a.2.natAbs := by
    have c : Nat.Coprime b.2.natAbs b.1.natAbs := Nat.Coprime.symm hb.g
    exact Nat.Coprime.dvd_of_dvd_mul_left c (by rw [← hn]; exact Nat.dvd_mul_left ..)
  have e := Nat.dvd_antisymm d1 d2
  have e2 : a.2 = b.2 := by omega
  rw [e2] at h
  have e1 : a.1 = b.1 := Int.eq_of_mul_eq_mul_right (by omega) h
  exact Prod.ext e1 e2
theorem okLs.ne {l : Ls} (ok : okLs l) : l.ord.Pairwise (· ≠ ·) := by
  have hi := (sortM_sorted (okF_ids ok.ck.f) l.ck.now).ids (okF_ids ok.ck.f)
  have ho : l.ord = (sortM l.ck.f l.ck.now).map (·.1) := ok.ord
  rw [ho]
  exact List.pairwise_map.2 hi

/-- The least place of some is that of the last one, the greatest that of the first. -/
theorem Desc.least {xs : List (Int × Int)} (d : Desc xs) {a b : Int} (a0 : 0 ≤ a) (a1 : a < xs.length) (b0 : 0 ≤ b) (b1 : b < xs.length) :
    (if cmpR (xs.getD a.toNat (0, 0)) (xs.getD b.toNat (0, 0)) < 0 then xs.getD a.toNat (0, 0) else xs.getD b.toNat (0, 0)) = xs.getD (if a > b then a else b).toNat (0, 0) := by
  have ha := getX (d := ((0 : Int), (0 : Int))) a0 a1
  have hb := getX (d := ((0 : Int), (0 : Int))) b0 b1
  rcases Int.lt_trichotomy a b with h | h | h
  · have := d.ge a.toNat b.toNat _ _ (by omega) ha hb
    rw [if_neg (by omega), if_neg (by omega)]
  · subst h; simp
  · have := d.ge b.toNat a.toNat _ _ (by omega) hb ha
    rw [if_pos h]
    split
    · rfl
    · rename_i hc
      refine okR.eq_of (d.ok _ (List.mem_of_getElem? hb)) (d.ok _ (List.mem_of_getElem? ha)) ?_
      rw [cmpR_ge] at this
      have hc : 0 ≤ cmpR (xs.getD a.toNat (0, 0)) (xs.getD b.toNat (0, 0)) := by omega
      rw [cmpR_ge] at hc
      omega
theorem Desc.most {xs : List (Int × Int)} (d : Desc xs) {a b : Int} (a0 : 0 ≤ a) (a1 : a < xs.length) (b0 : 0 ≤ b) (b1 : b < xs.length) :
    (if cmpR (xs.getD a.toNat (0, 0)) (xs.getD b.toNat (0, 0)) > 0 then xs.getD a.toNat (0, 0) else xs.getD b.toNat (0, 0)) = xs.getD (if a < b then a else b).toNat (0, 0) := by
  have ha := getX (d := ((0 : Int), (0 : Int))) a0 a1
  have hb := getX (d := ((0 : Int), (0 : Int))) b0 b1
  rcases Int.lt_trichotomy a b with h | h | h
  · have := d.ge a.toNat b.toNat _ _ (by omega) ha hb
    rw [if_pos h]
    split
    · rfl
    · rename_i hc
      refine okR.eq_of (d.ok _ (List.mem_of_getElem? hb)) (d.ok _ (List.mem_of_getElem? ha)) ?_
      rw [cmpR_ge] at this
      have hc : ¬ 0 < cmpR (xs.getD a.toNat (0, 0)) (xs.getD b.toNat (0, 0)) := by omega
      rw [cmpR_gt] at hc
      omega
  · subst h; simp
  · have := d.ge b.toNat a.toNat _ _ (by omega) hb ha
    rw [cmpR_ge] at this
    have hc : ¬ cmpR (xs.getD a.toNat (0, 0)) (xs.getD b.toNat (0, 0)) > 0 := by
      show ¬ 0 < cmpR _ _
      rw [cmpR_gt]; omega
    rw [if_neg hc, if_neg (by omega)]
/-- What the reference holds after k IDs. -/
def loO (l : Ls) (ids : List Int) (k : Nat) : Int × Int := if k = 0 then (0, 0) else (xsM l).getD (mxO l.ord ids k).toNat (0, 0)
def hiO (l : Ls) (ids : List Int) (k : Nat) : Int × Int := if k = 0 then (0, 0) else (xsM l).getD (mnO l.ord ids k).toNat (0, 0)
theorem loO_next {l : Ls} {ids : List Int} (D : Desc (xsM l)) (lx : (xsM l).length = l.ord.length) {k : Nat} (hj : ∀ j, j < k + 1 → 0 ≤ posO l.ord (ids.getD j 0)) :
    loO l ids (k + 1) = (if k = 0 ∨ cmpR ((xsM l).getD (posO l.ord (ids.getD k 0)).toNat (0, 0)) (loO l ids k) < 0 then (xsM l).getD (posO l.ord (ids.getD k 0)).toNat (0, 0) else loO l ids k) := by
  have a := hj k (by omega)
  have b := (posO_in a).1
  unfold loO
  rw [if_neg (by omega)]
  have e : mxO l.ord ids (k + 1) = if posO l.ord (ids.getD k 0) > mxO l.ord ids k then posO l.ord (ids.getD k 0) else mxO l.ord ids k := rfl
  by_cases hk : k = 0
  · subst hk
    rw [if_pos (.inl rfl), e]
    have : mxO l.ord ids 0 = -1 := rfl
    rw [this, if_pos (by omega)]
  · obtain ⟨q1, q2, q3⟩ := mnmx k (fun j h => hj j (by omega)) (by omega)
    have := D.least a (by omega) (b := mxO l.ord ids k) (by omega) (by omega)
    rw [if_neg hk, e, ← this]
    by_cases h : cmpR ((xsM l).getD (posO l.ord (ids.getD k 0)).toNat (0, 0)) ((xsM l).getD (mxO l.ord ids k).toNat (0, 0)) < 0
    · rw [if_pos h, if_pos (.inr h)]
    · rw [if_neg h, if_neg (fun x => x.elim hk h)]
theorem hiO_next {l : Ls} {ids : List Int} (D : Desc (xsM l)) (lx : (xsM l).length = l.ord.length) {k : Nat} (hj : ∀ j, j < k + 1 → 0 ≤ posO l.ord (ids.getD j 0)) :
    hiO l ids (k + 1) = (if k = 0 ∨ cmpR ((xsM l).getD (posO l.ord (ids.getD k 0)).toNat (0, 0)) (hiO l ids k) > 0 then (xsM l).getD (posO l.ord (ids.getD k 0)).toNat (0, 0) else hiO l ids k) := by
  have a := hj k (by omega)
  have b := (posO_in a).1
  unfold hiO
  rw [if_neg (by omega)]
  have e : mnO l.ord ids (k + 1) = if posO l.ord (ids.getD k 0) < mnO l.ord ids k then posO l.ord (ids.getD k 0) else mnO l.ord ids k := rfl
  by_cases hk : k = 0
  · subst hk
    rw [if_pos (.inl rfl), e]
    have : mnO l.ord ids 0 = l.ord.length := rfl
    rw [this, if_pos (by omega)]
  · obtain ⟨q1, q2, q3⟩ := mnmx k (fun j h => hj j (by omega)) (by omega)
    have := D.most a (by omega) (b := mnO l.ord ids k) (by omega) (by omega)
    rw [if_neg hk, e, ← this]
    by_cases h : cmpR ((xsM l).getD (posO l.ord (ids.getD k 0)).toNat (0, 0)) ((xsM l).getD (mnO l.ord ids k).toNat (0, 0)) > 0
    · rw [if_pos h, if_pos (.inr h)]
    · rw [if_neg h, if_neg (fun x => x.elim hk h)]
theorem lohi_ok {l : Ls} {ids : List Int} (D : Desc (xsM l)) (lx : (xsM l).length = l.ord.length) {k : Nat} (hj : ∀ j, j < k → 0 ≤ posO l.ord (ids.getD j 0)) (hk : k ≠ 0) : okR (loO l ids k) ∧ okR (hiO l ids k) := by
  obtain ⟨q1, q2, q3⟩ := mnmx k hj (by omega)
  unfold loO hiO
  rw [if_neg hk, if_neg hk]
  exact ⟨D.ok _ (List.mem_of_getElem? (getX (d := ((0 : Int), (0 : Int))) (by omega) (by omega))), D.ok _ (List.mem_of_getElem? (getX (d := ((0 : Int), (0 : Int))) (by omega) (by omega)))⟩

set_option maxHeartbeats 2000000 in
theorem refHull {H : Hp} {u : Lu} {l : Ls} {s : Slc} {ids : List Int} (r : RdL H u l) (fl : fitL l) (ri : RdI H s ids) :
    Qf Tryz.prog F.pelotonref31_Hull #[lsV u l, s.v] H (.tuple #[sI2 (hullM l ids).1.1 (hullM l ids).1.2, sI2 (hullM l ids).2.1.1 (hullM l ids).2.1.2, .int .i64 (hullM l ids).2.2]) := by
  have li := ri.len
  have lor := r.o.len
  have f1 := fl.o
  refine pelotonref31_Hull_vc ((refPlaces r fl).mono fun v H2 ⟨w, hv, l2, m⟩ => ⟨w, _, hv, fun he => ?_, fun he => ?_⟩)
  · have he : (placesM l).2 ≠ 0 := by simpa using he
    rw [hullM_err he]; exact ⟨rfl, l2⟩
  have he : (placesM l).2 = 0 := by simpa using he
  obtain ⟨ok, h0, ex, lx, D⟩ := places_ok he
  rw [ex] at m
  have rx : Rd 2 fH H2 w (xsM l) := m.rdH
  have lw := rx.len
  have hd := ok.ne
  refine ⟨fun h1 => ?_, fun h1 => ⟨fun h2 => ?_, fun h2 => ?_⟩⟩
  · have h1 : 64 < ids.length := by have : (s.n : Int) > 64 := by simpa using h1
                                    omega
    rw [hullM_many he h1]; exact ⟨rfl, l2⟩
  · have h2 : (s.n : Int) = 0 := by simpa using h2
    rw [hullM_empty he (by omega)]; exact ⟨rfl, l2⟩
  have h1 : ¬ 64 < ids.length := by have : ¬ (s.n : Int) > 64 := by simpa using h1
                                    omega
  have h2 : ids.length ≠ 0 := by have : ¬ (s.n : Int) = 0 := by simpa using h2
                                 omega
  refine ⟨fun i a b c d H' => H2 = H' ∧ 0 ≤ i ∧ i ≤ ids.length ∧ (a, b) = loO l ids i.toNat ∧ (c, d) = hiO l ids i.toNat ∧ ∀ k : Nat, k < i.toNat → 0 ≤ posO l.ord (ids.getD k 0), fun i _ _ _ _ _ => (ids.length - i).toNat, ⟨rfl, Int.le_refl _, by omega, rfl, rfl, fun k hk => by simp at hk⟩, fun i a b c d H' ⟨e, i0, i1, ea, eb, hj⟩ => ⟨fun hn => ?_, fun hn => ?_⟩⟩
  · subst e
    have hn : i < ids.length := by have : i < s.n := by simpa using hn
                                   omega
    have es : (i + 1).toNat = i.toNat + 1 := by omega
    have ms : (ids.length - (i + 1) : Int).toNat < (ids.length - i : Int).toNat := by omega
    have gi := RdI.get (ri.le l2) i0 hn
    generalize hid : ids.getD i.toNat 0 = id at gi
    refine ⟨fun p k H' => H2 = H' ∧ 0 ≤ k ∧ k ≤ l.ord.length ∧ ((p = -1 ∧ ∀ y ∈ l.ord.take k.toNat, y ≠ id) ∨ (0 ≤ p ∧ p < k ∧ l.ord[p.toNat]? = some id)), fun _ k _ => (l.ord.length - k).toNat, ⟨rfl, Int.le_refl _, by omega, .inl ⟨rfl, by simp⟩⟩, fun p k H' ⟨e, k0, k1, hp⟩ => ⟨fun hm => ?_, fun hm => ?_⟩⟩
    · subst e
      have hm : k < l.ord.length := by have : k < u.o.n := by simpa using hm
                                       omega
      have ek : (k + 1).toNat = k.toNat + 1 := by omega
      have mk : (l.ord.length - (k + 1) : Int).toNat < (l.ord.length - k : Int).toNat := by omega
      have go := getI (xs := l.ord) k0 hm
      refine ⟨r.o.inS k0 hm, _, RdI.get (r.o.le l2) k0 hm, ri.inS i0 hn, _, gi, fun hb => ⟨by unfold inI; omega, ⟨rfl, by omega, by omega, .inr ⟨k0, by omega, ?_⟩⟩, mk⟩, fun hb => ⟨by unfold inI; omega, ⟨rfl, by omega, by omega, ?_⟩, mk⟩⟩
      · have hb : l.ord.getD k.toNat 0 = id := by simpa using hb
        rw [← hb]; exact go
      · have hb : l.ord.getD k.toNat 0 ≠ id := by simpa using hb
        rcases hp with ⟨h3, h4⟩ | ⟨h3, h4, h5⟩
        · refine .inl ⟨h3, fun y hy => ?_⟩
          rw [ek, take_succ go] at hy
          rcases List.mem_append.1 hy with hy | hy
          · exact h4 y hy
          · simp only [List.mem_singleton] at hy; subst hy; exact hb
        · exact .inr ⟨h3, by omega, h5⟩
    · subst e
      have hm : k = l.ord.length := by have : ¬ k < u.o.n := by simpa using hm
                                       omega
      subst hm
      rw [Int.toNat_natCast, List.take_length] at hp
      refine ⟨fun hb => ?_, fun hb => ?_⟩
      · have hb : p < 0 := by simpa using hb
        have h4 : ∀ y ∈ l.ord, y ≠ id := by
          rcases hp with ⟨_, h4⟩ | ⟨h3, _⟩
          · exact h4
          · omega
        have hneg : posO l.ord (ids.getD i.toNat 0) < 0 := by
          rw [hid]
          unfold posO
          rw [idx_miss fun y hy => by simpa using fun h => h4 y hy h.symm]; omega
        rw [hullM_none he h1 h2 (allO_not (k := i.toNat) (by omega) hneg)]; exact ⟨rfl, l2⟩
      have hb : ¬ p < 0 := by simpa using hb
      obtain ⟨p0, p1, p2⟩ : 0 ≤ p ∧ p < l.ord.length ∧ l.ord[p.toNat]? = some id := by
        rcases hp with ⟨h3, _⟩ | h
        · omega
        · exact h
      have ep : posO l.ord (ids.getD i.toNat 0) = p := by rw [hid, posO_at hd p2]; omega
      have hj' : ∀ k : Nat, k < i.toNat + 1 → 0 ≤ posO l.ord (ids.getD k 0) := fun k hk => by
        by_cases e : k = i.toNat
        · subst e; omega
        · exact hj k (by omega)
      have nl := loO_next D lx hj'
      have nh := hiO_next D lx hj'
      rw [ep, ← ea] at nl
      rw [ep, ← eb] at nh
      have gx := getX (xs := xsM l) (d := ((0 : Int), (0 : Int))) p0 (by omega)
      have ox := D.ok _ (List.mem_of_getElem? gx)
      have gh := rx.gH p0 (by omega)
      have hlh := fun hk => lohi_ok (l := l) (ids := ids) D lx hj hk
      rw [← ea, ← eb] at hlh
      generalize (xsM l).getD p.toNat (0, 0) = x at gx ox gh nl nh
      have okl : ((!i == 0) = true → okR (a, b) ∧ okR (c, d)) := fun h => hlh (by have : i ≠ 0 := by simpa using h
                                                                                  omega)
      have ik : i = 0 ↔ i.toNat = 0 := by omega
      rw [← es] at nl nh hj'
      refine ⟨fun _ => rx.inS p0 (by omega), _, _, fun _ => gh, _, fun h => refCompareR (b := (a, b)) ox (okl h).1, fun hb1 => ⟨rx.inS p0 (by omega), _, _, gh, fun _ => rx.inS p0 (by omega), _, _, fun _ => gh, _, fun h => refCompareR (b := (c, d)) ox (okl h).2, fun hb2 => ⟨rx.inS p0 (by omega), _, _, gh, by unfold inI; omega, ⟨rfl, by omega, by omega, ?_, ?_, hj'⟩, ms⟩, fun hb2 => ⟨by unfold inI; omega, ⟨rfl, by omega, by omega, ?_, ?_, hj'⟩, ms⟩⟩,
        fun hb1 => ⟨fun _ => rx.inS p0 (by omega), _, _, fun _ => gh, _, fun h => refCompareR (b := (c, d)) ox (okl h).2, fun hb2 => ⟨rx.inS p0 (by omega), _, _, gh, by unfold inI; omega, ⟨rfl, by omega, by omega, ?_, ?_, hj'⟩, ms⟩, fun hb2 => ⟨by unfold inI; omega, ⟨rfl, by omega, by omega, ?_, ?_, hj'⟩, ms⟩⟩⟩
      all_goals
        first
          | (have hb1 : i = 0 ∨ cmpR x (a, b) < 0 := by simpa using hb1
             rw [nl, if_pos (by omega)])
          | (have hb1 : ¬ (i = 0 ∨ cmpR x (a, b) < 0) := by
               intro h; rcases h with h | h
               · rw [h] at hb1; simp at hb1
               · rw [decide_eq_true h] at hb1; simp at hb1
             rw [nl, if_neg (by omega)])
          | (have hb2 : i = 0 ∨ cmpR x (c, d) > 0 := by simpa using hb2
             rw [nh, if_pos (by omega)])
          | (have hb2 : ¬ (i = 0 ∨ cmpR x (c, d) > 0) := by
               intro h; rcases h with h | h
               · rw [h] at hb2; simp at hb2
               · rw [decide_eq_true h] at hb2; simp at hb2
             rw [nh, if_neg (by omega)])
  · subst e
    have hn : i = ids.length := by have : ¬ i < s.n := by simpa using hn
                                   omega
    subst hn
    rw [Int.toNat_natCast] at ea eb hj
    rw [hullM_ok he h1 h2 (allO_of hj)]
    have e1 : a = (loO l ids ids.length).1 := by rw [← ea]
    have e2 : b = (loO l ids ids.length).2 := by rw [← ea]
    have e3 : c = (hiO l ids ids.length).1 := by rw [← eb]
    have e4 : d = (hiO l ids ids.length).2 := by rw [← eb]
    subst e1; subst e2; subst e3; subst e4
    unfold loO hiO
    rw [if_neg h2, if_neg h2]
    exact ⟨rfl, l2⟩

theorem spanTells {H : Hp} {u : Lu} {l : Ls} {x : Int × Int} {s : Slc} {ids : List Int} (r : RdL H u l) (hn : fitR l.ck.now) (hh : ∀ y ∈ l.ck.ag.heap, fitR y.at_) (fx : fitR x) (ri : RdI H s ids) : Qf Tryz.prog F.pelotonlaw31_SpanTells #[lsV u l, sI2 x.1 x.2, s.v] H (.bool true) := by
  refine pelotonlaw31_SpanTells_vc ⟨_, refLGreat r, fun _ => ⟨rfl, Hp.le_refl _⟩, fun hg => ?_⟩
  have hg : greatL l = false := (Bool.or_eq_false_iff.1 hg).1
  have fl := fitL_of hn hg hh
  have q1 := spanUp r fl fx
  have q2 := refSUp r fl fx
  have q3 := spanDown r fl fx
  have q4 := refSDown r fl fx
  have q5 := spanHull r fl ri
  have q6 := refHull r fl ri
  refine ⟨_, _, q1, _, _, q2, _, _, q3, _, _, q4, _, _, _, _, _, q5, _, _, _, _, _, q6, ?_, Hp.le_refl _⟩
  simp
end Go.Proofs.YtodmhdfenpkbdaaGreat
