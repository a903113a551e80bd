/- The engine, parts N5, N6, N7, N8, N9, NA, NB, NC, put together. Conditions: none. -/
import Derived.Test.YtodmhdfenpkbdaaGreatPN2
import Derived.Test.YtodmhdfenpkbdaaGreatVgKlist
import Derived.Test.YtodmhdfenpkbdaaGreatVgLSpanFinds
import Derived.Test.YtodmhdfenpkbdaaGreatFs
import Derived.Test.YtodmhdfenpkbdaaGreatVgLSpanTells
import Derived.Test.YtodmhdfenpkbdaaGreatVgSpan
import Derived.Test.YtodmhdfenpkbdaaGreatVgStd
import Derived.Test.YtodmhdfenpkbdaaGreatM6
import Derived.Test.YtodmhdfenpkbdaaGreatVgBase
import Derived.Test.YtodmhdfenpkbdaaGreatVgH31
import Derived.Test.YtodmhdfenpkbdaaGreatVgLSpanWithin
import Derived.Test.YtodmhdfenpkbdaaGreatVgLSpanCounts
import Derived.Test.YtodmhdfenpkbdaaGreatVgLSpanHull
import Derived.Test.YtodmhdfenpkbdaaGreatVgLSpanNext
import Derived.Test.YtodmhdfenpkbdaaGreatVgLSpanNames
set_option linter.unusedVariables false
section
/- The law SpanFinds. Conditions: none. -/
set_option maxRecDepth 100000
open Go Go.Eng Go.Proofs
namespace Go.Proofs.YtodmhdfenpkbdaaGreat
end Go.Proofs.YtodmhdfenpkbdaaGreat
end
section
/- Hulls; the law SpanTells. Conditions: none. -/
set_option maxRecDepth 100000
open Go Go.Eng Go.Proofs
namespace Go.Proofs.YtodmhdfenpkbdaaGreat

/-- Where an ID stands in the order. -/
def posO (o : List Int) (id : Int) : Int := idx (fun y => id == y) o
theorem posO_in {o : List Int} {id : Int} (h : 0 ≤ posO o id) : posO o id < o.length ∧ o[(posO o id).toNat]? = some id := by
  obtain ⟨x, h1, h2, _, h4⟩ := idx_in h
  refine ⟨h4, ?_⟩
  have : id = x := by simpa using h2
  rw [this] at h1 ⊢; exact h1
theorem posO_at {o : List Int} (hd : o.Pairwise (· ≠ ·)) {i : Nat} {x : Int} (hi : o[i]? = some x) : posO o x = i := by
  refine idx_hit hi (by simp) fun y hy => ?_
  obtain ⟨j, hj, e⟩ := List.mem_take_iff_getElem.1 hy
  obtain ⟨a1, a2⟩ := List.getElem?_eq_some_iff.1 hi
  have := List.pairwise_iff_getElem.1 hd j i (by omega) a1 (by omega)
  rw [e, a2] at this
  simpa using fun h => this h.symm
theorem indexInts {H : Hp} {s : Slc} {xs : List Int} {id : Int} (h : RdI H s xs) (hl : xs.length ≤ 1000000000) : Qf Tryz.prog F.slices_Index_int_int #[s.v, .int .i64 id] H (.int .i64 (posO xs id)) := by
  have ls := h.len
  refine slices_Index_int_int_vc (upto (N := xs.length) (J := fun n => ∀ y ∈ xs.take n.toNat, (id == y) = false) (by omega) (by simp) fun n h0 h1 hJ => ⟨fun hn => ?_, fun hn => ⟨?_, Hp.le_refl _⟩⟩)
  · have hn : n < xs.length := by have : n < s.n := by simpa using hn
                                  omega
    have hg := getI h0 hn
    refine ⟨h.inS h0 hn, _, RdI.get h h0 hn, ?_⟩
    generalize xs.getD n.toNat 0 = x at hg ⊢
    refine ⟨fun hb => ⟨?_, Hp.le_refl _⟩, fun hb => upto.nx h0 hn (by omega) ?_⟩
    · unfold posO; rw [idx_hit hg hb hJ, Int.toNat_of_nonneg h0]
    · rw [show (n + 1).toNat = n.toNat + 1 by omega, take_succ hg]
      intro y hy
      rcases List.mem_append.1 hy with hy | hy
      · exact hJ y hy
      · simp only [List.mem_singleton] at hy; subst hy; exact hb
  · have : n = xs.length := by have : ¬ n < s.n := by simpa using hn
                               omega
    subst this
    rw [Int.toNat_natCast, List.take_length] at hJ
    unfold posO
    rw [idx_miss hJ]

/-- The first and the last index of the first k IDs. -/
def mnO (o ids : List Int) : Nat → Int
  | 0 => o.length
  | k + 1 => if posO o (ids.getD k 0) < mnO o ids k then posO o (ids.getD k 0) else mnO o ids k
def mxO (o ids : List Int) : Nat → Int
  | 0 => -1
  | k + 1 => if posO o (ids.getD k 0) > mxO o ids k then posO o (ids.getD k 0) else mxO o ids k
def allO (o ids : List Int) : Bool := ids.all fun id => decide (0 ≤ posO o id)
theorem allO_of {o ids : List Int} (h : ∀ k : Nat, k < ids.length → 0 ≤ posO o (ids.getD k 0)) : allO o ids = true := by
  refine List.all_eq_true.2 fun x hx => ?_
  obtain ⟨k, hk⟩ := List.mem_iff_getElem?.1 hx
  have := h k (List.getElem?_eq_some_iff.1 hk).1
  rw [List.getD_eq_getElem?_getD, hk] at this
  exact decide_eq_true this
theorem allO_not {o ids : List Int} {k : Nat} (hk : k < ids.length) (h : posO o (ids.getD k 0) < 0) : allO o ids = false := by
  rw [Bool.eq_false_iff]
  intro ha
  have := List.all_eq_true.1 ha _ (List.mem_of_getElem? (getI (xs := ids) (i := (k : Int)) (by omega) (by omega)))
  rw [Int.toNat_natCast] at this
  have := of_decide_eq_true this
  omega
theorem mnmx {o ids : List Int} : ∀ k : Nat, (∀ j, j < k → 0 ≤ posO o (ids.getD j 0)) → 1 ≤ k → 0 ≤ mnO o ids k ∧ mnO o ids k ≤ mxO o ids k ∧ mxO o ids k < o.length
  | 0, _, h => by omega
  | 1, h, _ => by
    have a := h 0 (by omega)
    have b := (posO_in a).1
    have e1 : mnO o ids 1 = posO o (ids.getD 0 0) := by
      show (if posO o (ids.getD 0 0) < (o.length : Int) then _ else _) = _
      rw [if_pos b]
    have e2 : mxO o ids 1 = posO o (ids.getD 0 0) := by
      show (if posO o (ids.getD 0 0) > (-1 : Int) then _ else _) = _
      rw [if_pos (by omega)]
    rw [e1, e2]; omega
  | k + 2, h, _ => by
    obtain ⟨i1, i2, i3⟩ := mnmx (k + 1) (fun j hj => h j (by omega)) (by omega)
    have a := h (k + 1) (by omega)
    have b := (posO_in a).1
    have e1 : mnO o ids (k + 2) = if posO o (ids.getD (k + 1) 0) < mnO o ids (k + 1) then posO o (ids.getD (k + 1) 0) else mnO o ids (k + 1) := rfl
    have e2 : mxO o ids (k + 2) = if posO o (ids.getD (k + 1) 0) > mxO o ids (k + 1) then posO o (ids.getD (k + 1) 0) else mxO o ids (k + 1) := rfl
    rw [e1, e2]
    split <;> split <;> omega
def hullM (l : Ls) (ids : List Int) : (Int × Int) × (Int × Int) × Int :=
  if (placesM l).2 ≠ 0 then ((0, 0), (0, 0), (placesM l).2) else if 64 < ids.length then ((0, 0), (0, 0), 4) else if ids.length = 0 then ((0, 0), (0, 0), 42) else
  if allO l.ord ids = true then ((xsM l).getD (mxO l.ord ids ids.length).toNat (0, 0), (xsM l).getD (mnO l.ord ids ids.length).toNat (0, 0), 0) else ((0, 0), (0, 0), 6)
theorem hullM_err {l : Ls} {ids : List Int} (h : (placesM l).2 ≠ 0) : hullM l ids = ((0, 0), (0, 0), (placesM l).2) := if_pos h
theorem hullM_many {l : Ls} {ids : List Int} (h : (placesM l).2 = 0) (h1 : 64 < ids.length) : hullM l ids = ((0, 0), (0, 0), 4) := by
  unfold hullM; rw [if_neg (by rw [h]; simp), if_pos h1]
theorem hullM_empty {l : Ls} {ids : List Int} (h : (placesM l).2 = 0) (h1 : ids.length = 0) : hullM l ids = ((0, 0), (0, 0), 42) := by
  unfold hullM; rw [if_neg (by rw [h]; simp), if_neg (by omega), if_pos h1]
theorem hullM_none {l : Ls} {ids : List Int} (h : (placesM l).2 = 0) (h1 : ¬ 64 < ids.length) (h2 : ids.length ≠ 0) (h3 : allO l.ord ids = false) : hullM l ids = ((0, 0), (0, 0), 6) := by
  unfold hullM; rw [if_neg (by rw [h]; simp), if_neg h1, if_neg h2, if_neg (by rw [h3]; simp)]
theorem hullM_ok {l : Ls} {ids : List Int} (h : (placesM l).2 = 0) (h1 : ¬ 64 < ids.length) (h2 : ids.length ≠ 0) (h3 : allO l.ord ids = true) : hullM l ids = ((xsM l).getD (mxO l.ord ids ids.length).toNat (0, 0), (xsM l).getD (mnO l.ord ids ids.length).toNat (0, 0), 0) := by
  unfold hullM; rw [if_neg (by rw [h]; simp), if_neg h1, if_neg h2, if_pos h3]
theorem places_ok {l : Ls} (h : (placesM l).2 = 0) : okLs l ∧ (placesN l l.ord.length).2 = 0 ∧ (placesM l).1 = xsM l ∧ (xsM l).length = l.ord.length ∧ Desc (xsM l) := by
  by_cases ok : okLs l
  · have e : placesM l = placesN l l.ord.length := if_pos ok
    rw [e] at h ⊢
    exact ⟨ok, h, rfl, (placesN_all _ h).1, ok.desc h⟩
  · unfold placesM at h; rw [if_neg ok] at h; cases h

theorem spanHull {H : Hp} {u : Lu} {l : Ls} {s : Slc} {ids : List Int} (r : RdL H u l) (fl : fitL l) (ri : RdI H s ids) :
    Qf Tryz.prog F.span_Hull #[lsV u l, s.v] H (.tuple #[sI2 (hullM l ids).1.1 (hullM l ids).1.2, sI2 (hullM l ids).2.1.1 (hullM l ids).2.1.2, .int .i64 (hullM l ids).2.2]) := by
  have li := ri.len
  have lor := r.o.len
  have f1 := fl.o
  refine span_Hull_vc ((spanPlaces r fl).mono fun v H2 ⟨w, hv, l2, m⟩ => ⟨w, _, hv, fun he => ?_, fun he => ?_⟩)
  · have he : (placesM l).2 ≠ 0 := by simpa using he
    rw [hullM_err he]; exact ⟨rfl, l2⟩
  have he : (placesM l).2 = 0 := by simpa using he
  obtain ⟨ok, h0, ex, lx, D⟩ := places_ok he
  rw [ex] at m
  have rx : Rd 2 fH H2 w (xsM l) := m.rdH
  have lw := rx.len
  refine ⟨fun h1 => ?_, fun h1 => ⟨fun h2 => ?_, fun h2 => ?_⟩⟩
  · have h1 : 64 < ids.length := by have : (s.n : Int) > 64 := by simpa using h1
                                    omega
    rw [hullM_many he h1]; exact ⟨rfl, l2⟩
  · have h2 : (s.n : Int) = 0 := by simpa using h2
    rw [hullM_empty he (by omega)]; exact ⟨rfl, l2⟩
  have h1 : ¬ 64 < ids.length := by have : ¬ (s.n : Int) > 64 := by simpa using h1
                                    omega
  have h2 : ids.length ≠ 0 := by have : ¬ (s.n : Int) = 0 := by simpa using h2
                                 omega
  refine ⟨fun a b i H' => H' = H2 ∧ 0 ≤ i ∧ i ≤ ids.length ∧ a = mnO l.ord ids i.toNat ∧ b = mxO l.ord ids i.toNat ∧ ∀ k : Nat, k < i.toNat → 0 ≤ posO l.ord (ids.getD k 0), fun _ _ i _ => (ids.length - i).toNat, ⟨rfl, Int.le_refl _, by omega, by rw [lw, lx]; rfl, rfl, fun k hk => by simp at hk⟩, fun a b i H' ⟨e, i0, i1, ea, eb, hj⟩ => ⟨fun hn => ?_, fun hn => ?_⟩⟩
  · subst e
    have hn : i < ids.length := by have : i < s.n := by simpa using hn
                                   omega
    have es : (i + 1).toNat = i.toNat + 1 := by omega
    refine ⟨ri.inS i0 hn, _, RdI.get (ri.le l2) i0 hn, _, indexInts (r.o.le l2) (by omega), fun hb => ?_, fun hb => ⟨by unfold inI; omega, ⟨rfl, by omega, by omega, ?_, ?_, ?_⟩, ?_⟩⟩
    · have hb : posO l.ord (ids.getD i.toNat 0) < 0 := by simpa using hb
      rw [hullM_none he h1 h2 (allO_not (k := i.toNat) (by omega) hb)]; exact ⟨rfl, l2⟩
    · rw [es, ea]; rfl
    · rw [es, eb]; rfl
    · intro k hk
      by_cases e : k = i.toNat
      · subst e
        have : ¬ posO l.ord (ids.getD i.toNat 0) < 0 := by simpa using hb
        omega
      · exact hj k (by omega)
    · show (ids.length - (i + 1) : Int).toNat < (ids.length - i : Int).toNat; omega
  · subst e
    have hn : i = ids.length := by have : ¬ i < s.n := by simpa using hn
                                   omega
    subst hn
    rw [Int.toNat_natCast] at ea eb hj
    obtain ⟨q1, q2, q3⟩ := mnmx ids.length hj (by omega)
    subst ea; subst eb
    rw [hullM_ok he h1 h2 (allO_of hj)]
    exact ⟨rx.inS (by omega) (by omega), _, _, rx.gH (by omega) (by omega), rx.inS (by omega) (by omega), _, _, rx.gH (by omega) (by omega), rfl, l2⟩

theorem okLs.ne {l : Ls} (ok : okLs l) : l.ord.Pairwise (· ≠ ·) := by
  have hi := (sortM_sorted (okF_ids ok.ck.f) l.ck.now).ids (okF_ids ok.ck.f)
  have ho : l.ord = (sortM l.ck.f l.ck.now).map (·.1) := ok.ord
  rw [ho]
  exact List.pairwise_map.2 hi

end Go.Proofs.YtodmhdfenpkbdaaGreat
end
section
/- The spans' laws' own helpers. Conditions: none. -/
set_option maxRecDepth 100000
open Go Go.Eng Go.Proofs
namespace Go.Proofs.YtodmhdfenpkbdaaGreat

def spF : List Pt := [(1, 0, 2), (2, 6, -1), (5, 0, 0)]
def spL : Ls := (buildL spF (1, 1)).1
theorem spOk : okLs spL := chkLs_zero.1 (by kernel_rfl)
theorem spIn : inR spL (1, 1) (5, 1) = ([2, 1], 0) := by kernel_rfl
theorem spUp3 : upR spL (3, 1) = (2, 0) := by kernel_rfl
theorem spDn3 : dnR spL (3, 1) = (1, 0) := by kernel_rfl
theorem spUp2 : upR spL (2, 1) = (1, 0) := by kernel_rfl
theorem spDn2 : dnR spL (2, 1) = (1, 0) := by kernel_rfl
theorem spHull : hullM spL [5, 1] = ((0, 1), (2, 1), 0) := by kernel_rfl
theorem fitW {n : Int} (h : inI n) : fitR (n, 1) := ⟨h, by show inI 1; unfold inI; omega⟩

theorem law31whole {H : Hp} {n : Int} : Qf Tryz.prog F.pelotonlaw31_whole #[.int .i64 n] H (sI2 n 1) := pelotonlaw31_whole_vc ⟨rfl, Hp.le_refl _⟩
theorem law31example {H : Hp} : Go.Eng.Fn Tryz.prog F.pelotonlaw31_example #[] H fun v H' => ∃ u : Lu, v = lsV u spL ∧ Hp.le H H' ∧ RdL H' u spL := by
  refine pelotonlaw31_example_vc fun b1 H2 hb hH => ⟨_, _, law31whole, ?_⟩
  have l2 : Hp.le H H2 := Hp.le_new (Hp.le_refl _) hb hH
  have rf : Rd 3 fD H2 ⟨some ⟨b1, 0, none⟩, 3, 3⟩ spF := rdConst (k := 3) (f := fD) (fun _ => rfl) hH rfl rfl
  exact (refBuildL (t := (1, 1)) rf (fitW (by unfold inI; omega))).mono fun v H6 ⟨u, hv, l6, r⟩ => ⟨l6, _, _, u.k.f, _, u.k.cl, u.k.u1, u.k.u2, u.k.u3, u.k.u4, u.k.u5, u.k.d, u.o, u.n, _, hv, u, rfl, Hp.le_trans l2 l6, r⟩

set_option maxHeartbeats 1000000 in
theorem law31alive {H : Hp} : Qf Tryz.prog F.pelotonlaw31_alive #[] H (.bool true) := by
  have fl := spOk.fit
  have i1 : fitR (1, 1) := fitW (by unfold inI; omega)
  have i2 : fitR (2, 1) := fitW (by unfold inI; omega)
  have i3 : fitR (3, 1) := fitW (by unfold inI; omega)
  have i5 : fitR (5, 1) := fitW (by unfold inI; omega)
  have e1 := spIn; have e2 := spUp3; have e3 := spDn3; have e4 := spUp2; have e5 := spDn2; have e6 := spHull
  refine pelotonlaw31_alive_vc (law31example.mono fun v H2 ⟨u, hv, l2, r⟩ => ⟨_, _, u.k.f, _, u.k.cl, u.k.u1, u.k.u2, u.k.u3, u.k.u4, u.k.u5, u.k.d, u.o, u.n, hv, 1, 1, law31whole, 5, 1, law31whole, ?_⟩)
  generalize spL = l at r fl e1 e2 e3 e4 e5 e6 ⊢
  have q0 := spanIn r fl i1 i5
  rw [e1] at q0
  refine q0.mono fun v H21 ⟨s, hv, l21, m⟩ => ⟨l21, s, 0, hv, ?_⟩
  have r' := r.le l21
  have q1 := spanUp r' fl i3
  have q2 := spanDown r' fl i3
  have q3 := spanUp r' fl i2
  have q4 := spanDown r' fl i2
  rw [e2] at q1; rw [e3] at q2; rw [e4] at q3; rw [e5] at q4
  refine ⟨3, 1, law31whole, 2, 0, q1, 3, 1, law31whole, 1, 0, q2, 2, 1, law31whole, 1, 0, q3, 2, 1, law31whole, 1, 0, q4, fun b40 H41 hb hH => ?_⟩
  have l41 : Hp.le H21 H41 := Hp.le_new (Hp.le_refl _) hb hH
  have ri : RdI H41 ⟨some ⟨b40, 0, none⟩, 2, 2⟩ [5, 1] := rdI2 hH
  have q5 := spanHull (r'.le l41) fl ri
  rw [e6] at q5
  refine ⟨0, 1, 2, 1, 0, q5, fun _ b47 H48 hb2 hH2 => ?_, fun h => by simp at h⟩
  have l48 : Hp.le H41 H48 := Hp.le_new (Hp.le_refl _) hb2 hH2
  have ri2 : RdI H48 ⟨some ⟨b47, 0, none⟩, 2, 2⟩ [2, 1] := rdI2 hH2
  have q6 := sameIDs ((m.rdI.le l41).le l48) ri2 (by decide)
  exact ⟨true, fun _ => q6, 0, 1, fun _ => law31whole, 2, 1, fun _ => law31whole, rfl, Hp.le_trans l2 (Hp.le_trans l21 (Hp.le_trans l41 l48))⟩

/-- The error of a time that is asked for. -/
def askT (t : Int × Int) : Int := if okR t then (if t.1 > 1073741824 ∨ t.1 < -1073741824 ∨ t.2 > 1024 then 2 else 0) else 8
theorem askT_zero {t : Int × Int} : askT t = 0 ↔ okR t ∧ -1073741824 ≤ t.1 ∧ t.1 ≤ 1073741824 ∧ t.2 ≤ 1024 := by
  unfold askT
  split
  · split
    · simp; omega
    · simp [*]; omega
  · simp [*]
theorem refAskT {H : Hp} {t : Int × Int} (ft : fitR t) : Qf Tryz.prog F.pelotonref01_Asked #[sI2 t.1 t.2] H (.int .i64 (askT t)) := by
  refine pelotonref01_Asked_vc ⟨_, refRCheck ft, fun hc => ⟨_, refRCheck ft, ?_, Hp.le_refl _⟩, fun hc => ⟨fun hb => ⟨?_, Hp.le_refl _⟩, fun hb => ⟨?_, Hp.le_refl _⟩⟩⟩
  · have : ¬ okR t := fun h => by rw [chkR_ok h] at hc; simp at hc
    unfold askT; rw [if_neg this, chkR_bad this]
  · have : okR t := chkR_zero.1 (by simpa using hc)
    simp only [Bool.or_eq_true, decide_eq_true_eq] at hb
    unfold askT; rw [if_pos this, if_pos (by omega)]
  · have : okR t := chkR_zero.1 (by simpa using hc)
    simp only [Bool.or_eq_false_iff, decide_eq_false_iff_not] at hb
    unfold askT; rw [if_pos this, if_neg (by omega)]
/-- At a time that is asked for every place is told. -/
theorem place_told {p : Pt} {t : Int × Int} (op : okP p) (h : askT t = 0) : (placeM p t).2 = 0 := by
  obtain ⟨ot, t1, t2, t3⟩ := askT_zero.1 h
  rw [placeM_ok op ot]
  have a0 := op.a0; have a1 := op.a1; have b0 := op.b0; have b1 := op.b1
  have d1 := ot.d1
  have q1 := absI_mul_le (x := p.2.1) (y := t.2) (m := 1048576) (n := 1024) (absI_le (by omega) (by omega)) (absI_le (by omega) (by omega))
  have q2 := absI_mul_le (x := p.2.2) (y := t.1) (m := 1048576) (n := 1073741824) (absI_le (by omega) (by omega)) (absI_le (by omega) (by omega))
  have q3 := absI_add_le (p.2.1 * t.2) (p.2.2 * t.1)
  have q3 : absI (numP p t) ≤ absI (p.2.1 * t.2) + absI (p.2.2 * t.1) := q3
  have g0 : 0 < gcdA (numP p t) t.2 := gcdA_pos (by omega)
  have n1 : absI (numP p t) / gcdA (numP p t) t.2 ≤ absI (numP p t) := Int.ediv_le_self _ (absI_nonneg _)
  have n2 : t.2 / gcdA (numP p t) t.2 ≤ t.2 := Int.ediv_le_self _ (by omega)
  unfold overM buildM
  rw [if_neg (by omega)]
theorem placesN_told {l : Ls} (ok : okLs l) (h : askT l.ck.now = 0) : ∀ n, n ≤ l.ord.length → (placesN l n).2 = 0
  | 0, _ => rfl
  | n + 1, hn => by
    have ih := placesN_told ok h n (by omega)
    have : (plM l (l.ord.getD n 0)).2 = 0 := place_told (ok.ptOk (k := n) (by omega)).1 h
    rw [placesN_yes ih this]
def asked31 (l : Ls) : Bool := !greatL l && chkLs l == 0 && askT l.ck.now == 0
theorem law31asked {H : Hp} {u : Lu} {l : Ls} (r : RdL H u l) (hn : fitR l.ck.now) (hh : ∀ y ∈ l.ck.ag.heap, fitR y.at_) : Qf Tryz.prog F.pelotonlaw31_asked #[lsV u l] H (.bool (asked31 l)) :=
  pelotonlaw31_asked_vc ⟨_, refLGreat r, _, fun hg => refLCheck r (fitL_of hn (by simpa using hg) hh), _, fun _ => refAskT hn, rfl, Hp.le_refl _⟩
theorem asked31_iff {l : Ls} : asked31 l = true ↔ greatL l = false ∧ okLs l ∧ askT l.ck.now = 0 := by
  unfold asked31
  rw [Bool.and_eq_true, Bool.and_eq_true, Bool.not_eq_true', beq_iff_eq, beq_iff_eq, chkLs_zero, and_assoc]
theorem both_zero {a b : Int × Int} : (if okR a ∧ okR b then (0 : Int) else 8) = 0 ↔ okR a ∧ okR b := by
  split
  · simp [*]
  · simp [*]
end Go.Proofs.YtodmhdfenpkbdaaGreat
end
section
/- The law SpanWithin. Conditions: none. -/
set_option maxRecDepth 100000
open Go Go.Eng Go.Proofs
namespace Go.Proofs.YtodmhdfenpkbdaaGreat

theorem askE_told {l : Ls} (h : asked31 l = true) {lo hi : Int × Int} (o1 : okR lo) (o2 : okR hi) (hc : ¬ 0 < cmpR lo hi) : askE l lo hi = 0 := by
  obtain ⟨_, ok, ht⟩ := asked31_iff.1 h
  exact askE_zero.2 ⟨ok, o1, o2, hc, placesN_told ok ht _ (Nat.le_refl _)⟩

end Go.Proofs.YtodmhdfenpkbdaaGreat
end
section
/- The law SpanCounts. Conditions: none. -/
set_option maxRecDepth 100000
open Go Go.Eng Go.Proofs
namespace Go.Proofs.YtodmhdfenpkbdaaGreat

theorem xs_map {l : Ls} (ok : okLs l) (h : (placesN l l.ord.length).2 = 0) : xsM l = (sortM l.ck.f l.ck.now).map fun p => (placeM p l.ck.now).1 := by
  obtain ⟨a, b⟩ := placesN_all _ h
  apply List.ext_getElem?
  intro k
  rw [List.getElem?_map]
  by_cases hk : k < l.ord.length
  · rw [ok.sorted hk]; exact (b k hk).1
  · have e1 : (xsM l)[k]? = none := List.getElem?_eq_none_iff.2 (by unfold xsM; omega)
    have e2 : (sortM l.ck.f l.ck.now)[k]? = none := List.getElem?_eq_none_iff.2 (by rw [sortM_len, ← ok.len]; omega)
    rw [e1, e2]; rfl
theorem loM_pts {l : Ls} (ok : okLs l) (h : (placesN l l.ord.length).2 = 0) (x : Int × Int) : loM (xsM l) x = l.ck.f.countP fun p => decide (0 ≤ cmpR (placeM p l.ck.now).1 x) := by
  unfold loM
  rw [xs_map ok h, List.countP_map, (sortM_perm l.ck.now l.ck.f).countP_eq]; rfl
theorem upM_pts {l : Ls} (ok : okLs l) (h : (placesN l l.ord.length).2 = 0) (x : Int × Int) : upM (xsM l) x = l.ck.f.countP fun p => decide (0 < cmpR (placeM p l.ck.now).1 x) := by
  unfold upM
  rw [xs_map ok h, List.countP_map, (sortM_perm l.ck.now l.ck.f).countP_eq]; rfl
theorem cnt_step {q : Pt → Bool} {f : List Pt} {i : Nat} {p : Pt} (hg : f[i]? = some p) : (f.take (i + 1)).countP q = (f.take i).countP q + (if q p = true then 1 else 0) := by
  rw [take_succ hg, List.countP_append]
  congr 1
  by_cases h : q p = true
  · rw [if_pos h, List.countP_cons_of_pos h, List.countP_nil]
  · rw [if_neg h, List.countP_cons_of_neg h, List.countP_nil]
theorem placeM_okR {p : Pt} {t : Int × Int} (op : okP p) (ot : okR t) (h : (placeM p t).2 = 0) : okR (placeM p t).1 := by
  rw [placeM_ok op ot] at h ⊢
  obtain ⟨_, _, _, _, o⟩ := overM_eq ot.d1 h
  exact o

set_option maxHeartbeats 2000000 in
theorem spanCounts {H : Hp} {u : Lu} {l : Ls} {lo hi : Int × Int} (r : RdL H u l) (hn : fitR l.ck.now) (hh : ∀ y ∈ l.ck.ag.heap, fitR y.at_) (fo : fitR lo) (fi : fitR hi) : Qf Tryz.prog F.pelotonlaw31_SpanCounts #[lsV u l, sI2 lo.1 lo.2, sI2 hi.1 hi.2] H (.bool true) := by
  refine pelotonlaw31_SpanCounts_vc ⟨true, law31alive, _, law31asked r hn hh, _, fun _ => refBoth fo fi, cmpR lo hi, fun h => ?_, fun _ => ⟨rfl, Hp.le_refl _⟩, fun hb => ?_⟩
  · have h : asked31 l = true ∧ (if okR lo ∧ okR hi then (0 : Int) else 8) = 0 := by simpa using h
    have := both_zero.1 h.2
    exact refCompareR this.1 this.2
  have hb : ((asked31 l = true ∧ (if okR lo ∧ okR hi then (0 : Int) else 8) = 0) ∧ cmpR lo hi ≤ 0) := by simpa using hb
  obtain ⟨⟨b1, b2⟩, b3⟩ := hb
  obtain ⟨o1, o2⟩ := both_zero.1 b2
  have b3 : ¬ 0 < cmpR lo hi := by omega
  obtain ⟨hg, ok, ht⟩ := asked31_iff.1 b1
  have fl := fitL_of hn hg hh
  have f1 := fl.o
  have lor := r.o.len
  have lf := ok.ck.f.small
  have a1 := askE_told b1 o1 o2 b3
  obtain ⟨q1, q2, q3, D⟩ := ask_range a1
  have pl := placesN_told ok ht _ (Nat.le_refl _)
  have eL := loM_pts ok pl lo
  have eU := upM_pts ok pl hi
  have g1 := spanIn r fl fo fi
  rw [inR_ok a1] at g1
  refine g1.mono fun v H6 ⟨s, hv, l6, m⟩ => ⟨s, 0, hv, ?_⟩
  have g2 := spanCount (r.le l6) fl fo fi
  have ec : cntR l lo hi = ((loM (xsM l) lo - upM (xsM l) hi : Nat) : Int) := by unfold cntR; rw [inR_ok a1, inM_len a1]
  rw [inR_ok a1, ec] at g2
  have rm := m.rdI
  have ls := rm.len
  rw [inM_len a1] at ls
  refine ⟨_, _, g2, fun hb => ?_, fun _ => ?_⟩
  · exfalso
    simp only [Bool.or_eq_true, bne_iff_ne, ne_eq, not_true_eq_false, false_or] at hb
    omega
  refine ⟨fun n i H' => H6 = H' ∧ 0 ≤ i ∧ i ≤ l.ck.f.length ∧ n = ((l.ck.f.take i.toNat).countP fun p => decide (0 ≤ cmpR (placeM p l.ck.now).1 lo) : Nat) - ((l.ck.f.take i.toNat).countP fun p => decide (0 < cmpR (placeM p l.ck.now).1 hi) : Nat), fun _ i _ => (l.ck.f.length - i).toNat, ⟨rfl, Int.le_refl _, by omega, rfl⟩, fun n i H' ⟨e, i0, i1, en⟩ => ⟨fun hc => ?_, fun hc => ?_⟩⟩
  · subst e
    have lfr := r.k.f.len
    have hc : i < l.ck.f.length := by have : i < u.k.f.n := by simpa using hc
                                      omega
    have hgp := getX (xs := l.ck.f) (d := ((0 : Int), (0 : Int), (0 : Int))) i0 hc
    have op := ok.ck.f.each _ (List.mem_of_getElem? hgp)
    have told := place_told op ht
    have oq := placeM_okR op ok.ck.now told
    have rf := r.k.f.le l6
    have gd := rf.gD i0 hc
    have es : (i + 1).toNat = i.toNat + 1 := by omega
    have c1 := cnt_step (q := fun p => decide (0 ≤ cmpR (placeM p l.ck.now).1 lo)) hgp
    have c2 := cnt_step (q := fun p => decide (0 < cmpR (placeM p l.ck.now).1 hi)) hgp
    have ca := courseAt (H := H6) (p := l.ck.f.getD i.toNat (0, 0, 0)) (t := l.ck.now) fl.k.now
    rw [told] at ca
    have t1 : ((l.ck.f.take i.toNat).countP fun p => decide (0 ≤ cmpR (placeM p l.ck.now).1 lo)) ≤ l.ck.f.length := Nat.le_trans List.countP_le_length (List.length_take_le' ..)
    have t2 : ((l.ck.f.take i.toNat).countP fun p => decide (0 < cmpR (placeM p l.ck.now).1 hi)) ≤ l.ck.f.length := Nat.le_trans List.countP_le_length (List.length_take_le' ..)
    have ms : (l.ck.f.length - (i + 1) : Int).toNat < (l.ck.f.length - i : Int).toNat := by omega
    simp only [decide_eq_true_eq] at c1 c2
    rw [← es] at c1 c2
    generalize l.ck.f.getD i.toNat (0, 0, 0) = p at *
    refine ⟨rf.inS i0 hc, _, _, _, gd, _, _, _, ca, _, fun _ => refRCheck oq.fit, fun hb => ?_, fun _ => ⟨_, refCompareR oq o1, fun h1 => ⟨?_, _, refCompareR oq o2, fun h2 => ⟨?_, ?_, ⟨rfl, by omega, by omega, ?_⟩, ms⟩, fun h2 => ⟨?_, ⟨rfl, by omega, by omega, ?_⟩, ms⟩⟩, fun h1 => ⟨_, refCompareR oq o2, fun h2 => ⟨?_, ?_, ⟨rfl, by omega, by omega, ?_⟩, ms⟩, fun h2 => ⟨?_, ⟨rfl, by omega, by omega, ?_⟩, ms⟩⟩⟩⟩
    · exfalso; rw [chkR_ok oq] at hb; simp at hb
    all_goals
      try simp only [decide_eq_true_eq, decide_eq_false_iff_not, ge_iff_le] at h1
      try simp only [decide_eq_true_eq, decide_eq_false_iff_not, gt_iff_lt] at h2
      first
        | (unfold inI; omega)
        | (first | rw [if_pos h1] at c1 | rw [if_neg h1] at c1
           first | rw [if_pos h2] at c2 | rw [if_neg h2] at c2
           omega)
  · subst e
    have lfr := r.k.f.len
    have hc : i = l.ck.f.length := by have : ¬ i < u.k.f.n := by simpa using hc
                                      omega
    subst hc
    rw [Int.toNat_natCast, List.take_length, ← eL, ← eU] at en
    subst en
    refine ⟨fun hb => ?_, fun _ => ⟨fun _ => ⟨rfl, l6⟩, fun hz => ?_⟩⟩
    · exfalso
      simp only [bne_iff_ne, ne_eq] at hb
      omega
    have hz : ((loM (xsM l) lo - upM (xsM l) hi : Nat) : Int) ≠ 0 := by simpa using hz
    have hd := ok.ne
    have gu := getI (xs := l.ord) (i := (upM (xsM l) hi : Int)) (by omega) (by omega)
    rw [Int.toNat_natCast] at gu
    have g0 : (inM l lo hi)[0]? = some (l.ord.getD (upM (xsM l) hi) 0) := by
      unfold inM
      rw [List.getElem?_drop, List.getElem?_take, if_pos (by omega), Nat.add_zero]; exact gu
    have r0 := RdI.get rm (i := 0) (by omega) (by rw [inM_len a1]; omega)
    have e0 : (inM l lo hi).getD (0 : Int).toNat 0 = l.ord.getD (upM (xsM l) hi) 0 := by
      rw [List.getD_eq_getElem?_getD]
      show ((inM l lo hi)[0]?).getD 0 = _
      rw [g0]; rfl
    rw [e0] at r0
    refine ⟨fun n H' => H6 = H' ∧ 0 ≤ n ∧ n ≤ (upM (xsM l) hi : Int), fun n _ => (l.ord.length - n).toNat, ⟨rfl, Int.le_refl _, by omega⟩, fun n H' ⟨e, n0, n1⟩ => ?_⟩
    subst e
    have nl : n < l.ord.length := by omega
    have gn := getI (xs := l.ord) n0 nl
    refine ⟨fun _ => r.o.inS n0 nl, _, fun _ => RdI.get (r.o.le l6) n0 nl, fun _ => rm.inS (by omega) (by rw [inM_len a1]; omega), _, fun _ => r0, fun hb => ?_, fun hb => ?_⟩
    · have hb : l.ord.getD n.toNat 0 ≠ l.ord.getD (upM (xsM l) hi) 0 := by
        have : decide (n < (u.o.n : Int)) = true ∧ l.ord.getD n.toNat 0 ≠ l.ord.getD (upM (xsM l) hi) 0 := by simpa using hb
        exact this.2
      have ne : n ≠ (upM (xsM l) hi : Int) := fun e => hb (by rw [e, Int.toNat_natCast])
      refine ⟨by unfold inI; omega, ⟨rfl, by omega, by omega⟩, ?_⟩
      show (l.ord.length - (n + 1) : Int).toNat < (l.ord.length - n : Int).toNat; omega
    · have hb : l.ord.getD n.toNat 0 = l.ord.getD (upM (xsM l) hi) 0 := by
        have hl : decide (n < (u.o.n : Int)) = true := decide_eq_true (by omega)
        rw [hl, Bool.true_and] at hb
        simpa using hb
      have en : n = (upM (xsM l) hi : Int) := by
        have p1 := posO_at hd gn
        have p2 := posO_at hd gu
        rw [hb, p2] at p1
        omega
      subst en
      have hcap := r.o.cap
      have ez : Tryz.prog.cellsOf 3 = 1 := by kernel_rfl
      rw [ez]
      have rs := Rd.sub (f := fI) (k := 1) (r.o.le l6) (l := (upM (xsM l) hi : Int)) (hi := (upM (xsM l) hi : Int) + ((loM (xsM l) lo - upM (xsM l) hi : Nat) : Int)) (m := (u.o.c : Int)) (by omega) (by omega) (by omega) (by omega)
      have ei : (l.ord.take ((upM (xsM l) hi : Int) + ((loM (xsM l) lo - upM (xsM l) hi : Nat) : Int)).toNat).drop ((upM (xsM l) hi : Nat) : Int).toNat = inM l lo hi := by
        unfold inM; rw [Int.toNat_natCast]; congr 2; omega
      rw [ei] at rs
      have sm := sameIDs rm rs (by rw [inM_len a1]; omega)
      rw [beq_self_eq_true] at sm
      refine ⟨fun _ => by unfold inI; omega, fun _ => by unfold inI; omega, fun _ => by unfold okSl; omega, true, fun _ => sm, ?_, l6⟩
      rw [decide_eq_true (by omega)]
      rfl
end Go.Proofs.YtodmhdfenpkbdaaGreat
end
section
/- The law SpanHull. Conditions: none. -/
set_option maxRecDepth 100000
open Go Go.Eng Go.Proofs
namespace Go.Proofs.YtodmhdfenpkbdaaGreat

theorem okLs.short {l : Ls} (ok : okLs l) : l.ord.length ≤ 64 := by rw [ok.len]; exact ok.ck.f.len
theorem posO_get {o : List Int} (hd : o.Pairwise (· ≠ ·)) {k : Nat} (hk : k < o.length) : posO o (o.getD k 0) = k := by
  have := getI (xs := o) (i := (k : Int)) (by omega) (by omega)
  rw [Int.toNat_natCast] at this
  exact posO_at hd this
/-- Of IDs that stand in a row: the first and the last. -/
theorem run_mnmx {o ids : List Int} (hd : o.Pairwise (· ≠ ·)) {i : Nat} (h : ∀ j, j < ids.length → i + j < o.length ∧ ids.getD j 0 = o.getD (i + j) 0) : ∀ n, 1 ≤ n → n ≤ ids.length → mnO o ids n = i ∧ mxO o ids n = ((i + n : Nat) : Int) - 1
  | 0, h1, _ => by omega
  | 1, _, h2 => by
    obtain ⟨a, b⟩ := h 0 (by omega)
    have e : posO o (ids.getD 0 0) = i := by rw [b, posO_get hd a]; rfl
    constructor
    · show (if posO o (ids.getD 0 0) < (o.length : Int) then _ else _) = _
      rw [e, if_pos (by omega)]
    · show (if posO o (ids.getD 0 0) > (-1 : Int) then _ else _) = _
      rw [e, if_pos (by omega)]; omega
  | n + 2, _, h2 => by
    obtain ⟨a, b⟩ := h (n + 1) (by omega)
    obtain ⟨c, d⟩ := run_mnmx hd h (n + 1) (by omega) (by omega)
    have e : posO o (ids.getD (n + 1) 0) = ((i + (n + 1) : Nat) : Int) := by rw [b, posO_get hd a]
    constructor
    · show (if posO o (ids.getD (n + 1) 0) < mnO o ids (n + 1) then _ else mnO o ids (n + 1)) = _
      rw [e, c, if_neg (by omega)]
    · show (if posO o (ids.getD (n + 1) 0) > mxO o ids (n + 1) then posO o (ids.getD (n + 1) 0) else _) = _
      rw [e, d, if_pos (by omega)]; omega
theorem seg_getD {o : List Int} {U B q : Nat} (h : q < B - U) : ((o.take B).drop U).getD q 0 = o.getD (U + q) 0 := by
  rw [List.getD_eq_getElem?_getD, List.getD_eq_getElem?_getD, List.getElem?_drop, List.getElem?_take, if_pos (by omega)]
theorem cmpR_self (a : Int × Int) : cmpR a a = 0 := cmpR_eq0.2 rfl

set_option maxHeartbeats 2000000 in
theorem lawSpanHull {H : Hp} {u : Lu} {l : Ls} {i k : Int} (r : RdL H u l) (hn : fitR l.ck.now) (hh : ∀ y ∈ l.ck.ag.heap, fitR y.at_) : Qf Tryz.prog F.pelotonlaw31_SpanHull #[lsV u l, .int .i64 i, .int .i64 k] H (.bool true) := by
  refine pelotonlaw31_SpanHull_vc ⟨true, law31alive, _, law31asked r hn hh, fun _ => ⟨rfl, Hp.le_refl _⟩, fun hb => ?_⟩
  simp only [Bool.or_eq_false_iff, Bool.not_eq_false', decide_eq_false_iff_not] at hb
  obtain ⟨⟨⟨⟨b1, b2⟩, b3⟩, b4⟩, _⟩ := hb
  obtain ⟨hg, ok, ht⟩ := asked31_iff.1 b1
  have fl := fitL_of hn hg hh
  have f1 := fl.o
  have lor := r.o.len
  have hcap := r.o.cap
  have sh := ok.short
  have hd := ok.ne
  have i0 : 0 ≤ i := by omega
  have kn : k < l.ord.length := by omega
  have pl := placesN_told ok ht _ (Nat.le_refl _)
  have D := ok.desc pl
  have lx : (xsM l).length = l.ord.length := (placesN_all _ pl).1
  have D : Desc (xsM l) := D
  have ep : placesM l = (xsM l, 0) := by unfold placesM xsM; rw [if_pos ok]; exact Prod.ext rfl pl
  have gk := getX (xs := xsM l) (d := ((0 : Int), (0 : Int))) (i := k) (by omega) (by omega)
  have gi := getX (xs := xsM l) (d := ((0 : Int), (0 : Int))) (i := i) i0 (by omega)
  have ok1 := D.ok _ (List.mem_of_getElem? gk)
  have ok2 := D.ok _ (List.mem_of_getElem? gi)
  have e1 : hullM l [l.ord.getD k.toNat 0, l.ord.getD i.toNat 0] = ((xsM l).getD k.toNat (0, 0), (xsM l).getD i.toNat (0, 0), 0) := by
    have p1 := posO_get hd (k := k.toNat) (by omega)
    have p2 := posO_get hd (k := i.toNat) (by omega)
    have ha : allO l.ord [l.ord.getD k.toNat 0, l.ord.getD i.toNat 0] = true := by
      unfold allO
      simp only [List.all_cons, List.all_nil, p1, p2, Bool.and_true]
      rw [decide_eq_true (by omega), decide_eq_true (by omega)]; rfl
    rw [hullM_ok (by rw [ep]) (by simp) (by simp) ha]
    have x1 : mxO l.ord [l.ord.getD k.toNat 0, l.ord.getD i.toNat 0] 1 = k := by
      show (if posO l.ord (l.ord.getD k.toNat 0) > (-1 : Int) then posO l.ord (l.ord.getD k.toNat 0) else _) = _
      rw [p1, if_pos (by omega)]; omega
    have x2 : mxO l.ord [l.ord.getD k.toNat 0, l.ord.getD i.toNat 0] 2 = k := by
      show (if posO l.ord (l.ord.getD i.toNat 0) > mxO l.ord [l.ord.getD k.toNat 0, l.ord.getD i.toNat 0] 1 then _ else mxO l.ord [l.ord.getD k.toNat 0, l.ord.getD i.toNat 0] 1) = _
      rw [p2, x1, if_neg (by omega)]
    have y1 : mnO l.ord [l.ord.getD k.toNat 0, l.ord.getD i.toNat 0] 1 = k := by
      show (if posO l.ord (l.ord.getD k.toNat 0) < (l.ord.length : Int) then posO l.ord (l.ord.getD k.toNat 0) else _) = _
      rw [p1, if_pos (by omega)]; omega
    have y2 : mnO l.ord [l.ord.getD k.toNat 0, l.ord.getD i.toNat 0] 2 = i := by
      show (if posO l.ord (l.ord.getD i.toNat 0) < mnO l.ord [l.ord.getD k.toNat 0, l.ord.getD i.toNat 0] 1 then posO l.ord (l.ord.getD i.toNat 0) else mnO l.ord [l.ord.getD k.toNat 0, l.ord.getD i.toNat 0] 1) = _
      rw [p2, y1]; split <;> omega
    show ((xsM l).getD (mxO _ _ 2).toNat (0, 0), (xsM l).getD (mnO _ _ 2).toNat (0, 0), (0 : Int)) = _
    rw [x2, y2]
  have rl : ((l.ord.take (k + 1).toNat).drop i.toNat).length = (k + 1).toNat - i.toNat := by rw [List.length_drop, List.length_take]; omega
  have e2 : hullM l ((l.ord.take (k + 1).toNat).drop i.toNat) = ((xsM l).getD k.toNat (0, 0), (xsM l).getD i.toNat (0, 0), 0) := by
    have row : ∀ j, j < ((l.ord.take (k + 1).toNat).drop i.toNat).length → i.toNat + j < l.ord.length ∧ ((l.ord.take (k + 1).toNat).drop i.toNat).getD j 0 = l.ord.getD (i.toNat + j) 0 := fun j hj => by
      rw [rl] at hj
      refine ⟨by omega, ?_⟩
      rw [List.getD_eq_getElem?_getD, List.getD_eq_getElem?_getD, List.getElem?_drop, List.getElem?_take, if_pos (by omega)]
    obtain ⟨m1, m2⟩ := run_mnmx hd row _ (by rw [rl]; omega) (Nat.le_refl _)
    rw [hullM_ok (by rw [ep]) (by rw [rl]; omega) (by rw [rl]; omega) (allO_of fun j hj => by
      obtain ⟨a, b⟩ := row j hj
      rw [b, posO_get hd a]; omega), m1, m2, rl, Int.toNat_natCast, show (((i.toNat + ((k + 1).toNat - i.toNat) : Nat) : Int) - 1).toNat = k.toNat by omega]
  have hup : upM (xsM l) ((xsM l).getD i.toNat (0, 0)) ≤ i.toNat := by
    have := mt (D.up ok2 gi).2 (by rw [cmpR_self]; omega)
    omega
  have hlo : k.toNat < loM (xsM l) ((xsM l).getD k.toNat (0, 0)) := (D.lo ok1 gk).1 (by rw [cmpR_self]; omega)
  have hle := loM_le (xsM l) ((xsM l).getD k.toNat (0, 0))
  have hcmp : ¬ 0 < cmpR ((xsM l).getD k.toNat (0, 0)) ((xsM l).getD i.toNat (0, 0)) := by
    rcases Int.lt_or_le i k with h | h
    · have := D.ge i.toNat k.toNat _ _ (by omega) gi gk
      rw [cmpR_ge] at this
      rw [cmpR_gt]; omega
    · have : i = k := by omega
      subst this
      rw [cmpR_self]; omega
  have a1 := askE_told b1 ok1 ok2 hcmp
  have il := inM_len a1
  have ini : ∀ q : Nat, q < loM (xsM l) ((xsM l).getD k.toNat (0, 0)) - upM (xsM l) ((xsM l).getD i.toNat (0, 0)) → (inM l ((xsM l).getD k.toNat (0, 0)) ((xsM l).getD i.toNat (0, 0))).getD q 0 = l.ord.getD (upM (xsM l) ((xsM l).getD i.toNat (0, 0)) + q) 0 := fun q hq => by
    unfold inM
    exact seg_getD hq
  generalize hxk : (xsM l).getD k.toNat (0, 0) = xk at *
  generalize hxi : (xsM l).getD i.toNat (0, 0) = xi at *
  refine ⟨r.o.inS (by omega) kn, _, RdI.get r.o (by omega) kn, r.o.inS i0 (by omega), _, RdI.get r.o i0 (by omega), fun b5 H6 hb5 hH6 => ?_⟩
  have l6 : Hp.le H H6 := Hp.le_new (Hp.le_refl _) hb5 hH6
  have h1 := spanHull (r.le l6) fl (rdI2 hH6)
  rw [e1] at h1
  have rs := Rd.sub (f := fI) (k := 1) (r.o.le l6) (l := i) (hi := k + 1) (m := (u.o.c : Int)) i0 (by omega) (by omega) (by omega)
  have h2 := spanHull (r.le l6) fl rs
  rw [e2] at h2
  have ez : Tryz.prog.cellsOf 3 = 1 := by kernel_rfl
  rw [ez]
  refine ⟨xk.1, xk.2, xi.1, xi.2, 0, h1, by unfold inI; omega, by unfold okSl; omega, xk.1, xk.2, xi.1, xi.2, 0, h2, ?_⟩
  have g3 := spanPlaces (r.le l6) fl
  rw [ep] at g3
  refine g3.mono fun v H18 ⟨w, hv, l18, mp⟩ => ⟨w, 0, hv, ?_⟩
  have g4 := spanIn ((r.le l6).le l18) fl ok1.fit ok2.fit
  rw [inR_ok a1] at g4
  refine g4.mono fun v H22 ⟨s, hv, l22, m⟩ => ⟨s, 0, hv, ?_⟩
  have rx : Rd 2 fH H22 w (xsM l) := mp.rdH.le l22
  have lw := rx.len
  have rm := m.rdI
  have ls := rm.len
  rw [il] at ls
  have l622 := Hp.le_trans l18 l22
  have k1 := rx.gH (i := k) (by omega) (by omega)
  have k2 := rx.gH (i := i) i0 (by omega)
  rw [hxk] at k1
  rw [hxi] at k2
  refine ⟨fun _ => rx.inS (by omega) (by omega), xk.1, xk.2, fun _ => k1, fun _ => rx.inS i0 (by omega), xi.1, xi.2, fun _ => k2, fun _ => by unfold inI; omega, fun _ => by unfold inI; omega, fun hb => ?_, fun _ => ?_⟩
  · exfalso
    have hb : (s.n : Int) < k - i + 1 ∨ (w.n : Int) ≠ u.o.n := by
      simp only [bne_self_eq_false, beq_self_eq_true, Bool.and_self, Bool.not_true, Bool.false_or, Bool.or_false, Bool.or_eq_true, decide_eq_true_eq, bne_iff_ne, ne_eq] at hb
      omega
    omega
  refine ⟨fun n m H' => H22 = H' ∧ i ≤ m ∧ m ≤ k + 1 ∧ n = m - i, fun _ m _ => (k + 1 - m).toNat, ⟨rfl, by omega, by omega, by omega⟩, fun n m' H' ⟨e, m0, m1, en⟩ => ⟨fun hc => ?_, fun hc => ?_⟩⟩
  · subst e
    have hc : m' ≤ k := by simpa using hc
    refine ⟨fun c q H' => H22 = H' ∧ 0 ≤ q ∧ q ≤ s.n ∧ c = n + (if (upM (xsM l) xi : Int) + q ≤ m' then 0 else 1), fun _ q _ => (s.n - q).toNat, ⟨rfl, by omega, by omega, by rw [if_pos (by omega)]; omega⟩, fun c q H' ⟨e, q0, q1, eq⟩ => ⟨fun hq => ?_, fun hq => ?_⟩⟩
    · subst e
      have hq : q < s.n := by simpa using hq
      have gv := RdI.get rm q0 (by rw [il]; omega)
      rw [ini q.toNat (by omega)] at gv
      have ms : (s.n - (q + 1) : Int).toNat < (s.n - q : Int).toNat := by omega
      refine ⟨rm.inS q0 (by rw [il]; omega), _, gv, r.o.inS (by omega) (by omega), _, RdI.get ((r.o.le l6).le l622) (by omega) (by omega), fun hb => ?_, fun hb => ?_⟩
      · have hb : l.ord.getD (upM (xsM l) xi + q.toNat) 0 = l.ord.getD m'.toNat 0 := by simpa using hb
        have p1 := posO_get hd (k := upM (xsM l) xi + q.toNat) (by omega)
        have p2 := posO_get hd (k := m'.toNat) (by omega)
        rw [hb, p2] at p1
        rw [if_pos (by omega)] at eq
        exact ⟨by unfold inI; omega, by unfold inI; omega, ⟨rfl, by omega, by omega, by rw [if_neg (by omega)]; omega⟩, ms⟩
      · have hb : l.ord.getD (upM (xsM l) xi + q.toNat) 0 ≠ l.ord.getD m'.toNat 0 := by simpa using hb
        have hne : upM (xsM l) xi + q.toNat ≠ m'.toNat := fun e => hb (by rw [e])
        refine ⟨by unfold inI; omega, ⟨rfl, by omega, by omega, ?_⟩, ms⟩
        rw [eq]
        congr 1
        by_cases h : (upM (xsM l) xi : Int) + q ≤ m'
        · rw [if_pos h, if_pos (by omega)]
        · rw [if_neg h, if_neg (by omega)]
    · subst e
      have hq : q = s.n := by have : ¬ q < s.n := by simpa using hq
                              omega
      rw [if_neg (by omega)] at eq
      refine ⟨by unfold inI; omega, ⟨rfl, by omega, by omega, by omega⟩, ?_⟩
      show (k + 1 - (m' + 1)).toNat < (k + 1 - m').toNat; omega
  · subst e
    have hc : ¬ m' ≤ k := by simpa using hc
    refine ⟨fun _ => by unfold inI; omega, fun _ => by unfold inI; omega, ?_, Hp.le_trans l6 l622⟩
    have : n = k - i + 1 := by omega
    rw [this]; simp
end Go.Proofs.YtodmhdfenpkbdaaGreat
end
section
/- The law SpanNext. Conditions: none. -/
set_option maxRecDepth 100000
open Go Go.Eng Go.Proofs
namespace Go.Proofs.YtodmhdfenpkbdaaGreat

theorem dec_and {a b : Int} {c d : Int} (h : (a == b && c == d) = false) : ¬ (a = b ∧ c = d) := fun ⟨x, y⟩ => by rw [x, y] at h; simp at h

theorem leaf {P Q : Prop} {eu ed c i u d len : Int} (h1 : ¬ (eu = 0 ∧ (i = u ∧ c < 0 ∨ i > u ∧ c ≥ 0) ∨ eu ≠ 0 ∧ c ≥ 0)) (h2 : ¬ (ed = 0 ∧ (i = d ∧ c > 0 ∨ d = len ∧ c ≤ 0) ∨ ed ≠ 0 ∧ c ≤ 0)) (q : Q) :
    ((eu == 0 && (i == u && decide (c < 0) || decide (i > u) && decide (c ≥ 0)) || eu != 0 && decide (c ≥ 0)) = true → P) ∧
    ((eu == 0 && (i == u && decide (c < 0) || decide (i > u) && decide (c ≥ 0)) || eu != 0 && decide (c ≥ 0)) = false →
      ((ed == 0 && (i == d && decide (c > 0) || d == len && decide (c ≤ 0)) || ed != 0 && decide (c ≤ 0)) = true → P) ∧
      ((ed == 0 && (i == d && decide (c > 0) || d == len && decide (c ≤ 0)) || ed != 0 && decide (c ≤ 0)) = false → Q)) := by
  refine ⟨fun hb => absurd ?_ h1, fun _ => ⟨fun hb => absurd ?_ h2, fun _ => q⟩⟩
  · simpa only [Bool.or_eq_true, Bool.and_eq_true, beq_iff_eq, bne_iff_ne, ne_eq, decide_eq_true_eq] using hb
  · simpa only [Bool.or_eq_true, Bool.and_eq_true, beq_iff_eq, bne_iff_ne, ne_eq, decide_eq_true_eq] using hb

set_option maxHeartbeats 1000000 in
theorem lawSpanNext {H : Hp} {u : Lu} {l : Ls} {x : Int × Int} (r : RdL H u l) (hn : fitR l.ck.now) (hh : ∀ y ∈ l.ck.ag.heap, fitR y.at_) (fx : fitR x) : Qf Tryz.prog F.pelotonlaw31_SpanNext #[lsV u l, sI2 x.1 x.2] H (.bool true) := by
  refine pelotonlaw31_SpanNext_vc ⟨true, law31alive, _, law31asked r hn hh, _, fun _ => refRCheck fx, fun _ => ⟨rfl, Hp.le_refl _⟩, fun hb => ?_⟩
  have hb : asked31 l = true ∧ chkR x = 0 := by simpa using hb
  obtain ⟨b1, b2⟩ := hb
  have ox := chkR_zero.1 b2
  obtain ⟨hg, ok, ht⟩ := asked31_iff.1 b1
  have fl := fitL_of hn hg hh
  have f1 := fl.o
  have lor := r.o.len
  have lf := ok.ck.f.small
  have hd := ok.ne
  have a1 := askE_told b1 ox ox (by rw [cmpR_self]; omega)
  obtain ⟨q1, q2, q3, D⟩ := ask_range a1
  have pl := placesN_told ok ht _ (Nat.le_refl _)
  obtain ⟨_, pb⟩ := placesN_all _ pl
  have u1 := spanUp r fl fx
  have u2 := spanDown r fl fx
  have hU : (upR l x).2 = 0 ∧ 1 ≤ loM (xsM l) x ∧ (upR l x).1 = l.ord.getD (loM (xsM l) x - 1) 0 ∨ (upR l x).2 = 6 ∧ loM (xsM l) x = 0 := by
    unfold upR
    rw [if_pos a1]
    split
    · rename_i h; exact .inr ⟨rfl, h⟩
    · rename_i h; exact .inl ⟨rfl, by omega, rfl⟩
  have hD : (dnR l x).2 = 0 ∧ upM (xsM l) x < l.ord.length ∧ (dnR l x).1 = l.ord.getD (upM (xsM l) x) 0 ∨ (dnR l x).2 = 6 ∧ upM (xsM l) x = l.ord.length := by
    have := upM_le (xsM l) x
    unfold dnR
    rw [if_pos a1]
    split
    · rename_i h; exact .inr ⟨rfl, h⟩
    · rename_i h; exact .inl ⟨rfl, by omega, rfl⟩
  have dlo := fun i y (h : (xsM l)[i]? = some y) => D.lo ox h
  have dup := fun i y (h : (xsM l)[i]? = some y) => D.up ox h
  generalize upR l x = up at *
  generalize dnR l x = dn at *
  generalize loM (xsM l) x = U at *
  generalize upM (xsM l) x = N at *
  refine ⟨_, _, u1, _, _, u2, fun u' d' at' i H' => H = H' ∧ 0 ≤ i ∧ i ≤ l.ord.length ∧ (u' = (U : Int) - 1 ∧ 1 ≤ U ∧ (U : Int) ≤ i ∨ u' = l.ord.length ∧ ¬ (1 ≤ U ∧ (U : Int) ≤ i)) ∧ (d' = (N : Int) ∧ N < l.ord.length ∧ (N : Int) < i ∨ d' = l.ord.length ∧ ¬ (N < l.ord.length ∧ (N : Int) < i)) ∧ at' = decide (N < U ∧ (N : Int) < i),
    fun _ _ _ i _ => (l.ord.length - i).toNat, ⟨rfl, Int.le_refl _, by omega, .inr ⟨by omega, by omega⟩, .inr ⟨by omega, by omega⟩, (decide_eq_false (by omega)).symm⟩, fun u' d' at' i H' ⟨e, i0, i1, hu, hdd, ha⟩ => ⟨fun hc => ?_, fun hc => ?_⟩⟩
  · subst e
    have hc : i < l.ord.length := by have : i < u.o.n := by simpa using hc
                                     omega
    have hp := ok.pos i0 hc
    obtain ⟨p1, p2⟩ := pb i.toNat (by omega)
    have oy := D.ok _ (List.mem_of_getElem? p1)
    have c1 := dlo _ _ p1
    have c2 := dup _ _ p1
    have rp := refPlace (H := H) (p := gP l.ck.f (posF l.ck.f (l.ord.getD i.toNat 0))) (t := l.ck.now) fl.k.now
    have p2 : (placeM (gP l.ck.f (posF l.ck.f (l.ord.getD i.toNat 0))) l.ck.now).2 = 0 := p2
    rw [p2] at rp
    have eP : plM l (l.ord.getD i.toNat 0) = placeM (gP l.ck.f (posF l.ck.f (l.ord.getD i.toNat 0))) l.ck.now := rfl
    rw [eP] at oy c1 c2
    generalize placeM (gP l.ck.f (posF l.ck.f (l.ord.getD i.toNat 0))) l.ck.now = y at rp oy c1 c2
    have gi := RdI.get r.o i0 hc
    have hid := posO_get hd (k := i.toNat) (by omega)
    have k1 : up.2 = 0 ∧ l.ord.getD i.toNat 0 = up.1 ↔ 1 ≤ U ∧ i = (U : Int) - 1 := by
      rcases hU with ⟨e1, e2, e3⟩ | ⟨e1, e2⟩
      · constructor
        · intro ⟨_, h⟩
          have := posO_get hd (k := U - 1) (by omega)
          rw [h, e3, this] at hid
          omega
        · intro ⟨_, h⟩
          exact ⟨e1, by rw [e3, show i.toNat = U - 1 by omega]⟩
      · clear hu hdd hD; omega
    have k2 : dn.2 = 0 ∧ l.ord.getD i.toNat 0 = dn.1 ↔ N < l.ord.length ∧ i = (N : Int) := by
      rcases hD with ⟨e1, e2, e3⟩ | ⟨e1, e2⟩
      · constructor
        · intro ⟨_, h⟩
          have := posO_get hd (k := N) (by omega)
          rw [h, e3, this] at hid
          omega
        · intro ⟨_, h⟩
          exact ⟨e1, by rw [e3, show i.toNat = N by omega]⟩
      · clear hu hdd hU k1; omega
    have hU' : up.2 = 0 ∧ 1 ≤ U ∨ up.2 = 6 ∧ U = 0 := hU.imp (fun h => ⟨h.1, h.2.1⟩) id
    have hD' : dn.2 = 0 ∧ N < l.ord.length ∨ dn.2 = 6 ∧ N = l.ord.length := hD.imp (fun h => ⟨h.1, h.2.1⟩) id
    have ms : (l.ord.length - (i + 1) : Int).toNat < (l.ord.length - i : Int).toNat := by clear hu hdd hU' hD' k1 k2 hU hD; omega
    have hat : (at' || cmpR y.1 x == 0) = decide (N < U ∧ (N : Int) < i + 1) := by
      rw [ha, Bool.eq_iff_iff]
      simp only [Bool.or_eq_true, decide_eq_true_eq, beq_iff_eq]
      clear hu hdd hU' hD' k1 k2 hU hD
      omega
    have ii : inI (i + 1) := by clear hu hdd hU' hD' k1 k2 hU hD; unfold inI; omega
    have lf9 : l.ck.f.length ≤ 1000000000 := by clear hu hdd hU' hD' k1 k2 hU hD; omega
    clear hU hD
    refine ⟨r.o.inS i0 hc, _, gi, _, refFAt r.k.f lf9, r.k.f.ldD hp (posF_lt hp) ⟨_, _, _, rp, fun h => by simp at h, fun _ => ⟨_, refCompareR oy ox, fun _ => r.o.inS i0 hc, _, fun _ => gi, fun m1 => ⟨fun _ => r.o.inS i0 hc, _, fun _ => gi, fun m2 => ?_, fun m2 => ?_⟩, fun m1 => ⟨fun _ => r.o.inS i0 hc, _, fun _ => gi, fun m2 => ?_, fun m2 => ?_⟩⟩⟩⟩
    · have m1 := k1.1 (by simpa only [Bool.and_eq_true, beq_iff_eq] using m1)
      have m2 := k2.1 (by simpa only [Bool.and_eq_true, beq_iff_eq] using m2)
      rw [hat]
      exact leaf (by clear hdd hD' k1 k2 ms; omega) (by clear hu hU' k1 k2 ms; omega) ⟨ii, ⟨rfl, by clear hu hdd hD' hU' k1 k2 ms m1 m2 hat c1 c2; omega, by clear hu hdd hD' hU' k1 k2 ms m1 m2 hat c1 c2; omega, by clear hdd hD' hU' k1 k2 ms hat c1 c2; omega, by clear hu hD' hU' k1 k2 ms hat c1 c2; omega, rfl⟩, ms⟩
    · have m1 := k1.1 (by simpa only [Bool.and_eq_true, beq_iff_eq] using m1)
      have m2 := mt k2.2 (dec_and m2)
      rw [hat]
      exact leaf (by clear hdd hD' k1 k2 ms; omega) (by clear hu hU' k1 k2 ms; omega) ⟨ii, ⟨rfl, by clear hu hdd hD' hU' k1 k2 ms m1 m2 hat c1 c2; omega, by clear hu hdd hD' hU' k1 k2 ms m1 m2 hat c1 c2; omega, by clear hdd hD' hU' k1 k2 ms hat c1 c2; omega, by clear hu hD' hU' k1 k2 ms hat c1 c2; omega, rfl⟩, ms⟩
    · have m1 := mt k1.2 (dec_and m1)
      have m2 := k2.1 (by simpa only [Bool.and_eq_true, beq_iff_eq] using m2)
      rw [hat]
      exact leaf (by clear hdd hD' k1 k2 ms; omega) (by clear hu hU' k1 k2 ms; omega) ⟨ii, ⟨rfl, by clear hu hdd hD' hU' k1 k2 ms m1 m2 hat c1 c2; omega, by clear hu hdd hD' hU' k1 k2 ms m1 m2 hat c1 c2; omega, by clear hdd hD' hU' k1 k2 ms hat c1 c2; omega, by clear hu hD' hU' k1 k2 ms hat c1 c2; omega, rfl⟩, ms⟩
    · have m1 := mt k1.2 (dec_and m1)
      have m2 := mt k2.2 (dec_and m2)
      rw [hat]
      exact leaf (by clear hdd hD' k1 k2 ms; omega) (by clear hu hU' k1 k2 ms; omega) ⟨ii, ⟨rfl, by clear hu hdd hD' hU' k1 k2 ms m1 m2 hat c1 c2; omega, by clear hu hdd hD' hU' k1 k2 ms m1 m2 hat c1 c2; omega, by clear hdd hD' hU' k1 k2 ms hat c1 c2; omega, by clear hu hD' hU' k1 k2 ms hat c1 c2; omega, rfl⟩, ms⟩
  · subst e
    have hc : i = l.ord.length := by have : ¬ i < u.o.n := by simpa using hc
                                     omega
    subst hc
    have hU' : up.2 = 0 ∧ 1 ≤ U ∨ up.2 = 6 ∧ U = 0 := hU.imp (fun h => ⟨h.1, h.2.1⟩) id
    have hD' : dn.2 = 0 ∧ N < l.ord.length ∨ dn.2 = 6 ∧ N = l.ord.length := hD.imp (fun h => ⟨h.1, h.2.1⟩) id
    clear hU hD
    refine ⟨fun hb => ?_, fun _ => ⟨fun h1 => ⟨?_, Hp.le_refl _⟩, fun h1 => ⟨fun h2 => ⟨?_, Hp.le_refl _⟩, fun h2 => ⟨fun h3 => ⟨fun _ => by unfold inI; omega, ?_, Hp.le_refl _⟩, fun h3 => ⟨fun _ => by unfold inI; omega, ?_, Hp.le_refl _⟩⟩⟩⟩⟩
    · exfalso
      simp only [Bool.or_eq_true, Bool.and_eq_true, beq_iff_eq, bne_iff_ne, ne_eq] at hb
      omega
    · rw [ha] at h1
      have h1 := of_decide_eq_true h1
      congr 1
      simp only [Bool.true_and, Bool.and_eq_true, beq_iff_eq, decide_eq_true_eq]
      omega
    · rw [ha] at h1
      have h1 := of_decide_eq_false h1
      simp only [bne_iff_ne, ne_eq] at h2
      congr 1
      simp only [Bool.true_and, Bool.or_eq_true, Bool.and_eq_true, beq_iff_eq, bne_iff_ne, ne_eq]
      omega
    · rw [ha] at h1
      have h1 := of_decide_eq_false h1
      simp only [bne_eq_false_iff_eq] at h2
      simp only [bne_iff_ne, ne_eq] at h3
      congr 1
      simp only [Bool.true_and, beq_iff_eq]
      omega
    · rw [ha] at h1
      have h1 := of_decide_eq_false h1
      simp only [bne_eq_false_iff_eq] at h2 h3
      congr 1
      simp only [Bool.true_and, beq_iff_eq]
      omega
end Go.Proofs.YtodmhdfenpkbdaaGreat
end
section
/- The law SpanNames. Conditions: none. -/
set_option maxRecDepth 100000
open Go Go.Eng Go.Proofs
namespace Go.Proofs.YtodmhdfenpkbdaaGreat

def noneL : Ls := (buildL [] (0, 1)).1
def lateF : List Pt := [(3, 0, 1048576), (4, 0, 0)]
def lateL : Ls := (buildL lateF (1125899906842624, 1)).1
def zeros65 : List Int := List.replicate 65 0
theorem noneOk : okLs noneL := chkLs_zero.1 (by kernel_rfl)
theorem lateOk : okLs lateL := chkLs_zero.1 (by kernel_rfl)
theorem fitZ : fitL .zero := fitL_of (l := .zero) fit00g (by kernel_rfl) (fun y hy => by cases hy)
theorem zP : placesM .zero = ([], 8) := by kernel_rfl
theorem zI : inR .zero (0, 0) (0, 0) = ([], 8) := by kernel_rfl
theorem zC : cntR .zero (1, 1) (0, 1) = 0 ∧ (inR .zero (1, 1) (0, 1)).2 = 8 := ⟨by kernel_rfl, by kernel_rfl⟩
theorem zU : upR .zero (0, 0) = (0, 8) := by kernel_rfl
theorem zD : dnR .zero (0, 1) = (0, 8) := by kernel_rfl
theorem zH : hullM .zero [] = ((0, 0), (0, 0), 8) := by kernel_rfl
theorem tP : placesM lateL = ([], 16) := by kernel_rfl
theorem tI1 : inR lateL (0, 1) (0, 0) = ([], 8) := by kernel_rfl
theorem tI2 : inR lateL (1, 1) (0, 1) = ([], 2) := by kernel_rfl
theorem tI3 : inR lateL (0, 1) (0, 1) = ([], 16) := by kernel_rfl
theorem tU : upR lateL (0, 1) = (0, 16) := by kernel_rfl
theorem tD : dnR lateL (1, -1) = (0, 8) := by kernel_rfl
theorem tH : hullM lateL zeros65 = ((0, 0), (0, 0), 16) := by kernel_rfl
theorem nU : upR noneL (0, 1) = (0, 6) := by kernel_rfl
theorem nD : dnR noneL (0, 1) = (0, 6) := by kernel_rfl
theorem nC : cntR noneL (0, 1) (0, 1) = 0 ∧ (inR noneL (0, 1) (0, 1)).2 = 0 := ⟨by kernel_rfl, by kernel_rfl⟩
theorem nH0 : hullM noneL [] = ((0, 0), (0, 0), 42) := by kernel_rfl
theorem nH1 : hullM noneL [1] = ((0, 0), (0, 0), 6) := by kernel_rfl
theorem xH65 : hullM spL zeros65 = ((0, 0), (0, 0), 4) := by kernel_rfl
theorem xH13 : hullM spL [1, 3] = ((0, 0), (0, 0), 6) := by kernel_rfl
theorem xH22 : hullM spL [2, 2] = ((5, 1), (5, 1), 0) := by kernel_rfl
theorem xU : upR spL (11, 2) = (0, 6) := by kernel_rfl
theorem xD : dnR spL (-1, 1) = (0, 6) := by kernel_rfl
theorem fitAB {a b : Int} (h : inI a) (h' : inI b) : fitR (a, b) := ⟨h, h'⟩

set_option maxHeartbeats 2000000 in
theorem lawSpanNames {H : Hp} : Qf Tryz.prog F.pelotonlaw31_SpanNames #[] H (.bool true) := by
  have w0 : fitR (0, 1) := fitW (by unfold inI; omega)
  have w1 : fitR (1, 1) := fitW (by unfold inI; omega)
  have wm : fitR (-1, 1) := fitW (by unfold inI; omega)
  have f00 : fitR (0, 0) := fit00g
  have f1m : fitR (1, -1) := fitAB (by unfold inI; omega) (by unfold inI; omega)
  have f112 : fitR (11, 2) := fitAB (by unfold inI; omega) (by unfold inI; omega)
  have mk : okMk 65 65 8 := by unfold okMk; omega
  have gN := noneOk.fit
  have gT := lateOk.fit
  have gX := spOk.fit
  have B1 := refBuildL (H := H) (w := zs) (f := []) (t := (0, 1)) Rd.nil w0
  refine pelotonlaw31_SpanNames_vc ⟨0, 1, law31whole, B1.mono fun v H4 ⟨p, hv, l4, rp⟩ => ⟨_, _, p.k.f, _, p.k.cl, p.k.u1, p.k.u2, p.k.u3, p.k.u4, p.k.u5, p.k.d, p.o, p.n, _, hv, fun b19 H20 hb19 hH20 => ?_⟩⟩
  have rp : RdL H4 p noneL := rp
  clear hv B1
  have l20 : Hp.le H4 H20 := Hp.le_new (Hp.le_refl _) hb19 hH20
  have rf : Rd 3 fD H20 ⟨some ⟨b19, 0, none⟩, 2, 2⟩ lateF := rdConst (k := 3) (f := fD) (fun _ => rfl) hH20 rfl rfl
  have B2 := refBuildL (t := (1125899906842624, 1)) rf (fitW (by unfold inI; omega))
  refine ⟨1125899906842624, 1, law31whole, B2.mono fun v H24 ⟨q, hv, l24, rq⟩ => ⟨_, _, q.k.f, _, q.k.cl, q.k.u1, q.k.u2, q.k.u3, q.k.u4, q.k.u5, q.k.d, q.o, q.n, _, hv, ?_⟩⟩
  have rq : RdL H24 q lateL := rq
  have rp := rp.le (Hp.le_trans l20 l24)
  clear hv B2 rf
  have t1 := l4; have t2 := Hp.le_trans l20 l24
  have lt : Hp.le H H24 := Hp.le_trans t1 t2
  clear l4 l20 l24 t1 t2 hb19 hH20
  have hz : lsV zlu .zero = vLs 0 0 zs 0 zs zs zs zs zs zs zs zs zs := rfl
  have g := spanPlaces (H := H24) RdL.zero fitZ
  rw [zP, hz] at g
  refine g.mono fun v H40 ⟨s1, hv, l40, _⟩ => ⟨s1, 8, hv, ?_⟩
  clear hv g
  have g := spanIn (H := H40) RdL.zero fitZ f00 f00
  rw [zI, hz] at g
  refine g.mono fun v H44 ⟨s2, hv, l44, _⟩ => ⟨s2, 8, hv, ?_⟩
  clear hv g
  have rp := rp.le (Hp.le_trans l40 l44)
  have rq := rq.le (Hp.le_trans l40 l44)
  have lt := Hp.le_trans lt (Hp.le_trans l40 l44)
  clear l40 l44
  have c1 := spanCount (H := H44) RdL.zero fitZ w1 w0
  rw [zC.1, zC.2, hz] at c1
  have c2 := spanUp (H := H44) RdL.zero fitZ f00
  rw [zU, hz] at c2
  have c3 := spanDown (H := H44) RdL.zero fitZ w0
  rw [zD, hz] at c3
  have c4 := spanHull (H := H44) (s := zs) (ids := []) RdL.zero fitZ RdI.none
  rw [zH, hz] at c4
  refine ⟨1, 1, law31whole, 0, 1, law31whole, 0, 8, c1, 0, 8, c2, 0, 1, law31whole, 0, 8, c3, 0, 0, 0, 0, 8, c4, ?_⟩
  clear c1 c2 c3 c4
  have g := spanPlaces (H := H44) rq gT
  rw [tP] at g
  refine g.mono fun v H65 ⟨s3, hv, l65, _⟩ => ⟨s3, 16, hv, 0, 1, law31whole, ?_⟩
  clear hv g
  have rq := rq.le l65
  have g := spanIn (H := H65) rq gT w0 f00
  rw [tI1] at g
  refine g.mono fun v H71 ⟨s4, hv, l71, _⟩ => ⟨l71, s4, 8, hv, 1, 1, law31whole, 0, 1, law31whole, ?_⟩
  clear hv g
  have rq := rq.le l71
  have g := spanIn (H := H71) rq gT w1 w0
  rw [tI2] at g
  refine g.mono fun v H79 ⟨s5, hv, l79, _⟩ => ⟨l79, s5, 2, hv, 0, 1, law31whole, 0, 1, law31whole, ?_⟩
  clear hv g
  have rq := rq.le l79
  have g := spanIn (H := H79) rq gT w0 w0
  rw [tI3] at g
  refine g.mono fun v H87 ⟨s6, hv, l87, _⟩ => ⟨l87, s6, 16, hv, ?_⟩
  clear hv g
  have rq := rq.le l87
  have lx := Hp.le_trans l65 (Hp.le_trans l71 (Hp.le_trans l79 l87))
  have rp := rp.le lx
  have lt := Hp.le_trans lt lx
  clear l65 l71 l79 l87 lx
  have c1 := spanUp (H := H87) rq gT w0
  rw [tU] at c1
  have c2 := spanDown (H := H87) rq gT f1m
  rw [tD] at c2
  refine ⟨0, 1, law31whole, 0, 16, c1, 0, 8, c2, mk, fun b96 H97 hb96 hH97 => ?_⟩
  clear c1 c2
  have l97 : Hp.le H87 H97 := Hp.le_new (Hp.le_refl _) hb96 hH97
  have rz : RdI H97 ⟨some ⟨b96, 0, none⟩, 65, 65⟩ zeros65 := rdConst (k := 1) (f := fI) (fun _ => rfl) hH97 rfl rfl
  have rp := rp.le l97
  have rq := rq.le l97
  have lt := Hp.le_trans lt l97
  have c1 := spanHull (H := H97) rq gT rz
  rw [tH] at c1
  have c2 := spanUp (H := H97) rp gN w0
  rw [nU] at c2
  have c3 := spanDown (H := H97) rp gN w0
  rw [nD] at c3
  have c4 := spanCount (H := H97) rp gN w0 w0
  rw [nC.1, nC.2] at c4
  have c5 := spanHull (H := H97) (s := zs) (ids := []) rp gN RdI.none
  rw [nH0] at c5
  refine ⟨0, 0, 0, 0, 16, c1, 0, 1, law31whole, 0, 6, c2, 0, 1, law31whole, 0, 6, c3, 0, 1, law31whole, 0, 1, law31whole, 0, 0, c4, 0, 0, 0, 0, 42, c5, fun b122 H123 hb122 hH123 => ?_⟩
  clear c1 c2 c3 c4 c5 hb96 hH97 rz l97
  have l123 : Hp.le H97 H123 := Hp.le_new (Hp.le_refl _) hb122 hH123
  have r1 : RdI H123 ⟨some ⟨b122, 0, none⟩, 1, 1⟩ [1] := rdConst (k := 1) (f := fI) (fun _ => rfl) hH123 rfl rfl
  have rp := rp.le l123
  have lt := Hp.le_trans lt l123
  have c1 := spanHull (H := H123) rp gN r1
  rw [nH1] at c1
  refine ⟨0, 0, 0, 0, 6, c1, law31example.mono fun v H130 ⟨x, hv, l130, rx⟩ => ⟨l130, _, _, x.k.f, _, x.k.cl, x.k.u1, x.k.u2, x.k.u3, x.k.u4, x.k.u5, x.k.d, x.o, x.n, hv, mk, fun b144 H145 hb144 hH145 => ?_⟩⟩
  clear c1 hv r1 hb122 hH123
  have l145 : Hp.le H130 H145 := Hp.le_new (Hp.le_refl _) hb144 hH145
  have rz : RdI H145 ⟨some ⟨b144, 0, none⟩, 65, 65⟩ zeros65 := rdConst (k := 1) (f := fI) (fun _ => rfl) hH145 rfl rfl
  have lt := Hp.le_trans lt (Hp.le_trans l130 l145)
  have c1 := spanHull (H := H145) (rx.le l145) gX rz
  rw [xH65] at c1
  refine ⟨0, 0, 0, 0, 4, c1, law31example.mono fun v H152 ⟨x, hv, l152, rx⟩ => ⟨_, _, x.k.f, _, x.k.cl, x.k.u1, x.k.u2, x.k.u3, x.k.u4, x.k.u5, x.k.d, x.o, x.n, hv, fun b166 H167 hb166 hH167 => ?_⟩⟩
  clear c1 hv rz hb144 hH145 l130 l145
  have l167 : Hp.le H152 H167 := Hp.le_new (Hp.le_refl _) hb166 hH167
  have lt := Hp.le_trans lt (Hp.le_trans l152 l167)
  have c1 := spanHull (H := H167) (rx.le l167) gX (rdI2 hH167)
  rw [xH13] at c1
  refine ⟨0, 0, 0, 0, 6, c1, law31example.mono fun v H174 ⟨x, hv, l174, rx⟩ => ⟨_, _, x.k.f, _, x.k.cl, x.k.u1, x.k.u2, x.k.u3, x.k.u4, x.k.u5, x.k.d, x.o, x.n, hv, fun b188 H189 hb188 hH189 => ?_⟩⟩
  clear c1 hv hb166 hH167 l152 l167
  have l189 : Hp.le H174 H189 := Hp.le_new (Hp.le_refl _) hb188 hH189
  have lt := Hp.le_trans lt (Hp.le_trans l174 l189)
  have c1 := spanHull (H := H189) (rx.le l189) gX (rdI2 hH189)
  rw [xH22] at c1
  refine ⟨5, 1, 5, 1, 0, c1, law31example.mono fun v H196 ⟨x, hv, l196, rx⟩ => ⟨_, _, x.k.f, _, x.k.cl, x.k.u1, x.k.u2, x.k.u3, x.k.u4, x.k.u5, x.k.d, x.o, x.n, hv, ?_⟩⟩
  clear c1 hv hb188 hH189 l174 l189
  have lt := Hp.le_trans lt l196
  have c1 := spanUp (H := H196) rx gX f112
  rw [xU] at c1
  refine ⟨0, 6, c1, law31example.mono fun v H213 ⟨x, hv, l213, rx⟩ => ⟨_, _, x.k.f, _, x.k.cl, x.k.u1, x.k.u2, x.k.u3, x.k.u4, x.k.u5, x.k.d, x.o, x.n, hv, ?_⟩⟩
  clear c1 hv
  have lt := Hp.le_trans lt l213
  have c1 := spanDown (H := H213) rx gX wm
  rw [xD] at c1
  exact ⟨-1, 1, law31whole, 0, 6, c1, true, law31alive, 5, 1, fun _ => law31whole, 5, 1, fun _ => law31whole, rfl, lt⟩
end Go.Proofs.YtodmhdfenpkbdaaGreat
end
