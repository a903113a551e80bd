/- The spans' laws' own helpers. Conditions: none. -/
import Derived.Test.YtodmhdfenpkbdaaGreatN6
import Derived.Test.YtodmhdfenpkbdaaGreatM6
import Derived.Test.YtodmhdfenpkbdaaGreatVgBase
import Derived.Test.YtodmhdfenpkbdaaGreatVgH31
import Derived.Test.YtodmhdfenpkbdaaGreatFs
set_option linter.unusedVariables false
set_option maxRecDepth 100000
open Go Go.Eng Go.Proofs
namespace Go.Proofs.YtodmhdfenpkbdaaGreat

def spF : List Pt := [(1, 0, 2), (2, 6, -1), (5, 0, 0)]
def spL : Ls := (buildL spF (1, 1)).1
theorem spOk : okLs spL := chkLs_zero.1 (by kernel_rfl)
theorem spIn : inR spL (1, 1) (5, 1) = ([2, 1], 0) := by kernel_rfl
theorem spUp3 : upR spL (3, 1) = (2, 0) := by kernel_rfl
theorem spDn3 : dnR spL (3, 1) = (1, 0) := by kernel_rfl
theorem spUp2 : upR spL (2, 1) = (1, 0) := by kernel_rfl
theorem spDn2 : dnR spL (2, 1) = (1, 0) := by kernel_rfl
theorem spHull : hullM spL [5, 1] = ((0, 1), (2, 1), 0) := by kernel_rfl
theorem fitW {n : Int} (h : inI n) : fitR (n, 1) := ⟨h, by show inI 1; unfold inI; omega⟩

theorem law31whole {H : Hp} {n : Int} : Qf Tryz.prog F.pelotonlaw31_whole #[.int .i64 n] H (sI2 n 1) := pelotonlaw31_whole_vc ⟨rfl, Hp.le_refl _⟩
theorem law31example {H : Hp} : Go.Eng.Fn Tryz.prog F.pelotonlaw31_example #[] H fun v H' => ∃ u : Lu, v = lsV u spL ∧ Hp.le H H' ∧ RdL H' u spL := by
  refine pelotonlaw31_example_vc fun b1 H2 hb hH => ⟨_, _, law31whole, ?_⟩
  have l2 : Hp.le H H2 := Hp.le_new (Hp.le_refl _) hb hH
  have rf : Rd 3 fD H2 ⟨some ⟨b1, 0, none⟩, 3, 3⟩ spF := rdConst (k := 3) (f := fD) (fun _ => rfl) hH rfl rfl
  exact (refBuildL (t := (1, 1)) rf (fitW (by unfold inI; omega))).mono fun v H6 ⟨u, hv, l6, r⟩ => ⟨l6, _, _, u.k.f, _, u.k.cl, u.k.u1, u.k.u2, u.k.u3, u.k.u4, u.k.u5, u.k.d, u.o, u.n, _, hv, u, rfl, Hp.le_trans l2 l6, r⟩

set_option maxHeartbeats 1000000 in
theorem law31alive {H : Hp} : Qf Tryz.prog F.pelotonlaw31_alive #[] H (.bool true) := by
  have fl := spOk.fit
  have i1 : fitR (1, 1) := fitW (by unfold inI; omega)
  have i2 : fitR (2, 1) := fitW (by unfold inI; omega)
  have i3 : fitR (3, 1) := fitW (by unfold inI; omega)
  have i5 : fitR (5, 1) := fitW (by unfold inI; omega)
  have e1 := spIn; have e2 := spUp3; have e3 := spDn3; have e4 := spUp2; have e5 := spDn2; have e6 := spHull
  refine pelotonlaw31_alive_vc (law31example.mono fun v H2 ⟨u, hv, l2, r⟩ => ⟨_, _, u.k.f, _, u.k.cl, u.k.u1, u.k.u2, u.k.u3, u.k.u4, u.k.u5, u.k.d, u.o, u.n, hv, 1, 1, law31whole, 5, 1, law31whole, ?_⟩)
  generalize spL = l at r fl e1 e2 e3 e4 e5 e6 ⊢
  have q0 := spanIn r fl i1 i5
  rw [e1] at q0
  refine q0.mono fun v H21 ⟨s, hv, l21, m⟩ => ⟨l21, s, 0, hv, ?_⟩
  have r' := r.le l21
  have q1 := spanUp r' fl i3
  have q2 := spanDown r' fl i3
  have q3 := spanUp r' fl i2
  have q4 := spanDown r' fl i2
  rw [e2] at q1; rw [e3] at q2; rw [e4] at q3; rw [e5] at q4
  refine ⟨3, 1, law31whole, 2, 0, q1, 3, 1, law31whole, 1, 0, q2, 2, 1, law31whole, 1, 0, q3, 2, 1, law31whole, 1, 0, q4, fun b40 H41 hb hH => ?_⟩
  have l41 : Hp.le H21 H41 := Hp.le_new (Hp.le_refl _) hb hH
  have ri : RdI H41 ⟨some ⟨b40, 0, none⟩, 2, 2⟩ [5, 1] := rdI2 hH
  have q5 := spanHull (r'.le l41) fl ri
  rw [e6] at q5
  refine ⟨0, 1, 2, 1, 0, q5, fun _ b47 H48 hb2 hH2 => ?_, fun h => by simp at h⟩
  have l48 : Hp.le H41 H48 := Hp.le_new (Hp.le_refl _) hb2 hH2
  have ri2 : RdI H48 ⟨some ⟨b47, 0, none⟩, 2, 2⟩ [2, 1] := rdI2 hH2
  have q6 := sameIDs ((m.rdI.le l41).le l48) ri2 (by decide)
  exact ⟨true, fun _ => q6, 0, 1, fun _ => law31whole, 2, 1, fun _ => law31whole, rfl, Hp.le_trans l2 (Hp.le_trans l21 (Hp.le_trans l41 l48))⟩

/-- The error of a time that is asked for. -/
def askT (t : Int × Int) : Int := if okR t then (if t.1 > 1073741824 ∨ t.1 < -1073741824 ∨ t.2 > 1024 then 2 else 0) else 8
theorem askT_zero {t : Int × Int} : askT t = 0 ↔ okR t ∧ -1073741824 ≤ t.1 ∧ t.1 ≤ 1073741824 ∧ t.2 ≤ 1024 := by
  unfold askT
  split
  · split
    · simp; omega
    · simp [*]; omega
  · simp [*]
theorem refAskT {H : Hp} {t : Int × Int} (ft : fitR t) : Qf Tryz.prog F.pelotonref01_Asked #[sI2 t.1 t.2] H (.int .i64 (askT t)) := by
  refine pelotonref01_Asked_vc ⟨_, refRCheck ft, fun hc => ⟨_, refRCheck ft, ?_, Hp.le_refl _⟩, fun hc => ⟨fun hb => ⟨?_, Hp.le_refl _⟩, fun hb => ⟨?_, Hp.le_refl _⟩⟩⟩
  · have : ¬ okR t := fun h => by rw [chkR_ok h] at hc; simp at hc
    unfold askT; rw [if_neg this, chkR_bad this]
  · have : okR t := chkR_zero.1 (by simpa using hc)
    simp only [Bool.or_eq_true, decide_eq_true_eq] at hb
    unfold askT; rw [if_pos this, if_pos (by omega)]
  · have : okR t := chkR_zero.1 (by simpa using hc)
    simp only [Bool.or_eq_false_iff, decide_eq_false_iff_not] at hb
    unfold askT; rw [if_pos this, if_neg (by omega)]
/-- At a time that is asked for every place is told. -/
theorem place_told {p : Pt} {t : Int × Int} (op : okP p) (h : askT t = 0) : (placeM p t).2 = 0 := by
  obtain ⟨ot, t1, t2, t3⟩ := askT_zero.1 h
  rw [placeM_ok op ot]
  have a0 := op.a0; have a1 := op.a1; have b0 := op.b0; have b1 := op.b1
  have d1 := ot.d1
  have q1 := absI_mul_le (x := p.2.1) (y := t.2) (m := 1048576) (n := 1024) (absI_le (by omega) (by omega)) (absI_le (by omega) (by omega))
  have q2 := absI_mul_le (x := p.2.2) (y := t.1) (m := 1048576) (n := 1073741824) (absI_le (by omega) (by omega)) (absI_le (by omega) (by omega))
  have q3 := absI_add_le (p.2.1 * t.2) (p.2.2 * t.1)
  have q3 : absI (numP p t) ≤ absI (p.2.1 * t.2) + absI (p.2.2 * t.1) := q3
  have g0 : 0 < gcdA (numP p t) t.2 := gcdA_pos (by omega)
  have n1 : absI (numP p t) / gcdA (numP p t) t.2 ≤ absI (numP p t) := Int.ediv_le_self _ (absI_nonneg _)
  have n2 : t.2 / gcdA (numP p t) t.2 ≤ t.2 := Int.ediv_le_self _ (by omega)
  unfold overM buildM
  rw [if_neg (by omega)]
theorem placesN_told {l : Ls} (ok : okLs l) (h : askT l.ck.now = 0) : ∀ n, n ≤ l.ord.length → (placesN l n).2 = 0
  | 0, _ => rfl
  | n + 1, hn => by
    have ih := placesN_told ok h n (by omega)
    have : (plM l (l.ord.getD n 0)).2 = 0 := place_told (ok.ptOk (k := n) (by omega)).1 h
    rw [placesN_yes ih this]
def asked31 (l : Ls) : Bool := !greatL l && chkLs l == 0 && askT l.ck.now == 0
theorem law31asked {H : Hp} {u : Lu} {l : Ls} (r : RdL H u l) (hn : fitR l.ck.now) (hh : ∀ y ∈ l.ck.ag.heap, fitR y.at_) : Qf Tryz.prog F.pelotonlaw31_asked #[lsV u l] H (.bool (asked31 l)) :=
  pelotonlaw31_asked_vc ⟨_, refLGreat r, _, fun hg => refLCheck r (fitL_of hn (by simpa using hg) hh), _, fun _ => refAskT hn, rfl, Hp.le_refl _⟩
theorem asked31_iff {l : Ls} : asked31 l = true ↔ greatL l = false ∧ okLs l ∧ askT l.ck.now = 0 := by
  unfold asked31
  rw [Bool.and_eq_true, Bool.and_eq_true, Bool.not_eq_true', beq_iff_eq, beq_iff_eq, chkLs_zero, and_assoc]
theorem both_zero {a b : Int × Int} : (if okR a ∧ okR b then (0 : Int) else 8) = 0 ↔ okR a ∧ okR b := by
  split
  · simp [*]
  · simp [*]
end Go.Proofs.YtodmhdfenpkbdaaGreat
