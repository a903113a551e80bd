/- The law CloseNames. Conditions: none. -/
import Derived.Test.YtkemdpobjaiolaaGreatPQ5
import Derived.Test.YtkemdpobjaiolaaGreatPQ2
import Derived.Test.YtkemdpobjaiolaaGreatVgH28
import Derived.Test.YtkemdpobjaiolaaGreatVgLCloseNames
import Derived.Test.YtkemdpobjaiolaaGreatFs
set_option linter.unusedVariables false
set_option maxRecDepth 100000
open Go Go.Eng Go.Proofs
namespace Go.Proofs.YtkemdpobjaiolaaGreat

def tieF : List Pt := [(1, 20, 0), (3, 2, 0), (5, 0, 0), (7, 20, 0), (8, 4, 0), (9, 20, 0)]
def tieL : Ls := (buildL tieF (0, 1)).1
theorem tieOk : okLs tieL := chkLs_zero.1 (by kernel_rfl)
theorem ti1 : nearestM tieL 3 = ((3, 5, (2, 1)), 0) := by kernel_rfl
theorem ti2 : nearestM tieL 7 = ((1, 7, (0, 1)), 0) := by kernel_rfl
theorem ti3 : closestL tieL = ((1, 7, (0, 1)), 0) := by kernel_rfl
theorem ti4 : withinL tieL (0, 1) = ([(1, 7, (0, 1)), (1, 9, (0, 1)), (7, 9, (0, 1))], 0) := by kernel_rfl
set_option maxHeartbeats 1000000 in
theorem law28tied_of {H : Hp} {l : Ls} {ee : Int} (e0 : buildL tieF (0, 1) = (l, ee)) (fl : fitL l) (t1 : nearestM l 3 = ((3, 5, (2, 1)), 0)) (t2 : nearestM l 7 = ((1, 7, (0, 1)), 0)) (t3 : closestL l = ((1, 7, (0, 1)), 0)) (t4 : withinL l (0, 1) = ([(1, 7, (0, 1)), (1, 9, (0, 1)), (7, 9, (0, 1))], 0)) :
    Qf Tryz.prog F.pelotonlaw28_tied #[] H (.bool true) := by
  refine pelotonlaw28_tied_vc fun b1 H2 hb hH => ⟨_, _, law28whole, ?_⟩
  have l2 : Hp.le H H2 := Hp.le_new (Hp.le_refl _) hb hH
  have rf : Rd 3 fD H2 ⟨some ⟨b1, 0, none⟩, 6, 6⟩ tieF := rdConst (k := 3) (f := fD) (fun _ => rfl) hH rfl rfl
  have qb := refBuildL (t := (0, 1)) rf fit01
  rw [e0] at qb
  refine qb.mono fun v H6 ⟨u, hv, l6, r⟩ => ⟨l6, _, _, u.k.f, _, u.k.cl, u.k.u1, u.k.u2, u.k.u3, u.k.u4, u.k.u5, u.k.d, u.o, u.n, _, hv, ?_⟩
  have q1 := nearestV (id := 3) r fl
  rw [t1] at q1
  have q2 := nearestV (id := 7) r fl
  rw [t2] at q2
  have q3 := closeClosest r fl
  rw [t3] at q3
  have q4 := withinV (d := (0, 1)) r fl fit01
  rw [t4] at q4
  refine ⟨3, 5, 2, 1, 0, q1, 1, 7, 0, 1, 0, q2, 1, 7, 0, 1, 0, q3, 0, 1, law28whole, q4.mono fun v H39 ⟨w, hv, l39, m⟩ => ⟨l39, w, 0, hv, 2, 1, fun _ => law28whole, 0, 1, fun _ => law28whole, 0, 1, fun _ => law28whole, 0, 1, fun _ => law28whole, 0, 1, fun _ => law28whole, 0, 1, fun _ => law28whole, fun _ b54 H55 hb5 hH5 => ?_, fun h => (by simp at h)⟩⟩
  have l55 : Hp.le H39 H55 := Hp.le_new (Hp.le_refl _) hb5 hH5
  have rw' : Rd 4 fPr H55 w [(1, 7, (0, 1)), (1, 9, (0, 1)), (7, 9, (0, 1))] := (Mine.rd (k := 4) (f := fPr) (fun _ => rfl) m).le l55
  have rc : Rd 4 fPr H55 ⟨some ⟨b54, 0, none⟩, 3, 3⟩ [(1, 7, (0, 1)), (1, 9, (0, 1)), (7, 9, (0, 1))] := rdConst (k := 4) (f := fPr) (fun _ => rfl) hH5 rfl rfl
  have sm := refPrSame rw' rc (by simp)
  exact ⟨true, fun _ => sm, by simp, Hp.le_trans l2 (Hp.le_trans l6 (Hp.le_trans l39 l55))⟩
theorem law28tied {H : Hp} : Qf Tryz.prog F.pelotonlaw28_tied #[] H (.bool true) := law28tied_of (l := tieL) (Prod.ext rfl rfl) tieOk.fit ti1 ti2 ti3 ti4

theorem fit00 : fitR (0, 0) := ⟨by show inI 0; unfold inI; omega, by show inI 0; unfold inI; omega⟩
theorem fitT1 {n : Int} (h : inI n) : fitR (n, 1) := ⟨h, by show inI 1; unfold inI; omega⟩
def nnL : Ls := (buildL [] (0, 1)).1
def onL : Ls := (buildL [(4, 0, 1048576)] (1125899906842624, 1)).1
def faL : Ls := (buildL [(4, 0, 1048576), (6, 0, 1)] (1125899906842624, 1)).1
structure NamesC (n o f m : Ls) (k1 : Pr × Int) (k2 : List Pr × Int) (k3 : Pr × Int) (k4 : List Pr × Int) (k5 : (Int × Int) × Pr × Int) : Prop where
  z1 : k1.2 = 8
  z2 : k2.2 = 8
  z3 : k3.2 = 8
  z4 : k4.2 = 8
  z5 : k5.2.2 = 8
  a1 : (closestL n).2 = 42
  a2 : (closestL o).2 = 42
  a3 : (closestL f).2 = 16
  a4 : pairsL n = ([], 0)
  a5 : (pairsL o).2 = 16
  a6 : (nearestM o 5).2 = 6
  a7 : (nearestM o 4).2 = 42
  a8 : (nearestM f 4).2 = 16
  a9 : (withinL n (0, 0)).2 = 8
  b1 : (withinL f (0, 1)).2 = 16
  b2 : withinL m (-1, 1) = ([], 0)
  b3 : (soonM n (-1, 1)).2.2 = 44
  b4 : (soonM n (0, 0)).2.2 = 8
  b5 : (soonM n (0, 1)).2.2 = 42
  b6 : (soonM f (2251799813685248, 1)).2.2 = 16
theorem namesC : NamesC nnL onL faL exL1 (closestL .zero) (pairsL .zero) (nearestM .zero 0) (withinL .zero (0, 0)) (soonM .zero (0, 0)) := ⟨by kernel_rfl, by kernel_rfl, by kernel_rfl, by kernel_rfl, by kernel_rfl, by kernel_rfl, by kernel_rfl, by kernel_rfl, by kernel_rfl, by kernel_rfl, by kernel_rfl, by kernel_rfl, by kernel_rfl, by kernel_rfl, by kernel_rfl, by kernel_rfl, by kernel_rfl, by kernel_rfl, by kernel_rfl, by kernel_rfl⟩
theorem mine_nil {H H' : Hp} {u : Slc} (h : Mine 4 fPr 76 H H' u []) : (u.n : Int) = 0 := by have := (Mine.rd (k := 4) (f := fPr) (fun _ => rfl) h).len; simp at this; omega
set_option maxHeartbeats 2000000 in
theorem law28names_of {H : Hp} {n o f m : Ls} {x1 x2 x3 : Int} (en : buildL [] (0, 1) = (n, x1)) (eo : buildL [(4, 0, 1048576)] (1125899906842624, 1) = (o, x2)) (ef : buildL [(4, 0, 1048576), (6, 0, 1)] (1125899906842624, 1) = (f, x3)) (em : ∀ (X : Hp), Go.Eng.Fn Tryz.prog F.pelotonlaw28_example #[.int .i64 1] X fun v H' => ∃ u : Lu, v = lsV u m ∧ Hp.le X H' ∧ RdL H' u m) (fn : fitL n) (fo : fitL o) (ff : fitL f) (fm : fitL m) (fz : fitL .zero) {k1 k3 : Pr × Int} {k2 k4 : List Pr × Int} {k5 : (Int × Int) × Pr × Int} (Z1 : closestL .zero = k1) (Z2 : pairsL .zero = k2) (Z3 : nearestM .zero 0 = k3) (Z4 : withinL .zero (0, 0) = k4) (Z5 : soonM .zero (0, 0) = k5) (C : NamesC n o f m k1 k2 k3 k4 k5) :
    Qf Tryz.prog F.pelotonlaw28_CloseNames #[] H (.bool true) := by
  have fbig : fitR (1125899906842624, 1) := fitT1 (by unfold inI; omega)
  have qn := refBuildL (t := (0, 1)) (Rd.nil : Rd 3 fD H ⟨none, 0, 0⟩ []) fit01
  rw [en] at qn
  refine pelotonlaw28_CloseNames_vc ⟨_, _, law28whole, qn.mono fun v H4 ⟨a, hv, l4, ra⟩ => ⟨_, _, a.k.f, _, a.k.cl, a.k.u1, a.k.u2, a.k.u3, a.k.u4, a.k.u5, a.k.d, a.o, a.n, _, hv, fun b19 H20 hb hH => ⟨_, _, law28whole, ?_⟩⟩⟩
  have l20 : Hp.le H4 H20 := Hp.le_new (Hp.le_refl _) hb hH
  have r1 : Rd 3 fD H20 ⟨some ⟨b19, 0, none⟩, 1, 1⟩ [(4, 0, 1048576)] := rdConst (k := 3) (f := fD) (fun _ => rfl) hH rfl rfl
  have qo := refBuildL (t := (1125899906842624, 1)) r1 fbig
  rw [eo] at qo
  refine qo.mono fun v H24 ⟨b, hv, l24, rb⟩ => ⟨_, _, b.k.f, _, b.k.cl, b.k.u1, b.k.u2, b.k.u3, b.k.u4, b.k.u5, b.k.d, b.o, b.n, _, hv, fun b39 H40 hb hH => ⟨_, _, law28whole, ?_⟩⟩
  have l40 : Hp.le H24 H40 := Hp.le_new (Hp.le_refl _) hb hH
  have r2 : Rd 3 fD H40 ⟨some ⟨b39, 0, none⟩, 2, 2⟩ [(4, 0, 1048576), (6, 0, 1)] := rdConst (k := 3) (f := fD) (fun _ => rfl) hH rfl rfl
  have qf := refBuildL (t := (1125899906842624, 1)) r2 fbig
  rw [ef] at qf
  refine qf.mono fun v H44 ⟨c, hv, l44, rc⟩ => ⟨_, _, c.k.f, _, c.k.cl, c.k.u1, c.k.u2, c.k.u3, c.k.u4, c.k.u5, c.k.d, c.o, c.n, _, hv, ?_⟩
  have ra := ra.le (Hp.le_trans l20 (Hp.le_trans l24 (Hp.le_trans l40 l44)))
  have rb := rb.le (Hp.le_trans l40 l44)
  have rc : RdL H44 c f := rc
  have lH := Hp.le_trans l4 (Hp.le_trans l20 (Hp.le_trans l24 (Hp.le_trans l40 l44)))
  have rz : ∀ {X : Hp}, RdL X zlu .zero := RdL.zero
  have z1 := closeClosest (rz (X := H44)) fz
  rw [Z1] at z1
  have z2 := closePairs (rz (X := H44)) fz
  rw [Z2] at z2
  refine ⟨_, _, _, _, _, z1, z2.mono fun v H65 ⟨w1, hv, l65, _⟩ => ⟨w1, _, hv, ?_⟩⟩
  have z3 := nearestV (id := 0) (rz (X := H65)) fz
  rw [Z3] at z3
  have z4 := withinV (d := (0, 0)) (rz (X := H65)) fz fit00
  rw [Z4] at z4
  refine ⟨_, _, _, _, _, z3, z4.mono fun v H74 ⟨w2, hv, l74, _⟩ => ⟨w2, _, hv, ?_⟩⟩
  have z5 := soonestV (to := (0, 0)) (rz (X := H74)) fz fit00
  rw [Z5] at z5
  refine ⟨_, _, _, _, _, _, _, z5, ?_⟩
  have l74 := Hp.le_trans l65 l74
  have ra := ra.le l74; have rb := rb.le l74; have rc := rc.le l74
  have lH := Hp.le_trans lH l74
  refine ⟨_, _, _, _, _, closeClosest ra fn, _, _, _, _, _, closeClosest rb fo, _, _, _, _, _, closeClosest rc ff, (closePairs ra fn).mono fun v H100 ⟨w3, hv, l100, m3⟩ => ⟨w3, _, hv, (closePairs (rb.le l100) fo).mono fun v H104 ⟨w4, hv, l104, _⟩ => ⟨w4, _, hv, ?_⟩⟩⟩
  have l104 := Hp.le_trans l100 l104
  have ra := ra.le l104; have rb := rb.le l104; have rc := rc.le l104
  have lH := Hp.le_trans lH l104
  refine ⟨_, _, _, _, _, nearestV (id := 5) rb fo, _, _, _, _, _, nearestV (id := 4) rb fo, _, _, _, _, _, nearestV (id := 4) rc ff, (withinV (d := (0, 0)) ra fn fit00).mono fun v H123 ⟨w5, hv, l123, _⟩ => ⟨w5, _, hv, _, _, law28whole, (withinV (d := (0, 1)) (rc.le l123) ff fit01).mono fun v H129 ⟨w6, hv, l129, _⟩ => ⟨l129, w6, _, hv, ?_⟩⟩⟩
  have xm := em H129
  refine xm.mono fun v H133 ⟨d, hv, l133, rd⟩ => ⟨_, _, d.k.f, _, d.k.cl, d.k.u1, d.k.u2, d.k.u3, d.k.u4, d.k.u5, d.k.d, d.o, d.n, hv, _, _, law28whole, (withinV (d := (-1, 1)) rd fm (fitT1 (by unfold inI; omega))).mono fun v H150 ⟨w7, hv, l150, m7⟩ => ⟨w7, _, hv, _, _, law28whole, ?_⟩⟩
  have l150 := Hp.le_trans l123 (Hp.le_trans l129 (Hp.le_trans l133 l150))
  have ra := ra.le l150; have rc := rc.le l150
  have lH := Hp.le_trans lH l150
  refine ⟨_, _, _, _, _, _, _, soonestV (to := (-1, 1)) ra fn (fitT1 (by unfold inI; omega)), _, _, _, _, _, _, _, soonestV (to := (0, 0)) ra fn fit00, _, _, law28whole, _, _, _, _, _, _, _, soonestV (to := (0, 1)) ra fn fit01, _, _, law28whole, _, _, _, _, _, _, _, soonestV (to := (2251799813685248, 1)) rc ff (fitT1 (by unfold inI; omega)), true, law28alive, true, fun _ => law28tied, ?_, lH⟩
  rw [C.a4] at m3
  rw [C.b2] at m7
  rw [C.z1, C.z2, C.z3, C.z4, C.z5, C.a1, C.a2, C.a3, C.a4, C.a5, C.a6, C.a7, C.a8, C.a9, C.b1, C.b2, C.b3, C.b4, C.b5, C.b6, mine_nil m3, mine_nil m7]
  simp
theorem law28names {H : Hp} : Qf Tryz.prog F.pelotonlaw28_CloseNames #[] H (.bool true) := law28names_of (n := nnL) (o := onL) (f := faL) (m := exL1) (Prod.ext rfl rfl) (Prod.ext rfl rfl) (Prod.ext rfl rfl) (fun X => law28example (n := 1) fit11) (buildL_fit _ _) (buildL_fit _ _) (buildL_fit _ _) exOk1.fit fitZl rfl rfl rfl rfl rfl namesC
end Go.Proofs.YtkemdpobjaiolaaGreat
