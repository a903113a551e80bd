/- The law GapsNames. Conditions: none. -/
import Derived.Test.YtodmhdfenpkbdaaGreatM7
import Derived.Test.YtodmhdfenpkbdaaGreatVgLGapsNames
import Derived.Test.YtodmhdfenpkbdaaGreatFs
set_option linter.unusedVariables false
set_option maxRecDepth 100000
open Go Go.Eng Go.Proofs
namespace Go.Proofs.YtodmhdfenpkbdaaGreat

def g0 : Gp := ⟨0, 0, 0, 0⟩
def goodG : List Gp := [⟨65535, 0, 2097152, -2097152⟩, ⟨0, 1, -2097152, 2097152⟩]
def badsG : List Gp := [⟨0, 0, 0, 0⟩, ⟨1, 1, 0, 0⟩, ⟨-1, 0, 0, 0⟩, ⟨65536, 0, 0, 0⟩, ⟨0, -1, 0, 0⟩, ⟨0, 65536, 0, 0⟩, ⟨1, 0, 2097153, 0⟩, ⟨1, 0, -2097153, 0⟩, ⟨1, 0, 0, 2097153⟩, ⟨1, 0, 0, -2097153⟩]
def noneG : Ls := (buildL [] (0, 1)).1
theorem goodAll : (goodG.all fun g => chkGp g == 0) = true := by kernel_rfl
theorem badsAll : (badsG.all fun g => chkGp g == 8 && (atM g (0, 0)).2 == 8 && (closesM g (0, 0)).2 == 8) = true := by kernel_rfl
theorem noneGok : okLs noneG := chkLs_zero.1 (by kernel_rfl)
theorem noneGb : (buildL [] (0, 1)).2 = 0 := by kernel_rfl
theorem fitZg : fitL .zero := fitL_of (l := .zero) fit00g (by kernel_rfl) (fun y hy => by cases hy)
theorem gz1 : ofM .zero = ([], 8) := by kernel_rfl
theorem gz2 : firstM .zero = (0, (0, 0), 8) := by kernel_rfl
theorem gz3 : sumM .zero (-1) (-1) = (⟨0, 0, 0, 0⟩, 8) := by kernel_rfl
theorem gn1 : ofM noneG = ([], 0) := by kernel_rfl
theorem gn2 : firstM noneG = (0, (0, 0), 6) := by kernel_rfl
theorem gx1 : sumM exLs 0 3 = (⟨0, 0, 0, 0⟩, 2) := by kernel_rfl
theorem gx2 : sumM exLs 1 1 = (⟨0, 0, 0, 0⟩, 2) := by kernel_rfl
theorem gx3 : sumM exLs (-1) 1 = (⟨0, 0, 0, 0⟩, 2) := by kernel_rfl
theorem ga1 : atM ⟨65535, 0, 2097152, -2097152⟩ (2, 2) = ((0, 0), 8) := by kernel_rfl
theorem ga2 : (atM ⟨65535, 0, 2097152, -2097152⟩ (1125899906842624, 1)).2 = 16 := by kernel_rfl
theorem ga3 : atM ⟨65535, 0, 2097152, -2097152⟩ (1, 1) = ((0, 1), 0) := by kernel_rfl
theorem gc1 : (closesM ⟨65535, 0, 2097152, -2097152⟩ (1, 1)).2 = 6 := by kernel_rfl
theorem gc2 : closesM ⟨65535, 0, 2097152, -2097152⟩ (1, 2) = ((1, 1), 0) := by kernel_rfl
theorem gc3 : (closesM ⟨0, 1, -2097152, 2097152⟩ (0, 1)).2 = 6 := by kernel_rfl
theorem gc4 : closesM ⟨3, 2, 5, -2⟩ (-1152921504606846976, 1) = ((5, 2), 0) := by kernel_rfl
theorem fitQ {a b : Int} (h : inI a) (h' : inI b) : fitR (a, b) := ⟨h, h'⟩

set_option maxHeartbeats 2000000 in
theorem lawGapsNames {H : Hp} : Qf Tryz.prog F.pelotonlaw27_GapsNames #[] H (.bool true) := by
  have w0 : fitR (0, 1) := fit01
  have gN := noneGok.fit
  have gX := exOk.fit
  refine pelotonlaw27_GapsNames_vc fun b1 H2 hb1 hH2 b3 H4 hb3 hH4 => ?_
  have l2 : Hp.le H H2 := Hp.le_new (Hp.le_refl _) hb1 hH2
  have l24 : Hp.le H2 H4 := Hp.le_new (Hp.le_refl _) hb3 hH4
  have lt := Hp.le_trans l2 l24
  have rG : Rd 4 fGp H4 ⟨some ⟨b1, 0, none⟩, 2, 2⟩ goodG := (rdConst (k := 4) (f := fGp) (fun _ => rfl) hH2 rfl rfl : Rd 4 fGp H2 _ goodG).le l24
  have rB : Rd 4 fGp H4 ⟨some ⟨b3, 0, none⟩, 10, 10⟩ badsG := rdConst (k := 4) (f := fGp) (fun _ => rfl) hH4 rfl rfl
  clear hb1 hH2 hb3 hH4 l2 l24
  have ng : goodG.length = 2 := rfl
  have nb : badsG.length = 10 := rfl
  refine ⟨fun n H' => H4 = H' ∧ 0 ≤ n ∧ n ≤ 2, fun n _ => (2 - n).toNat, ⟨rfl, by omega, by omega⟩, fun n H' ⟨e, n0, n1⟩ => ⟨fun hc => ?_, fun hc => ?_⟩⟩
  · subst e
    have hc : n < 2 := of_decide_eq_true hc
    have gm := List.all_eq_true.1 goodAll _ (List.mem_of_getElem? (getX (xs := goodG) (d := g0) n0 (by omega)))
    obtain ⟨s1, v1⟩ := Rd.gGp rG (i := n) n0 (by omega)
    have gm : chkGp (goodG.getD n.toNat ⟨0, 0, 0, 0⟩) = 0 := by simpa only [g0, beq_iff_eq] using gm
    generalize goodG.getD n.toNat ⟨0, 0, 0, 0⟩ = g at *
    have gk := gapsCheck (H := H4) (g := g)
    rw [gm] at gk
    exact ⟨s1, _, _, _, _, v1, 0, gk, fun h => by simp at h, fun _ => ⟨by unfold inI; omega, ⟨rfl, by omega, by omega⟩, by show (2 - (n + 1)).toNat < (2 - n).toNat; omega⟩⟩
  subst e
  refine ⟨fun n H' => H4 = H' ∧ 0 ≤ n ∧ n ≤ 10, fun n _ => (10 - n).toNat, ⟨rfl, by omega, by omega⟩, fun n H' ⟨e, n0, n1⟩ => ⟨fun hc => ?_, fun hc => ?_⟩⟩
  · subst e
    have hc : n < 10 := of_decide_eq_true hc
    have gm := List.all_eq_true.1 badsAll _ (List.mem_of_getElem? (getX (xs := badsG) (d := g0) n0 (by omega)))
    obtain ⟨s1, v1⟩ := Rd.gGp rB (i := n) n0 (by omega)
    have gm : (chkGp (badsG.getD n.toNat ⟨0, 0, 0, 0⟩) = 8 ∧ (atM (badsG.getD n.toNat ⟨0, 0, 0, 0⟩) (0, 0)).2 = 8) ∧ (closesM (badsG.getD n.toNat ⟨0, 0, 0, 0⟩) (0, 0)).2 = 8 := by simpa only [g0, Bool.and_eq_true, beq_iff_eq] using gm
    generalize badsG.getD n.toNat ⟨0, 0, 0, 0⟩ = g at *
    have gk := gapsCheck (H := H4) (g := g)
    have ga := gapsAt (H := H4) (g := g) (t := (0, 0)) fit00g
    have gc := gapsCloses (H := H4) (g := g) (t := (0, 0)) fit00g
    rw [gm.1.1] at gk; rw [gm.1.2] at ga; rw [gm.2] at gc
    exact ⟨s1, _, _, _, _, v1, _, _, 8, ga, s1, _, _, _, _, v1, _, _, 8, gc, s1, _, _, _, _, v1, 8, gk, fun h => by simp at h, fun _ => ⟨by unfold inI; omega, ⟨rfl, by omega, by omega⟩, by show (10 - (n + 1)).toNat < (10 - n).toNat; omega⟩⟩
  subst e
  clear hc n0 n1
  have B1 := refBuildL (H := H4) (w := zs) (f := []) (t := (0, 1)) Rd.nil w0
  rw [noneGb] at B1
  refine ⟨0, 1, law27whole, B1.mono fun v H40 ⟨p, hv, l40, rp⟩ => ⟨_, _, p.k.f, _, p.k.cl, p.k.u1, p.k.u2, p.k.u3, p.k.u4, p.k.u5, p.k.d, p.o, p.n, 0, hv, ?_⟩⟩
  have rp : RdL H40 p noneG := rp
  clear hv B1
  have rG := rG.le l40
  have lt := Hp.le_trans lt l40
  have hz : lsV zlu .zero = vLs 0 0 zs 0 zs zs zs zs zs zs zs zs zs := rfl
  have g := gapsOf (H := H40) RdL.zero fitZg
  rw [gz1, hz] at g
  refine g.mono fun v H56 ⟨s1, hv, l56, _⟩ => ⟨s1, 8, hv, ?_⟩
  clear hv g
  have rG := rG.le l56
  have rp := rp.le l56
  have lt := Hp.le_trans lt l56
  have c1 := gapsFirst (H := H56) RdL.zero fitZg
  rw [gz2, hz] at c1
  have c2 := gapsSum (H := H56) (i := -1) (k := -1) RdL.zero fitZg
  rw [gz3, hz] at c2
  refine ⟨0, 0, 0, 8, c1, 0, 0, 0, 0, 8, c2, ?_⟩
  clear c1 c2
  have g := gapsOf (H := H56) rp gN
  rw [gn1] at g
  refine g.mono fun v H69 ⟨s2, hv, l69, m2⟩ => ⟨s2, 0, hv, ?_⟩
  clear hv g
  have rm2 : Rd 4 fGp H69 s2 ([] : List Gp) := m2.rd (fun _ => rfl)
  have n2 : (s2.n : Int) = 0 := by have := rm2.len; simpa using this
  have rG := rG.le l69
  have rp := rp.le l69
  have lt := Hp.le_trans lt l69
  have c1 := gapsFirst (H := H69) rp gN
  rw [gn2] at c1
  refine ⟨0, 0, 0, 6, c1, law27example.mono fun v H77 ⟨x, hv, l77, rx⟩ => ⟨_, _, x.k.f, _, x.k.cl, x.k.u1, x.k.u2, x.k.u3, x.k.u4, x.k.u5, x.k.d, x.o, x.n, hv, ?_⟩⟩
  clear c1 hv
  have rG := rG.le l77
  have lt := Hp.le_trans lt l77
  have c1 := gapsSum (H := H77) (i := 0) (k := 3) rx gX
  rw [gx1] at c1
  refine ⟨0, 0, 0, 0, 2, c1, law27example.mono fun v H97 ⟨x, hv, l97, rx⟩ => ⟨_, _, x.k.f, _, x.k.cl, x.k.u1, x.k.u2, x.k.u3, x.k.u4, x.k.u5, x.k.d, x.o, x.n, hv, ?_⟩⟩
  clear c1 hv
  have rG := rG.le l97
  have lt := Hp.le_trans lt l97
  have c1 := gapsSum (H := H97) (i := 1) (k := 1) rx gX
  rw [gx2] at c1
  refine ⟨0, 0, 0, 0, 2, c1, law27example.mono fun v H117 ⟨x, hv, l117, rx⟩ => ⟨_, _, x.k.f, _, x.k.cl, x.k.u1, x.k.u2, x.k.u3, x.k.u4, x.k.u5, x.k.d, x.o, x.n, hv, ?_⟩⟩
  clear c1 hv
  have rG := rG.le l117
  have lt := Hp.le_trans lt l117
  have c1 := gapsSum (H := H117) (i := -1) (k := 1) rx gX
  rw [gx3] at c1
  obtain ⟨s0, v0⟩ := Rd.gGp rG (i := 0) (by omega) (by decide)
  obtain ⟨s9, v9⟩ := Rd.gGp rG (i := 1) (by omega) (by decide)
  have e0 : goodG.getD (0 : Int).toNat ⟨0, 0, 0, 0⟩ = ⟨65535, 0, 2097152, -2097152⟩ := rfl
  have e9 : goodG.getD (1 : Int).toNat ⟨0, 0, 0, 0⟩ = ⟨0, 1, -2097152, 2097152⟩ := rfl
  rw [e0] at v0
  rw [e9] at v9
  have q1 := gapsAt (H := H117) (g := ⟨65535, 0, 2097152, -2097152⟩) (t := (2, 2)) (fitQ (by unfold inI; omega) (by unfold inI; omega))
  rw [ga1] at q1
  have q2 := gapsAt (H := H117) (g := ⟨65535, 0, 2097152, -2097152⟩) (t := (1125899906842624, 1)) (fitQ (by unfold inI; omega) (by unfold inI; omega))
  rw [ga2] at q2
  have q3 := gapsAt (H := H117) (g := ⟨65535, 0, 2097152, -2097152⟩) (t := (1, 1)) (fitQ (by unfold inI; omega) (by unfold inI; omega))
  rw [ga3] at q3
  have q4 := gapsCloses (H := H117) (g := ⟨65535, 0, 2097152, -2097152⟩) (t := (1, 1)) (fitQ (by unfold inI; omega) (by unfold inI; omega))
  rw [gc1] at q4
  have q5 := gapsCloses (H := H117) (g := ⟨65535, 0, 2097152, -2097152⟩) (t := (1, 2)) (fitQ (by unfold inI; omega) (by unfold inI; omega))
  rw [gc2] at q5
  have q6 := gapsCloses (H := H117) (g := ⟨0, 1, -2097152, 2097152⟩) (t := (0, 1)) (fitQ (by unfold inI; omega) (by unfold inI; omega))
  rw [gc3] at q6
  have q7 := gapsCloses (H := H117) (g := ⟨3, 2, 5, -2⟩) (t := (-1152921504606846976, 1)) (fitQ (by unfold inI; omega) (by unfold inI; omega))
  rw [gc4] at q7
  refine ⟨0, 0, 0, 0, 2, c1, s0, 65535, 0, 2097152, -2097152, v0, 0, 0, 8, q1, s0, 65535, 0, 2097152, -2097152, v0, 1125899906842624, 1, law27whole, _, _, 16, q2, s0, 65535, 0, 2097152, -2097152, v0, 1, 1, law27whole, 0, 1, 0, q3,
    s0, 65535, 0, 2097152, -2097152, v0, 1, 1, law27whole, _, _, 6, q4, s0, 65535, 0, 2097152, -2097152, v0, 1, 1, 0, q5, s9, 0, 1, -2097152, 2097152, v9, 0, 1, law27whole, _, _, 6, q6, -1152921504606846976, 1, law27whole, 5, 2, 0, q7, true, fun _ => law27alive, 0, 1, fun _ => law27whole, 1, 1, fun _ => law27whole, ?_, lt⟩
  rw [n2]
  rfl
end Go.Proofs.YtodmhdfenpkbdaaGreat
