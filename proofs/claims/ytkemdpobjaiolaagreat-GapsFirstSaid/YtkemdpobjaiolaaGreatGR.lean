/- The law GapsFirst. Conditions: none. -/
import Derived.Test.YtkemdpobjaiolaaGreatGQ
import Derived.Test.YtkemdpobjaiolaaGreatVgLGapsFirst
import Derived.Test.YtkemdpobjaiolaaGreatFs
set_option linter.unusedVariables false
set_option maxRecDepth 100000
open Go Go.Eng Go.Proofs
namespace Go.Proofs.YtkemdpobjaiolaaGreat

set_option maxHeartbeats 2000000 in
theorem lawGapsFirst {H : Hp} {u : Lu} {l : Ls} (r : RdL H u l) (hn : fitR l.ck.now) (hh : ∀ y ∈ l.ck.ag.heap, fitR y.at_) : Qf Tryz.prog F.pelotonlaw27_GapsFirst #[lsV u l] H (.bool true) := by
  refine pelotonlaw27_GapsFirst_vc ⟨true, law27alive, greatL l, refLGreat r, chkLs l, fun hg => refLCheck r (fitL_of hn (by simpa using hg) hh), fun _ => ⟨rfl, Hp.le_refl _⟩, fun hb => ?_⟩
  simp only [Bool.or_eq_false_iff, bne_eq_false_iff_eq] at hb
  obtain ⟨⟨b1, b2⟩, _⟩ := hb
  have fl := fitL_of hn b1 hh
  have ok : okLs l := chkLs_zero.1 b2
  have f2 := fl.n
  have nl := ok.nl
  have eo : ofM l = (gapsM l, 0) := by unfold ofM; rw [if_pos ok]
  obtain ⟨fn1, fn2⟩ := first_next ok
  obtain ⟨s1, s2, s3⟩ := bestM_spec l.ck.now _ (gapsM l) rfl
  obtain ⟨q1, q2, q3, q4⟩ := bestM_ok l.ck.now _ (gapsM l) rfl
  have ef : firstM l = if (bestM l.ck.now (gapsM l)).1 < 0 then (0, (0, 0), 6) else ((bestM l.ck.now (gapsM l)).1, (bestM l.ck.now (gapsM l)).2, 0) := by unfold firstM; rw [if_pos ok]
  have gall : ∀ (i : Nat) (g : Gp), (gapsM l)[i]? = some g → okGp g := fun i g hg => by
    have hi := (List.getElem?_eq_some_iff.1 hg).1
    rw [show (gapsM l).length = l.num.length from gapsN_len _ _] at hi
    rw [gapsM_at hi] at hg
    have hg := Option.some.inj hg
    rw [← hg]
    have hp := ok.pos (i := (i : Int)) (by omega) (by omega)
    have hq := ok.pos (i := ((i + 1 : Nat) : Int)) (by omega) (by omega)
    have ha := ok.apart (i := (i : Int)) (k := ((i + 1 : Nat) : Int)) (by omega) (by omega) (by omega)
    rw [Int.toNat_natCast] at hp hq
    rw [Int.toNat_natCast, Int.toNat_natCast] at ha
    exact betw_ok ok.ck.f hp hq ha
  have g0 := gapsOf r fl
  rw [eo] at g0
  refine g0.mono fun v H5 ⟨s, hv, l5, m⟩ => ⟨s, 0, hv, ?_⟩
  have c1 := gapsFirst (r.le l5) fl
  rw [ef] at c1
  have c2 := kNext (r.le l5) fl
  have rm : Rd 4 fGp H5 s (gapsM l) := m.rd (fun _ => rfl)
  have lm := rm.len
  have lg : (gapsM l).length = l.num.length := gapsN_len _ _
  generalize bestM l.ck.now (gapsM l) = B at *
  refine ⟨_, _, _, _, c1, _, _, _, c2, fun h => by simp at h, fun _ => ⟨fun _ i H' => H5 = H' ∧ 0 ≤ i ∧ i ≤ (gapsM l).length, fun _ i _ => ((gapsM l).length - i).toNat, ⟨rfl, Int.le_refl _, by omega⟩, fun c i H' ⟨e, i0, i1⟩ => ⟨fun hc => ?_, fun hc => ?_⟩⟩⟩
  · subst e
    have hi : i < (gapsM l).length := by have : i < s.n := by simpa using hc
                                         omega
    obtain ⟨gs, gv⟩ := Rd.gGp rm i0 hi
    have hg := getX (d := (⟨0, 0, 0, 0⟩ : Gp)) i0 hi
    generalize (gapsM l).getD i.toNat ⟨0, 0, 0, 0⟩ = g at hg gv
    have og := gall _ _ hg
    have gk := refGapCheck (H := H5) (g := g)
    rw [chkGp_ok og] at gk
    have ga := refAt (H := H5) (g := g) (t := l.ck.now) fl.k.now
    have gc := gapsCloses (H := H5) (g := g) (t := l.ck.now) fl.k.now
    have key : (closesM g l.ck.now).2 = 0 → 0 ≤ B.1 ∧ leR B.2 (closesM g l.ck.now).1 ∧ (leR (closesM g l.ck.now).1 B.2 → B.1 ≤ i.toNat) := fun hz => s3 i.toNat g hg hz
    have ms : ((gapsM l).length - (i + 1) : Int).toNat < ((gapsM l).length - i : Int).toNat := by omega
    have e11 : ∀ {z : Int}, 0 ≤ B.1 → ((if B.1 < 0 then ((0 : Int), ((0 : Int), (0 : Int)), (6 : Int)) else (B.1, B.2, 0)) = (B.1, B.2, 0)) := fun {z} h => if_neg (by omega)
    refine ⟨gs, _, _, _, _, gv, 0, gk, fun h => by simp at h, fun _ => ⟨gs, _, _, _, _, gv, _, _, _, ga, gs, _, _, _, _, gv, _, _, _, gc, 0, fun h => ?_, 0, fun h => ?_, cmpR (closesM g l.ck.now).1 B.2, fun h => ?_, fun h => ?_, fun _ => ⟨by unfold inI; omega, ⟨rfl, by omega, by omega⟩, ms⟩⟩⟩
    · have hz : (closesM g l.ck.now).2 = 0 := by
        simp only [Bool.and_eq_true, beq_iff_eq] at h
        exact h.1
      have oc := closes_ok hz
      have := refRCheck (H := H5) oc.fit
      rw [chkR_ok oc] at this
      exact this
    · have hz : (closesM g l.ck.now).2 = 0 := by
        simp only [Bool.and_eq_true, beq_iff_eq] at h
        exact h.1
      obtain ⟨k1, k2, k3⟩ := key hz
      have ob := q4 k1
      rw [e11 (z := 0) k1]
      have := refRCheck (H := H5) ob.fit
      rw [chkR_ok ob] at this
      exact this
    · have hz : (closesM g l.ck.now).2 = 0 := by
        simp only [Bool.and_eq_true, beq_iff_eq] at h
        exact h.1
      obtain ⟨k1, k2, k3⟩ := key hz
      rw [e11 (z := 0) k1]
      exact refCompareR (closes_ok hz) (q4 k1)
    · exfalso
      simp only [Bool.and_eq_true, beq_iff_eq] at h
      obtain ⟨hz, h⟩ := h
      obtain ⟨k1, k2, k3⟩ := key hz
      rw [e11 (z := 0) k1] at h
      simp only [Bool.or_eq_true, Bool.and_eq_true, bne_iff_ne, ne_eq, not_true_eq_false, false_or, decide_eq_true_eq, beq_iff_eq] at h
      rcases h with h | ⟨⟨h1, h2⟩, h3⟩
      · exact cmpR_lt.1 h k2
      · have ee : (closesM g l.ck.now).1 = B.2 := Prod.ext h1 h2
        have := k3 (by rw [ee]; exact leR_refl _)
        omega
  · subst e
    refine ⟨fun h => ?_, fun h => ?_⟩
    · have hB : B.1 < 0 := by
        by_cases x : B.1 < 0
        · exact x
        · rw [if_neg x] at h; simp at h
      refine ⟨?_, l5⟩
      rw [if_pos hB, fn1 hB]
      simp
    · have hB : 0 ≤ B.1 := by
        by_cases x : B.1 < 0
        · rw [if_pos x] at h; simp at h
        · omega
      have e1 : (if B.1 < 0 then ((0 : Int), ((0 : Int), (0 : Int)), (6 : Int)) else (B.1, B.2, 0)) = (B.1, B.2, 0) := if_neg (by omega)
      rw [e1, fn2 hB]
      obtain ⟨g, hg, hcl⟩ := s2 hB
      obtain ⟨z1, z2, z3, z4, z5⟩ := close_at hcl
      have rc := refRCheck (H := H5) z3.fit
      rw [chkR_ok z3] at rc
      have cp := refCompareR (H := H5) z3 z4
      obtain ⟨gs, gv⟩ := Rd.gGp rm (i := B.1) hB (by omega)
      have hd : (gapsM l).getD B.1.toNat ⟨0, 0, 0, 0⟩ = g := by rw [List.getD_eq_getElem?_getD, hg]; rfl
      rw [hd] at gv
      have ga := gapsAt (H := H5) (g := g) (t := B.2) z3.fit
      refine ⟨0, fun _ => rc, _, fun _ => cp, fun hb => ?_, fun _ => ⟨gs, _, _, _, _, gv, _, _, _, ga, ?_, l5⟩⟩
      · exfalso
        simp only [Bool.or_eq_true, decide_eq_true_eq, bne_iff_ne, ne_eq, not_true_eq_false, or_false] at hb
        rcases hb with (hb | hb) | hb
        · omega
        · omega
        · exact z5 (cmpR_le.1 hb)
      · rw [z1, z2]
        simp
end Go.Proofs.YtkemdpobjaiolaaGreat
