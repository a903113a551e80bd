/- The engine, parts LT, LU, put together. Conditions: none. -/
import Derived.Test.YtkemdpobjaiolaaGreatPS1
import Derived.Test.YtkemdpobjaiolaaGreatKM
import Derived.Test.YtkemdpobjaiolaaGreatVgKlist
import Derived.Test.YtkemdpobjaiolaaGreatFs
set_option linter.unusedVariables false
section
/- klist.Advance and Step, and the reference's. Conditions: none. -/
set_option maxRecDepth 100000
open Go Go.Eng Go.Proofs
namespace Go.Proofs.YtkemdpobjaiolaaGreat

theorem untilK_vals (c : Ck) (t : Int × Int) : untilK c t = 0 ∨ untilK c t = 44 ∨ untilK c t = 8 := by
  unfold untilK; split
  · split
    · exact .inr (.inl rfl)
    · exact .inl rfl
  · exact .inr (.inr rfl)
theorem advM_bad {l : Ls} {to : Int × Int} (h : ¬ okLs l) : advM l to = (.zero, 0, 8) := by unfold advM; rw [if_neg h]
theorem advM_until {l : Ls} {to : Int × Int} (ok : okLs l) (h : untilK l.ck to ≠ 0) : advM l to = (.zero, 0, untilK l.ck to) := by unfold advM; rw [if_pos ok, if_neg h]
theorem advM_go {l : Ls} {to : Int × Int} (ok : okLs l) (h : untilK l.ck to = 0) : advM l to = if (advR l to).2.2 = 0 then (movedL (advR l to).1 to, (advR l to).2.1, 0) else (.zero, 0, (advR l to).2.2) := by unfold advM; rw [if_pos ok, if_pos h]

set_option maxHeartbeats 2000000 in
theorem klistAdvance {H : Hp} {u : Lu} {l : Ls} {to : Int × Int} (r : RdL H u l) (fl : fitL l) (ht : fitR to) :
    Go.Eng.Fn Tryz.prog F.klist_Advance #[lsV u l, raW to] H fun v H' => ∃ w : Lu, v = .tuple #[lsV w (advM l to).1, .int .i64 (advM l to).2.1, .int .i64 (advM l to).2.2] ∧ Hp.le H H' ∧ RdL H' w (advM l to).1 := by
  have f1 := fl.o; have f2 := fl.n
  refine klist_Advance_vc ⟨_, klistCheck r fl, fun hc => ?_, fun hc => ?_⟩
  · have hn : ¬ okLs l := fun ok => by rw [chkLs_ok ok] at hc; simp at hc
    rw [advM_bad hn, chkLs_bad hn]
    exact ⟨zlu, rfl, Hp.le_refl _, RdL.zero⟩
  have ok : okLs l := chkLs_zero.1 (by simpa using hc)
  refine (clockMove r.k fl.k ht).mono fun v H3 ⟨w0, hv, l3, r3⟩ => ⟨_, _, w0.f, _, w0.cl, w0.u1, w0.u2, w0.u3, w0.u4, w0.u5, w0.d, _, hv, fun he => ?_, fun he => ?_⟩
  · have hu : untilK l.ck to ≠ 0 := fun hu => by
      unfold moveK at he
      rw [if_pos hu] at he
      by_cases hw : waitsK l.ck to = true
      · rw [if_pos hw] at he; simp at he
      · rw [if_neg hw] at he; simp at he
    have em : (moveK l.ck to).2 = untilK l.ck to := by unfold moveK; rw [if_neg hu]
    rw [em, advM_until ok hu]
    exact ⟨zlu, rfl, l3, RdL.zero⟩
  have hu : untilK l.ck to = 0 := by
    by_cases hu : untilK l.ck to = 0
    · exact hu
    · exfalso
      have em : (moveK l.ck to).2 = untilK l.ck to := by unfold moveK; rw [if_neg hu]
      rw [em] at he
      rcases untilK_vals l.ck to with h | h | h
      · exact hu h
      · rw [h] at he; simp at he
      · rw [h] at he; simp at he
  obtain ⟨_, ot, _⟩ := untilK_zero.1 hu
  rw [advM_go ok hu]
  refine (clone_int (r.o.le l3) (by omega)).mono fun v H17 ⟨so, hv, l17, m1⟩ => ⟨l17, so, hv, ?_⟩
  refine (clone_int (r.n.le (Hp.le_trans l3 l17)) (by omega)).mono fun v H20 ⟨sn, hv, l20, m2⟩ => ⟨l20, sn, hv, fun b22 H23 hb22 hH23 => ?_⟩
  have l23 : Hp.le H20 H23 := Hp.le_new (Hp.le_refl _) hb22 hH23
  have down : ∀ {G : Hp} {x : Nat}, Hp.le G H20 → H20 x = none → G x = none := fun {G x} hl hx => by
    cases hy : G x with
    | none => rfl
    | some o => rw [hl x o hy] at hx; cases hx
  have l320 := Hp.le_trans l17 l20
  have B0 : BoxL H3 H23 b22 ⟨u.k, so, sn⟩ l := by
    refine ⟨by rw [hH23]; exact Cel.put, ⟨H3, Hp.le_trans l320 l23, fun x hx => ?_, r.k.le l3⟩, (m1.le l20).le l23, (m2.low l17).le l23, Sep.of m1.isOld m2.isNew, Hp.le_trans l320 l23, down l320 hb22, fun p hp e => ?_, fun p hp e => ?_⟩
    · rcases hx with rfl | ⟨p, hp, rfl⟩ | ⟨p, hp, rfl⟩
      · exact down l320 hb22
      · exact m1.isNew p hp
      · exact (m2.low l17).isNew p hp
    · have := (m1.le l20).isOld p hp; rw [e] at this; exact this hb22
    · have := m2.isOld p hp; rw [e] at this; exact this hb22
  have lH3 : ∀ {H' : Hp}, Hp.le H3 H' → Hp.le H H' := fun h => Hp.le_trans l3 h
  refine ⟨fun n H' => ∃ l' w, AdvInv l to n l' ∧ BoxL H3 H' b22 ⟨w, so, sn⟩ l', fun n _ => ((potL l to : Int) - n).toNat, ⟨l, u.k, AdvInv.start ok hu, B0⟩, fun n H27 ⟨l', w, a, B⟩ => ?_⟩
  have n0 := a.n0; have pt := a.pot
  have ps := potL_small ok.weak to
  refine (swapB B a.m a.u ht).mono fun v H29 ⟨c, e, hv, q1, q2⟩ => ⟨c, e, hv, ?_⟩
  cases hw : waitsK l'.ck to with
  | false =>
    obtain ⟨rfl, rfl, B1⟩ := q1 hw
    have B1 : BoxL H3 H29 b22 ⟨w, so, sn⟩ l' := B1
    refine ⟨fun h => by simp at h, fun _ => ⟨fun _ => ?_, fun h => (by cases h)⟩⟩
    have box := B1.box
    have fl' := a.m.fit
    have em : moveK l'.ck to = ({ l'.ck with now := to }, 0) := by unfold moveK; rw [if_pos a.u, if_neg (by rw [hw]; simp)]
    have q := clockMoveN B1.rk fl'.k ht
    rw [em] at q
    refine ⟨_, _, w.f, _, w.cl, w.u1, w.u2, w.u3, w.u4, w.u5, w.d, ⟨Cel.at box 0, Cel.at box 1, Cel.at box 2, Cel.at box 3, Cel.at box 4, Cel.at box 5, Cel.at box 6, Cel.at box 7, Cel.at box 8, Cel.at box 9, Cel.at box 10⟩, q.mono fun v H44 ⟨w1, hv, l44, rw1, nw1⟩ => ⟨l44, _, _, w1.f, _, w1.cl, w1.u1, w1.u2, w1.u3, w1.u4, w1.u5, w1.d, _, hv, B1.clock l44 rw1 nw1 fun H57 B57 => ?_⟩⟩
    have bx := B57.box
    refine ⟨_, _, w1.f, _, w1.cl, w1.u1, w1.u2, w1.u3, w1.u4, w1.u5, w1.d, so, sn, ⟨Cel.at bx 0, Cel.at bx 1, Cel.at bx 2, Cel.at bx 3, Cel.at bx 4, Cel.at bx 5, Cel.at bx 6, Cel.at bx 7, Cel.at bx 8, Cel.at bx 9, Cel.at bx 10, Cel.at bx 11, Cel.at bx 12⟩, ?_⟩
    have ea := a.stop hw
    rw [ea, if_pos rfl]
    exact ⟨⟨w1, so, sn⟩, rfl, lH3 B57.le, ⟨B57.rk, B57.o.rdI, B57.n.rdI⟩⟩
  | true =>
    obtain ⟨i, s, es, le, q3⟩ := q2 hw
    refine ⟨fun h => ?_, fun h => ?_⟩
    · have h : e ≠ 0 := by simpa using h
      have ea := a.fail hw s (by rw [← es]; exact h)
      rw [ea, ← es, if_neg h]
      exact ⟨zlu, rfl, lH3 le, RdL.zero⟩
    · have h : e = 0 := by simpa using h
      obtain ⟨rfl, w1, B1⟩ := q3 h
      obtain ⟨a1, pl⟩ := a.next hw s (by rw [← es]; exact h)
      have a1p := a1.pot
      refine ⟨fun h => (by cases h), fun _ => ⟨by unfold inI; omega, ⟨_, w1, a1, B1⟩, by show ((potL l to : Int) - (n + 1)).toNat < ((potL l to : Int) - n).toNat; omega⟩⟩

end Go.Proofs.YtkemdpobjaiolaaGreat
end
section
/- The reference's Advance, and Step. Conditions: none. -/
set_option maxRecDepth 100000
open Go Go.Eng Go.Proofs
namespace Go.Proofs.YtkemdpobjaiolaaGreat

/-! ### Step -/
def stepL (l : Ls) : Ls × Int × Int := if (kNextM l).2 ≠ 0 then (.zero, 0, (kNextM l).2) else advM l (kNextM l).1
theorem kNext_fit {l : Ls} (h : (kNextM l).2 = 0) : okR (kNextM l).1 := by
  unfold kNextM at h ⊢
  by_cases ok : okLs l
  · rw [if_pos ok] at h ⊢
    by_cases h0 : l.ck.ag.heap.length = 0
    · rw [if_pos h0] at h; cases h
    · rw [if_neg h0]
      exact (ok.ck.ag.each _ (hp_mem (by omega))).1
  · rw [if_neg ok] at h; cases h
theorem klistStep {H : Hp} {u : Lu} {l : Ls} (r : RdL H u l) (fl : fitL l) :
    Go.Eng.Fn Tryz.prog F.klist_Step #[lsV u l] H fun v H' => ∃ w : Lu, v = .tuple #[lsV w (stepL l).1, .int .i64 (stepL l).2.1, .int .i64 (stepL l).2.2] ∧ Hp.le H H' ∧ RdL H' w (stepL l).1 := by
  refine klist_Step_vc ⟨_, _, _, kNext r fl, fun he => ?_, fun he => ?_⟩
  · have he : (kNextM l).2 ≠ 0 := by simpa using he
    unfold stepL; rw [if_pos he]
    exact ⟨zlu, rfl, Hp.le_refl _, RdL.zero⟩
  · have he : (kNextM l).2 = 0 := by simpa using he
    unfold stepL; rw [if_neg (by omega)]
    exact (klistAdvance r fl (kNext_fit he).fit).mono fun v H5 ⟨w, hv, l5, r5⟩ => ⟨_, _, w.k.f, _, w.k.cl, w.k.u1, w.k.u2, w.k.u3, w.k.u4, w.k.u5, w.k.d, w.o, w.n, _, _, hv, w, rfl, l5, r5⟩
theorem advM_fit (l : Ls) (to : Int × Int) : fitL (advM l to).1 := by
  by_cases h : (advM l to).2.2 = 0
  · exact (advM_ok h).1.fit
  · have : (advM l to).1 = .zero := by
      unfold advM at h ⊢
      split
      · rename_i ok
        rw [if_pos ok] at h
        split
        · rename_i hu
          rw [if_pos hu] at h
          split
          · rename_i hz; rw [if_pos hz] at h; exact absurd rfl h
          · rfl
        · rfl
      · rfl
    rw [this]; exact fitZl
theorem stepL_fit (l : Ls) : fitL (stepL l).1 := by
  unfold stepL
  split
  · exact fitZl
  · exact advM_fit _ _
end Go.Proofs.YtkemdpobjaiolaaGreat
end
