/- The law ClockAlters. Conditions: none. -/
import Derived.Test.YtodmhdfenpkbdaaGreatLK
import Derived.Test.YtodmhdfenpkbdaaGreatVgLClockAlters
import Derived.Test.YtodmhdfenpkbdaaGreatFs
set_option linter.unusedVariables false
set_option maxRecDepth 100000
open Go Go.Eng Go.Proofs
namespace Go.Proofs.YtodmhdfenpkbdaaGreat

theorem retire_err {c : Ck} {n : Int} (ok : okK c) (h : (retireK c n).2 ≠ 0) : retireK c n = (.zero, 6) ∧ atC c.ct n < 0 := by
  unfold retireK at h ⊢
  rw [if_pos ok] at h ⊢
  by_cases ha : atC c.ct n < 0
  · rw [if_pos ha]; exact ⟨rfl, ha⟩
  · rw [if_neg ha] at h; exact absurd rfl h
theorem retire_ok {c : Ck} {n : Int} (ok : okK c) (h : (retireK c n).2 = 0) : retireK c n = (goneK c n, 0) ∧ 0 ≤ atC c.ct n := by
  unfold retireK at h ⊢
  rw [if_pos ok] at h ⊢
  by_cases ha : atC c.ct n < 0
  · rw [if_pos ha] at h; cases h
  · rw [if_neg ha]; exact ⟨rfl, by omega⟩
theorem fH_one2 : ∀ (x : Int × Int), ∀ v ∈ fH x, v.oneCell' = true := fun x v hv => by
  simp [fH] at hv
  rcases hv with rfl | rfl <;> rfl

set_option maxHeartbeats 2000000 in
theorem clockAlters {H : Hp} {u : Cu} {c : Ck} {w : Slc} {f : List Pt} {n : Int} (r : RdK H u c) (hw : Rd 3 fD H w f) (hn : fitR c.now) (hh : ∀ y ∈ c.ag.heap, fitR y.at_) : Qf Tryz.prog F.pelotonlaw09_ClockAlters #[ckV u c, vFd w, .int .i64 n] H (.bool true) := by
  have lc := r.cl.len
  have ld0 := r.due.len
  by_cases hg : (!greatK c && decide (okK c)) = true
  case neg =>
    refine pelotonlaw09_ClockAlters_vc ⟨_, law9fit r hn hh, _, fun _ => refFGreat hw, _, fun _ => refFCheck hw, fun _ => ⟨_, law9alive, rfl, Hp.le_refl _⟩, fun h => ?_⟩
    simp at h hg; exact absurd h.1.1.2 (hg h.1.1.1)
  have ok : okK c := by simp at hg; exact hg.2
  have fk := ok.fit
  have f1 := fk.ct
  have f2 := fk.due
  refine pelotonlaw09_ClockAlters_vc ⟨_, law9fit r hn hh, _, fun _ => refFGreat hw, _, fun _ => refFCheck hw, fun _ => ⟨_, law9alive, rfl, Hp.le_refl _⟩, fun h => ?_⟩
  have hf : chkF f = 0 := by simp at h; exact h.2
  clear h hg
  have of := chkF_zero.1 hf
  have lf := of.small
  refine (clockAlter r fk hw).mono fun v H6 ⟨a, hv, l6, r6⟩ => ⟨_, _, a.f, _, a.cl, a.u1, a.u2, a.u3, a.u4, a.u5, a.d, _, hv, fun he => ?_, fun he => ?_⟩
  · have he : (alterK c f).2 = 0 := by simpa using he
    obtain ⟨o1, e1, e2, e3, e4⟩ := alter_anew ok hf he
    refine ⟨fun s i H' => 0 ≤ i ∧ i ≤ c.ct.list.length ∧ Hp.le H6 H' ∧ Mine 2 fH T.api_Cert H6 H' s ((c.ct.list.take i.toNat).map (·.2)), fun _ i _ => (c.ct.list.length - i).toNat, ⟨Int.le_refl _, by omega, Hp.le_refl _, .inl ⟨rfl, rfl⟩⟩, fun s i H' ⟨i0, i1, le, m⟩ => ⟨fun hn => ?_, fun hn => ?_⟩⟩
    · have hn : i < c.ct.list.length := by have : i < u.cl.n := by simpa using hn
                                           omega
      have hg := getX (d := ((0 : Int), (0 : Int), (0 : Int))) i0 hn
      have g2 := (r.le (Hp.le_trans l6 le)).cl.gD2 i0 hn
      refine ⟨r.cl.inS i0 hn, _, _, g2, fun b H27 hb hH => ?_⟩
      generalize c.ct.list.getD i.toNat (0, 0, 0) = x at hg g2 hH ⊢
      refine (append1 (k := 2) (f := fH) (bytes := 16) (x := x.2) (e := T.api_Cert) (by kernel_rfl) (by decide) (fun _ => rfl) fH_one2 le m hb hH rfl (by simp; omega) (by omega)).mono fun v H29 ⟨d, hv, l29, m29, _, _⟩ => ⟨d, hv, by unfold inI; omega, ⟨by omega, by omega, l29, ?_⟩, ?_⟩
      · rw [show (i + 1).toNat = i.toNat + 1 by omega, take_succ hg, List.map_append]; exact m29
      · show (c.ct.list.length - (i + 1) : Int).toNat < (c.ct.list.length - i : Int).toNat; omega
    have hi : i = c.ct.list.length := by have : ¬ i < u.cl.n := by simpa using hn
                                         omega
    rw [hi, Int.toNat_natCast, List.take_length] at m
    have m23 := Hp.le_trans l6 le
    refine (law9certified (f := f) (t := c.now) (hw.le m23) fk.now m.rdH (by simp; omega)).mono fun v H32 ⟨q, hv, l32, r32, k32⟩ => ⟨_, _, q.f, _, q.cl, q.u1, q.u2, q.u3, q.u4, q.u5, q.d, _, hv, ?_⟩
    have m32 := Hp.le_trans m23 l32
    have k6 := Hp.le_trans le l32
    refine ⟨_, fun _ => refKCheck (r6.le k6) o1.fit, _, fun _ => rSameC (d := c.ct) (r6.le k6).cl (r.le m32).cl (by rw [e1]; omega), _, fun _ => refFSame (r6.le k6).f (hw.le m32) (by rw [e2]; omega), fun hx => ?_, fun _ => ?_⟩
    · have la : a.d.n = (alterK c f).1.due.length := r6.due.len
      have lq : q.d.n = (certM f c.now (c.ct.list.map (·.2))).1.due.length := r32.due.len
      rw [chkK_ok o1, e1, e2, e3, la, lq, e4] at hx
      simp at hx
    refine (clockRetire (n := n) (r.le m32) fk).mono fun v H49 ⟨z, hv, l49, r49⟩ => ⟨_, _, z.f, _, z.cl, z.u1, z.u2, z.u3, z.u4, z.u5, z.d, _, hv, fun hr => ?_, fun hr => ?_⟩
    · have hr : (retireK c n).2 ≠ 0 := by simpa using hr
      obtain ⟨e6, ha⟩ := retire_err ok hr
      rw [e6]
      refine ⟨_, fun _ => rAtC (c := c.ct) (r.le (Hp.le_trans m32 l49)).cl (by omega), _, fun _ => law9alive, ?_, Hp.le_trans m32 l49⟩
      simp [ha]
    · have hr : (retireK c n).2 = 0 := by simpa using hr
      obtain ⟨e0, ha⟩ := retire_ok ok hr
      rw [e0] at r49 ⊢
      obtain ⟨g1, g2, g3⟩ := gone_len ok ha
      have og := (ok.gone n).1
      have ln : z.cl.n = (goneK c n).ct.list.length := r49.cl.len
      have ld : z.d.n = (goneK c n).due.length := r49.due.len
      have en := (goneK_ct c n).2.2
      refine ⟨_, rDueAt (r.le (Hp.le_trans m32 l49)) fk, fun hp => ?_, fun hp => ?_⟩
      · have hp : 0 ≤ posD c n := by simpa using hp
        have := g2 hp
        refine ⟨_, refKCheck r49 og.fit, fun _ => by unfold inI; omega, fun _ => by unfold inI; omega, _, fun _ => law9alive, ?_, Hp.le_trans m32 l49⟩
        rw [chkK_ok og, ln, ld, ld0, lc, en]
        simp
        omega
      · have hp : posD c n < 0 := by simp at hp; omega
        have := congrArg List.length (g3 hp)
        refine ⟨_, refKCheck r49 og.fit, fun _ => by unfold inI; omega, fun _ => by unfold inI; omega, _, fun _ => law9alive, ?_, Hp.le_trans m32 l49⟩
        rw [chkK_ok og, ln, ld, ld0, lc, en]
        simp
        omega
  · have he : (alterK c f).2 ≠ 0 := by simpa using he
    refine ⟨_, fun _ => refKnown (r.le l6).cl (hw.le l6) (by omega) (by omega), fun hx => ?_, fun _ => ?_⟩
    · rcases alter_err ok hf he with h | h
      · rw [h] at hx; simp at hx
      · rw [h.1, h.2] at hx; simp at hx
    refine (clockRetire (n := n) (r.le l6) fk).mono fun v H49 ⟨z, hv, l49, r49⟩ => ⟨_, _, z.f, _, z.cl, z.u1, z.u2, z.u3, z.u4, z.u5, z.d, _, hv, fun hr => ?_, fun hr => ?_⟩
    · have hr : (retireK c n).2 ≠ 0 := by simpa using hr
      obtain ⟨e6, ha⟩ := retire_err ok hr
      rw [e6]
      refine ⟨_, fun _ => rAtC (c := c.ct) (r.le (Hp.le_trans l6 l49)).cl (by omega), _, fun _ => law9alive, ?_, Hp.le_trans l6 l49⟩
      simp [ha]
    · have hr : (retireK c n).2 = 0 := by simpa using hr
      obtain ⟨e0, ha⟩ := retire_ok ok hr
      rw [e0] at r49 ⊢
      obtain ⟨g1, g2, g3⟩ := gone_len ok ha
      have og := (ok.gone n).1
      have ln : z.cl.n = (goneK c n).ct.list.length := r49.cl.len
      have ld : z.d.n = (goneK c n).due.length := r49.due.len
      have en := (goneK_ct c n).2.2
      refine ⟨_, rDueAt (r.le (Hp.le_trans l6 l49)) fk, fun hp => ?_, fun hp => ?_⟩
      · have hp : 0 ≤ posD c n := by simpa using hp
        have := g2 hp
        refine ⟨_, refKCheck r49 og.fit, fun _ => by unfold inI; omega, fun _ => by unfold inI; omega, _, fun _ => law9alive, ?_, Hp.le_trans l6 l49⟩
        rw [chkK_ok og, ln, ld, ld0, lc, en]
        simp
        omega
      · have hp : posD c n < 0 := by simp at hp; omega
        have := congrArg List.length (g3 hp)
        refine ⟨_, refKCheck r49 og.fit, fun _ => by unfold inI; omega, fun _ => by unfold inI; omega, _, fun _ => law9alive, ?_, Hp.le_trans l6 l49⟩
        rw [chkK_ok og, ln, ld, ld0, lc, en]
        simp
        omega
end Go.Proofs.YtodmhdfenpkbdaaGreat
