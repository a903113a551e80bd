/- The laws ClockEnds, ClockHolds. Conditions: none. -/
import Derived.Test.YtodmhdfenpkbdaaGreatLH
import Derived.Test.YtodmhdfenpkbdaaGreatVgLClockEnds
import Derived.Test.YtodmhdfenpkbdaaGreatVgLClockHolds
import Derived.Test.YtodmhdfenpkbdaaGreatFs
set_option linter.unusedVariables false
set_option maxRecDepth 100000
open Go Go.Eng Go.Proofs
namespace Go.Proofs.YtodmhdfenpkbdaaGreat

section
variable {c : Ck} {t : Int × Int}
theorem failedK_len (ok : okK c) (h0 : 0 < c.ag.heap.length) : ((failedK c).ct.list.length : Int) = c.ct.list.length - 1 := by
  have hx := ok.topCert h0
  have : (getC c.ct (hp c.ag.heap 0).no).2 = 0 := by unfold getC; rw [if_pos ok.ct, if_neg (by omega)]
  show ((goneK c (hp c.ag.heap 0).no).ct.list.length : Int) = _
  rw [(goneK_ct c _).1]
  exact without_len this
theorem waitsK_iff (h0 : 0 < c.ag.heap.length) : waitsK c t = true ↔ leR (hp c.ag.heap 0).at_ t := by
  unfold waitsK
  rw [decide_eq_true h0, Bool.true_and, decide_eq_true_iff, cmpR_le]
theorem untilK_failed (ok : okK c) (ht : okR t) (hw : waitsK c t = true) : okK (failedK c) ∧ untilK (failedK c) t = 0 ∧ okR (hp c.ag.heap 0).at_ ∧ leR c.now (hp c.ag.heap 0).at_ ∧ leR (hp c.ag.heap 0).at_ t := by
  have h0 := waitsK_len hw
  obtain ⟨ps, e⟩ := ok.evs
  obtain ⟨o1, _, o2, o3⟩ := ok.failed h0 e
  have hl := (waitsK_iff h0).1 hw
  exact ⟨o1, untilK_zero.2 ⟨o1, ht, hl⟩, o3, o2, hl⟩
theorem failK_wait (hu : untilK c t = 0) : failK c t = if waitsK c t = true then (failedK c, hp c.ag.heap 0, (getD3 c.ct.list (atC c.ct (hp c.ag.heap 0).no)).2, 0) else (.zero, e0, (0, 0), 6) := by
  unfold failK; rw [if_pos hu]
theorem moveK_wait (hu : untilK c t = 0) : moveK c t = if waitsK c t = true then (.zero, 36) else ({ c with now := t }, 0) := by
  unfold moveK; rw [if_pos hu]
end

theorem clockEnds {H : Hp} {u : Cu} {c : Ck} {t : Int × Int} (r : RdK H u c) (ht : fitR t) (hn : fitR c.now) (hh : ∀ y ∈ c.ag.heap, fitR y.at_) : Qf Tryz.prog F.pelotonlaw09_ClockEnds #[ckV u c, raW t] H (.bool true) := by
  have lc := r.cl.len
  by_cases hg : (!greatK c && decide (okK c)) = true
  case neg =>
    refine pelotonlaw09_ClockEnds_vc ⟨_, law9fit r hn hh, 0, fun h => ?_, fun _ => ⟨_, law9alive, rfl, Hp.le_refl _⟩, fun h => ?_⟩
    · simp at h hg; exact absurd h.2 (hg h.1)
    · simp at h hg; exact absurd h.2 (hg h.1)
  have ok : okK c := by simp at hg; exact hg.2
  have fk := ok.fit
  have f1 := fk.ct
  refine pelotonlaw09_ClockEnds_vc ⟨_, law9fit r hn hh, _, fun _ => rUntil r fk ht, fun _ => ⟨_, law9alive, rfl, Hp.le_refl _⟩, fun h => ?_⟩
  have hu : untilK c t = 0 := by simp at h; exact h.2
  have ot := (untilK_zero.1 hu).2.1
  clear h hg
  refine ⟨fun i n1 n2 a1 n3 a2 v1 v2 v3 v4 v5 d H' => 0 ≤ i ∧ Hp.le H H' ∧ ∃ x : Ck, okK x ∧ untilK x t = 0 ∧ (x.ct.list.length : Int) = c.ct.list.length - i ∧ n1 = x.now.1 ∧ n2 = x.now.2 ∧ n3 = x.ct.next ∧ RdK H' ⟨a1, a2, v1, v2, v3, v4, v5, d⟩ x,
    fun i _ _ _ _ _ _ _ _ _ _ _ _ => (c.ct.list.length - i).toNat, ⟨Int.le_refl _, Hp.le_refl _, c, ok, hu, by omega, rfl, rfl, rfl, r⟩, fun i n1 n2 a1 n3 a2 v1 v2 v3 v4 v5 d H' ⟨i0, le, x, okx, hux, hl, e1, e2, e3, rx⟩ => ?_⟩
  subst e1; subst e2; subst e3
  refine ⟨fun hn => ?_, fun hn => ?_⟩
  · refine (clockFail (u := ⟨a1, a2, v1, v2, v3, v4, v5, d⟩) (t := t) rx okx.fit ht).mono fun v H20 ⟨w, hv, l20, r20⟩ => ⟨_, _, w.f, _, w.cl, w.u1, w.u2, w.u3, w.u4, w.u5, w.d, _, _, _, _, _, _, _, _, hv, ?_⟩
    rw [failK_wait hux] at r20 ⊢
    have m20 := Hp.le_trans le l20
    by_cases hw : waitsK x t = true
    · rw [if_pos hw] at r20 ⊢
      obtain ⟨o1, o2, o3, o4, o5⟩ := untilK_failed okx ot hw
      have h0 := waitsK_len hw
      have fl := failedK_len okx h0
      have nc : 0 < x.ct.list.length := by
        have := (atC_range (okx.topCert h0)).1
        have := okx.topCert h0
        omega
      refine ⟨fun h => by simp at h, fun _ => ⟨_, fun _ => refKCheck r20 o1.fit, _, fun _ => refCompareR o3 okx.now, _, fun _ => refCompareR o3 ot, fun h => ?_, fun _ => ⟨by unfold inI; omega, ⟨by omega, m20, failedK x, o1, o2, by omega, rfl, rfl, rfl, r20⟩, ?_⟩⟩⟩
      · rw [chkK_ok o1] at h
        simp only [Bool.or_eq_true, bne_self_eq_false, decide_eq_true_eq, Bool.false_eq_true, false_or] at h
        rcases h with h | h
        · exact absurd (cmpR_lt.1 h) (fun k => k o4)
        · have := cmpR_le.2 o5; omega
      · show (c.ct.list.length - (i + 1) : Int).toNat < (c.ct.list.length - i : Int).toNat
        omega
    · rw [if_neg hw] at r20 ⊢
      refine ⟨fun _ => ?_, fun h => by simp at h⟩
      refine (clockMove (u := ⟨a1, a2, v1, v2, v3, v4, v5, d⟩) (t := t) (rx.le l20) okx.fit ht).mono fun v H41 ⟨z, hv, l41, r41⟩ => ⟨_, _, z.f, _, z.cl, z.u1, z.u2, z.u3, z.u4, z.u5, z.d, _, hv, fun _ => by unfold inI; omega, _, fun _ => law9alive, ?_, Hp.le_trans m20 l41⟩
      rw [moveK_wait hux, if_neg hw]
      have la : a2.n = x.ct.list.length := rx.cl.len
      rw [la, lc]
      simp
      omega
  · have hn : ¬ i ≤ (u.cl.n : Int) := by simpa using hn
    omega

theorem trueC_when {f : List Pt} {x t : Int × Int} : trueC f t x = leads (gP f (posF f x.2)) (gP f (posF f x.1)) t := rfl
theorem holdsC_ok {ct : Ct} {f : List Pt} {t : Int × Int} (ok : okC ct) (hf : timedF f t = 0) (kn : knownC ct f = true) : holdsC ct f t = (thoseC ct (trueC f t), 0) := by
  unfold holdsC; rw [if_pos ok]; simp [hf, kn]
theorem clockHolds {H : Hp} {u : Cu} {c : Ck} {t : Int × Int} (r : RdK H u c) (ht : fitR t) (hn : fitR c.now) (hh : ∀ y ∈ c.ag.heap, fitR y.at_) : Qf Tryz.prog F.pelotonlaw09_ClockHolds #[ckV u c, raW t] H (.bool true) := by
  have lc := r.cl.len
  by_cases hg : (!greatK c && decide (okK c)) = true
  case neg =>
    refine pelotonlaw09_ClockHolds_vc ⟨_, law9fit r hn hh, 0, fun h => ?_, fun _ => ⟨_, law9alive, rfl, Hp.le_refl _⟩, fun h => ?_⟩
    · simp at h hg; exact absurd h.2 (hg h.1)
    · simp at h hg; exact absurd h.2 (hg h.1)
  have ok : okK c := by simp at hg; exact hg.2
  have fk := ok.fit
  have f1 := fk.ct
  refine pelotonlaw09_ClockHolds_vc ⟨_, law9fit r hn hh, _, fun _ => rUntil r fk ht, fun _ => ⟨_, law9alive, rfl, Hp.le_refl _⟩, fun h => ?_⟩
  have hu : untilK c t = 0 := by simp at h; exact h.2
  obtain ⟨_, ot, hle⟩ := untilK_zero.1 hu
  clear h hg
  have tf : ∀ {s : Int × Int}, okR s → timedF c.f s = 0 := fun hs => timedF_zero.2 ⟨ok.f, hs⟩
  refine (clockMove (t := t) r fk ht).mono fun v H5 ⟨w, hv, l5, r5⟩ => ⟨_, _, w.f, _, w.cl, w.u1, w.u2, w.u3, w.u4, w.u5, w.d, _, hv, ?_⟩
  refine (certHolds (c := c.ct) (f := c.f) (t := t) (r.le l5).cl (r.le l5).f ht).mono fun v H19 ⟨a, hv, l19, ma⟩ => ⟨a, _, hv, ?_⟩
  rw [holdsC_ok ok.ct (tf ot) ok.known] at ma ⊢
  have m19 := Hp.le_trans l5 l19
  refine ⟨fun h => by simp at h, fun _ => ?_⟩
  have hm := moveK_wait hu
  by_cases hw : waitsK c t = true
  · rw [if_pos hw] at hm
    rw [hm]
    refine ⟨fun _ => ?_, fun h => by simp at h⟩
    have h0 := waitsK_len hw
    obtain ⟨o1, o2, o3, o4, o5⟩ := untilK_failed ok ot hw
    have nk : nextK c = (hp c.ag.heap 0, 0) := by unfold nextK; rw [if_pos ok, if_neg (by omega)]
    refine ⟨_, _, _, _, _, _, clockNext (r.le m19) fk, ?_⟩
    rw [nk]
    refine (certHolds (c := c.ct) (f := c.f) (t := (hp c.ag.heap 0).at_) (r.le m19).cl (r.le m19).f o3.fit).mono fun v H29 ⟨b, hv, l29, mb⟩ => ⟨b, _, hv, _, fun _ => refCompareR o3 ot, _, fun _ => law9alive, ?_, Hp.le_trans m19 l29⟩
    rw [holdsC_ok ok.ct (tf o3) ok.known] at mb ⊢
    have lb : b.n = (thoseC c.ct (trueC c.f (hp c.ag.heap 0).at_)).length := mb.rdI.len
    have hlt : b.n < u.cl.n := by
      rw [lb, lc]
      unfold thoseC
      rw [List.length_map]
      obtain ⟨ps, e⟩ := ok.evs
      obtain ⟨h, hm', h1, h2⟩ := e.cert (e.heap.mem_iff.1 (hp_mem h0))
      obtain ⟨p1, p2, p3⟩ := ok.points hm'
      have hf := fail_at p1 p2 p3 h2
      refine Nat.lt_of_le_of_ne (List.length_filter_le _ _) fun he => ?_
      have := (List.length_filter_eq_length_iff.1 he) h hm'
      rw [trueC_when, hf] at this
      cases this
    have := cmpR_le.2 o5
    simp [hlt]
    exact this
  · rw [if_neg hw] at hm
    have hw' : waitsK c t = false := by simpa using hw
    rw [hm] at r5 ⊢
    refine ⟨fun h => by simp at h, fun _ => ?_⟩
    obtain ⟨ps, e⟩ := ok.evs
    have om := (okK.move hu hw' e).1
    refine ⟨_, fun _ => refKCheck (r5.le l19) om.fit, _, fun _ => rSameC (c := c.ct) (d := c.ct) (r5.le l19).cl (r.le m19).cl (by omega), _, fun _ => law9alive, ?_, m19⟩
    have la : a.n = u.cl.n := by
      have : a.n = (thoseC c.ct (trueC c.f t)).length := ma.rdI.len
      rw [this, lc]
      unfold thoseC
      rw [List.length_map, List.length_filter_eq_length_iff.2]
      intro h hm'
      obtain ⟨p1, p2, p3⟩ := ok.points hm'
      rw [trueC_when]
      cases hwn : whenM c.f h.2 c.now with
      | none => exact (fail_never p3 ok.now ot hwn hle).1
      | some s =>
        obtain ⟨x, hx, _, hs⟩ := e.of_cert hm' hwn
        have hxh := e.mem_heap hx
        have h0 : 0 < c.ag.heap.length := List.length_pos_of_mem hxh
        have k1 := leR_of_less (ok.top hxh)
        have k2 : ¬ leR (hp c.ag.heap 0).at_ t := fun k => hw ((waitsK_iff h0).2 k)
        have o1 : okR (hp c.ag.heap 0).at_ := (ok.ag.each _ (hp_mem h0)).1
        refine fail_before p1 p2 p3 ok.now hwn hle fun k => k2 (leR_trans o1 (ok.ag.each _ hxh).1 ot k1 ?_)
        rw [hs]; exact k
    rw [chkK_ok om, la]
    simp
end Go.Proofs.YtodmhdfenpkbdaaGreat
