/- The engine, parts LH, LI, put together. Conditions: none. -/
import Derived.Test.YtodmhdfenpkbdaaGreatLG
import Derived.Test.YtodmhdfenpkbdaaGreatVgH09
import Derived.Test.YtodmhdfenpkbdaaGreatFs
import Derived.Test.YtodmhdfenpkbdaaGreatVgLClockEnds
import Derived.Test.YtodmhdfenpkbdaaGreatVgLClockHolds
set_option linter.unusedVariables false
section
/- Clocks: the law's own helpers, and the chapter's examples. Conditions: none. -/
set_option maxRecDepth 100000
open Go Go.Eng Go.Proofs
namespace Go.Proofs.YtodmhdfenpkbdaaGreat

theorem law9at {H : Hp} {n : Int} : Qf Tryz.prog F.pelotonlaw09_at #[.int .i64 n] H (sI2 n 1) := pelotonlaw09_at_vc ⟨rfl, Hp.le_refl _⟩
def gF (b : Int) : List Pt := [(1, 0, 2), (2, 6, -1), (5, 0, b)]
theorem law9given {H : Hp} {b : Int} : Go.Eng.Fn Tryz.prog F.pelotonlaw09_given #[.int .i64 b] H fun v H' => ∃ u : Slc, v = vFd u ∧ Hp.le H H' ∧ Rd 3 fD H' u (gF b) :=
  pelotonlaw09_given_vc fun b1 H2 hb hH => ⟨⟨some ⟨b1, 0, none⟩, 3, 3⟩, rfl, Hp.le_new (Hp.le_refl _) hb hH, rdPts hH rfl rfl⟩

def certL (c : Ck) (l : List (Int × Int)) : Ck := l.foldl (fun c x => if (certifyK c x).2.2 = 0 then (certifyK c x).1 else c) c
def certM (f : List Pt) (t : Int × Int) (l : List (Int × Int)) : Ck × Bool := if (newK f t).2 = 0 then (certL (newK f t).1 l, chkK (certL (newK f t).1 l) == 0) else ((newK f t).1, false)
theorem certL_fit {c : Ck} (fk : fitK c) : ∀ l : List (Int × Int), fitK (certL c l) := by
  intro l
  induction l generalizing c with
  | nil => exact fk
  | cons x l ih =>
    show fitK (certL (if (certifyK c x).2.2 = 0 then (certifyK c x).1 else c) l)
    refine ih ?_
    split
    · exact certifyK_fit c x
    · exact fk
theorem certL_snoc (c : Ck) (l : List (Int × Int)) (x : Int × Int) : certL c (l ++ [x]) = if (certifyK (certL c l) x).2.2 = 0 then (certifyK (certL c l) x).1 else certL c l := by
  unfold certL; rw [List.foldl_append]; rfl
theorem law9certified {H : Hp} {w s : Slc} {f : List Pt} {t : Int × Int} {l : List (Int × Int)} (hf : Rd 3 fD H w f) (ht : fitR t) (hl : Rd 2 fH H s l) (ll : l.length ≤ 1000000) :
    Go.Eng.Fn Tryz.prog F.pelotonlaw09_certified #[vFd w, raW t, s.v] H fun v H' => ∃ u : Cu, v = .tuple #[ckV u (certM f t l).1, .bool (certM f t l).2] ∧ Hp.le H H' ∧ RdK H' u (certM f t l).1 ∧ fitK (certM f t l).1 := by
  have ls := hl.len
  refine pelotonlaw09_certified_vc ((clockNew hf ht).mono fun v H2 ⟨u, hv, l2, r2⟩ => ⟨_, _, u.f, _, u.cl, u.u1, u.u2, u.u3, u.u4, u.u5, u.d, _, hv, fun he => ?_, fun he => ?_⟩)
  · have he : (newK f t).2 ≠ 0 := by simpa using he
    unfold certM; rw [if_neg he]
    exact ⟨u, rfl, l2, r2, newK_fit f t⟩
  have he : (newK f t).2 = 0 := by simpa using he
  unfold certM; rw [if_pos he]
  refine ⟨fun i n1 n2 a1 n3 a2 v1 v2 v3 v4 v5 d H' => 0 ≤ i ∧ i ≤ l.length ∧ Hp.le H H' ∧ n1 = (certL (newK f t).1 (l.take i.toNat)).now.1 ∧ n2 = (certL (newK f t).1 (l.take i.toNat)).now.2 ∧ n3 = (certL (newK f t).1 (l.take i.toNat)).ct.next ∧ RdK H' ⟨a1, a2, v1, v2, v3, v4, v5, d⟩ (certL (newK f t).1 (l.take i.toNat)),
    fun i _ _ _ _ _ _ _ _ _ _ _ _ => (l.length - i).toNat, ⟨Int.le_refl _, by omega, l2, rfl, rfl, rfl, r2⟩, fun i n1 n2 a1 n3 a2 v1 v2 v3 v4 v5 d H' ⟨i0, i1, le, e1, e2, e3, r⟩ => ?_⟩
  subst e1; subst e2; subst e3
  have fk := certL_fit (newK_fit f t) (l.take i.toNat)
  refine ⟨fun hn => ?_, fun hn => ?_⟩
  · have hn : i < l.length := by have : i < s.n := by simpa using hn
                                 omega
    have hg := getX (d := ((0 : Int), (0 : Int))) i0 hn
    have g := (hl.le le).gH i0 hn
    refine ⟨hl.inS i0 hn, _, _, g, (clockCertify (u := ⟨a1, a2, v1, v2, v3, v4, v5, d⟩) (x := l.getD i.toNat (0, 0)) r fk).mono fun v H33 ⟨z, hv, l33, r33⟩ => ⟨l33, _, _, z.f, _, z.cl, z.u1, z.u2, z.u3, z.u4, z.u5, z.d, _, _, hv, ?_⟩⟩
    generalize l.getD i.toNat (0, 0) = x at hg r33 ⊢
    have es : certL (newK f t).1 (l.take (i + 1).toNat) = if (certifyK (certL (newK f t).1 (l.take i.toNat)) x).2.2 = 0 then (certifyK (certL (newK f t).1 (l.take i.toNat)) x).1 else certL (newK f t).1 (l.take i.toNat) := by
      rw [show (i + 1).toNat = i.toNat + 1 by omega, take_succ hg, certL_snoc]
    refine ⟨fun hz => ?_, fun hz => ?_⟩
    · have hz : (certifyK (certL (newK f t).1 (l.take i.toNat)) x).2.2 = 0 := by simpa using hz
      refine ⟨by unfold inI; omega, ⟨by omega, by omega, Hp.le_trans le l33, ?_, ?_, ?_, ?_⟩, (by show (l.length - (i + 1) : Int).toNat < (l.length - i : Int).toNat; omega)⟩
      · rw [es, if_pos hz]
      · rw [es, if_pos hz]
      · rw [es, if_pos hz]
      · rw [es, if_pos hz]; exact r33
    · have hz : ¬ (certifyK (certL (newK f t).1 (l.take i.toNat)) x).2.2 = 0 := by simpa using hz
      refine ⟨by unfold inI; omega, ⟨by omega, by omega, Hp.le_trans le l33, ?_, ?_, ?_, ?_⟩, (by show (l.length - (i + 1) : Int).toNat < (l.length - i : Int).toNat; omega)⟩
      · rw [es, if_neg hz]
      · rw [es, if_neg hz]
      · rw [es, if_neg hz]
      · rw [es, if_neg hz]; exact r.le l33
  · have hi : i = l.length := by have : ¬ i < s.n := by simpa using hn
                                 omega
    rw [hi, Int.toNat_natCast, List.take_length] at r fk ⊢
    generalize certL (newK f t).1 l = cc at r fk ⊢
    have hk := refKCheck r fk
    generalize chkK cc = z at hk ⊢
    exact ⟨_, hk, ⟨a1, a2, v1, v2, v3, v4, v5, d⟩, rfl, le, r, fk⟩

theorem fit41 (n : Int) (h : inI n) : fitR (n, 1) := ⟨h, by show inI 1; unfold inI; omega⟩
theorem law9alive {H : Hp} : Qf Tryz.prog F.pelotonlaw09_alive #[] H (.bool true) := by
  refine pelotonlaw09_alive_vc (law9given.mono fun v H2 ⟨w1, hv, l2, r1⟩ => ⟨w1, hv, _, _, law9at, fun b6 H7 hb hH => ?_⟩)
  have l7 : Hp.le H2 H7 := Hp.le_new (Hp.le_refl _) hb hH
  have rl : Rd 2 fH H7 ⟨some ⟨b6, 0, none⟩, 3, 3⟩ [(1, 2), (5, 2), (5, 1)] := rdConst (k := 2) (f := fH) (fun _ => rfl) hH rfl rfl
  refine (law9certified (r1.le l7) (fit41 1 (by unfold inI; omega)) rl (by simp)).mono fun v H9 ⟨w2, hv, l9, r2, k2⟩ => ⟨_, _, w2.f, _, w2.cl, w2.u1, w2.u2, w2.u3, w2.u4, w2.u5, w2.d, _, hv, _, _, law9at, ?_⟩
  generalize e0 : certM (gF 0) (1, 1) [(1, 2), (5, 2), (5, 1)] = c0 at r2 k2 ⊢
  refine (clockFail (t := (4, 1)) r2 k2 (fit41 4 (by unfold inI; omega))).mono fun v H25 ⟨w3, hv, l25, r3⟩ => ⟨l25, _, _, w3.f, _, w3.cl, w3.u1, w3.u2, w3.u3, w3.u4, w3.u5, w3.d, _, _, _, _, _, _, _, _, hv, _, _, law9at, ?_⟩
  have k3 := failK_fit c0.1 (4, 1)
  refine (clockFail (t := (4, 1)) r3 k3 (fit41 4 (by unfold inI; omega))).mono fun v H48 ⟨w4, hv, l48, r4⟩ => ⟨l48, _, _, w4.f, _, w4.cl, w4.u1, w4.u2, w4.u3, w4.u4, w4.u5, w4.d, _, _, _, _, _, _, _, _, hv, _, _, law9at, ?_⟩
  refine (clockMove (t := (6, 1)) (r3.le l48) k3 (fit41 6 (by unfold inI; omega))).mono fun v H71 ⟨w5, hv, l71, r5⟩ => ⟨l71, _, _, w5.f, _, w5.cl, w5.u1, w5.u2, w5.u3, w5.u4, w5.u5, w5.d, _, hv, ?_⟩
  refine law9given.mono fun v H85 ⟨w6, hv, l85, r6⟩ => ⟨l85, w6, hv, ?_⟩
  refine (clockAlter (((r3.le l48).le l71).le l85) k3 r6).mono fun v H88 ⟨w7, hv, l88, r7⟩ => ⟨l88, _, _, w7.f, _, w7.cl, w7.u1, w7.u2, w7.u3, w7.u4, w7.u5, w7.d, _, hv, ?_⟩
  refine ⟨_, _, _, _, _, _, clockNext r7 (alterK_fit _ _), _, _, fun _ => law9at, _, _, fun _ => law9at, _, _, fun _ => law9at, ?_, ?_⟩
  · rw [r2.due.len]
    subst e0
    kernel_rfl
  · exact Hp.le_trans l2 (Hp.le_trans l7 (Hp.le_trans l9 (Hp.le_trans l25 (Hp.le_trans l48 (Hp.le_trans l71 (Hp.le_trans l85 l88))))))

theorem law9fit {H : Hp} {u : Cu} {c : Ck} (r : RdK H u c) (hn : fitR c.now) (hh : ∀ y ∈ c.ag.heap, fitR y.at_) : Qf Tryz.prog F.pelotonlaw09_fit #[ckV u c] H (.bool (!greatK c && decide (okK c))) := by
  by_cases hg : greatK c = true
  · refine pelotonlaw09_fit_vc ⟨_, refKGreat r, 0, fun h => (by rw [hg] at h; cases h), ?_, Hp.le_refl _⟩
    rw [hg]; rfl
  · have hg : greatK c = false := by simpa using hg
    refine pelotonlaw09_fit_vc ⟨_, refKGreat r, _, fun _ => refKCheck r (fitK_of hn hg hh), ?_, Hp.le_refl _⟩
    rw [hg]
    by_cases ok : okK c
    · rw [chkK_ok ok, decide_eq_true ok]; rfl
    · rw [chkK_bad ok, decide_eq_false ok]; rfl
end Go.Proofs.YtodmhdfenpkbdaaGreat
end
section
/- The laws ClockEnds, ClockHolds. Conditions: none. -/
set_option maxRecDepth 100000
open Go Go.Eng Go.Proofs
namespace Go.Proofs.YtodmhdfenpkbdaaGreat

section
variable {c : Ck} {t : Int × Int}
theorem failedK_len (ok : okK c) (h0 : 0 < c.ag.heap.length) : ((failedK c).ct.list.length : Int) = c.ct.list.length - 1 := by
  have hx := ok.topCert h0
  have : (getC c.ct (hp c.ag.heap 0).no).2 = 0 := by unfold getC; rw [if_pos ok.ct, if_neg (by omega)]
  show ((goneK c (hp c.ag.heap 0).no).ct.list.length : Int) = _
  rw [(goneK_ct c _).1]
  exact without_len this
theorem waitsK_iff (h0 : 0 < c.ag.heap.length) : waitsK c t = true ↔ leR (hp c.ag.heap 0).at_ t := by
  unfold waitsK
  rw [decide_eq_true h0, Bool.true_and, decide_eq_true_iff, cmpR_le]
theorem untilK_failed (ok : okK c) (ht : okR t) (hw : waitsK c t = true) : okK (failedK c) ∧ untilK (failedK c) t = 0 ∧ okR (hp c.ag.heap 0).at_ ∧ leR c.now (hp c.ag.heap 0).at_ ∧ leR (hp c.ag.heap 0).at_ t := by
  have h0 := waitsK_len hw
  obtain ⟨ps, e⟩ := ok.evs
  obtain ⟨o1, _, o2, o3⟩ := ok.failed h0 e
  have hl := (waitsK_iff h0).1 hw
  exact ⟨o1, untilK_zero.2 ⟨o1, ht, hl⟩, o3, o2, hl⟩
theorem failK_wait (hu : untilK c t = 0) : failK c t = if waitsK c t = true then (failedK c, hp c.ag.heap 0, (getD3 c.ct.list (atC c.ct (hp c.ag.heap 0).no)).2, 0) else (.zero, e0, (0, 0), 6) := by
  unfold failK; rw [if_pos hu]
theorem moveK_wait (hu : untilK c t = 0) : moveK c t = if waitsK c t = true then (.zero, 36) else ({ c with now := t }, 0) := by
  unfold moveK; rw [if_pos hu]
end

theorem clockEnds {H : Hp} {u : Cu} {c : Ck} {t : Int × Int} (r : RdK H u c) (ht : fitR t) (hn : fitR c.now) (hh : ∀ y ∈ c.ag.heap, fitR y.at_) : Qf Tryz.prog F.pelotonlaw09_ClockEnds #[ckV u c, raW t] H (.bool true) := by
  have lc := r.cl.len
  by_cases hg : (!greatK c && decide (okK c)) = true
  case neg =>
    refine pelotonlaw09_ClockEnds_vc ⟨_, law9fit r hn hh, 0, fun h => ?_, fun _ => ⟨_, law9alive, rfl, Hp.le_refl _⟩, fun h => ?_⟩
    · simp at h hg; exact absurd h.2 (hg h.1)
    · simp at h hg; exact absurd h.2 (hg h.1)
  have ok : okK c := by simp at hg; exact hg.2
  have fk := ok.fit
  have f1 := fk.ct
  refine pelotonlaw09_ClockEnds_vc ⟨_, law9fit r hn hh, _, fun _ => rUntil r fk ht, fun _ => ⟨_, law9alive, rfl, Hp.le_refl _⟩, fun h => ?_⟩
  have hu : untilK c t = 0 := by simp at h; exact h.2
  have ot := (untilK_zero.1 hu).2.1
  clear h hg
  refine ⟨fun i n1 n2 a1 n3 a2 v1 v2 v3 v4 v5 d H' => 0 ≤ i ∧ Hp.le H H' ∧ ∃ x : Ck, okK x ∧ untilK x t = 0 ∧ (x.ct.list.length : Int) = c.ct.list.length - i ∧ n1 = x.now.1 ∧ n2 = x.now.2 ∧ n3 = x.ct.next ∧ RdK H' ⟨a1, a2, v1, v2, v3, v4, v5, d⟩ x,
    fun i _ _ _ _ _ _ _ _ _ _ _ _ => (c.ct.list.length - i).toNat, ⟨Int.le_refl _, Hp.le_refl _, c, ok, hu, by omega, rfl, rfl, rfl, r⟩, fun i n1 n2 a1 n3 a2 v1 v2 v3 v4 v5 d H' ⟨i0, le, x, okx, hux, hl, e1, e2, e3, rx⟩ => ?_⟩
  subst e1; subst e2; subst e3
  refine ⟨fun hn => ?_, fun hn => ?_⟩
  · refine (clockFail (u := ⟨a1, a2, v1, v2, v3, v4, v5, d⟩) (t := t) rx okx.fit ht).mono fun v H20 ⟨w, hv, l20, r20⟩ => ⟨_, _, w.f, _, w.cl, w.u1, w.u2, w.u3, w.u4, w.u5, w.d, _, _, _, _, _, _, _, _, hv, ?_⟩
    rw [failK_wait hux] at r20 ⊢
    have m20 := Hp.le_trans le l20
    by_cases hw : waitsK x t = true
    · rw [if_pos hw] at r20 ⊢
      obtain ⟨o1, o2, o3, o4, o5⟩ := untilK_failed okx ot hw
      have h0 := waitsK_len hw
      have fl := failedK_len okx h0
      have nc : 0 < x.ct.list.length := by
        have := (atC_range (okx.topCert h0)).1
        have := okx.topCert h0
        omega
      refine ⟨fun h => by simp at h, fun _ => ⟨_, fun _ => refKCheck r20 o1.fit, _, fun _ => refCompareR o3 okx.now, _, fun _ => refCompareR o3 ot, fun h => ?_, fun _ => ⟨by unfold inI; omega, ⟨by omega, m20, failedK x, o1, o2, by omega, rfl, rfl, rfl, r20⟩, ?_⟩⟩⟩
      · rw [chkK_ok o1] at h
        simp only [Bool.or_eq_true, bne_self_eq_false, decide_eq_true_eq, Bool.false_eq_true, false_or] at h
        rcases h with h | h
        · exact absurd (cmpR_lt.1 h) (fun k => k o4)
        · have := cmpR_le.2 o5; omega
      · show (c.ct.list.length - (i + 1) : Int).toNat < (c.ct.list.length - i : Int).toNat
        omega
    · rw [if_neg hw] at r20 ⊢
      refine ⟨fun _ => ?_, fun h => by simp at h⟩
      refine (clockMove (u := ⟨a1, a2, v1, v2, v3, v4, v5, d⟩) (t := t) (rx.le l20) okx.fit ht).mono fun v H41 ⟨z, hv, l41, r41⟩ => ⟨_, _, z.f, _, z.cl, z.u1, z.u2, z.u3, z.u4, z.u5, z.d, _, hv, fun _ => by unfold inI; omega, _, fun _ => law9alive, ?_, Hp.le_trans m20 l41⟩
      rw [moveK_wait hux, if_neg hw]
      have la : a2.n = x.ct.list.length := rx.cl.len
      rw [la, lc]
      simp
      omega
  · have hn : ¬ i ≤ (u.cl.n : Int) := by simpa using hn
    omega

theorem trueC_when {f : List Pt} {x t : Int × Int} : trueC f t x = leads (gP f (posF f x.2)) (gP f (posF f x.1)) t := rfl
theorem holdsC_ok {ct : Ct} {f : List Pt} {t : Int × Int} (ok : okC ct) (hf : timedF f t = 0) (kn : knownC ct f = true) : holdsC ct f t = (thoseC ct (trueC f t), 0) := by
  unfold holdsC; rw [if_pos ok]; simp [hf, kn]
theorem clockHolds {H : Hp} {u : Cu} {c : Ck} {t : Int × Int} (r : RdK H u c) (ht : fitR t) (hn : fitR c.now) (hh : ∀ y ∈ c.ag.heap, fitR y.at_) : Qf Tryz.prog F.pelotonlaw09_ClockHolds #[ckV u c, raW t] H (.bool true) := by
  have lc := r.cl.len
  by_cases hg : (!greatK c && decide (okK c)) = true
  case neg =>
    refine pelotonlaw09_ClockHolds_vc ⟨_, law9fit r hn hh, 0, fun h => ?_, fun _ => ⟨_, law9alive, rfl, Hp.le_refl _⟩, fun h => ?_⟩
    · simp at h hg; exact absurd h.2 (hg h.1)
    · simp at h hg; exact absurd h.2 (hg h.1)
  have ok : okK c := by simp at hg; exact hg.2
  have fk := ok.fit
  have f1 := fk.ct
  refine pelotonlaw09_ClockHolds_vc ⟨_, law9fit r hn hh, _, fun _ => rUntil r fk ht, fun _ => ⟨_, law9alive, rfl, Hp.le_refl _⟩, fun h => ?_⟩
  have hu : untilK c t = 0 := by simp at h; exact h.2
  obtain ⟨_, ot, hle⟩ := untilK_zero.1 hu
  clear h hg
  have tf : ∀ {s : Int × Int}, okR s → timedF c.f s = 0 := fun hs => timedF_zero.2 ⟨ok.f, hs⟩
  refine (clockMove (t := t) r fk ht).mono fun v H5 ⟨w, hv, l5, r5⟩ => ⟨_, _, w.f, _, w.cl, w.u1, w.u2, w.u3, w.u4, w.u5, w.d, _, hv, ?_⟩
  refine (certHolds (c := c.ct) (f := c.f) (t := t) (r.le l5).cl (r.le l5).f ht).mono fun v H19 ⟨a, hv, l19, ma⟩ => ⟨a, _, hv, ?_⟩
  rw [holdsC_ok ok.ct (tf ot) ok.known] at ma ⊢
  have m19 := Hp.le_trans l5 l19
  refine ⟨fun h => by simp at h, fun _ => ?_⟩
  have hm := moveK_wait hu
  by_cases hw : waitsK c t = true
  · rw [if_pos hw] at hm
    rw [hm]
    refine ⟨fun _ => ?_, fun h => by simp at h⟩
    have h0 := waitsK_len hw
    obtain ⟨o1, o2, o3, o4, o5⟩ := untilK_failed ok ot hw
    have nk : nextK c = (hp c.ag.heap 0, 0) := by unfold nextK; rw [if_pos ok, if_neg (by omega)]
    refine ⟨_, _, _, _, _, _, clockNext (r.le m19) fk, ?_⟩
    rw [nk]
    refine (certHolds (c := c.ct) (f := c.f) (t := (hp c.ag.heap 0).at_) (r.le m19).cl (r.le m19).f o3.fit).mono fun v H29 ⟨b, hv, l29, mb⟩ => ⟨b, _, hv, _, fun _ => refCompareR o3 ot, _, fun _ => law9alive, ?_, Hp.le_trans m19 l29⟩
    rw [holdsC_ok ok.ct (tf o3) ok.known] at mb ⊢
    have lb : b.n = (thoseC c.ct (trueC c.f (hp c.ag.heap 0).at_)).length := mb.rdI.len
    have hlt : b.n < u.cl.n := by
      rw [lb, lc]
      unfold thoseC
      rw [List.length_map]
      obtain ⟨ps, e⟩ := ok.evs
      obtain ⟨h, hm', h1, h2⟩ := e.cert (e.heap.mem_iff.1 (hp_mem h0))
      obtain ⟨p1, p2, p3⟩ := ok.points hm'
      have hf := fail_at p1 p2 p3 h2
      refine Nat.lt_of_le_of_ne (List.length_filter_le _ _) fun he => ?_
      have := (List.length_filter_eq_length_iff.1 he) h hm'
      rw [trueC_when, hf] at this
      cases this
    have := cmpR_le.2 o5
    simp [hlt]
    exact this
  · rw [if_neg hw] at hm
    have hw' : waitsK c t = false := by simpa using hw
    rw [hm] at r5 ⊢
    refine ⟨fun h => by simp at h, fun _ => ?_⟩
    obtain ⟨ps, e⟩ := ok.evs
    have om := (okK.move hu hw' e).1
    refine ⟨_, fun _ => refKCheck (r5.le l19) om.fit, _, fun _ => rSameC (c := c.ct) (d := c.ct) (r5.le l19).cl (r.le m19).cl (by omega), _, fun _ => law9alive, ?_, m19⟩
    have la : a.n = u.cl.n := by
      have : a.n = (thoseC c.ct (trueC c.f t)).length := ma.rdI.len
      rw [this, lc]
      unfold thoseC
      rw [List.length_map, List.length_filter_eq_length_iff.2]
      intro h hm'
      obtain ⟨p1, p2, p3⟩ := ok.points hm'
      rw [trueC_when]
      cases hwn : whenM c.f h.2 c.now with
      | none => exact (fail_never p3 ok.now ot hwn hle).1
      | some s =>
        obtain ⟨x, hx, _, hs⟩ := e.of_cert hm' hwn
        have hxh := e.mem_heap hx
        have h0 : 0 < c.ag.heap.length := List.length_pos_of_mem hxh
        have k1 := leR_of_less (ok.top hxh)
        have k2 : ¬ leR (hp c.ag.heap 0).at_ t := fun k => hw ((waitsK_iff h0).2 k)
        have o1 : okR (hp c.ag.heap 0).at_ := (ok.ag.each _ (hp_mem h0)).1
        refine fail_before p1 p2 p3 ok.now hwn hle fun k => k2 (leR_trans o1 (ok.ag.each _ hxh).1 ot k1 ?_)
        rw [hs]; exact k
    rw [chkK_ok om, la]
    simp
end Go.Proofs.YtodmhdfenpkbdaaGreat
end
