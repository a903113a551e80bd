/- The engine, parts LB, LC, put together. Conditions: none. -/
import Derived.Test.YtodmhdfenpkbdaaGreatPL3
import Derived.Test.YtodmhdfenpkbdaaGreatVgClock
import Derived.Test.YtodmhdfenpkbdaaGreatFs
set_option linter.unusedVariables false
section
/- Clocks: retiring, failing, moving. Conditions: none. -/
set_option maxRecDepth 100000
open Go Go.Eng Go.Proofs
namespace Go.Proofs.YtodmhdfenpkbdaaGreat

theorem okK.dueInc {c : Ck} (ok : okK c) : (c.due.map (·.1)).Pairwise (· < ·) := by
  obtain ⟨ps, e⟩ := ok.evs
  have := e.inc ok.ct
  rw [e.due, List.map_map]
  exact this
theorem clockPlace {H : Hp} {u : Cu} {c : Ck} {n : Int} (r : RdK H u c) (ok : okK c) : ∃ i b, Qf Tryz.prog F.clock_place #[u.d.v, .int .i64 n] H (.tuple #[.int .i64 i, .bool b]) ∧ (b = true → 0 ≤ posD c n ∧ i = posD c n) ∧ (b = false → posD c n < 0) := by
  have hl := ok.fit.due
  refine ⟨_, _, clock_place_vc ⟨_, _, bsearch_due r.due ok.dueInc (by omega), rfl, Hp.le_refl _⟩, fun hb => ?_, fun hb => ?_⟩
  · rcases pos_dich ok.dueInc n with ⟨h1, h2⟩ | ⟨h1, h2⟩
    · have e : posD c n = posI (c.due.map (·.1)) n := h2
      exact ⟨by omega, e.symm⟩
    · rw [h1] at hb; cases hb
  · rcases pos_dich ok.dueInc n with ⟨h1, h2⟩ | ⟨h1, h2⟩
    · rw [h1] at hb; cases hb
    · have e : posD c n = -1 := h2
      omega

def dropK (c : Ck) (n : Int) : Ck × (Int × Int) × Int := if atC c.ct n < 0 then (.zero, (0, 0), 6) else (goneK c n, (getD3 c.ct.list (atC c.ct n)).2, 0)
theorem okK.dueCut {c : Ck} (ok : okK c) {n : Int} (h : 0 ≤ posD c n) : c.due.take (posD c n).toNat ++ c.due.drop ((posD c n).toNat + 1) = c.due.filter fun d => d.1 != n := by
  obtain ⟨d, h1, h2, _, _⟩ := idx_in h
  have hp := List.pairwise_map.1 ok.dueInc
  have e := filter_erase hp h1
  have : d.1 = n := by simpa using h2
  rw [this] at e
  exact e
theorem removeA_at {a : Ag} {x : Ev} (ok : okA a) (hx : x ∈ a.heap) : removeA a x.h = (removedA a x.h, x, 0) := by
  unfold removeA; rw [(find_eq ok hx).1]; rfl

theorem clockDrop {H : Hp} {u : Cu} {c : Ck} {n : Int} (r : RdK H u c) (ok : okK c) :
    Go.Eng.Fn Tryz.prog F.clock_drop #[ckV u c, .int .i64 n] H fun v H' => ∃ w : Cu, v = .tuple #[ckV w (dropK c n).1, raW (dropK c n).2.1, .int .i64 (dropK c n).2.2] ∧ Hp.le H H' ∧ RdK H' w (dropK c n).1 := by
  have fk := ok.fit
  have hr : removeC c.ct n = if atC c.ct n < 0 then (.zero, (0, 0), 6) else (withoutC c.ct n, (getD3 c.ct.list (atC c.ct n)).2, 0) := by
    unfold removeC getC
    rw [if_pos ok.ct]
    split <;> rfl
  refine clock_drop_vc ((certRemove (c := c.ct) (n := n) r.cl).mono fun v H2 ⟨a, hv, nc⟩ => ⟨_, a, _, _, _, hv, ?_⟩)
  unfold dropK
  by_cases hat : atC c.ct n < 0
  · rw [hr, if_pos hat] at nc ⊢
    rw [if_pos hat]
    exact ⟨fun _ => ⟨zu, rfl, nc.le, RdK.zero⟩, fun h => by simp at h⟩
  rw [hr, if_neg hat] at nc ⊢
  rw [if_neg hat]
  refine ⟨fun h => by simp at h, fun _ => ?_⟩
  have r2 := r.le nc.le
  refine (clockTwin r2 fk).mono fun v H9 ⟨w, hv, l9, rw9, m9, s9, _⟩ => ⟨_, _, w.f, _, w.cl, w.u1, w.u2, w.u3, w.u4, w.u5, w.d, hv, ?_⟩
  have r9 := r2.le l9
  obtain ⟨i, b, hq, hb1, hb2⟩ := clockPlace (n := n) r9 ok
  refine ⟨i, b, hq, fun hb => ?_, fun hb => ?_⟩
  · obtain ⟨h0, rfl⟩ := hb1 hb
    obtain ⟨ps, e⟩ := ok.evs
    obtain ⟨x, hx, hxn, hg, hlt⟩ := e.pos.1 h0
    have hxh := e.mem_heap hx
    have hh : (c.due.getD (posD c n).toNat (0, 0, 0)).2 = x.h := by
      have : getD3 c.due (posD c n) = nh x := hg
      unfold getD3 at this; rw [this]; rfl
    have g2 := r9.due.gD2 h0 hlt
    rw [hh] at g2
    have hrem := removeA_at ok.ag hxh
    refine ⟨r9.due.inS h0 hlt, _, _, g2, (agendaRemove (h := x.h) r9.ag fk.ag).mono fun v H26 ⟨v1, v2, v3, v4, v5, hv, na⟩ => ⟨na.le, v1, v2, v3, v4, v5, _, _, _, _, _, _, hv, ?_⟩⟩
    rw [hrem] at na ⊢
    refine ⟨fun h => by simp at h, fun _ => ⟨by have := fk.due; unfold inI; omega, ?_⟩⟩
    refine (delete_due (Hp.le_trans l9 na.le) (m9.le na.le) h0 hlt).mono fun v H39 ⟨d, hv, l39, md, cd⟩ => ⟨d, hv, ⟨w.f, a, v1, v2, v3, v4, v5, d⟩, ?_, Hp.le_trans nc.le l39, ?_⟩
    · unfold goneK; rw [if_pos h0]
    · have eg : goneK c n = { c with ct := withoutC c.ct n, ag := removedA c.ag x.h, due := c.due.filter fun d => d.1 != n } := by
        unfold goneK; rw [if_pos h0, hg]; rfl
      rw [eg]
      refine ⟨(rw9.f.le na.le).chg cd s9, ((nc.rd.le l9).le na.le).chg cd (Sep.of nc.list.isOld m9.isNew), RdA.chgN na cd m9.isOld, ?_⟩
      have := md.rdD
      rw [ok.dueCut h0] at this
      exact this
  · have hb := hb2 hb
    have eg : goneK c n = { c with ct := withoutC c.ct n } := by unfold goneK; rw [if_neg (by omega)]
    rw [eg]
    exact ⟨⟨w.f, a, w.u1, w.u2, w.u3, w.u4, w.u5, w.d⟩, rfl, Hp.le_trans nc.le l9, rw9.f, nc.rd.le l9, rw9.ag, rw9.due⟩

theorem retireK_drop {c : Ck} {n : Int} (ok : okK c) : retireK c n = ((dropK c n).1, (dropK c n).2.2) := by
  unfold retireK dropK
  rw [if_pos ok]
  split <;> rfl
theorem clockRetire {H : Hp} {u : Cu} {c : Ck} {n : Int} (r : RdK H u c) (fk : fitK c) :
    Go.Eng.Fn Tryz.prog F.clock_Retire #[ckV u c, .int .i64 n] H fun v H' => ∃ w : Cu, v = .tuple #[ckV w (retireK c n).1, .int .i64 (retireK c n).2] ∧ Hp.le H H' ∧ RdK H' w (retireK c n).1 := by
  refine clock_Retire_vc ⟨_, clockCheck r fk, fun hc => ?_, fun hc => ?_⟩
  · have hk : ¬ okK c := fun ok => by rw [chkK_ok ok] at hc; simp at hc
    rw [chkK_bad hk]
    unfold retireK; rw [if_neg hk]
    exact ⟨zu, rfl, Hp.le_refl _, RdK.zero⟩
  · have ok : okK c := chkK_zero.1 (by simpa using hc)
    rw [retireK_drop ok]
    exact (clockDrop r ok).mono fun v H3 ⟨w, hv, l3, r3⟩ => ⟨_, _, w.f, _, w.cl, w.u1, w.u2, w.u3, w.u4, w.u5, w.d, _, _, _, hv, w, rfl, l3, r3⟩

theorem clockNext {H : Hp} {u : Cu} {c : Ck} (r : RdK H u c) (fk : fitK c) : Qf Tryz.prog F.clock_Next #[ckV u c] H (.tuple #[evV (nextK c).1, .int .i64 (nextK c).2]) := by
  refine clock_Next_vc ⟨_, clockCheck r fk, fun hc => ?_, fun hc => ?_⟩
  · have hk : ¬ okK c := fun ok => by rw [chkK_ok ok] at hc; simp at hc
    rw [chkK_bad hk]
    unfold nextK; rw [if_neg hk]
    exact ⟨rfl, Hp.le_refl _⟩
  · have ok : okK c := chkK_zero.1 (by simpa using hc)
    refine ⟨_, _, _, _, _, _, agendaTop r.ag fk.ag, ?_, Hp.le_refl _⟩
    unfold nextK topA
    rw [if_pos ok, if_pos ok.ag]
theorem clockUntil {H : Hp} {u : Cu} {c : Ck} {t : Int × Int} (r : RdK H u c) (fk : fitK c) (ht : fitR t) : Qf Tryz.prog F.clock_until #[ckV u c, raW t] H (.tuple #[.bool (decide (untilK c t = 0) && waitsK c t), .int .i64 (untilK c t)]) := by
  have hm : (if chkR t > chkK c then chkR t else chkK c) = if okK c ∧ okR t then 0 else 8 := by
    by_cases h1 : okK c <;> by_cases h2 : okR t <;> simp [chkK_ok, chkK_bad, chkR_ok, chkR_bad, h1, h2]
  refine clock_until_vc ⟨_, clockCheck r fk, _, ratioCheck ht, ?_⟩
  rw [hm]
  by_cases h : okK c ∧ okR t
  · rw [if_pos h]
    refine ⟨fun hc => by simp at hc, fun _ => ⟨_, _, ratioCmp ht fk.now, ?_⟩⟩
    have ec : cmpM t c.now = (cmpR t c.now, 0) := by unfold cmpM; rw [if_pos ⟨h.2, h.1.now⟩]
    rw [ec]
    refine ⟨fun hq => ?_, fun hq => ?_⟩
    · have hq : cmpR t c.now < 0 := by simpa using hq
      have eu : untilK c t = 44 := by unfold untilK; rw [if_pos h, if_pos hq]
      rw [eu]; exact ⟨rfl, Hp.le_refl _⟩
    · have hq : ¬ cmpR t c.now < 0 := by simpa using hq
      have eu : untilK c t = 0 := by unfold untilK; rw [if_pos h, if_neg hq]
      rw [eu]
      refine ⟨_, _, _, _, _, _, agendaTop r.ag fk.ag, ?_⟩
      unfold topA waitsK
      rw [if_pos h.1.ag]
      by_cases h0 : c.ag.heap.length = 0
      · rw [if_pos h0]
        refine ⟨fun _ => ⟨?_, Hp.le_refl _⟩, fun hx => by simp at hx⟩
        rw [h0]; rfl
      · rw [if_neg h0]
        have o0 := (h.1.ag.each _ (hp_mem (by omega : 0 < c.ag.heap.length))).1
        have e2 : cmpM (hp c.ag.heap 0).at_ t = (cmpR (hp c.ag.heap 0).at_ t, 0) := by unfold cmpM; rw [if_pos ⟨o0, h.2⟩]
        refine ⟨fun hx => by simp at hx, fun _ => ⟨_, _, ratioCmp o0.fit ht, ?_, Hp.le_refl _⟩⟩
        rw [e2, decide_eq_true (show 0 < c.ag.heap.length by omega)]
        rfl
  · rw [if_neg h]
    have eu : untilK c t = 8 := by unfold untilK; rw [if_neg h]
    rw [eu]
    exact ⟨fun _ => ⟨rfl, Hp.le_refl _⟩, fun hx => by simp at hx⟩

theorem okK.topCert {c : Ck} (ok : okK c) (h0 : 0 < c.ag.heap.length) : 0 ≤ atC c.ct (hp c.ag.heap 0).no := by
  obtain ⟨ps, e⟩ := ok.evs
  obtain ⟨h, hm, h1, _⟩ := e.cert (e.heap.mem_iff.1 (hp_mem h0))
  obtain ⟨i, hi⟩ := List.mem_iff_getElem?.1 hm
  rw [← h1, (getC_at ok.ct hi).1]
  omega
theorem waitsK_len {c : Ck} {t : Int × Int} (h : waitsK c t = true) : 0 < c.ag.heap.length := by
  unfold waitsK at h
  simp only [Bool.and_eq_true, decide_eq_true_eq] at h
  exact h.1

theorem clockFail {H : Hp} {u : Cu} {c : Ck} {t : Int × Int} (r : RdK H u c) (fk : fitK c) (ht : fitR t) :
    Go.Eng.Fn Tryz.prog F.clock_Fail #[ckV u c, raW t] H fun v H' => ∃ w : Cu, v = .tuple #[ckV w (failK c t).1, evV (failK c t).2.1, raW (failK c t).2.2.1, .int .i64 (failK c t).2.2.2] ∧ Hp.le H H' ∧ RdK H' w (failK c t).1 := by
  refine clock_Fail_vc ⟨_, _, clockUntil r fk ht, fun hc => ⟨fun _ => ?_, fun h => by cases h⟩, fun hc => ⟨fun he => ?_, fun he => ?_⟩⟩
  · simp only [Bool.and_eq_true, beq_iff_eq, Bool.not_eq_true', Bool.and_eq_false_iff, decide_eq_false_iff_not] at hc
    have hw : waitsK c t = false := hc.2.resolve_left fun h => h hc.1
    have e : failK c t = (.zero, e0, (0, 0), 6) := by unfold failK; rw [if_pos hc.1, if_neg (by rw [hw]; simp)]
    rw [e]; exact ⟨zu, rfl, Hp.le_refl _, RdK.zero⟩
  · have he : untilK c t ≠ 0 := by simpa using he
    have e : failK c t = (.zero, e0, (0, 0), untilK c t) := by unfold failK; rw [if_neg he]
    rw [e]; exact ⟨zu, rfl, Hp.le_refl _, RdK.zero⟩
  · have he : untilK c t = 0 := by simpa using he
    have hw : waitsK c t = true := by rw [he] at hc; simpa using hc
    obtain ⟨ok, ot, _⟩ := untilK_zero.1 he
    have h0 := waitsK_len hw
    have hx := ok.topCert h0
    have e : failK c t = (failedK c, hp c.ag.heap 0, (getD3 c.ct.list (atC c.ct (hp c.ag.heap 0).no)).2, 0) := by unfold failK; rw [if_pos he, if_pos hw]
    have ed : dropK c (hp c.ag.heap 0).no = (goneK c (hp c.ag.heap 0).no, (getD3 c.ct.list (atC c.ct (hp c.ag.heap 0).no)).2, 0) := by unfold dropK; rw [if_neg (by omega)]
    rw [e]
    refine ⟨r.ag.heap.inS (Int.le_refl _) (by omega), _, _, _, _, _, r.ag.heap.gE (Int.le_refl _) (by omega), ?_⟩
    refine (clockDrop (n := (hp c.ag.heap 0).no) r ok).mono fun v H9 ⟨w, hv, l9, r9⟩ => ⟨_, _, w.f, _, w.cl, w.u1, w.u2, w.u3, w.u4, w.u5, w.d, _, _, _, hv, fun h => ?_, fun _ => ⟨w, ?_, l9, ?_⟩⟩
    · rw [ed] at h; simp at h
    · rw [ed]; rfl
    · rw [ed] at r9
      exact ⟨r9.f, r9.cl, r9.ag, r9.due⟩

theorem clockMove {H : Hp} {u : Cu} {c : Ck} {t : Int × Int} (r : RdK H u c) (fk : fitK c) (ht : fitR t) :
    Go.Eng.Fn Tryz.prog F.clock_Move #[ckV u c, raW t] H fun v H' => ∃ w : Cu, v = .tuple #[ckV w (moveK c t).1, .int .i64 (moveK c t).2] ∧ Hp.le H H' ∧ RdK H' w (moveK c t).1 := by
  refine clock_Move_vc ⟨_, _, clockUntil r fk ht, fun hc => ⟨fun _ => ?_, fun h => by cases h⟩, fun hc => ⟨fun he => ?_, fun he => ?_⟩⟩
  · simp only [Bool.and_eq_true, beq_iff_eq, decide_eq_true_eq] at hc
    have e : moveK c t = (.zero, 36) := by unfold moveK; rw [if_pos hc.1, if_pos hc.2.2]
    rw [e]; exact ⟨zu, rfl, Hp.le_refl _, RdK.zero⟩
  · have he : untilK c t ≠ 0 := by simpa using he
    have e : moveK c t = (.zero, untilK c t) := by unfold moveK; rw [if_neg he]
    rw [e]; exact ⟨zu, rfl, Hp.le_refl _, RdK.zero⟩
  · have he : untilK c t = 0 := by simpa using he
    have hw : waitsK c t = false := by rw [he] at hc; simpa using hc
    have e : moveK c t = ({ c with now := t }, 0) := by unfold moveK; rw [if_pos he, if_neg (by rw [hw]; simp)]
    rw [e]
    exact (clockTwin r fk).mono fun v H9 ⟨w, hv, l9, r9, _⟩ => ⟨_, _, w.f, _, w.cl, w.u1, w.u2, w.u3, w.u4, w.u5, w.d, hv, w, rfl, l9, r9.f, r9.cl, r9.ag, r9.due⟩
end Go.Proofs.YtodmhdfenpkbdaaGreat
end
section
/- Clocks: what the reference does. Conditions: none. -/
set_option maxRecDepth 100000
open Go Go.Eng Go.Proofs
namespace Go.Proofs.YtodmhdfenpkbdaaGreat

end Go.Proofs.YtodmhdfenpkbdaaGreat
end
