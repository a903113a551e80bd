/- Clocks: altering, by the reference; the law ClockGoes. Conditions: none. -/
import Derived.Test.YtodmhdfenpkbdaaGreatPL5
import Derived.Test.YtodmhdfenpkbdaaGreatVgClock
import Derived.Test.YtodmhdfenpkbdaaGreatVgLClockGoes
import Derived.Test.YtodmhdfenpkbdaaGreatFs
set_option linter.unusedVariables false
set_option maxRecDepth 100000
open Go Go.Eng Go.Proofs
namespace Go.Proofs.YtodmhdfenpkbdaaGreat

theorem rAltered {H : Hp} {u : Cu} {w : Slc} {c : Ck} {f : List Pt} (r : RdK H u c) (ok : okK c) (hf : Rd 3 fD H w f) (of : okF f) (kn : knownC c.ct f = true) :
    Go.Eng.Fn Tryz.prog F.pelotonref09_Altered #[ckV u c, vFd w] H fun v H' => ∃ z : Cu, v = .tuple #[ckV z (alteredK c f).1, .int .i64 (alteredK c f).2] ∧ Hp.le H H' ∧ RdK H' z (alteredK c f).1 := by
  have fk := ok.fit
  have lc := r.cl.len
  have f1 := fk.ct
  obtain ⟨ps, e⟩ := ok.evs
  have lf := of.small
  refine pelotonref09_Altered_vc ((refKTwin r fk).mono fun v H2 ⟨w0, hv, nk⟩ => ⟨_, _, w0.f, _, w0.cl, w0.u1, w0.u2, w0.u3, w0.u4, w0.u5, w0.d, hv, (refFTwin (hf.le nk.le) (by omega)).mono fun v H15 ⟨fw, hv, l15, mf⟩ => ⟨fw, hv, ?_⟩⟩)
  have le15 := Hp.le_trans nk.le l15
  refine ⟨fun i n1 n2 u37 n38 u39 v1 v2 v3 v4 v5 d H' => 0 ≤ i ∧ i ≤ c.ct.list.length ∧ n1 = c.now.1 ∧ n2 = c.now.2 ∧ n38 = c.ct.next ∧ Hp.le H H' ∧ KpS 3 fD H' u37 d f ∧ KpS 3 fD H' u39 d c.ct.list ∧
      ∃ s, altL c f (c.ct.list.take i.toNat) (c.ag, []) = some s ∧ AgS H' v1 v2 v3 v4 v5 d s.1 ∧ Mine 3 fD T.api_Due H H' d s.2,
    fun i _ _ _ _ _ _ _ _ _ _ _ _ => (c.ct.list.length - i).toNat, ⟨Int.le_refl _, by omega, rfl, rfl, rfl, le15, ⟨mf.rdD, mf.isOld, Sep.nil⟩, ⟨nk.rd.cl.le l15, nk.cl.isOld.le l15, Sep.nil⟩, (c.ag, []), rfl,
      ⟨⟨nk.rd.ag.tb.uses.le l15, nk.ag.tb.uses.isOld.le l15, Sep.nil⟩, ⟨nk.rd.ag.tb.used.le l15, nk.ag.tb.used.isOld.le l15, Sep.nil⟩, ⟨nk.rd.ag.tb.free.le l15, nk.ag.tb.free.isOld.le l15, Sep.nil⟩, ⟨nk.rd.ag.heap.le l15, nk.ag.heap.isOld.le l15, Sep.nil⟩, ⟨nk.rd.ag.wh.le l15, nk.ag.wh.isOld.le l15, Sep.nil⟩⟩, .inl ⟨rfl, rfl⟩⟩,
    fun i n1 n2 u37 n38 u39 v1 v2 v3 v4 v5 d H' ⟨i0, i1, e1, e2, e3, le, kf, kl, s, hs, ags, md⟩ => ?_⟩
  subst e1; subst e2; subst e3
  have r46 := r.le le
  have hf46 := hf.le le
  refine ⟨fun hn => ?_, fun hn => ?_⟩
  · have hn : i < c.ct.list.length := by have : i < u.cl.n := by simpa using hn
                                         omega
    have hg := getX (d := ((0 : Int), (0 : Int), (0 : Int))) i0 hn
    obtain ⟨new, rest, a⟩ := Alt.upto ok e of kn i.toNat (by omega) s hs
    obtain ⟨p1, p2⟩ := knownC_at kn (List.mem_of_getElem? hg)
    refine r46.cl.ldD i0 hn ⟨_, rDueAt r46 fk, _, _, _, refWhen (x := (c.ct.list.getD i.toNat (0, 0, 0)).2) hf46 of ok.now p1 p2, ?_⟩
    generalize c.ct.list.getD i.toNat (0, 0, 0) = x at hg p1 p2 ⊢
    have al := a.len ok
    have had := a.had ok e hg
    have nx : ∀ {z1 z2 z3 z4 z5 d' : Slc} {H2 : Hp} {s' : Ag × List (Int × Int × Int)}, Hp.le H H2 → KpS 3 fD H2 u37 d' f → KpS 3 fD H2 u39 d' c.ct.list → altStep c f x s = some s' → AgS H2 z1 z2 z3 z4 z5 d' s'.1 → Mine 3 fD T.api_Due H H2 d' s'.2 →
        inI (i + 1) ∧ (0 ≤ i + 1 ∧ i + 1 ≤ c.ct.list.length ∧ c.now.1 = c.now.1 ∧ c.now.2 = c.now.2 ∧ c.ct.next = c.ct.next ∧ Hp.le H H2 ∧ KpS 3 fD H2 u37 d' f ∧ KpS 3 fD H2 u39 d' c.ct.list ∧
          ∃ s, altL c f (c.ct.list.take (i + 1).toNat) (c.ag, []) = some s ∧ AgS H2 z1 z2 z3 z4 z5 d' s.1 ∧ Mine 3 fD T.api_Due H H2 d' s.2) ∧ (c.ct.list.length - (i + 1)).toNat < (c.ct.list.length - i).toNat := by
      intro z1 z2 z3 z4 z5 d' H2 s' g1 g2 g3 g4 g5 g6
      refine ⟨by unfold inI; omega, ⟨by omega, by omega, rfl, rfl, rfl, g1, g2, g3, s', ?_, g5, g6⟩, by omega⟩
      rw [show (i + 1).toNat = i.toNat + 1 by omega, takeS hg, altL_at, hs]
      exact g4
    cases hw : whenM f x.2 c.now with
    | some t =>
      have ht : okR t := whenM_okR of kn ok.now (List.mem_of_getElem? hg) hw
      by_cases h0 : 0 ≤ posD c x.1
      · have d1 : decide (posD c x.1 ≥ 0) = true := decide_eq_true h0
        rw [d1]
        refine ⟨fun _ => ?_, fun h => by simp at h⟩
        obtain ⟨y, rest', hr, hy, hyn, hgd, hlt, _⟩ := had.1 h0
        have hyh := a.mem_heap (x := y) (by rw [hr]; exact List.mem_cons_self)
        have hlv := (a.ag.slot hyh).2.2.2.2
        have hgd' : c.due.getD (posD c x.1).toNat (0, 0, 0) = nh y := hgd
        have g2 := r46.due.gD2 h0 hlt
        rw [hgd'] at g2
        refine ⟨r46.due.inS h0 hlt, _, _, g2, (refARekeyed (h := y.h) (t := t) ags.rd a.ag hlv ht).mono fun v H59 ⟨z1, z2, z3, z4, z5, hv, na⟩ => ⟨na.le, z1, z2, z3, z4, z5, hv, r46.due.inS h0 hlt, ?_⟩⟩
        have g1 := (r46.due.le na.le).gD h0 hlt
        rw [hgd'] at g1
        refine ⟨_, _, _, g1, fun b69 H70 hb69 hH => ?_⟩
        refine (append1 (k := 3) (f := fD) (bytes := 24) (x := nh y) (e := T.api_Due) (by kernel_rfl) (by decide) (fun _ => rfl) fD_one (Hp.le_trans le na.le) (md.le na.le) hb69 hH rfl (by omega) (by omega)).mono fun v H72 ⟨d', hv, l72, m72, c72, e72⟩ => ⟨d', hv, fun h => by simp at h, fun _ => ⟨fun _ => ?_, fun h => by simp at h⟩⟩
        refine nx (s' := (rekeyedA s.1 y.h t, s.2 ++ [nh y])) l72 ((kf.le na.le).app c72 e72) ((kl.le na.le).app c72 e72) ?_ ((AgS.new na md.isOld).app c72 e72) m72
        unfold altStep; rw [hw]; simp only; rw [if_pos h0, hgd]; rfl
      · have d1 : decide (posD c x.1 ≥ 0) = false := decide_eq_false h0
        rw [d1]
        refine ⟨fun h => by simp at h, fun _ => ⟨fun h => by simp at h, fun _ => ⟨fun h => by simp at h, fun _ => ⟨_, refOpen ags.rd.tb a.ag.tb, fun h => ?_, fun h => ?_⟩⟩⟩⟩
        · have hct : ¬ s.1.tb.canTake = true := by simpa using h
          have es := altL_stop hg hs (by unfold altStep; rw [hw]; simp only; rw [if_neg (by omega), if_neg hct])
          rw [es]; exact ⟨zu, rfl, le, RdK.zero⟩
        · have hct : s.1.tb.canTake = true := by simpa using h
          refine (refAPushed (t := t) (n := x.1) ags.rd a.ag ht hct).mono fun v H75 ⟨z1, z2, z3, z4, z5, hv, na⟩ => ⟨z1, z2, z3, z4, z5, _, _, hv, fun b84 H85 hb84 hH => ?_⟩
          refine (append1 (k := 3) (f := fD) (bytes := 24) (x := (x.1, nextH s.1)) (e := T.api_Due) (by kernel_rfl) (by decide) (fun _ => rfl) fD_one (Hp.le_trans le na.le) (md.le na.le) hb84 hH rfl (by omega) (by omega)).mono fun v H87 ⟨d', hv, l87, m87, c87, e87⟩ => ⟨d', hv, ?_⟩
          refine nx (s' := (pushedA s.1 t x.1, s.2 ++ [(x.1, nextH s.1)])) l87 ((kf.le na.le).app c87 e87) ((kl.le na.le).app c87 e87) ?_ ((AgS.new na md.isOld).app c87 e87) m87
          unfold altStep; rw [hw]; simp only; rw [if_neg (by omega), if_pos hct]
    | none =>
      by_cases h0 : 0 ≤ posD c x.1
      · have d1 : decide (posD c x.1 ≥ 0) = true := decide_eq_true h0
        rw [d1]
        refine ⟨fun h => by simp at h, fun _ => ⟨fun _ => ?_, fun h => by simp at h⟩⟩
        obtain ⟨y, rest', hr, hy, hyn, hgd, hlt, _⟩ := had.1 h0
        have hyh := a.mem_heap (x := y) (by rw [hr]; exact List.mem_cons_self)
        have hlv := (a.ag.slot hyh).2.2.2.2
        have hgd' : c.due.getD (posD c x.1).toNat (0, 0, 0) = nh y := hgd
        have g2 := r46.due.gD2 h0 hlt
        rw [hgd'] at g2
        refine ⟨r46.due.inS h0 hlt, _, _, g2, (refRemoved (h := y.h) ags.rd a.ag hlv).mono fun v H92 ⟨z1, z2, z3, z4, z5, hv, na⟩ => ⟨na.le, z1, z2, z3, z4, z5, hv, fun _ => ?_, fun h => by simp at h⟩⟩
        refine nx (s' := (removedA s.1 y.h, s.2)) (Hp.le_trans le na.le) (kf.le na.le) (kl.le na.le) ?_ (AgS.new na md.isOld) (md.le na.le)
        unfold altStep; rw [hw]; simp only; rw [if_pos h0, hgd]; rfl
      · have d1 : decide (posD c x.1 ≥ 0) = false := decide_eq_false h0
        rw [d1]
        refine ⟨fun h => by simp at h, fun _ => ⟨fun h => by simp at h, fun _ => ⟨fun _ => nx (s' := s) le kf kl ?_ ags md, fun h => by simp at h⟩⟩⟩
        unfold altStep; rw [hw]; simp only; rw [if_neg (by omega)]
  · have hi : i = c.ct.list.length := by have : ¬ i < u.cl.n := by simpa using hn
                                         omega
    rw [hi, Int.toNat_natCast, List.take_length] at hs
    have es : alteredK c f = ({ c with f := f, ag := s.1, due := s.2 }, 0) := by unfold alteredK; rw [hs]
    rw [es]
    exact ⟨⟨u37, u39, v1, v2, v3, v4, v5, d⟩, rfl, le, kf.rd, kl.rd, ags.rd, md.rdD⟩

theorem rAlter {H : Hp} {u : Cu} {w : Slc} {c : Ck} {f : List Pt} (r : RdK H u c) (fk : fitK c) (hf : Rd 3 fD H w f) :
    Go.Eng.Fn Tryz.prog F.pelotonref09_Alter #[ckV u c, vFd w] H fun v H' => ∃ z : Cu, v = .tuple #[ckV z (alterK c f).1, .int .i64 (alterK c f).2] ∧ Hp.le H H' ∧ RdK H' z (alterK c f).1 := by
  have f1 := fk.ct
  unfold alterK
  refine pelotonref09_Alter_vc ⟨_, refKCheck r fk, fun hc => ?_, fun hc => ⟨_, refFCheck hf, fun hc2 => ?_, fun hc2 => ?_⟩⟩
  · have hk : ¬ okK c := fun ok => by rw [chkK_ok ok] at hc; simp at hc
    rw [if_neg hk]
    exact ⟨zu, rfl, Hp.le_refl _, RdK.zero⟩
  · have ok : okK c := chkK_zero.1 (by simpa using hc)
    have h2 : chkF f ≠ 0 := by simpa using hc2
    rw [if_pos ok, if_neg h2]
    exact ⟨zu, rfl, Hp.le_refl _, RdK.zero⟩
  · have ok : okK c := chkK_zero.1 (by simpa using hc)
    have h2 : chkF f = 0 := by simpa using hc2
    have of := chkF_zero.1 h2
    have lf := of.small
    rw [if_pos ok, if_pos h2]
    refine ⟨_, refKnown r.cl hf (by omega) (by omega), fun hk => ?_, fun hk => ?_⟩
    · rw [if_neg (by simpa using hk)]
      exact ⟨zu, rfl, Hp.le_refl _, RdK.zero⟩
    · have kn : knownC c.ct f = true := by simpa using hk
      rw [if_pos kn]
      exact (rAltered r ok hf of kn).mono fun v H5 ⟨z, hv, l5, r5⟩ => ⟨_, _, z.f, _, z.cl, z.u1, z.u2, z.u3, z.u4, z.u5, z.d, _, hv, z, rfl, l5, r5⟩
theorem alterK_fit (c : Ck) (f : List Pt) : fitK (alterK c f).1 := by
  unfold alterK
  split
  · rename_i ok
    split
    · rename_i h2
      split
      · rename_i kn
        obtain ⟨a1, a2⟩ := ok.altered (chkF_zero.1 h2) kn
        by_cases h : (alteredK c f).2 = 0
        · exact (a1 h).fit
        · rw [a2 h]; exact fitK.zero
      · exact fitK.zero
    · exact fitK.zero
  · exact fitK.zero

theorem clockGoes {H : Hp} {w : Slc} {u : Cu} {f : List Pt} {c : Ck} {t : Int × Int} (hf : Rd 3 fD H w f) (r : RdK H u c) (ht : fitR t) (hn : fitR c.now) (hh : ∀ y ∈ c.ag.heap, fitR y.at_) :
    Qf Tryz.prog F.pelotonlaw09_ClockGoes #[ckV u c, raW t, vFd w] H (.bool true) := by
  refine pelotonlaw09_ClockGoes_vc ⟨_, refFGreat hf, _, fun _ => refKGreat r, fun _ => ⟨rfl, Hp.le_refl _⟩, fun hc => ?_⟩
  simp only [Bool.or_eq_false_iff] at hc
  have fk : fitK c := fitK_of hn hc.2 hh
  have lf : f.length ≤ 70 := by
    have := hc.1
    simp only [decide_eq_false_iff_not] at this; omega
  refine (refKTwin r fk).mono fun v H4 ⟨w1, hv, nk⟩ => ⟨nk.le, _, _, w1.f, _, w1.cl, w1.u1, w1.u2, w1.u3, w1.u4, w1.u5, w1.d, hv, ?_⟩
  have l4 := nk.le
  have r1 := nk.rd
  refine (refFTwin (hf.le l4) (by omega)).mono fun v H17 ⟨fw, hv, l17, mf⟩ => ⟨l17, fw, hv, ?_⟩
  have m17 := Hp.le_trans l4 l17
  have rf := mf.rdD
  refine (clockFail (t := t) (r1.le l17) fk ht).mono fun v H20 ⟨w2, hv, l20, r2⟩ => ⟨_, _, w2.f, _, w2.cl, w2.u1, w2.u2, w2.u3, w2.u4, w2.u5, w2.d, _, _, _, _, _, _, _, _, hv, ?_⟩
  have m20 := Hp.le_trans m17 l20
  have k20 := Hp.le_trans l17 l20
  refine (rFail (t := t) (r.le m20) fk ht).mono fun v H41 ⟨w3, hv, l41, r3⟩ => ⟨_, _, w3.f, _, w3.cl, w3.u1, w3.u2, w3.u3, w3.u4, w3.u5, w3.d, _, _, _, _, _, _, _, _, hv, ?_⟩
  have m41 := Hp.le_trans m20 l41
  have k41 := Hp.le_trans k20 l41
  refine (clockMove (t := t) (r1.le k41) fk ht).mono fun v H62 ⟨w4, hv, l62, r4⟩ => ⟨_, _, w4.f, _, w4.cl, w4.u1, w4.u2, w4.u3, w4.u4, w4.u5, w4.d, _, hv, ?_⟩
  have m62 := Hp.le_trans m41 l62
  have k62 := Hp.le_trans k41 l62
  refine (rMove (t := t) (r.le m62) fk ht).mono fun v H76 ⟨w5, hv, l76, r5⟩ => ⟨_, _, w5.f, _, w5.cl, w5.u1, w5.u2, w5.u3, w5.u4, w5.u5, w5.d, _, hv, ?_⟩
  have m76 := Hp.le_trans m62 l76
  have k76 := Hp.le_trans k62 l76
  have f76 : Hp.le H17 H76 := Hp.le_trans l20 (Hp.le_trans l41 (Hp.le_trans l62 l76))
  refine (clockAlter (r1.le k76) fk (rf.le f76)).mono fun v H90 ⟨w6, hv, l90, r6⟩ => ⟨_, _, w6.f, _, w6.cl, w6.u1, w6.u2, w6.u3, w6.u4, w6.u5, w6.d, _, hv, ?_⟩
  have m90 := Hp.le_trans m76 l90
  have k90 := Hp.le_trans k76 l90
  refine (rAlter (r.le m90) fk (hf.le m90)).mono fun v H104 ⟨w7, hv, l104, r7⟩ => ⟨_, _, w7.f, _, w7.cl, w7.u1, w7.u2, w7.u3, w7.u4, w7.u5, w7.d, _, hv, ?_⟩
  have m104 := Hp.le_trans m90 l104
  have k104 := Hp.le_trans k90 l104
  have f104 := Hp.le_trans f76 (Hp.le_trans l90 l104)
  have g90 := l104
  have g76 := Hp.le_trans l90 g90
  have g62 := Hp.le_trans l76 g76
  have g41 := Hp.le_trans l62 g62
  have g20 := Hp.le_trans l41 g41
  refine ⟨_, refKSame (r2.le g20) (r3.le g41) (failK_fit c t), _, fun _ => refKSame (r4.le g62) (r5.le g76) (moveK_fit c t), _, fun _ => refKSame (r6.le g90) r7 (alterK_fit c f), _, fun _ => refKSame (r1.le k104) (r.le m104) fk, _, fun _ => refFSame (rf.le f104) (hf.le m104) (by omega), ?_, m104⟩
  simp
end Go.Proofs.YtodmhdfenpkbdaaGreat
