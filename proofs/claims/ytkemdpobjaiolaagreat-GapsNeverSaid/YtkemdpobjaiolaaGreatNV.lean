/- The law GapsNever. Conditions: none. -/
import Derived.Test.YtkemdpobjaiolaaGreatPS2
import Derived.Test.YtkemdpobjaiolaaGreatPQ1
import Derived.Test.YtkemdpobjaiolaaGreatPM4
import Derived.Test.YtkemdpobjaiolaaGreatPD1
import Derived.Test.YtkemdpobjaiolaaGreatVgBase
import Derived.Test.YtkemdpobjaiolaaGreatVgLGapsNever
import Derived.Test.YtkemdpobjaiolaaGreatFs
set_option linter.unusedVariables false
set_option maxRecDepth 100000
open Go Go.Eng Go.Proofs
namespace Go.Proofs.YtkemdpobjaiolaaGreat

theorem subM_zero {a b : Int × Int} : addM a (0 - b.1, b.2) = subM a b := by unfold subM; rw [Int.zero_sub]
theorem refSub {H : Hp} {a b : Int × Int} (oa : okR a) (ob : okR b) :
    Qf Tryz.prog F.pelotonref01_Sub #[sI2 a.1 a.2, sI2 b.1 b.2] H (.tuple #[sI2 (subM a b).1.1 (subM a b).1.2, .int .i64 (subM a b).2]) := by
  have on := (okR_neg ob).fit
  rw [show ((-b.1, b.2) : Int × Int) = (0 - b.1, b.2) by rw [Int.zero_sub]] at on
  rw [← subM_zero]
  have n1 := ob.n1; have n2 := ob.n2
  exact pelotonref01_Sub_vc ⟨_, refBoth oa.fit ob.fit, fun hc => by rw [if_pos ⟨oa, ob⟩] at hc; simp at hc, fun _ => ⟨by unfold inI; omega, _, _, _, refAdd (a := a) (b := (0 - b.1, b.2)) oa.fit on, rfl, Hp.le_refl _⟩⟩
set_option maxHeartbeats 2000000 in
theorem lawGapsNever {H : Hp} {u : Lu} {l : Ls} {t : Int × Int} (r : RdL H u l) (hn : fitR l.ck.now) (hh : ∀ y ∈ l.ck.ag.heap, fitR y.at_) (ht : fitR t) :
    Qf Tryz.prog F.pelotonlaw27_GapsNever #[lsV u l, sI2 t.1 t.2] H (.bool true) := by
  refine pelotonlaw27_GapsNever_vc ⟨true, law27alive, greatL l, refLGreat r, _, fun hg => rUntil25 r (fitL_of hn (by simpa using hg) hh) ht, fun _ => ⟨rfl, Hp.le_refl _⟩, fun hb => ?_⟩
  simp only [Bool.or_eq_false_iff, bne_eq_false_iff_eq] at hb
  obtain ⟨⟨b1, b2⟩, _⟩ := hb
  have fl := fitL_of hn b1 hh
  have ok : okLs l := by
    by_cases ok : okLs l
    · exact ok
    · rw [untilL_bad ok] at b2; cases b2
  rw [untilL_ok ok] at b2
  have hu : untilK l.ck t = 0 := b2
  obtain ⟨_, ot, _⟩ := untilK_zero.1 hu
  have nl := ok.nl
  have ll := ok.len
  have f1 := fl.o; have f2 := fl.n; have f3 := fl.k.f
  have lo := r.o.len
  have lo : u.o.n = l.ord.length := lo
  have okN : (kNextM l).2 = 0 → okR (kNextM l).1 := kNext_fit
  refine ⟨_, _, _, kNext r fl, _, fun h => refRCheck (okN (by simpa using h)).fit, _, fun h => refCompareR ot (okN (by simp only [Bool.and_eq_true, beq_iff_eq] at h; exact h.1)), fun _ => ⟨rfl, Hp.le_refl _⟩, fun hc => ?_⟩
  have hbE : 0 < l.ck.ag.heap.length → leR t (hp l.ck.ag.heap 0).at_ := fun h0 => by
    have e : kNextM l = ((hp l.ck.ag.heap 0).at_, 0) := by unfold kNextM; rw [if_pos ok, if_neg (by omega)]
    rw [e] at hc
    have o := okN (by rw [e])
    rw [e] at o
    have o : okR (hp l.ck.ag.heap 0).at_ := o
    rw [chkR_ok o] at hc
    have hc : ¬ cmpR t (hp l.ck.ag.heap 0).at_ > 0 := by simpa using hc
    exact cmpR_le.1 (by omega)
  have eo : ofM l = (gapsM l, 0) := by unfold ofM; rw [if_pos ok]
  have g0 := gapsOf r fl
  rw [eo] at g0
  refine g0.mono fun v H10 ⟨s, hv, l10, m⟩ => ⟨s, 0, hv, fun _ => by unfold inI; omega, ?_⟩
  have rm : Rd 4 fGp H10 s (gapsM l) := m.rd (fun _ => rfl)
  have lm := rm.len
  have lg : (gapsM l).length = l.num.length := gapsN_len _ _
  have r10 := r.le l10
  have eL : (if (u.o.n : Int) - 1 > 0 then (u.o.n : Int) - 1 else 0) = ((l.ord.length - 1 : Nat) : Int) := by rw [lo]; exact less1 _
  rw [eL]
  refine ⟨fun h => ?_, fun _ => ⟨fun i H' => H10 = H' ∧ 0 ≤ i ∧ i ≤ l.num.length, fun i _ => (l.num.length - i).toNat, ⟨rfl, Int.le_refl _, by omega⟩, fun i H' ⟨e, i0, i1⟩ => ⟨fun hc => ?_, fun hc => ?_⟩⟩⟩
  · exfalso
    have e : (s.n : Int) = ((l.ord.length - 1 : Nat) : Int) := by omega
    rw [e] at h
    simp at h
  · subst e
    have hi : i < s.n := of_decide_eq_true hc
    obtain ⟨n, rfl⟩ : ∃ n : Nat, i = n := ⟨i.toNat, by omega⟩
    have hn' : n < l.num.length := by omega
    obtain ⟨gs, gv⟩ := Rd.gGp rm (i := (n : Int)) (by omega) (by omega)
    have hg := gapsM_at hn'
    have eg : (gapsM l).getD (n : Int).toNat ⟨0, 0, 0, 0⟩ = betwM l.ck.f (l.ord.getD n 0) (l.ord.getD (n + 1) 0) := by rw [Int.toNat_natCast, List.getD_eq_getElem?_getD, hg]; rfl
    rw [eg] at gv
    obtain ⟨g1, g2, g3, g4⟩ := gv
    have hp := ok.pos (i := (n : Int)) (by omega) (by omega)
    have hq := ok.pos (i := ((n : Int) + 1)) (by omega) (by omega)
    rw [Int.toNat_natCast] at hp
    rw [show ((n : Int) + 1).toNat = n + 1 by omega] at hq
    have ha := ok.apart (i := (n : Int)) (k := (n : Int) + 1) (by omega) (by omega) (by omega)
    rw [Int.toNat_natCast, show ((n : Int) + 1).toNat = n + 1 by omega] at ha
    have og := betw_ok ok.ck.f hp hq ha
    obtain ⟨P1, P2, P3⟩ := ok.ptOk (k := n) (by omega)
    obtain ⟨Q1, Q2, Q3⟩ := ok.ptOk (k := n + 1) (by omega)
    have pr := (posF_range hp).1
    have qr := (posF_range hq).1
    have gp := r10.k.f.gD hp pr
    have gq := r10.k.f.gD hq qr
    have ep : l.ck.f.getD (posF l.ck.f (l.ord.getD n 0)).toNat (0, 0, 0) = ptL l n := rfl
    have eq' : l.ck.f.getD (posF l.ck.f (l.ord.getD (n + 1) 0)).toNat (0, 0, 0) = ptL l (n + 1) := rfl
    rw [ep] at gp
    rw [eq'] at gq
    have gn := gap_never ok hu hbE hn'
    have eb : betwM l.ck.f (l.ord.getD n 0) (l.ord.getD (n + 1) 0) = ⟨(ptL l n).1, (ptL l (n + 1)).1, (ptL l n).2.1 - (ptL l (n + 1)).2.1, (ptL l n).2.2 - (ptL l (n + 1)).2.2⟩ := by
      unfold betwM; rw [P3, Q3]; rfl
    rw [eb] at g1 g2 g3 g4 og
    have hga := gapsAt (H := H10) (g := ⟨(ptL l n).1, (ptL l (n + 1)).1, (ptL l n).2.1 - (ptL l (n + 1)).2.1, (ptL l n).2.2 - (ptL l (n + 1)).2.2⟩) (t := t) ht
    have hgc := gapsCheck (H := H10) (g := ⟨(ptL l n).1, (ptL l (n + 1)).1, (ptL l n).2.1 - (ptL l (n + 1)).2.1, (ptL l n).2.2 - (ptL l (n + 1)).2.2⟩)
    rw [chkGp_ok og] at hgc
    have ms : ((l.num.length : Int) - (n + 1)).toNat < ((l.num.length : Int) - n).toNat := by omega
    have nx : inI ((n : Int) + 1) ∧ (H10 = H10 ∧ 0 ≤ (n : Int) + 1 ∧ (n : Int) + 1 ≤ l.num.length) ∧ ((l.num.length : Int) - (n + 1)).toNat < ((l.num.length : Int) - n).toNat := ⟨by unfold inI; omega, ⟨rfl, by omega, by omega⟩, ms⟩
    have rd1 := RdI.get r10.o (i := (n : Int)) (by omega) (by omega)
    rw [Int.toNat_natCast] at rd1
    have rd2 := RdI.get r10.o (i := (n : Int) + 1) (by omega) (by omega)
    rw [show ((n : Int) + 1).toNat = n + 1 by omega] at rd2
    have s1 : inSl u.o.a u.o.n (n : Int) := r10.o.inS (by omega) (by omega)
    have s2 : inSl u.o.a u.o.n ((n : Int) + 1) := r10.o.inS (by omega) (by omega)
    have fl3 : l.ck.f.length ≤ 1000000000 := by omega
    have far := at_far (t := t) og ot
    have aerr := at_err (t := t) og ot
    generalize hx : atM ⟨(ptL l n).1, (ptL l (n + 1)).1, (ptL l n).2.1 - (ptL l (n + 1)).2.1, (ptL l n).2.2 - (ptL l (n + 1)).2.2⟩ t = x at hga far aerr
    refine ⟨s1, _, rd1, _, refFAt r10.k.f fl3, r10.k.f.inS hp pr, _, _, _, gp, nx.1, s2, _, rd2, _, refFAt r10.k.f fl3, r10.k.f.inS hq qr, _, _, _, gq,
      gs, _, g1, fun _ => gs, _, fun _ => by rw [add_zero']; exact g2, fun _ => gs, _, _, _, _, fun _ => ⟨g1, g2, g3, g4⟩, 0, fun _ => hgc, fun h => ?_, fun _ => ⟨gs, _, _, _, _, ⟨g1, g2, g3, g4⟩, _, _, _, hga, fun he => ⟨fun h => ?_, fun _ => nx⟩, fun he => ?_⟩⟩
    · exfalso; simp at h
    · exfalso
      have he : x.2 ≠ 0 := by simpa using he
      rw [aerr.resolve_left he] at h
      simp at h
    · have he : x.2 = 0 := by simpa using he
      obtain ⟨k, k0, k1, k2, ox⟩ := far he
      have k1 : x.1.1 * k = farV (ptL l n) (ptL l (n + 1)) t := k1
      have x0 : 0 ≤ x.1.1 := by
        rcases Int.lt_or_le x.1.1 0 with h | h
        · have := Int.mul_neg_of_neg_of_pos h k0; omega
        · exact h
      have xz : x.1.1 = 0 ↔ farV (ptL l n) (ptL l (n + 1)) t = 0 := by
        constructor
        · intro h; rw [← k1, h, Int.zero_mul]
        · intro h
          rw [h] at k1
          rcases Int.mul_eq_zero.1 k1 with h | h
          · exact h
          · omega
      have cA := courseAt (H := H10) (p := ptL l n) (t := t) ht
      have cB := courseAt (H := H10) (p := ptL l (n + 1)) (t := t) ht
      have okA : (placeM (ptL l n) t).2 = 0 → okR (placeM (ptL l n) t).1 := fun h => by
        rw [placeM_ok P1 ot] at h ⊢
        obtain ⟨_, _, _, _, o⟩ := overM_eq ot.d1 h
        exact o
      have okB : (placeM (ptL l (n + 1)) t).2 = 0 → okR (placeM (ptL l (n + 1)) t).1 := fun h => by
        rw [placeM_ok Q1 ot] at h ⊢
        obtain ⟨_, _, _, _, o⟩ := overM_eq ot.d1 h
        exact o
      refine ⟨_, fun _ => refFar P1 Q1 ot, fun h => ?_, fun _ => ⟨_, _, _, cA, _, _, _, cB, fun hz => ?_, fun _ => nx⟩⟩
      · exfalso
        have e1 : decide (x.1.1 < 0) = false := decide_eq_false (by omega)
        have e2 : (x.1.1 == 0) = (sgn (farV (ptL l n) (ptL l (n + 1)) t) == 0) := by
          rw [Bool.eq_iff_iff, beq_iff_eq, beq_iff_eq, xz]
          unfold sgn
          split
          · omega
          · split <;> omega
        rw [e1, e2] at h
        simp at h
      · simp only [Bool.and_eq_true, beq_iff_eq] at hz
        refine ⟨_, _, _, refSub (okA hz.1) (okB hz.2), fun h => ?_, fun _ => nx⟩
        exfalso
        have hd : (subM (placeM (ptL l n) t).1 (placeM (ptL l (n + 1)) t).1).2 = 0 := by
          simp only [Bool.and_eq_true, beq_iff_eq] at h
          exact h.1
        have sf := sub_far (d := (subM (placeM (ptL l n) t).1 (placeM (ptL l (n + 1)) t).1).1) (x := x.1) P1 Q1 ot (Prod.ext rfl hz.1) (Prod.ext rfl hz.2) (Prod.ext rfl hd) k0 k1 k2 ox
        rw [sf.1] at h
        simp at h
  · subst e
    exact ⟨rfl, l10⟩
end Go.Proofs.YtkemdpobjaiolaaGreat
