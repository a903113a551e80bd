/- The law SpanWithin. Conditions: none. -/
import Derived.Test.YtodmhdfenpkbdaaGreatN7
import Derived.Test.YtodmhdfenpkbdaaGreatVgLSpanWithin
import Derived.Test.YtodmhdfenpkbdaaGreatFs
set_option linter.unusedVariables false
set_option maxRecDepth 100000
open Go Go.Eng Go.Proofs
namespace Go.Proofs.YtodmhdfenpkbdaaGreat

theorem seg_take {o : List Int} {U M B : Nat} (h1 : U ≤ M) (h2 : M ≤ B) : ((o.take B).drop U).take (M - U) = (o.take M).drop U := by
  apply List.ext_getElem?
  intro k
  rw [List.getElem?_take, List.getElem?_drop, List.getElem?_drop, List.getElem?_take, List.getElem?_take]
  by_cases h : k < M - U
  · rw [if_pos h, if_pos (by omega), if_pos (by omega)]
  · rw [if_neg h, if_neg (by omega)]
theorem seg_drop {o : List Int} {U V B : Nat} (h1 : U ≤ V) : ((o.take B).drop U).drop (V - U) = (o.take B).drop V := by
  rw [List.drop_drop]; congr 1; omega
theorem upM_mono {xs : List (Int × Int)} (d : Desc xs) {a b : Int × Int} (oa : okR a) (ob : okR b) (h : ¬ 0 < cmpR a b) : upM xs b ≤ upM xs a := by
  refine List.countP_mono_left fun x hx hq => ?_
  have hq : 0 < cmpR x b := by simpa using hq
  simp only [decide_eq_true_eq]
  have q := cmpR_gt.1 hq
  rw [cmpR_gt] at h
  have ox := (d.ok x hx).d1
  have h1 := oa.d1; have h2 := ob.d1
  exact cmpR_gt.2 (rat_lt (a := a) (b := b) (c := x) h2 h1 ox (by omega) (by omega) (.inr q))
theorem loM_mono {xs : List (Int × Int)} (d : Desc xs) {a b : Int × Int} (oa : okR a) (ob : okR b) (h : ¬ 0 < cmpR a b) : loM xs b ≤ loM xs a := by
  refine List.countP_mono_left fun x hx hq => ?_
  have hq : 0 ≤ cmpR x b := by simpa using hq
  simp only [decide_eq_true_eq]
  have q := cmpR_ge.1 hq
  rw [cmpR_gt] at h
  have ox := (d.ok x hx).d1
  have h1 := oa.d1; have h2 := ob.d1
  exact cmpR_ge.2 (rat_le (a := a) (b := b) (c := x) h2 h1 ox (by omega) q)
theorem cmpR_trans {a b c : Int × Int} (oa : okR a) (ob : okR b) (oc : okR c) (h : ¬ 0 < cmpR a b) (h' : ¬ 0 < cmpR b c) : ¬ 0 < cmpR a c := by
  rw [cmpR_gt] at *
  have := rat_le (a := a) (b := b) (c := c) ob.d1 oa.d1 oc.d1 (by omega) (by omega)
  omega
theorem askE_told {l : Ls} (h : asked31 l = true) {lo hi : Int × Int} (o1 : okR lo) (o2 : okR hi) (hc : ¬ 0 < cmpR lo hi) : askE l lo hi = 0 := by
  obtain ⟨_, ok, ht⟩ := asked31_iff.1 h
  exact askE_zero.2 ⟨ok, o1, o2, hc, placesN_told ok ht _ (Nat.le_refl _)⟩

set_option maxHeartbeats 1000000 in
theorem spanWithin {H : Hp} {u : Lu} {l : Ls} {lo mi hi : Int × Int} (r : RdL H u l) (hn : fitR l.ck.now) (hh : ∀ y ∈ l.ck.ag.heap, fitR y.at_) (fo : fitR lo) (fm : fitR mi) (fi : fitR hi) : Qf Tryz.prog F.pelotonlaw31_SpanWithin #[lsV u l, sI2 lo.1 lo.2, sI2 mi.1 mi.2, sI2 hi.1 hi.2] H (.bool true) := by
  have hb : ∀ {c : Bool} {n m : Int}, (!(!c || n != 0)) = true → c = true ∧ n = 0 := fun {c n m} h => by simpa using h
  refine pelotonlaw31_SpanWithin_vc ⟨true, law31alive, _, law31asked r hn hh, _, fun _ => refBoth fo fm, _, fun _ => refRCheck fi, cmpR lo mi, fun h => ?_, cmpR mi hi, fun h => ?_, fun _ => ⟨rfl, Hp.le_refl _⟩, fun hb => ?_⟩
  · have h : (asked31 l = true ∧ (if okR lo ∧ okR mi then (0 : Int) else 8) = 0) ∧ chkR hi = 0 := by simpa using h
    have := both_zero.1 h.1.2
    exact refCompareR this.1 this.2
  · have h : ((asked31 l = true ∧ (if okR lo ∧ okR mi then (0 : Int) else 8) = 0) ∧ chkR hi = 0) ∧ cmpR lo mi ≤ 0 := by simpa using h
    exact refCompareR (both_zero.1 h.1.1.2).2 (chkR_zero.1 h.1.2)
  have hb : ((((asked31 l = true ∧ (if okR lo ∧ okR mi then (0 : Int) else 8) = 0) ∧ chkR hi = 0) ∧ cmpR lo mi ≤ 0) ∧ cmpR mi hi ≤ 0) := by simpa using hb
  obtain ⟨⟨⟨⟨b1, b2⟩, b3⟩, b4⟩, b5⟩ := hb
  obtain ⟨o1, o2⟩ := both_zero.1 b2
  have o3 := chkR_zero.1 b3
  have b4 : ¬ 0 < cmpR lo mi := by omega
  have b5 : ¬ 0 < cmpR mi hi := by omega
  have b6 := cmpR_trans o1 o2 o3 b4 b5
  obtain ⟨hg, ok, ht⟩ := asked31_iff.1 b1
  have fl := fitL_of hn hg hh
  have f1 := fl.o
  have a1 := askE_told b1 o1 o3 b6
  have a2 := askE_told b1 o1 o2 b4
  have a3 := askE_told b1 o2 o3 b5
  have a4 := askE_told b1 o2 o2 (by rw [cmpR_gt]; omega)
  obtain ⟨_, q2, q3, D⟩ := ask_range a1
  have m1 := upM_mono D o2 o3 b5
  have m2 := D.upLo o2 o2 (show ¬ 0 < cmpR mi mi by rw [cmpR_gt]; omega)
  have m3 := loM_mono D o1 o2 b4
  have g1 := spanIn r fl fo fi
  rw [inR_ok a1] at g1
  refine g1.mono fun v H8 ⟨s1, hv, l8, n1⟩ => ⟨s1, 0, hv, ?_⟩
  have g2 := spanIn (r.le l8) fl fo fm
  rw [inR_ok a2] at g2
  refine g2.mono fun v H12 ⟨s2, hv, l12, n2⟩ => ⟨s2, 0, hv, ?_⟩
  have g3 := spanIn ((r.le l8).le l12) fl fm fi
  rw [inR_ok a3] at g3
  refine g3.mono fun v H16 ⟨s3, hv, l16, n3⟩ => ⟨s3, 0, hv, ?_⟩
  have l816 := Hp.le_trans l12 l16
  have l016 := Hp.le_trans l8 l816
  have g4 := spanCount (r.le l016) fl fm fm
  have ec : cntR l mi mi = ((loM (xsM l) mi - upM (xsM l) mi : Nat) : Int) := by unfold cntR; rw [inR_ok a4, inM_len a4]
  rw [inR_ok a4, ec] at g4
  have r1 := n1.rdI.le l816
  have r2 := n2.rdI.le l16
  have r3 := n3.rdI
  have e1 := r1.len; have e2 := r2.len; have e3 := r3.len
  rw [inM_len a1] at e1; rw [inM_len a2] at e2; rw [inM_len a3] at e3
  have c1 := r1.cap
  have p1 := Rd.sub (f := fI) (k := 1) r1 (l := 0) (hi := (s3.n : Int)) (m := (s1.c : Int)) (by omega) (by omega) (by rw [inM_len a1]; omega) (by omega)
  have p2 := Rd.sub (f := fI) (k := 1) r1 (l := (s1.n : Int) - s2.n) (hi := (s1.n : Int)) (m := (s1.c : Int)) (by omega) (by omega) (by rw [inM_len a1]; omega) (by omega)
  have x1 : ((inM l lo hi).take (s3.n : Int).toNat).drop (0 : Int).toNat = inM l mi hi := by
    rw [Int.toNat_natCast, e3]
    show ((inM l lo hi).take _).drop 0 = _
    rw [List.drop_zero]
    unfold inM
    exact seg_take (by omega) m3
  have x2 : ((inM l lo hi).take (s1.n : Int).toNat).drop ((s1.n : Int) - s2.n).toNat = inM l lo mi := by
    rw [Int.toNat_natCast, List.take_of_length_le (by rw [inM_len a1]; omega), show ((s1.n : Int) - s2.n).toNat = upM (xsM l) mi - upM (xsM l) hi by omega]
    unfold inM
    exact seg_drop m1
  rw [x1] at p1
  rw [x2] at p2
  have ez : Tryz.prog.cellsOf 3 = 1 := by kernel_rfl
  have k1 := sameIDs r3 p1 (by rw [inM_len a3]; omega)
  have k2 := sameIDs r2 p2 (by rw [inM_len a2]; omega)
  rw [beq_self_eq_true] at k1 k2
  rw [ez]
  refine ⟨_, _, g4, fun _ => by unfold inI; omega, fun _ => by unfold inI; omega, fun hb => ?_, fun _ => ⟨fun _ => by unfold okSl; omega, true, fun _ => k1, fun _ => by unfold inI; omega, fun _ => by unfold okSl; omega, true, fun _ => k2, rfl, l016⟩⟩
  exfalso
  simp only [Bool.or_eq_true, bne_iff_ne, ne_eq, decide_eq_true_eq, not_true_eq_false, false_or] at hb
  omega
end Go.Proofs.YtodmhdfenpkbdaaGreat
