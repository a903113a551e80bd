/- The law SpanFinds. Conditions: none. -/
import Derived.Test.YtodmhdfenpkbdaaGreatPN2
import Derived.Test.YtodmhdfenpkbdaaGreatVgKlist
import Derived.Test.YtodmhdfenpkbdaaGreatVgLSpanFinds
import Derived.Test.YtodmhdfenpkbdaaGreatFs
set_option linter.unusedVariables false
set_option maxRecDepth 100000
open Go Go.Eng Go.Proofs
namespace Go.Proofs.YtodmhdfenpkbdaaGreat
theorem refRSame {H : Hp} {a b : Slc} {xs : List (Int × Int)} (ha : Rd 2 fH H a xs) (hb : Rd 2 fH H b xs) (hl : xs.length ≤ 1000000) : Qf Tryz.prog F.pelotonref25_SameTimes #[a.v, b.v] H (.bool true) := by
  have la := ha.len
  have lb := hb.len
  refine pelotonref25_SameTimes_vc ⟨fun h => by rw [la, lb] at h; simp at h, fun _ => ?_⟩
  refine upto (N := xs.length) (J := fun _ => True) (by omega) trivial fun i i0 i1 _ => ⟨fun hn => ?_, fun _ => ⟨rfl, Hp.le_refl _⟩⟩
  have hi : i < xs.length := by have : i < a.n := by simpa using hn
                                omega
  exact ⟨ha.inS i0 hi, _, _, ha.gH i0 hi, hb.inS i0 hi, _, _, hb.gH i0 hi, fun h => by simp at h, fun _ => upto.nx i0 hi (by omega) trivial⟩
theorem placesM_lim {l : Ls} (fl : fitL l) : (placesM l).1.length ≤ 1000000 := by
  unfold placesM; split
  · exact placesN_lim fl
  · simp
theorem inR_lim {l : Ls} (fl : fitL l) (lo hi : Int × Int) : (inR l lo hi).1.length ≤ 1000000 := by
  have f1 := fl.o
  by_cases h : askE l lo hi = 0
  · rw [inR_ok h]; show (inM l lo hi).length ≤ _; unfold inM; rw [List.length_drop, List.length_take]; omega
  · rw [inR_bad h]; simp
theorem spanFinds {H : Hp} {u : Lu} {l : Ls} {lo hi : Int × Int} (r : RdL H u l) (hn : fitR l.ck.now) (hh : ∀ y ∈ l.ck.ag.heap, fitR y.at_) (fo : fitR lo) (fi : fitR hi) : Qf Tryz.prog F.pelotonlaw31_SpanFinds #[lsV u l, sI2 lo.1 lo.2, sI2 hi.1 hi.2] H (.bool true) := by
  refine pelotonlaw31_SpanFinds_vc ⟨_, refLGreat r, fun _ => ⟨rfl, Hp.le_refl _⟩, fun hg => ?_⟩
  have fl := fitL_of hn hg hh
  have f2 := fl.n
  refine (refLTwin r fl).mono fun v H3 ⟨w, hv, l3, r3⟩ => ⟨_, _, w.k.f, _, w.k.cl, w.k.u1, w.k.u2, w.k.u3, w.k.u4, w.k.u5, w.k.d, w.o, w.n, hv, ?_⟩
  refine (spanPlaces (r.le l3) fl).mono fun v H18 ⟨s1, hv, l18, m1⟩ => ⟨s1, _, hv, ?_⟩
  refine (refPlaces (r3.le l18) fl).mono fun v H22 ⟨s2, hv, l22, m2⟩ => ⟨s2, _, hv, ?_⟩
  have rk := r.le (Hp.le_trans l3 (Hp.le_trans l18 l22))
  have sk := r3.le (Hp.le_trans l18 l22)
  refine (spanIn rk fl fo fi).mono fun v H26 ⟨s3, hv, l26, m3⟩ => ⟨s3, _, hv, ?_⟩
  refine (refIn (sk.le l26) fl fo fi).mono fun v H30 ⟨s4, hv, l30, m4⟩ => ⟨s4, _, hv, ?_⟩
  have l230 := Hp.le_trans l26 l30
  have q1 := spanCount (rk.le l230) fl fo fi
  have q2 := refCount (sk.le l230) fl fo fi
  have q3 := refRSame (m1.rdH.le (Hp.le_trans l22 l230)) (m2.rdH.le l230) (placesM_lim fl)
  have q4 := sameIDs (m3.rdI.le l30) m4.rdI (by have := inR_lim fl lo hi; omega)
  have q5 := refLSame (rk.le l230) (sk.le l230) fl
  refine ⟨_, _, q1, _, _, q2, _, q3, _, fun _ => q4, _, fun _ => q5, ?_, Hp.le_trans l3 (Hp.le_trans l18 (Hp.le_trans l22 l230))⟩
  simp
end Go.Proofs.YtodmhdfenpkbdaaGreat
