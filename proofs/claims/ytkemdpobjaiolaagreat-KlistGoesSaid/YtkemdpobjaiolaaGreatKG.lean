/- The law KlistGoes. Conditions: none. -/
import Derived.Test.YtkemdpobjaiolaaGreatPS2
import Derived.Test.YtkemdpobjaiolaaGreatVgLKlistGoes
import Derived.Test.YtkemdpobjaiolaaGreatFs
set_option linter.unusedVariables false
set_option maxRecDepth 100000
open Go Go.Eng Go.Proofs
namespace Go.Proofs.YtkemdpobjaiolaaGreat

set_option maxHeartbeats 1000000 in
theorem klistGoes {H : Hp} {u : Lu} {l : Ls} {to : Int × Int} (r : RdL H u l) (hn : fitR l.ck.now) (hh : ∀ y ∈ l.ck.ag.heap, fitR y.at_) (ht : fitR to) :
    Qf Tryz.prog F.pelotonlaw25_KlistGoes #[lsV u l, raW to] H (.bool true) := by
  refine pelotonlaw25_KlistGoes_vc ⟨_, refLGreat r, fun _ => ⟨rfl, Hp.le_refl _⟩, fun hg => ?_⟩
  have fl := fitL_of hn hg hh
  refine (refLTwin r fl).mono fun v H3 ⟨z, hv, l3, rz⟩ => ⟨_, _, z.k.f, _, z.k.cl, z.k.u1, z.k.u2, z.k.u3, z.k.u4, z.k.u5, z.k.d, z.o, z.n, hv, ?_⟩
  refine (klistStep (r.le l3) fl).mono fun v H18 ⟨a, hv, l18, ra⟩ => ⟨_, _, a.k.f, _, a.k.cl, a.k.u1, a.k.u2, a.k.u3, a.k.u4, a.k.u5, a.k.d, a.o, a.n, _, _, hv, ?_⟩
  refine (rStep (rz.le l18) fl).mono fun v H35 ⟨b, hv, l35, rb⟩ => ⟨_, _, b.k.f, _, b.k.cl, b.k.u1, b.k.u2, b.k.u3, b.k.u4, b.k.u5, b.k.d, b.o, b.n, _, _, hv, ?_⟩
  have l335 := Hp.le_trans l18 l35
  refine (klistAdvance (r.le (Hp.le_trans l3 l335)) fl ht).mono fun v H52 ⟨c, hv, l52, rc⟩ => ⟨_, _, c.k.f, _, c.k.cl, c.k.u1, c.k.u2, c.k.u3, c.k.u4, c.k.u5, c.k.d, c.o, c.n, _, _, hv, ?_⟩
  refine (rAdvance (rz.le (Hp.le_trans l335 l52)) fl ht).mono fun v H69 ⟨d, hv, l69, rd⟩ => ⟨_, _, d.k.f, _, d.k.cl, d.k.u1, d.k.u2, d.k.u3, d.k.u4, d.k.u5, d.k.d, d.o, d.n, _, _, hv, ?_⟩
  have l5269 := Hp.le_trans l52 l69
  have l369 := Hp.le_trans l335 l5269
  have q1 := refLSame (ra.le (Hp.le_trans l35 l5269)) (rb.le l5269) (stepL_fit l)
  have q2 := refLSame (rc.le l69) rd (advM_fit l to)
  have q3 := refLSame (r.le (Hp.le_trans l3 l369)) (rz.le l369) fl
  exact ⟨true, q1, true, fun _ => q2, true, fun _ => q3, by simp, Hp.le_trans l3 l369⟩
end Go.Proofs.YtkemdpobjaiolaaGreat
