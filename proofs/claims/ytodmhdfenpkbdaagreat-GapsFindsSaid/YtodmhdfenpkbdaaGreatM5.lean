/- The law GapsFinds. Conditions: none. -/
import Derived.Test.YtodmhdfenpkbdaaGreatPM3
import Derived.Test.YtodmhdfenpkbdaaGreatVgLGapsFinds
import Derived.Test.YtodmhdfenpkbdaaGreatFs
set_option linter.unusedVariables false
set_option maxRecDepth 100000
open Go Go.Eng Go.Proofs
namespace Go.Proofs.YtodmhdfenpkbdaaGreat
theorem gapsFinds {H : Hp} {u : Lu} {l : Ls} {i k : Int} (r : RdL H u l) (hn : fitR l.ck.now) (hh : ∀ y ∈ l.ck.ag.heap, fitR y.at_) : Qf Tryz.prog F.pelotonlaw27_GapsFinds #[lsV u l, .int .i64 i, .int .i64 k] H (.bool true) := by
  refine pelotonlaw27_GapsFinds_vc ⟨_, refLGreat r, fun _ => ⟨rfl, Hp.le_refl _⟩, fun hg => ?_⟩
  have fl := fitL_of hn hg hh
  have f2 := fl.n
  refine (refLTwin r fl).mono fun v H3 ⟨w, hv, l3, r3⟩ => ⟨_, _, w.k.f, _, w.k.cl, w.k.u1, w.k.u2, w.k.u3, w.k.u4, w.k.u5, w.k.d, w.o, w.n, hv, ?_⟩
  refine (gapsOf (r.le l3) fl).mono fun v H18 ⟨s1, hv, l18, m1⟩ => ⟨s1, _, hv, ?_⟩
  refine (refOf (r3.le l18) fl).mono fun v H22 ⟨s2, hv, l22, m2⟩ => ⟨s2, _, hv, ?_⟩
  have rk := r.le (Hp.le_trans l3 (Hp.le_trans l18 l22))
  have sk := r3.le (Hp.le_trans l18 l22)
  have lg : (ofM l).1.length ≤ 1000000 := by
    unfold ofM; split
    · show (gapsM l).length ≤ _; unfold gapsM; rw [gapsN_len]; omega
    · simp
  have q1 := gapsFirst rk fl
  have q2 := refFirst sk fl
  have q3 := gapsSum (i := i) (k := k) rk fl
  have q4 := refSum (i := i) (k := k) sk fl
  refine ⟨_, _, _, _, q1, _, _, _, _, q2, _, _, _, _, _, q3, _, _, _, _, _, q4, _, refGSame (gs := (ofM l).1) ((m1.le l22).rd (fun _ => rfl)) (m2.rd (fun _ => rfl)) lg, _, fun _ => refLSame rk sk fl, ?_, Hp.le_trans l3 (Hp.le_trans l18 l22)⟩
  simp
end Go.Proofs.YtodmhdfenpkbdaaGreat
