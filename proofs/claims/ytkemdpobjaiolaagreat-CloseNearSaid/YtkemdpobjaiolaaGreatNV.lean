/- The law GapsNever. Conditions: none. -/
import Derived.Test.YtkemdpobjaiolaaGreatPS1
import Derived.Test.YtkemdpobjaiolaaGreatPQ1
import Derived.Test.YtkemdpobjaiolaaGreatPM4
import Derived.Test.YtkemdpobjaiolaaGreatPD1
import Derived.Test.YtkemdpobjaiolaaGreatVgBase
import Derived.Test.YtkemdpobjaiolaaGreatVgLGapsNever
import Derived.Test.YtkemdpobjaiolaaGreatFs
set_option linter.unusedVariables false
set_option maxRecDepth 100000
open Go Go.Eng Go.Proofs
namespace Go.Proofs.YtkemdpobjaiolaaGreat

theorem subM_zero {a b : Int × Int} : addM a (0 - b.1, b.2) = subM a b := by unfold subM; rw [Int.zero_sub]
theorem refSub {H : Hp} {a b : Int × Int} (oa : okR a) (ob : okR b) :
    Qf Tryz.prog F.pelotonref01_Sub #[sI2 a.1 a.2, sI2 b.1 b.2] H (.tuple #[sI2 (subM a b).1.1 (subM a b).1.2, .int .i64 (subM a b).2]) := by
  have on := (okR_neg ob).fit
  rw [show ((-b.1, b.2) : Int × Int) = (0 - b.1, b.2) by rw [Int.zero_sub]] at on
  rw [← subM_zero]
  have n1 := ob.n1; have n2 := ob.n2
  exact pelotonref01_Sub_vc ⟨_, refBoth oa.fit ob.fit, fun hc => by rw [if_pos ⟨oa, ob⟩] at hc; simp at hc, fun _ => ⟨by unfold inI; omega, _, _, _, refAdd (a := a) (b := (0 - b.1, b.2)) oa.fit on, rfl, Hp.le_refl _⟩⟩
theorem ratioSub {H : Hp} {a b : Int × Int} (oa : okR a) (ob : okR b) :
    Qf Tryz.prog F.ratio_Sub #[sI2 a.1 a.2, sI2 b.1 b.2] H (.tuple #[sI2 (subM a b).1.1 (subM a b).1.2, .int .i64 (subM a b).2]) := by
  have on := (okR_neg ob).fit
  rw [show ((-b.1, b.2) : Int × Int) = (0 - b.1, b.2) by rw [Int.zero_sub]] at on
  rw [← subM_zero]
  have n1 := ob.n1; have n2 := ob.n2
  exact ratio_Sub_vc ⟨_, ratioBoth oa.fit ob.fit, fun hc => by rw [if_pos ⟨oa, ob⟩] at hc; simp at hc, fun _ => ⟨by unfold inI; omega, _, _, _, ratioAdd (a := a) (b := (0 - b.1, b.2)) oa.fit on, rfl, Hp.le_refl _⟩⟩

end Go.Proofs.YtkemdpobjaiolaaGreat
