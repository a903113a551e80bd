/- The engine, parts LB, LC, put together. Conditions: none. -/
import Derived.Test.YtkemdpobjaiolaaGreatPL3
import Derived.Test.YtkemdpobjaiolaaGreatVgClock
import Derived.Test.YtkemdpobjaiolaaGreatFs
set_option linter.unusedVariables false
section
/- Clocks: retiring, failing, moving. Conditions: none. -/
set_option maxRecDepth 100000
open Go Go.Eng Go.Proofs
namespace Go.Proofs.YtkemdpobjaiolaaGreat

theorem clockNext {H : Hp} {u : Cu} {c : Ck} (r : RdK H u c) (fk : fitK c) : Qf Tryz.prog F.clock_Next #[ckV u c] H (.tuple #[evV (nextK c).1, .int .i64 (nextK c).2]) := by
  refine clock_Next_vc ⟨_, clockCheck r fk, fun hc => ?_, fun hc => ?_⟩
  · have hk : ¬ okK c := fun ok => by rw [chkK_ok ok] at hc; simp at hc
    rw [chkK_bad hk]
    unfold nextK; rw [if_neg hk]
    exact ⟨rfl, Hp.le_refl _⟩
  · have ok : okK c := chkK_zero.1 (by simpa using hc)
    refine ⟨_, _, _, _, _, _, agendaTop r.ag fk.ag, ?_, Hp.le_refl _⟩
    unfold nextK topA
    rw [if_pos ok, if_pos ok.ag]

theorem rUntil {H : Hp} {u : Cu} {c : Ck} {t : Int × Int} (r : RdK H u c) (fk : fitK c) (ht : fitR t) : Qf Tryz.prog F.pelotonref09_Until #[ckV u c, raW t] H (.int .i64 (untilK c t)) := by
  unfold untilK
  refine pelotonref09_Until_vc ⟨_, refKCheck r fk, _, fun _ => refRCheck ht, fun hc => ?_, fun hc => ?_⟩
  · have hk : ¬ (okK c ∧ okR t) := fun h => by rw [chkK_ok h.1, chkR_ok h.2] at hc; simp at hc
    rw [if_neg hk]; exact ⟨rfl, Hp.le_refl _⟩
  · simp only [Bool.or_eq_false_iff, bne_eq_false_iff_eq] at hc
    have ok := chkK_zero.1 hc.1
    have ot := chkR_zero.1 hc.2
    rw [if_pos ⟨ok, ot⟩]
    refine ⟨_, refCompareR ot ok.now, fun hb => ?_, fun hb => ?_⟩
    · rw [if_pos (by simpa using hb)]; exact ⟨rfl, Hp.le_refl _⟩
    · rw [if_neg (by simpa using hb)]; exact ⟨rfl, Hp.le_refl _⟩
end Go.Proofs.YtkemdpobjaiolaaGreat
end
