/- Gaps: what is asked of a gap and a time. Conditions: none. -/
import Derived.Test.YthmlkdflhnjhcaaK3
import Derived.Test.YthmlkdflhnjhcaaVgGaps
import Derived.Test.YthmlkdflhnjhcaaFs
set_option linter.unusedVariables false
set_option maxRecDepth 100000
open Go Go.Eng Go.Proofs
namespace Go.Proofs.Ythmlkdflhnjhcaa

def askM (g : Gp) (t : Int × Int) : Int := if okGp g ∧ okR t then 0 else 8
theorem askM_ok {g : Gp} {t : Int × Int} (h : okGp g) (h2 : okR t) : askM g t = 0 := by unfold askM; rw [if_pos ⟨h, h2⟩]
theorem askM_zero {g : Gp} {t : Int × Int} : askM g t = 0 ↔ okGp g ∧ okR t := by
  unfold askM
  split
  · rename_i h; simp [h]
  · rename_i h; simp [h]

theorem gapsAsk {H : Hp} {g : Gp} {t : Int × Int} (ht : fitR t) : Qf Try.prog F.gaps_check #[gpV g, .agg #[.int .i64 t.1, .int .i64 t.2]] H (.int .i64 (askM g t)) := by
  refine gaps_check_vc ⟨_, gapsCheck, fun hc => ?_, fun hc => ⟨_, ratioCheck ht, ?_, Hp.le_refl _⟩⟩
  · have h : ¬ okGp g := fun ok => by rw [chkGp_ok ok] at hc; simp at hc
    unfold askM
    rw [chkGp_bad h, if_neg fun x => h x.1]
    exact ⟨rfl, Hp.le_refl _⟩
  · have h : okGp g := by
      by_cases x : okGp g
      · exact x
      · rw [chkGp_bad x] at hc; simp at hc
    unfold askM
    by_cases h2 : okR t
    · rw [chkR_ok h2, if_pos ⟨h, h2⟩]
    · rw [chkR_bad h2, if_neg fun x => h2 x.2]
theorem refAsk {H : Hp} {g : Gp} {t : Int × Int} (ht : fitR t) : Qf Try.prog F.pelotonref27_asked #[gpV g, .agg #[.int .i64 t.1, .int .i64 t.2]] H (.int .i64 (askM g t)) := by
  refine pelotonref27_asked_vc ⟨_, refGapCheck, fun hc => ⟨_, refGapCheck, ?_, Hp.le_refl _⟩, fun hc => ⟨_, refRCheck ht, ?_, Hp.le_refl _⟩⟩
  · have h : ¬ okGp g := fun ok => by rw [chkGp_ok ok] at hc; simp at hc
    unfold askM
    rw [chkGp_bad h, if_neg fun x => h x.1]
  · have h : okGp g := by
      by_cases x : okGp g
      · exact x
      · rw [chkGp_bad x] at hc; simp at hc
    unfold askM
    by_cases h2 : okR t
    · rw [chkR_ok h2, if_pos ⟨h, h2⟩]
    · rw [chkR_bad h2, if_neg fun x => h2 x.2]
end Go.Proofs.Ythmlkdflhnjhcaa
