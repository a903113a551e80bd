/- The law AgendaNames holds for every input: it returns true, and what came in reads as it did. Conditions: none. -/
import Derived.Test.YtmnbekffebdfmaaRows
import Derived.Test.YtmnbekffebdfmaaSO
import Derived.Test.YtmnbekffebdfmaaGN
import Derived.Test.YtmnbekffebdfmaaFs
set_option linter.unusedVariables false
set_option maxRecDepth 100000
open Go Go.Eng Go.Proofs
open Go.ChangeShapes Go.WideShapes Go.ChangeAt Go.RowKit
namespace Go.Proofs.Ytmnbekffebdfmaa
theorem ownAgendaNames : ownKnob Try.prog.godebug = none := by kernel_rfl
theorem laidOutAgendaNames : laidOutB Try.prog = true := by kernel_rfl
theorem liftedAgendaNames (os : Os) (started : os.Started) (H : Type) (enc : TypeId × Value → H) :
    ReturnsInHanded {} Try.checked os 17 .any (Rows.agendaNamesSpec.pre6 enc Try.prog Try.f17 Rows.agendaNamesRow.domain false) (Rows.agendaNamesSpec.post enc Try.prog Try.f17 false true false false) := by
  refine returnsInHanded_of_change (C := Try.checked) ownAgendaNames started (by kernel_rfl) Try.func17
    (ChangeSpec.witness6 (enc := enc) (C := Try.checked) false ⟨#[], #[], []⟩ 8 (by kernel_rfl) (by kernel_rfl) (by kernel_rfl) (by kernel_rfl)) ?_
  intro W base args ds gs before hval0 hW hcnd _
  have hval : ∀ (j : Nat) t v, Try.f17.params[j]? = some t → args[j]? = some v → Value.okWide Try.prog W .any base t v := hval0
  have hW' := hW
  obtain ⟨p, q, hA0, hV, rfl, hfz, hnd⟩ := hW
  have hA : DataW.TrodAll enc Try.prog W 0 (fun _ => true) true Try.f17.params.toList args.toList ds p := hA0
  rw [Try.params17] at hA hval
  obtain ⟨hargs, rfl, rfl⟩ := trodAll_none hA
  obtain rfl : args = #[] := by cases args; simp_all
  obtain ⟨rfl, rfl⟩ := trodVars_none hV
  clear hA0 hval0
  refine (Qf.below (agendaNames)).mono fun e W' ⟨he, bel⟩ => ?_
  subst he
  exact ⟨_, rfl, _, _, _, [], _, [], hW', trodAll_mk1 (shut_bool Try.underlying4 _), trodAll_mk0, rfl, bel.frame _, fun h => by cases h⟩
theorem overAgendaNames : Rows.agendaNamesRow.holds Try.pinned (OpenSpec.ofChange Rows.agendaNamesSpec) :=
  OpenClaim.holds_of_wide 17 Try.f17 rfl rfl rfl rfl rfl rfl rfl ⟨rfl, rfl, rfl, rfl, rfl⟩ rfl rfl rfl rfl rfl (by kernel_rfl) Try.func17 (by kernel_rfl)
    (of_decide_eq_true (by kernel_rfl)) (by unfold Func.isWrapper; first | (rw [if_pos (by decide +kernel)]; kernel_rfl) | (rw [if_neg (by decide +kernel)]; exact ⟨rfl, rfl⟩))
    (fun os started H enc _ => liftedAgendaNames os started H enc)
/-- The given statement. -/
theorem provedAgendaNames : Rows.AgendaNamesSaid := overAgendaNames
end Go.Proofs.Ytmnbekffebdfmaa
