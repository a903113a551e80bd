/- The law CollideNames holds for every input: it returns true, and what came in reads as it did. Conditions: none. -/
import Derived.Test.YtlbdpklikfddlaaGreatRows
import Derived.Test.YtlbdpklikfddlaaGreatPYC
import Derived.Test.YtlbdpklikfddlaaGreatP8
import Derived.Test.YtlbdpklikfddlaaGreatJF
set_option linter.unusedVariables false
set_option maxRecDepth 100000
open Go Go.Eng Go.Proofs
open Go.ChangeShapes Go.WideShapes Go.ChangeAt Go.RowKit
namespace Go.Proofs.YtlbdpklikfddlaaGreat
theorem ownCollideNames:ownKnob Tryz.prog.godebug=none:=jOwn
set_option maxHeartbeats 8000000 in
theorem closedCollideNames:joinedFacts Tryz.prog 5 Tryz.f5 Rows.collideNamesSpec Rows.collideNamesRow=true:=by
 unfold joinedFacts
 refine (jAnd (jAnd (jAnd (jAnd (jAnd (jAnd (jAnd (jAnd (jAnd (jAnd (jAnd (jAnd (jAnd (jAnd (jAnd (jAnd (jAnd (jAnd (jAnd (jAnd (jAnd (jAnd (jAnd (jAnd (jAnd (jAnd (jAnd (jAnd (jAnd (jAnd (jAnd ?_ jLaid) jRowed) ?_) ?_) ?_) ?_) ?_) ?_) ?_) ?_) ?_) ?_) ?_) ?_) ?_) ?_) ?_) ?_) ?_) ?_) ?_) jKeys) ?_) jHeard) jEnter) jLift) jMake) ?_) ?_) ?_) ?_)
 all_goals (as_aux_lemma=>kernel_rfl)
theorem liftedCollideNames (os:Os) (started:os.Started) (H:Type) (enc:TypeId × Value→H) :
  ReturnsInHanded {} Tryz.checked os 5 .any (Rows.collideNamesSpec.pre6 enc Tryz.prog Tryz.f5 Rows.collideNamesRow.domain false) (Rows.collideNamesSpec.post enc Tryz.prog Tryz.f5 false true false false):=by
 refine returnsInHanded_of_change (C:=Tryz.checked) ownCollideNames started (by kernel_rfl) Tryz.func5
  (ChangeSpec.witness6 (enc:=enc) (C:=Tryz.checked) false ⟨#[],#[],[]⟩ 8 (by kernel_rfl) (by kernel_rfl) (by kernel_rfl) (by kernel_rfl)) ?_
 intro W base args ds gs before hval0 hW hcnd _
 have hval:∀ (j:Nat) t v,Tryz.f5.params[j]?=some t→args[j]?=some v→Value.okWide Tryz.prog W .any base t v:=hval0
 have hW':=hW
 obtain ⟨p,q,hA0,hV,rfl,hfz,hnd⟩:=hW
 have hA:DataW.TrodAll enc Tryz.prog W 0 (fun _=>true) true Tryz.f5.params.toList args.toList ds p:=hA0
 rw [Tryz.params5] at hA hval
 obtain ⟨hargs,rfl,rfl⟩:=trodAll_none hA
 obtain rfl:args=#[]:=by cases args; simp_all
 obtain ⟨rfl,rfl⟩:=trodVars_none hV
 clear hA0 hval0
 refine (Qf.below (collideNames)).mono fun e W' ⟨he,bel⟩=>?_
 subst he
 exact ⟨_,rfl,_,_,_,[],_,[],hW',trodAll_mk1 (shut_bool Tryz.underlying4 _),trodAll_mk0,rfl,bel.frame _,fun h=>by cases h⟩
theorem overCollideNames:Rows.collideNamesRow.holds Tryz.pinned (OpenSpec.ofChange Rows.collideNamesSpec) :=
 OpenClaim.holds_of_wide 5 Tryz.f5 rfl rfl rfl rfl rfl rfl rfl ⟨rfl,rfl,rfl,rfl,rfl⟩ rfl rfl rfl rfl rfl (by kernel_rfl) Tryz.func5 closedCollideNames
  (of_decide_eq_true (by kernel_rfl)) (by unfold Func.isWrapper; first | (rw [if_pos (by decide +kernel)]; kernel_rfl) | (rw [if_neg (by decide +kernel)]; exact ⟨rfl,rfl⟩))
  (fun os started H enc _=>liftedCollideNames os started H enc)
theorem provedCollideNames:Rows.CollideNamesSaid:=overCollideNames
end Go.Proofs.YtlbdpklikfddlaaGreat
