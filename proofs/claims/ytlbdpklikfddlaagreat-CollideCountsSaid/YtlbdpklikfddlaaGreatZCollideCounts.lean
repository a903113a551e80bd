/- The law CollideCounts holds for every input: it returns true, and what came in reads as it did. Conditions: none. -/
import Derived.Test.YtlbdpklikfddlaaGreatRows
import Derived.Test.YtlbdpklikfddlaaGreatPYC
import Derived.Test.YtlbdpklikfddlaaGreatP8
import Derived.Test.YtlbdpklikfddlaaGreatJF
set_option linter.unusedVariables false
set_option maxRecDepth 100000
open Go Go.Eng Go.Proofs
open Go.ChangeShapes Go.WideShapes Go.ChangeAt Go.RowKit
namespace Go.Proofs.YtlbdpklikfddlaaGreat
theorem ownCollideCounts:ownKnob Tryz.prog.godebug=none:=jOwn
theorem laidOutCollideCounts:laidOutB Tryz.prog=true:=jLaid
set_option maxHeartbeats 8000000 in
theorem closedCollideCounts:joinedFacts Tryz.prog 6 Tryz.f6 Rows.collideCountsSpec Rows.collideCountsRow=true:=by
 unfold joinedFacts
 refine (jAnd (jAnd (jAnd (jAnd (jAnd (jAnd (jAnd (jAnd (jAnd (jAnd (jAnd (jAnd (jAnd (jAnd (jAnd (jAnd (jAnd (jAnd (jAnd (jAnd (jAnd (jAnd (jAnd (jAnd (jAnd (jAnd (jAnd (jAnd (jAnd (jAnd (jAnd ?_ jLaid) jRowed) ?_) ?_) ?_) ?_) ?_) ?_) ?_) ?_) ?_) ?_) ?_) ?_) ?_) ?_) ?_) ?_) ?_) ?_) ?_) jKeys) ?_) jHeard) jEnter) jLift) jMake) ?_) ?_) ?_) ?_)
 all_goals (as_aux_lemma=>kernel_rfl)
theorem liftedCollideCounts (os:Os) (started:os.Started) (H:Type) (enc:TypeId × Value→H) :
  ReturnsInHanded {} Tryz.checked os 6 .any (Rows.collideCountsSpec.pre6 enc Tryz.prog Tryz.f6 Rows.collideCountsRow.domain false) (Rows.collideCountsSpec.post enc Tryz.prog Tryz.f6 false true false false):=by
 refine returnsInHanded_of_change (C:=Tryz.checked) ownCollideCounts started (by kernel_rfl) Tryz.func6
  (ChangeSpec.witness6 (enc:=enc) (C:=Tryz.checked) false ⟨#[],#[.slice none 0 0],[]⟩ 8 (by kernel_rfl) (by kernel_rfl) (by kernel_rfl) (by kernel_rfl)) ?_
 intro W base args ds gs before hval0 hW hcnd _
 have hval:∀ (j:Nat) t v,Tryz.f6.params[j]?=some t→args[j]?=some v→Value.okWide Tryz.prog W .any base t v:=hval0
 have hW':=hW
 obtain ⟨p,q,hA0,hV,rfl,hfz,hnd⟩:=hW
 have hA:DataW.TrodAll enc Tryz.prog W 0 (fun _=>true) true Tryz.f6.params.toList args.toList ds p:=hA0
 rw [Tryz.params6] at hA hval
 obtain ⟨v0,vs0,d0,ds0,p0,q0,hargs,rfl,rfl,h0,r0⟩:=trodAll_cons hA
 obtain ⟨rfl,rfl,rfl⟩:=trodAll_nil r0
 obtain rfl:args=#[v0]:=by cases args; simp_all
 obtain ⟨rfl,rfl⟩:=trodVars_none hV
 have k0:=h0
 have lt0:∀ x∈p0,x.block<W.heap.size:=by
  obtain ⟨m,hm⟩:=k0
  exact DataW.trod_lt m _ _ _ hm
 obtain ⟨u,m,rfl,r,ft,_⟩:=openLog (hval 0 62 v0 rfl rfl) h0
 clear hA0 hval0
 refine (Qf.below (collideCounts r ft)).mono fun e W' ⟨he,bel⟩=>?_
 subst he
 exact ⟨_,rfl,_,_,_,[],_,[],hW',trodAll_mk1 (shut_bool Tryz.underlying4 _),(trodAll_cons_mk (Below.trod laidOutCollideCounts (by kernel_rfl) (of_decide_eq_true (by kernel_rfl)) k0 bel lt0) trodAll_mk0),rfl,bel.frame _,fun h=>by cases h⟩
theorem overCollideCounts:Rows.collideCountsRow.holds Tryz.pinned (OpenSpec.ofChange Rows.collideCountsSpec) :=
 OpenClaim.holds_of_wide 6 Tryz.f6 rfl rfl rfl rfl rfl rfl rfl ⟨rfl,rfl,rfl,rfl,rfl⟩ rfl rfl rfl rfl rfl (by kernel_rfl) Tryz.func6 closedCollideCounts
  (of_decide_eq_true (by kernel_rfl)) (by unfold Func.isWrapper; first | (rw [if_pos (by decide +kernel)]; kernel_rfl) | (rw [if_neg (by decide +kernel)]; exact ⟨rfl,rfl⟩))
  (fun os started H enc _=>liftedCollideCounts os started H enc)
theorem provedCollideCounts:Rows.CollideCountsSaid:=overCollideCounts
end Go.Proofs.YtlbdpklikfddlaaGreat
