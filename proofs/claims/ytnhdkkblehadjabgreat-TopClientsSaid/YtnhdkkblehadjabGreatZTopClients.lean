/- The law TopClients holds for every input: it returns true, and what came in reads as it did. Conditions: none. -/
import Derived.Test.YtnhdkkblehadjabGreatRows
import Derived.Test.YtnhdkkblehadjabGreatPTD
import Derived.Test.YtnhdkkblehadjabGreatP8
import Derived.Test.YtnhdkkblehadjabGreatJF
set_option linter.unusedVariables false
set_option maxRecDepth 100000
open Go Go.Eng Go.Proofs
open Go.ChangeShapes Go.WideShapes Go.ChangeAt Go.RowKit
namespace Go.Proofs.YtnhdkkblehadjabGreat
theorem ownTopClients:ownKnob Tryz.prog.godebug=none:=y5c
theorem laidOutTopClients:laidOutB Tryz.prog=true:=y59
set_option maxHeartbeats 8000000 in
theorem closedTopClients:joinedFacts Tryz.prog 3 Tryz.f3 Rows.topClientsSpec Rows.topClientsRow=true:=by
 unfold joinedFacts
 refine(y55 (y55 (y55 (y55 (y55 (y55 (y55 (y55 (y55 (y55 (y55 (y55 (y55 (y55 (y55 (y55 (y55 (y55 (y55 (y55 (y55 (y55 (y55 (y55 (y55 (y55 (y55 (y55 (y55 (y55 (y55 ?_ y59) y5d) ?_) ?_) ?_) ?_) ?_) ?_) ?_) ?_) ?_) ?_) ?_) ?_) ?_) ?_) ?_) ?_) ?_) ?_) ?_) y58) ?_) y57) y56) y5a) y5b) ?_) ?_) ?_) ?_)
 all_goals (as_aux_lemma=>kernel_rfl)
theorem liftedTopClients(os:Os)(started:os.Started)(H:Type)(enc:TypeId×Value->H) :
  ReturnsInHanded {} Tryz.checked os 3 .any (Rows.topClientsSpec.pre6 enc Tryz.prog Tryz.f3 Rows.topClientsRow.domain false) (Rows.topClientsSpec.post enc Tryz.prog Tryz.f3 false true false false):=by
 refine returnsInHanded_of_change (C:=Tryz.checked) ownTopClients started (by kernel_rfl) Tryz.func3
  (ChangeSpec.witness6 (enc:=enc) (C:=Tryz.checked) false ⟨#[],#[.agg #[.slice none 0 0],.agg #[.int .i64 0,.int .i64 0],.agg #[.int .i64 0,.int .i64 0]],[]⟩ 8 (by kernel_rfl) (by kernel_rfl) (by kernel_rfl) (by kernel_rfl)) ?_
 intro W base args ds gs before hval0 hW hcnd _
 have hval:∀(j:Nat) t v,Tryz.f3.params[j]?=some t->args[j]?=some v->Value.okWide Tryz.prog W .any base t v:=hval0
 have hW':=hW
 obtain⟨p,q,hA0,hV,rfl,hfz,hnd⟩:=hW
 have hA:DataW.TrodAll enc Tryz.prog W 0 (λ_=>true) true Tryz.f3.params.toList args.toList ds p:=hA0
 rw[Tryz.params3] at hA hval
 obtain⟨v0,vs0,d0,ds0,p0,q0,hargs,rfl,rfl,h0,r0⟩:=trodAll_cons hA
 obtain⟨v1,vs1,d1,ds1,p1,q1,rfl,rfl,rfl,h1,r1⟩:=trodAll_cons r0
 obtain⟨v2,vs2,d2,ds2,p2,q2,rfl,rfl,rfl,h2,r2⟩:=trodAll_cons r1
 obtain⟨rfl,rfl,rfl⟩:=trodAll_nil r2
 obtain rfl:args=#[v0,v1,v2]:=by cases args;simp_all
 obtain⟨rfl,rfl⟩:=trodVars_none hV
 have k0:=h0
 have lt0:∀x∈p0,x.block<W.heap.size:=by
  obtain⟨m,hm⟩:=k0
  exact DataW.trod_lt m _ _ _ hm
 obtain⟨w,f,rfl,hf,_⟩:=yhp (hval 0 24 v0 rfl rfl) h0
 have k1:=h1
 have lt1:∀x∈p1,x.block<W.heap.size:=by
  obtain⟨m,hm⟩:=k1
  exact DataW.trod_lt m _ _ _ hm
 obtain⟨ra,rfl,fa⟩:=yhy (hval 1 26 v1 rfl rfl) h1
 have k2:=h2
 have lt2:∀x∈p2,x.block<W.heap.size:=by
  obtain⟨m,hm⟩:=k2
  exact DataW.trod_lt m _ _ _ hm
 obtain⟨rb,rfl,fb⟩:=yhy (hval 2 26 v2 rfl rfl) h2
 clear hA0 hval0
 refine(Qf.below (x5s hf fa fb)).mono λe W' ⟨he,bel⟩=>?_
 subst he
 exact⟨_,rfl,_,_,_,[],_,[],hW',trodAll_mk1 (shut_bool Tryz.underlying4 _),(trodAll_cons_mk (Below.trod laidOutTopClients (by kernel_rfl) (of_decide_eq_true (by kernel_rfl)) k0 bel lt0) (trodAll_cons_mk (Below.trod laidOutTopClients (by kernel_rfl) (of_decide_eq_true (by kernel_rfl)) k1 bel lt1) (trodAll_cons_mk (Below.trod laidOutTopClients (by kernel_rfl) (of_decide_eq_true (by kernel_rfl)) k2 bel lt2) trodAll_mk0))),rfl,bel.frame _,λh=>by cases h⟩
theorem overTopClients:Rows.topClientsRow.holds Tryz.pinned (OpenSpec.ofChange Rows.topClientsSpec) :=
 OpenClaim.holds_of_wide 3 Tryz.f3 rfl rfl rfl rfl rfl rfl rfl ⟨rfl,rfl,rfl,rfl,rfl⟩ rfl rfl rfl rfl rfl (by kernel_rfl) Tryz.func3 closedTopClients
  (of_decide_eq_true (by kernel_rfl)) (by unfold Func.isWrapper;first|(rw[if_pos (by decide +kernel)];kernel_rfl)|(rw[if_neg (by decide +kernel)];exact⟨rfl,rfl⟩))
  (λos started H enc _=>liftedTopClients os started H enc)
theorem provedTopClients:Rows.TopClientsSaid:=overTopClients
end Go.Proofs.YtnhdkkblehadjabGreat
