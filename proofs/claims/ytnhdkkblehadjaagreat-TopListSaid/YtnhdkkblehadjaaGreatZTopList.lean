/- The law TopList holds for every input: it returns true, and what came in reads as it did. Conditions: none. -/
import Derived.Test.YtnhdkkblehadjaaGreatPTD
import Derived.Test.YtnhdkkblehadjaaGreatP8
import Derived.Test.YtnhdkkblehadjaaGreatJF
set_option linter.unusedVariables false
set_option maxRecDepth 100000
open Go Go.Eng Go.Proofs
open Go.ChangeShapes Go.WideShapes Go.ChangeAt Go.RowKit
namespace Go.Proofs.YtnhdkkblehadjaaGreat
theorem ownTopList:ownKnob Tryz.prog.godebug=none:=y7l
theorem laidOutTopList:laidOutB Tryz.prog=true:=y7i
set_option maxHeartbeats 8000000 in
theorem closedTopList:joinedFacts Tryz.prog 3 Tryz.f3 Rows.topListSpec Rows.topListRow=true:=by
 unfold joinedFacts;refine(y7e (y7e (y7e (y7e (y7e (y7e (y7e (y7e (y7e (y7e (y7e (y7e (y7e (y7e (y7e (y7e (y7e (y7e (y7e (y7e (y7e (y7e (y7e (y7e (y7e (y7e (y7e (y7e (y7e (y7e (y7e ?_ y7i) y7m) ?_) ?_) ?_) ?_) ?_) ?_) ?_) ?_) ?_) ?_) ?_) ?_) ?_) ?_) ?_) ?_) ?_) ?_) ?_) y7h) ?_) y7g) y7f) y7j) y7k) ?_) ?_) ?_) ?_)
 all_goals (as_aux_lemma=>kernel_rfl)
theorem liftedTopList(os:Os)(started:os.Started)(H:Type)(enc:TypeId×Value->H) :
  ReturnsInHanded {} Tryz.checked os 3 .any (Rows.topListSpec.pre6 enc Tryz.prog Tryz.f3 Rows.topListRow.domain false) (Rows.topListSpec.post enc Tryz.prog Tryz.f3 false true false false):=by
 refine returnsInHanded_of_change (C:=Tryz.checked) ownTopList started (by kernel_rfl) Tryz.func3
  (ChangeSpec.witness6 (enc:=enc) (C:=Tryz.checked) false ⟨#[],#[.agg #[.slice none 0 0],.agg #[vi 0,vi 0],.agg #[vi 0,vi 0],.agg #[vi 0,vi 0,vi 0]],[]⟩ 8 (by kernel_rfl) (by kernel_rfl) (by kernel_rfl) (by kernel_rfl)) ?_
 intro W base args ds gs before hval0 hW hcnd _;have hval:∀(j:Nat) t v,Tryz.f3.params[j]?=some t->args[j]?=some v->Value.okWide Tryz.prog W .any base t v:=hval0;have hW':=hW;obtain⟨p,q,hA0,hV,rfl,hfz,hnd⟩:=hW;have hA:DataW.TrodAll enc Tryz.prog W 0 (λ_=>true) true Tryz.f3.params.toList args.toList ds p:=hA0;rw[Tryz.params3] at hA hval;obtain⟨v0,vs0,d0,ds0,p0,q0,hargs,rfl,rfl,h0,r0⟩:=trodAll_cons hA;obtain⟨v1,vs1,d1,ds1,p1,q1,rfl,rfl,rfl,h1,r1⟩:=trodAll_cons r0;obtain⟨v2,vs2,d2,ds2,p2,q2,rfl,rfl,rfl,h2,r2⟩:=trodAll_cons r1;obtain⟨v3,vs3,d3,ds3,p3,q3,rfl,rfl,rfl,h3,r3⟩:=trodAll_cons r2;obtain⟨rfl,rfl,rfl⟩:=trodAll_nil r3;obtain rfl:args=#[v0,v1,v2,v3]:=by cases args;simp_all
 obtain⟨rfl,rfl⟩:=trodVars_none hV;have k0:=h0;have lt0:∀x∈p0,x.block<W.heap.size:=by
  obtain⟨m,hm⟩:=k0;exact DataW.trod_lt m _ _ _ hm
 obtain⟨w,f,rfl,hf,_⟩:=yks (hval 0 24 v0 rfl rfl) h0;have k1:=h1;have lt1:∀x∈p1,x.block<W.heap.size:=by
  obtain⟨m,hm⟩:=k1;exact DataW.trod_lt m _ _ _ hm
 obtain⟨ra,rfl,fa⟩:=yl2 (hval 1 26 v1 rfl rfl) h1;have k2:=h2;have lt2:∀x∈p2,x.block<W.heap.size:=by
  obtain⟨m,hm⟩:=k2;exact DataW.trod_lt m _ _ _ hm
 obtain⟨rb,rfl,fb⟩:=yl2 (hval 2 26 v2 rfl rfl) h2;have k3:=h3;have lt3:∀x∈p3,x.block<W.heap.size:=by
  obtain⟨m,hm⟩:=k3;exact DataW.trod_lt m _ _ _ hm
 obtain⟨pt,rfl,fp⟩:=yl0 (hval 3 28 v3 rfl rfl) h3;clear hA0 hval0;refine(Qf.below (x9r (p:=pt) hf fa fb)).mono λe W' ⟨he,bel⟩=>?_
 subst he;exact⟨_,rfl,_,_,_,[],_,[],hW',trodAll_mk1 (shut_bool Tryz.underlying4 _),(trodAll_cons_mk (Below.trod laidOutTopList (by kernel_rfl) (Zr (by kernel_rfl)) k0 bel lt0) (trodAll_cons_mk (Below.trod laidOutTopList (by kernel_rfl) (Zr (by kernel_rfl)) k1 bel lt1) (trodAll_cons_mk (Below.trod laidOutTopList (by kernel_rfl) (Zr (by kernel_rfl)) k2 bel lt2) (trodAll_cons_mk (Below.trod laidOutTopList (by kernel_rfl) (Zr (by kernel_rfl)) k3 bel lt3) trodAll_mk0)))),rfl,bel.frame _,λh=>by cases h⟩
theorem overTopList:Rows.topListRow.holds Tryz.pinned (OpenSpec.ofChange Rows.topListSpec) :=
 OpenClaim.holds_of_wide 3 Tryz.f3 rfl rfl rfl rfl rfl rfl rfl ⟨rfl,rfl,rfl,rfl,rfl⟩ rfl rfl rfl rfl rfl (by kernel_rfl) Tryz.func3 closedTopList
  (Zr (by kernel_rfl)) (by unfold Func.isWrapper;first|(rw[Zp (by decide +kernel)];kernel_rfl)|(rw[Zn (by decide +kernel)];exact⟨rfl,rfl⟩))
  (λos started H enc _=>liftedTopList os started H enc)
theorem provedTopList:Rows.TopListSaid:=overTopList
