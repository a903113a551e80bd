/- The law LeditGoes holds for every input: it returns true, and what came in reads as it did. Conditions: none. -/
import Derived.Test.YtjhbjjdipmpgjaaGreatRows
import Derived.Test.YtjhbjjdipmpgjaaGreatHL
import Derived.Test.YtjhbjjdipmpgjaaGreatP8
import Derived.Test.YtjhbjjdipmpgjaaGreatJF
set_option linter.unusedVariables false
set_option maxRecDepth 100000
open Go Go.Eng Go.Proofs
open Go.ChangeShapes Go.WideShapes Go.ChangeAt Go.RowKit
namespace Go.Proofs.YtjhbjjdipmpgjaaGreat
theorem ownLeditGoes:ownKnob Tryz.prog.godebug=none:=jOwn
theorem laidOutLeditGoes:laidOutB Tryz.prog=true:=jLaid
set_option maxHeartbeats 8000000 in
theorem closedLeditGoes:joinedFacts Tryz.prog 7 Tryz.f7 Rows.leditGoesSpec Rows.leditGoesRow=true:=by
 unfold joinedFacts
 refine (jAnd (jAnd (jAnd (jAnd (jAnd (jAnd (jAnd (jAnd (jAnd (jAnd (jAnd (jAnd (jAnd (jAnd (jAnd (jAnd (jAnd (jAnd (jAnd (jAnd (jAnd (jAnd (jAnd (jAnd (jAnd (jAnd (jAnd (jAnd (jAnd (jAnd (jAnd ?_ jLaid) jRowed) ?_) ?_) ?_) ?_) ?_) ?_) ?_) ?_) ?_) ?_) ?_) ?_) ?_) ?_) ?_) ?_) ?_) ?_) ?_) jKeys) ?_) jHeard) jEnter) jLift) jMake) ?_) ?_) ?_) ?_)
 all_goals (as_aux_lemma=>kernel_rfl)
theorem liftedLeditGoes (os:Os) (started:os.Started) (H:Type) (enc:TypeId × Value→H) :
  ReturnsInHanded {} Tryz.checked os 7 .any (Rows.leditGoesSpec.pre6 enc Tryz.prog Tryz.f7 Rows.leditGoesRow.domain false) (Rows.leditGoesSpec.post enc Tryz.prog Tryz.f7 false true false false):=by
 refine returnsInHanded_of_change (C:=Tryz.checked) ownLeditGoes started (by kernel_rfl) Tryz.func7
  (ChangeSpec.witness6 (enc:=enc) (C:=Tryz.checked) false ⟨#[],#[.agg #[.int .i64 0,.int .i64 0,.slice none 0 0,.int .i64 0,.slice none 0 0,.slice none 0 0,.slice none 0 0,.slice none 0 0,.slice none 0 0,.slice none 0 0,.slice none 0 0,.slice none 0 0,.slice none 0 0],.agg #[.int .i64 0,.int .i64 0,.int .i64 0],.agg #[.int .i64 0,.int .i64 0,.int .i64 0],.agg #[.int .i64 0,.int .i64 0]],[]⟩ 8 (by kernel_rfl) (by kernel_rfl) (by kernel_rfl) (by kernel_rfl)) ?_
 intro W base args ds gs before hval0 hW hcnd _
 have hval:∀ (j:Nat) t v,Tryz.f7.params[j]?=some t→args[j]?=some v→Value.okWide Tryz.prog W .any base t v:=hval0
 have hW':=hW
 obtain ⟨p,q,hA0,hV,rfl,hfz,hnd⟩:=hW
 have hA:DataW.TrodAll enc Tryz.prog W 0 (fun _=>true) true Tryz.f7.params.toList args.toList ds p:=hA0
 rw [Tryz.params7] at hA hval
 obtain ⟨v0,vs0,d0,ds0,p0,q0,hargs,rfl,rfl,h0,r0⟩:=trodAll_cons hA
 obtain ⟨v1,vs1,d1,ds1,p1,q1,rfl,rfl,rfl,h1,r1⟩:=trodAll_cons r0
 obtain ⟨v2,vs2,d2,ds2,p2,q2,rfl,rfl,rfl,h2,r2⟩:=trodAll_cons r1
 obtain ⟨v3,vs3,d3,ds3,p3,q3,rfl,rfl,rfl,h3,r3⟩:=trodAll_cons r2
 obtain ⟨rfl,rfl,rfl⟩:=trodAll_nil r3
 obtain rfl:args=#[v0,v1,v2,v3]:=by cases args; simp_all
 obtain ⟨rfl,rfl⟩:=trodVars_none hV
 have k0:=h0
 have lt0:∀ x∈p0,x.block<W.heap.size:=by
  obtain ⟨m,hm⟩:=k0
  exact DataW.trod_lt m _ _ _ hm
 obtain ⟨u,l,rfl,r,hn,hh⟩:=openList (hval 0 41 v0 rfl rfl) h0
 have k1:=h1
 have lt1:∀ x∈p1,x.block<W.heap.size:=by
  obtain ⟨m,hm⟩:=k1
  exact DataW.trod_lt m _ _ _ hm
 obtain ⟨pa,rfl,fp⟩:=openPt (hval 1 43 v1 rfl rfl) h1
 have k2:=h2
 have lt2:∀ x∈p2,x.block<W.heap.size:=by
  obtain ⟨m,hm⟩:=k2
  exact DataW.trod_lt m _ _ _ hm
 obtain ⟨pb,rfl,fq⟩:=openPt (hval 2 43 v2 rfl rfl) h2
 have k3:=h3
 have lt3:∀ x∈p3,x.block<W.heap.size:=by
  obtain ⟨m,hm⟩:=k3
  exact DataW.trod_lt m _ _ _ hm
 obtain ⟨t,rfl,ft⟩:=openRatio (hval 3 23 v3 rfl rfl) h3
 clear hA0 hval0
 refine (Qf.below (leditGoes r hn hh ft)).mono fun e W' ⟨he,bel⟩=>?_
 subst he
 exact ⟨_,rfl,_,_,_,[],_,[],hW',trodAll_mk1 (shut_bool Tryz.underlying4 _),(trodAll_cons_mk (Below.trod laidOutLeditGoes (by kernel_rfl) (of_decide_eq_true (by kernel_rfl)) k0 bel lt0) (trodAll_cons_mk (Below.trod laidOutLeditGoes (by kernel_rfl) (of_decide_eq_true (by kernel_rfl)) k1 bel lt1) (trodAll_cons_mk (Below.trod laidOutLeditGoes (by kernel_rfl) (of_decide_eq_true (by kernel_rfl)) k2 bel lt2) (trodAll_cons_mk (Below.trod laidOutLeditGoes (by kernel_rfl) (of_decide_eq_true (by kernel_rfl)) k3 bel lt3) trodAll_mk0)))),rfl,bel.frame _,fun h=>by cases h⟩
theorem overLeditGoes:Rows.leditGoesRow.holds Tryz.pinned (OpenSpec.ofChange Rows.leditGoesSpec) :=
 OpenClaim.holds_of_wide 7 Tryz.f7 rfl rfl rfl rfl rfl rfl rfl ⟨rfl,rfl,rfl,rfl,rfl⟩ rfl rfl rfl rfl rfl (by kernel_rfl) Tryz.func7 closedLeditGoes
  (of_decide_eq_true (by kernel_rfl)) (by unfold Func.isWrapper; first | (rw [if_pos (by decide +kernel)]; kernel_rfl) | (rw [if_neg (by decide +kernel)]; exact ⟨rfl,rfl⟩))
  (fun os started H enc _=>liftedLeditGoes os started H enc)
theorem provedLeditGoes:Rows.LeditGoesSaid:=overLeditGoes
end Go.Proofs.YtjhbjjdipmpgjaaGreat
