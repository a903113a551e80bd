/- The law PickReigns holds for every input: it returns true, and what came in reads as it did. Conditions: none. -/
import Derived.Test.YtbbdplfkiioppaaGreatRows
import Derived.Test.YtbbdplfkiioppaaGreatXR
import Derived.Test.YtbbdplfkiioppaaGreatP8
import Derived.Test.YtbbdplfkiioppaaGreatJF
set_option linter.unusedVariables false
set_option maxRecDepth 100000
open Go Go.Eng Go.Proofs
open Go.ChangeShapes Go.WideShapes Go.ChangeAt Go.RowKit
namespace Go.Proofs.YtbbdplfkiioppaaGreat
theorem ownPickReigns:ownKnob Tryz.prog.godebug=none:=jOwn
theorem laidOutPickReigns:laidOutB Tryz.prog=true:=jLaid
set_option maxHeartbeats 8000000 in
theorem closedPickReigns:joinedFacts Tryz.prog 3 Tryz.f3 Rows.pickReignsSpec Rows.pickReignsRow=true:=by
 unfold joinedFacts
 refine (jAnd (jAnd (jAnd (jAnd (jAnd (jAnd (jAnd (jAnd (jAnd (jAnd (jAnd (jAnd (jAnd (jAnd (jAnd (jAnd (jAnd (jAnd (jAnd (jAnd (jAnd (jAnd (jAnd (jAnd (jAnd (jAnd (jAnd (jAnd (jAnd (jAnd (jAnd ?_ jLaid) jRowed) ?_) ?_) ?_) ?_) ?_) ?_) ?_) ?_) ?_) ?_) ?_) ?_) ?_) ?_) ?_) ?_) ?_) ?_) ?_) jKeys) ?_) jHeard) jEnter) jLift) jMake) ?_) ?_) ?_) ?_)
 all_goals (as_aux_lemma=>kernel_rfl)
theorem liftedPickReigns (os:Os) (started:os.Started) (H:Type) (enc:TypeId × Value→H) :
  ReturnsInHanded {} Tryz.checked os 3 .any (Rows.pickReignsSpec.pre6 enc Tryz.prog Tryz.f3 Rows.pickReignsRow.domain false) (Rows.pickReignsSpec.post enc Tryz.prog Tryz.f3 false true false false):=by
 refine returnsInHanded_of_change (C:=Tryz.checked) ownPickReigns started (by kernel_rfl) Tryz.func3
  (ChangeSpec.witness6 (enc:=enc) (C:=Tryz.checked) false ⟨#[],#[.agg #[.int .i64 0,.int .i64 0,.slice none 0 0,.int .i64 0,.slice none 0 0,.slice none 0 0,.slice none 0 0,.slice none 0 0,.slice none 0 0,.slice none 0 0,.slice none 0 0,.slice none 0 0,.slice none 0 0],.int .i64 0,.agg #[.int .i64 0,.int .i64 0],.slice none 0 0,.agg #[.int .i64 0,.int .i64 0]],[]⟩ 8 (by kernel_rfl) (by kernel_rfl) (by kernel_rfl) (by kernel_rfl)) ?_
 intro W base args ds gs before hval0 hW hcnd _
 have hval:∀ (j:Nat) t v,Tryz.f3.params[j]?=some t→args[j]?=some v→Value.okWide Tryz.prog W .any base t v:=hval0
 have hW':=hW
 obtain ⟨p,q,hA0,hV,rfl,hfz,hnd⟩:=hW
 have hA:DataW.TrodAll enc Tryz.prog W 0 (fun _=>true) true Tryz.f3.params.toList args.toList ds p:=hA0
 rw [Tryz.params3] at hA hval
 obtain ⟨v0,vs0,d0,ds0,p0,q0,hargs,rfl,rfl,h0,r0⟩:=trodAll_cons hA
 obtain ⟨v1,vs1,d1,ds1,p1,q1,rfl,rfl,rfl,h1,r1⟩:=trodAll_cons r0
 obtain ⟨v2,vs2,d2,ds2,p2,q2,rfl,rfl,rfl,h2,r2⟩:=trodAll_cons r1
 obtain ⟨v3,vs3,d3,ds3,p3,q3,rfl,rfl,rfl,h3,r3⟩:=trodAll_cons r2
 obtain ⟨v4,vs4,d4,ds4,p4,q4,rfl,rfl,rfl,h4,r4⟩:=trodAll_cons r3
 obtain ⟨rfl,rfl,rfl⟩:=trodAll_nil r4
 obtain rfl:args=#[v0,v1,v2,v3,v4]:=by cases args; simp_all
 obtain ⟨rfl,rfl⟩:=trodVars_none hV
 have k0:=h0
 have lt0:∀ x∈p0,x.block<W.heap.size:=by
  obtain ⟨m,hm⟩:=k0
  exact DataW.trod_lt m _ _ _ hm
 obtain ⟨u,l,rfl,r,hn,hh⟩:=openList (hval 0 41 v0 rfl rfl) h0
 have k1:=h1
 have lt1:∀ x∈p1,x.block<W.heap.size:=by
  obtain ⟨m,hm⟩:=k1
  exact DataW.trod_lt m _ _ _ hm
 obtain ⟨k,rfl,hk⟩:=openInt (hval 1 3 v1 rfl rfl) h1
 have k2:=h2
 have lt2:∀ x∈p2,x.block<W.heap.size:=by
  obtain ⟨m,hm⟩:=k2
  exact DataW.trod_lt m _ _ _ hm
 obtain ⟨to,rfl,ft⟩:=openRatio (hval 2 23 v2 rfl rfl) h2
 have k3:=h3
 have lt3:∀ x∈p3,x.block<W.heap.size:=by
  obtain ⟨m,hm⟩:=k3
  exact DataW.trod_lt m _ _ _ hm
 obtain ⟨w,rs,rfl,rs0,fr,_⟩:=openLeads (hval 3 42 v3 rfl rfl) h3
 have k4:=h4
 have lt4:∀ x∈p4,x.block<W.heap.size:=by
  obtain ⟨m,hm⟩:=k4
  exact DataW.trod_lt m _ _ _ hm
 obtain ⟨t,rfl,fs⟩:=openRatio (hval 4 23 v4 rfl rfl) h4
 clear hA0 hval0
 refine (Qf.below (pickReigns r hn hh ft rs0 fr fs)).mono fun e W' ⟨he,bel⟩=>?_
 subst he
 exact ⟨_,rfl,_,_,_,[],_,[],hW',trodAll_mk1 (shut_bool Tryz.underlying4 _),(trodAll_cons_mk (Below.trod laidOutPickReigns (by kernel_rfl) (of_decide_eq_true (by kernel_rfl)) k0 bel lt0) (trodAll_cons_mk (Below.trod laidOutPickReigns (by kernel_rfl) (of_decide_eq_true (by kernel_rfl)) k1 bel lt1) (trodAll_cons_mk (Below.trod laidOutPickReigns (by kernel_rfl) (of_decide_eq_true (by kernel_rfl)) k2 bel lt2) (trodAll_cons_mk (Below.trod laidOutPickReigns (by kernel_rfl) (of_decide_eq_true (by kernel_rfl)) k3 bel lt3) (trodAll_cons_mk (Below.trod laidOutPickReigns (by kernel_rfl) (of_decide_eq_true (by kernel_rfl)) k4 bel lt4) trodAll_mk0))))),rfl,bel.frame _,fun h=>by cases h⟩
theorem overPickReigns:Rows.pickReignsRow.holds Tryz.pinned (OpenSpec.ofChange Rows.pickReignsSpec) :=
 OpenClaim.holds_of_wide 3 Tryz.f3 rfl rfl rfl rfl rfl rfl rfl ⟨rfl,rfl,rfl,rfl,rfl⟩ rfl rfl rfl rfl rfl (by kernel_rfl) Tryz.func3 closedPickReigns
  (of_decide_eq_true (by kernel_rfl)) (by unfold Func.isWrapper; first | (rw [if_pos (by decide +kernel)]; kernel_rfl) | (rw [if_neg (by decide +kernel)]; exact ⟨rfl,rfl⟩))
  (fun os started H enc _=>liftedPickReigns os started H enc)
theorem provedPickReigns:Rows.PickReignsSaid:=overPickReigns
end Go.Proofs.YtbbdplfkiioppaaGreat
