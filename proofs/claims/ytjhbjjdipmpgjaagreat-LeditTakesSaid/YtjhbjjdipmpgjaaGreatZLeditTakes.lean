/- The law LeditTakes holds for every input: it returns true, and what came in reads as it did. Conditions: none. -/
import Derived.Test.YtjhbjjdipmpgjaaGreatRows
import Derived.Test.YtjhbjjdipmpgjaaGreatHF
import Derived.Test.YtjhbjjdipmpgjaaGreatP8
import Derived.Test.YtjhbjjdipmpgjaaGreatJF
set_option linter.unusedVariables false
set_option maxRecDepth 100000
open Go Go.Eng Go.Proofs
open Go.ChangeShapes Go.WideShapes Go.ChangeAt Go.RowKit
namespace Go.Proofs.YtjhbjjdipmpgjaaGreat
theorem ownLeditTakes:ownKnob Tryz.prog.godebug=none:=y12
theorem laidOutLeditTakes:laidOutB Tryz.prog=true:=y0z
set_option maxHeartbeats 8000000 in
theorem closedLeditTakes:joinedFacts Tryz.prog 8 Tryz.f8 Rows.leditTakesSpec Rows.leditTakesRow=true:=by
 unfold joinedFacts
 refine (y0v (y0v (y0v (y0v (y0v (y0v (y0v (y0v (y0v (y0v (y0v (y0v (y0v (y0v (y0v (y0v (y0v (y0v (y0v (y0v (y0v (y0v (y0v (y0v (y0v (y0v (y0v (y0v (y0v (y0v (y0v ?_ y0z) y13) ?_) ?_) ?_) ?_) ?_) ?_) ?_) ?_) ?_) ?_) ?_) ?_) ?_) ?_) ?_) ?_) ?_) ?_) ?_) y0y) ?_) y0x) y0w) y10) y11) ?_) ?_) ?_) ?_)
 all_goals (as_aux_lemma=>kernel_rfl)
theorem liftedLeditTakes (os:Os) (started:os.Started) (H:Type) (enc:TypeId × Value→H) :
  ReturnsInHanded {} Tryz.checked os 8 .any (Rows.leditTakesSpec.pre6 enc Tryz.prog Tryz.f8 Rows.leditTakesRow.domain false) (Rows.leditTakesSpec.post enc Tryz.prog Tryz.f8 false true false false):=by
 refine returnsInHanded_of_change (C:=Tryz.checked) ownLeditTakes started (by kernel_rfl) Tryz.func8
  (ChangeSpec.witness6 (enc:=enc) (C:=Tryz.checked) false ⟨#[],#[.agg #[.int .i64 0,.int .i64 0,.slice none 0 0,.int .i64 0,.slice none 0 0,.slice none 0 0,.slice none 0 0,.slice none 0 0,.slice none 0 0,.slice none 0 0,.slice none 0 0,.slice none 0 0,.slice none 0 0],.int .i64 0,.agg #[.int .i64 0,.int .i64 0,.int .i64 0],.slice none 0 0,.slice none 0 0],[]⟩ 8 (by kernel_rfl) (by kernel_rfl) (by kernel_rfl) (by kernel_rfl)) ?_
 intro W base args ds gs before hval0 hW hcnd _
 have hval:∀ (j:Nat) t v,Tryz.f8.params[j]?=some t→args[j]?=some v→Value.okWide Tryz.prog W .any base t v:=hval0
 have hW':=hW
 obtain ⟨p,q,hA0,hV,rfl,hfz,hnd⟩:=hW
 have hA:DataW.TrodAll enc Tryz.prog W 0 (fun _=>true) true Tryz.f8.params.toList args.toList ds p:=hA0
 rw [Tryz.params8] at hA hval
 obtain ⟨v0,vs0,d0,ds0,p0,q0,hargs,rfl,rfl,h0,r0⟩:=trodAll_cons hA
 obtain ⟨v1,vs1,d1,ds1,p1,q1,rfl,rfl,rfl,h1,r1⟩:=trodAll_cons r0
 obtain ⟨v2,vs2,d2,ds2,p2,q2,rfl,rfl,rfl,h2,r2⟩:=trodAll_cons r1
 obtain ⟨v3,vs3,d3,ds3,p3,q3,rfl,rfl,rfl,h3,r3⟩:=trodAll_cons r2
 obtain ⟨v4,vs4,d4,ds4,p4,q4,rfl,rfl,rfl,h4,r4⟩:=trodAll_cons r3
 obtain ⟨rfl,rfl,rfl⟩:=trodAll_nil r4
 obtain rfl:args=#[v0,v1,v2,v3,v4]:=by cases args; simp_all
 obtain ⟨rfl,rfl⟩:=trodVars_none hV
 have k0:=h0
 have lt0:∀ x∈p0,x.block<W.heap.size:=by
  obtain ⟨m,hm⟩:=k0
  exact DataW.trod_lt m _ _ _ hm
 obtain ⟨u,l,rfl,r,hn,hh⟩:=yc3 (hval 0 41 v0 rfl rfl) h0
 have k1:=h1
 have lt1:∀ x∈p1,x.block<W.heap.size:=by
  obtain ⟨m,hm⟩:=k1
  exact DataW.trod_lt m _ _ _ hm
 obtain ⟨i,rfl,fi⟩:=yc1 (hval 1 3 v1 rfl rfl) h1
 have k2:=h2
 have lt2:∀ x∈p2,x.block<W.heap.size:=by
  obtain ⟨m,hm⟩:=k2
  exact DataW.trod_lt m _ _ _ hm
 obtain ⟨p,rfl,fp⟩:=yc5 (hval 2 43 v2 rfl rfl) h2
 have k3:=h3
 have lt3:∀ x∈p3,x.block<W.heap.size:=by
  obtain ⟨m,hm⟩:=k3
  exact DataW.trod_lt m _ _ _ hm
 obtain ⟨pv,ps,rfl,rp,fps,lps⟩:=yc6 (hval 3 24 v3 rfl rfl) h3
 have k4:=h4
 have lt4:∀ x∈p4,x.block<W.heap.size:=by
  obtain ⟨m,hm⟩:=k4
  exact DataW.trod_lt m _ _ _ hm
 obtain ⟨iv,ids,rfl,ri,fis,lis⟩:=yc2 (hval 4 30 v4 rfl rfl) h4
 clear hA0 hval0
 refine (Qf.below (y3f r hn hh rp ri)).mono fun e W' ⟨he,bel⟩=>?_
 subst he
 exact ⟨_,rfl,_,_,_,[],_,[],hW',trodAll_mk1 (shut_bool Tryz.underlying4 _),(trodAll_cons_mk (Below.trod laidOutLeditTakes (by kernel_rfl) (of_decide_eq_true (by kernel_rfl)) k0 bel lt0) (trodAll_cons_mk (Below.trod laidOutLeditTakes (by kernel_rfl) (of_decide_eq_true (by kernel_rfl)) k1 bel lt1) (trodAll_cons_mk (Below.trod laidOutLeditTakes (by kernel_rfl) (of_decide_eq_true (by kernel_rfl)) k2 bel lt2) (trodAll_cons_mk (Below.trod laidOutLeditTakes (by kernel_rfl) (of_decide_eq_true (by kernel_rfl)) k3 bel lt3) (trodAll_cons_mk (Below.trod laidOutLeditTakes (by kernel_rfl) (of_decide_eq_true (by kernel_rfl)) k4 bel lt4) trodAll_mk0))))),rfl,bel.frame _,fun h=>by cases h⟩
theorem overLeditTakes:Rows.leditTakesRow.holds Tryz.pinned (OpenSpec.ofChange Rows.leditTakesSpec) :=
 OpenClaim.holds_of_wide 8 Tryz.f8 rfl rfl rfl rfl rfl rfl rfl ⟨rfl,rfl,rfl,rfl,rfl⟩ rfl rfl rfl rfl rfl (by kernel_rfl) Tryz.func8 closedLeditTakes
  (of_decide_eq_true (by kernel_rfl)) (by unfold Func.isWrapper; first | (rw [if_pos (by decide +kernel)]; kernel_rfl) | (rw [if_neg (by decide +kernel)]; exact ⟨rfl,rfl⟩))
  (fun os started H enc _=>liftedLeditTakes os started H enc)
theorem provedLeditTakes:Rows.LeditTakesSaid:=overLeditTakes
end Go.Proofs.YtjhbjjdipmpgjaaGreat
