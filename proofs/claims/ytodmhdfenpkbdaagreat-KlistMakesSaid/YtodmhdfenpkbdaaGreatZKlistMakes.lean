/- The law KlistMakes holds for every input: it returns true, and what came in reads as it did. Conditions: none. -/
import Derived.Test.YtodmhdfenpkbdaaGreatRows
import Derived.Test.YtodmhdfenpkbdaaGreatKM
import Derived.Test.YtodmhdfenpkbdaaGreatP8
import Derived.Test.YtodmhdfenpkbdaaGreatJF
set_option linter.unusedVariables false
set_option maxRecDepth 100000
open Go Go.Eng Go.Proofs
open Go.ChangeShapes Go.WideShapes Go.ChangeAt Go.RowKit
namespace Go.Proofs.YtodmhdfenpkbdaaGreat
theorem ownKlistMakes : ownKnob Tryz.prog.godebug = none := jOwn
theorem laidOutKlistMakes : laidOutB Tryz.prog = true := jLaid
set_option maxHeartbeats 8000000 in
theorem closedKlistMakes : joinedFacts Tryz.prog 22 Tryz.f22 Rows.klistMakesSpec Rows.klistMakesRow = true := by
  unfold joinedFacts
  refine (jAnd (jAnd (jAnd (jAnd (jAnd (jAnd (jAnd (jAnd (jAnd (jAnd (jAnd (jAnd (jAnd (jAnd (jAnd (jAnd (jAnd (jAnd (jAnd (jAnd (jAnd (jAnd (jAnd (jAnd (jAnd (jAnd (jAnd (jAnd (jAnd (jAnd (jAnd ?_ jLaid) jRowed) ?_) ?_) ?_) ?_) ?_) ?_) ?_) ?_) ?_) ?_) ?_) ?_) ?_) ?_) ?_) ?_) ?_) ?_) ?_) jKeys) ?_) jHeard) jEnter) jLift) jMake) ?_) ?_) ?_) ?_)
  all_goals (as_aux_lemma => kernel_rfl)
theorem liftedKlistMakes (os : Os) (started : os.Started) (H : Type) (enc : TypeId × Value → H) :
    ReturnsInHanded {} Tryz.checked os 22 .any (Rows.klistMakesSpec.pre6 enc Tryz.prog Tryz.f22 Rows.klistMakesRow.domain false) (Rows.klistMakesSpec.post enc Tryz.prog Tryz.f22 false true false false) := by
  refine returnsInHanded_of_change (C := Tryz.checked) ownKlistMakes started (by kernel_rfl) Tryz.func22
    (ChangeSpec.witness6 (enc := enc) (C := Tryz.checked) false ⟨#[], #[.agg #[.slice none 0 0], .agg #[.int .i64 0, .int .i64 0], .agg #[.int .i64 0, .int .i64 0, .slice none 0 0, .int .i64 0, .slice none 0 0, .slice none 0 0, .slice none 0 0, .slice none 0 0, .slice none 0 0, .slice none 0 0, .slice none 0 0, .slice none 0 0, .slice none 0 0], .int .i64 0], []⟩ 8 (by kernel_rfl) (by kernel_rfl) (by kernel_rfl) (by kernel_rfl)) ?_
  intro W base args ds gs before hval0 hW hcnd _
  have hval : ∀ (j : Nat) t v, Tryz.f22.params[j]? = some t → args[j]? = some v → Value.okWide Tryz.prog W .any base t v := hval0
  have hW' := hW
  obtain ⟨p, q, hA0, hV, rfl, hfz, hnd⟩ := hW
  have hA : DataW.TrodAll enc Tryz.prog W 0 (fun _ => true) true Tryz.f22.params.toList args.toList ds p := hA0
  rw [Tryz.params22] at hA hval
  obtain ⟨v0, vs0, d0, ds0, p0, q0, hargs, rfl, rfl, h0, r0⟩ := trodAll_cons hA
  obtain ⟨v1, vs1, d1, ds1, p1, q1, rfl, rfl, rfl, h1, r1⟩ := trodAll_cons r0
  obtain ⟨v2, vs2, d2, ds2, p2, q2, rfl, rfl, rfl, h2, r2⟩ := trodAll_cons r1
  obtain ⟨v3, vs3, d3, ds3, p3, q3, rfl, rfl, rfl, h3, r3⟩ := trodAll_cons r2
  obtain ⟨rfl, rfl, rfl⟩ := trodAll_nil r3
  obtain rfl : args = #[v0, v1, v2, v3] := by cases args; simp_all
  obtain ⟨rfl, rfl⟩ := trodVars_none hV
  have k0 := h0
  have lt0 : ∀ x ∈ p0, x.block < W.heap.size := by
    obtain ⟨m, hm⟩ := k0
    exact DataW.trod_lt m _ _ _ hm
  obtain ⟨w, f, rfl, hf, _⟩ := openField (hval 0 26 v0 rfl rfl) h0
  have k1 := h1
  have lt1 : ∀ x ∈ p1, x.block < W.heap.size := by
    obtain ⟨m, hm⟩ := k1
    exact DataW.trod_lt m _ _ _ hm
  obtain ⟨t, rfl, ft⟩ := openRatio (hval 1 23 v1 rfl rfl) h1
  have k2 := h2
  have lt2 : ∀ x ∈ p2, x.block < W.heap.size := by
    obtain ⟨m, hm⟩ := k2
    exact DataW.trod_lt m _ _ _ hm
  obtain ⟨u, l, rfl, r, hn, hh⟩ := openList (hval 2 106 v2 rfl rfl) h2
  have k3 := h3
  have lt3 : ∀ x ∈ p3, x.block < W.heap.size := by
    obtain ⟨m, hm⟩ := k3
    exact DataW.trod_lt m _ _ _ hm
  obtain ⟨id, rfl, _⟩ := openInt (hval 3 3 v3 rfl rfl) h3
  clear hA0 hval0
  refine (Qf.below (klistMakes (t := t) (id := id) hf ft r hn hh)).mono fun e W' ⟨he, bel⟩ => ?_
  subst he
  exact ⟨_, rfl, _, _, _, [], _, [], hW', trodAll_mk1 (shut_bool Tryz.underlying4 _), (trodAll_cons_mk (Below.trod laidOutKlistMakes (by kernel_rfl) (of_decide_eq_true (by kernel_rfl)) k0 bel lt0) (trodAll_cons_mk (Below.trod laidOutKlistMakes (by kernel_rfl) (of_decide_eq_true (by kernel_rfl)) k1 bel lt1) (trodAll_cons_mk (Below.trod laidOutKlistMakes (by kernel_rfl) (of_decide_eq_true (by kernel_rfl)) k2 bel lt2) (trodAll_cons_mk (Below.trod laidOutKlistMakes (by kernel_rfl) (of_decide_eq_true (by kernel_rfl)) k3 bel lt3) trodAll_mk0)))), rfl, bel.frame _, fun h => by cases h⟩
theorem overKlistMakes : Rows.klistMakesRow.holds Tryz.pinned (OpenSpec.ofChange Rows.klistMakesSpec) :=
  OpenClaim.holds_of_wide 22 Tryz.f22 rfl rfl rfl rfl rfl rfl rfl ⟨rfl, rfl, rfl, rfl, rfl⟩ rfl rfl rfl rfl rfl (by kernel_rfl) Tryz.func22 closedKlistMakes
    (of_decide_eq_true (by kernel_rfl)) (by unfold Func.isWrapper; first | (rw [if_pos (by decide +kernel)]; kernel_rfl) | (rw [if_neg (by decide +kernel)]; exact ⟨rfl, rfl⟩))
    (fun os started H enc _ => liftedKlistMakes os started H enc)
/-- The given statement. -/
theorem provedKlistMakes : Rows.KlistMakesSaid := overKlistMakes
end Go.Proofs.YtodmhdfenpkbdaaGreat
