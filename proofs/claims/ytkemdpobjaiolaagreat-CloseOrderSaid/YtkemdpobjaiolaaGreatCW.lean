/- The law CloseOrder. Conditions: none. -/
import Derived.Test.YtkemdpobjaiolaaGreatPQ5
import Derived.Test.YtkemdpobjaiolaaGreatPQ2
import Derived.Test.YtkemdpobjaiolaaGreatVgLCloseOrder
import Derived.Test.YtkemdpobjaiolaaGreatFs
set_option linter.unusedVariables false
set_option maxRecDepth 100000
open Go Go.Eng Go.Proofs
namespace Go.Proofs.YtkemdpobjaiolaaGreat

theorem lessAt {xs : List Pr} (h : xs.Pairwise fun a b => clP a b = true) {i : Nat} (h0 : 0 < i) (hi : i < xs.length) : clP (xs.getD (i - 1) zPr) (xs.getD i zPr) = true := by
  have := List.pairwise_iff_getElem.1 h (i - 1) i (by omega) hi (by omega)
  rw [List.getD_eq_getElem?_getD, List.getD_eq_getElem?_getD, List.getElem?_eq_getElem (show i - 1 < xs.length by omega), List.getElem?_eq_getElem hi]
  exact this
theorem getDP {xs : List Pr} {i : Nat} (hi : i < xs.length) : xs[i]? = some (xs.getD i zPr) := by rw [List.getD_eq_getElem?_getD, List.getElem?_eq_getElem hi]; rfl
theorem getDm {xs : List Pr} {i : Nat} (hi : i < xs.length) : xs.getD i zPr ∈ xs := List.mem_of_getElem? (getDP hi)
set_option maxHeartbeats 1000000 in
theorem lawCloseOrder {H : Hp} {u : Lu} {l : Ls} {d : Int × Int} (r : RdL H u l) (hn : fitR l.ck.now) (hh : ∀ y ∈ l.ck.ag.heap, fitR y.at_) (fd : fitR d) :
    Qf Tryz.prog F.pelotonlaw28_CloseOrder #[lsV u l, raW d] H (.bool true) := by
  have on : (u.o.n : Int) = l.ord.length := by have := r.o.len; omega
  refine pelotonlaw28_CloseOrder_vc ⟨true, law28alive, _, law28asked r hn hh, _, fun _ => refRCheck fd, fun _ => ⟨rfl, Hp.le_refl _⟩, fun hb => ?_⟩
  simp only [Bool.or_eq_false_iff, Bool.not_eq_false', bne_eq_false_iff_eq] at hb
  obtain ⟨⟨hb, hd⟩, _⟩ := hb
  have od : okR d := chkR_zero.1 hd
  obtain ⟨hg, ok, ak⟩ := askedB_ok hb
  have fl := fitL_of hn hg hh
  have of := ok.ck.f
  have ot := ok.ck.now
  have W := asked_told of ak
  have N := asked_near of ak
  have A := asked_all of ak
  have P := inOrder (d := d) W A od
  have ol : l.ord.length = l.ck.f.length := by rw [ok.ord, ordM_len]
  have sm := of.len
  have ew : withinL l d = ((withinM l.ck.f l.ck.now d).1, 0) := by
    unfold withinL; rw [if_pos ok, if_pos od, withinM_yes ⟨W.T, A⟩]
  have en : pairsL l = ((nearM l.ck.f l.ck.now).1, 0) := by unfold pairsL; rw [if_pos ok, nearM_yes ⟨W.T, N⟩]
  have ec : closestL l = closestM l.ck.f l.ck.now := by unfold closestL; rw [if_pos ok]
  have best : 2 ≤ l.ck.f.length → okPr (bestPr l.ck.f l.ck.now) := fun h => W.okPr _ (W.best N h).1
  have cl : closestM l.ck.f l.ck.now = if l.ck.f.length < 2 then (zPr, 42) else (bestPr l.ck.f l.ck.now, 0) := by
    unfold closestM; split
    · rfl
    · rw [if_pos ⟨W.T, N⟩]
  have lx : (withinM l.ck.f l.ck.now d).1.length ≤ 100000 := by
    rw [withinM_yes ⟨W.T, A⟩]
    show (sortP _).length ≤ _
    rw [(sortP_perm _).length_eq]
    have h1 := allP_len (D := prM l.ck.f l.ck.now) (n := l.ck.f.length) l.ck.f.length
    have h2 := Nat.mul_le_mul of.len of.len
    exact Nat.le_trans (List.length_filter_le _ _) (by unfold allPr; omega)
  have qw := withinV r fl fd
  rw [ew] at qw
  generalize (withinM l.ck.f l.ck.now d).1 = X at *
  refine qw.mono fun v H5 ⟨a, hv, l5, ma⟩ => ⟨a, 0, hv, ?_⟩
  have qp := closePairs (r.le l5) fl
  rw [en] at qp
  generalize (nearM l.ck.f l.ck.now).1 = Y at *
  refine qp.mono fun v H9 ⟨b, hv, l9, mb⟩ => ⟨b, 0, hv, ?_⟩
  have qc := closeClosest (r.le (Hp.le_trans l5 l9)) fl
  rw [ec, cl] at qc
  have ra : Rd 4 fPr H9 a X := (Mine.rd (k := 4) (f := fPr) (fun _ => rfl) ma).le l9
  have rb : Rd 4 fPr H9 b Y := Mine.rd (k := 4) (f := fPr) (fun _ => rfl) mb
  have lH := Hp.le_trans l5 l9
  clear ma mb qw qp
  have an : (a.n : Int) = X.length := by have := ra.len; omega
  have bn : (b.n : Int) = Y.length := by have := rb.len; omega
  have nl := P.nl
  rw [on, an, bn]
  refine ⟨_, _, _, _, _, qc, fun _ => by unfold inI; omega, fun h => ?_, fun _ => ?_⟩
  · exfalso
    have : ((Y.length : Int) != if (l.ord.length : Int) - 1 > 0 then (l.ord.length : Int) - 1 else 0) = false := by
      rw [bne_eq_false_iff_eq]; split <;> omega
    rw [this] at h; simp at h
  have far : ∀ {xs : List Pr} {s : Slc} {i : Nat}, Rd 4 fPr H9 s xs → i < xs.length → (H9.at (((eaddr s.a 4 (i : Int)).add 2).add 0) = some (.int .i64 (xs.getD i zPr).2.2.1) ∧ H9.at (((eaddr s.a 4 (i : Int)).add 2).add 1) = some (.int .i64 (xs.getD i zPr).2.2.2)) ∧ H9.at ((((eaddr s.a 4 (i : Int)).add 2).add 0).add 0) = some (.int .i64 (xs.getD i zPr).2.2.1) := fun {xs s i} rs hi => by
    have ld := Rd.gPr rs (i := (i : Int)) (by omega) (by rw [Int.toNat_natCast]; exact getDP hi)
    exact ⟨⟨by rw [add_zero']; exact ld.2.2.1, by rw [add_add]; exact ld.2.2.2⟩, by rw [add_zero', add_zero']; exact ld.2.2.1⟩
  have all : ∀ {xs : List Pr} {s : Slc} {i : Int} {k : Nat}, Rd 4 fPr H9 s xs → i = k → k < xs.length → H9.at (eaddr s.a 4 i) = some (.int .i64 (xs.getD k zPr).1) ∧ H9.at ((eaddr s.a 4 i).add 1) = some (.int .i64 (xs.getD k zPr).2.1) ∧ H9.at ((eaddr s.a 4 i).add 2) = some (.int .i64 (xs.getD k zPr).2.2.1) ∧ H9.at ((eaddr s.a 4 i).add 3) = some (.int .i64 (xs.getD k zPr).2.2.2) := fun {xs s i k} rs hi hk => by
    subst hi
    exact Rd.gPr rs (i := (k : Int)) (by omega) (by rw [Int.toNat_natCast]; exact getDP hk)
  refine ⟨fun n H' => ∃ i : Nat, n = i ∧ i ≤ X.length ∧ H' = H9, fun n _ => (X.length - n).toNat, ⟨0, rfl, by omega, rfl⟩, ?_⟩
  rintro n19 H20 ⟨i, rfl, hi, rfl⟩
  refine ⟨fun hm => ?_, fun hm => ?_⟩
  · have hm : i < X.length := by have := of_decide_eq_true hm; omega
    obtain ⟨x1, x2, x3⟩ := P.xs _ (getDm hm)
    obtain ⟨f1, f2⟩ := far ra hm
    have qk := refRCheck (H := H20) (r := ((X.getD i zPr).2.2.1, (X.getD i zPr).2.2.2)) x1.fit
    have ek : chkR ((X.getD i zPr).2.2.1, (X.getD i zPr).2.2.2) = 0 := chkR_ok x1
    rw [ek] at qk
    have qm := refCompareR (H := H20) (a := ((X.getD i zPr).2.2.1, (X.getD i zPr).2.2.2)) (b := d) x1 od
    have hc : ¬ 0 < cmpR ((X.getD i zPr).2.2.1, (X.getD i zPr).2.2.2) d := by have : cmpR (X.getD i zPr).2.2 d ≤ 0 := cmpR_le.2 x3; show ¬ 0 < cmpR (X.getD i zPr).2.2 d; omega
    have si := ra.inS (i := (i : Int)) (by omega) (by omega)
    refine ⟨si, _, _, f1, _, qk, fun _ => si, _, fun _ => f2, fun _ => si, _, _, fun _ => f1, _, fun _ => qm, fun _ => by unfold inI; omega, fun h => ra.inS (by simp at h; omega) (by omega), _, _, _, _, fun h => all ra (k := i - 1) (by simp at h; omega) (by omega), fun _ => si, _, _, _, _, fun _ => all ra rfl hm, decide (0 < i), fun h => ?_, fun h => ?_, fun _ => ⟨by unfold inI; omega, ⟨i + 1, by omega, by omega, rfl⟩, by show ((X.length : Int) - ((i : Int) + 1)).toNat < ((X.length : Int) - (i : Int)).toNat; omega⟩⟩
    · have h0 : 0 < i := by simp at h; omega
      have q := closerV (H := H20) (P.xs _ (getDm (show i - 1 < X.length by omega))).1 x1
      rw [lessAt P.xo h0 hm] at q
      rw [decide_eq_true h0]; exact q
    · exfalso
      simp only [Bool.or_eq_true, bne_iff_ne, decide_eq_true_eq, Bool.and_eq_true, Bool.not_eq_true', decide_eq_false_iff_not] at h
      rcases h with ((h | h) | h) | h
      · exact h rfl
      · omega
      · exact hc h
      · omega
  refine ⟨fun n H' => ∃ i : Nat, n = i ∧ i ≤ Y.length ∧ H' = H20, fun n _ => (Y.length - n).toNat, ⟨0, rfl, by omega, rfl⟩, ?_⟩
  rintro n39 H40 ⟨j, rfl, hj, rfl⟩
  refine ⟨fun hm => ?_, fun hm => ⟨fun hz => ?_, fun hz => ?_⟩⟩
  · have hm : j < Y.length := by have := of_decide_eq_true hm; omega
    have y1 := P.ns _ (getDm hm)
    obtain ⟨f1, f2⟩ := far rb hm
    have qk := refRCheck (H := H40) (r := ((Y.getD j zPr).2.2.1, (Y.getD j zPr).2.2.2)) y1.fit
    have ek : chkR ((Y.getD j zPr).2.2.1, (Y.getD j zPr).2.2.2) = 0 := chkR_ok y1
    rw [ek] at qk
    have qm := refCompareR (H := H40) (a := ((Y.getD j zPr).2.2.1, (Y.getD j zPr).2.2.2)) (b := d) y1 od
    have sj := rb.inS (i := (j : Int)) (by omega) (by omega)
    refine ⟨sj, _, _, f1, _, qk, fun _ => by unfold inI; omega, fun h => rb.inS (by simp at h; omega) (by omega), _, _, _, _, fun h => all rb (k := j - 1) (by simp at h; omega) (by omega), fun _ => sj, _, _, _, _, fun _ => all rb rfl hm, decide (0 < j), fun h => ?_, fun h => ?_, fun _ => ?_⟩
    · have h0 : 0 < j := by simp at h; omega
      have q := closerV (H := H40) (P.ns _ (getDm (show j - 1 < Y.length by omega))) y1
      rw [lessAt P.no h0 hm] at q
      rw [decide_eq_true h0]; exact q
    · exfalso
      simp only [Bool.or_eq_true, bne_iff_ne, decide_eq_true_eq, Bool.and_eq_true, Bool.not_eq_true', decide_eq_false_iff_not] at h
      rcases h with h | h
      · exact h rfl
      · omega
    refine ⟨fun c n H' => ∃ k : Nat, n = k ∧ k ≤ X.length ∧ H' = H40 ∧ (c = true ↔ Y.getD j zPr ∈ X.take k), fun _ n _ => (X.length - n).toNat, ⟨0, rfl, by omega, rfl, by simp⟩, ?_⟩
    rintro c55 n56 H57 ⟨k, rfl, hk, rfl, hc⟩
    refine ⟨fun hx => ?_, fun hx => ?_⟩
    · have hx : k < X.length := by have := of_decide_eq_true hx; omega
      refine ⟨fun _ => ra.inS (by omega) (by omega), _, _, _, _, fun _ => all ra rfl hx, fun _ => sj, _, _, _, _, fun _ => all rb rfl hm, by unfold inI; omega, ⟨k + 1, by omega, by omega, rfl, ?_⟩, by show ((X.length : Int) - ((k : Int) + 1)).toNat < ((X.length : Int) - (k : Int)).toNat; omega⟩
      rw [eqPr (X.getD k zPr) (Y.getD j zPr), Bool.or_eq_true, decide_eq_true_iff, hc]
      have tk : X.take (k + 1) = X.take k ++ [X.getD k zPr] := by
        rw [List.take_add_one, getDP hx]; rfl
      rw [tk, List.mem_append, List.mem_singleton]
      constructor
      · rintro (h | h)
        · exact .inl h
        · exact .inr h.symm
      · rintro (h | h)
        · exact .inl h
        · exact .inr h.symm
    · have hx : k = X.length := by have := of_decide_eq_false hx; omega
      subst hx
      rw [List.take_length] at hc
      refine ⟨sj, _, _, f1, _, qm, fun h => ?_, fun _ => ⟨by unfold inI; omega, ⟨j + 1, by omega, by omega, rfl⟩, by show ((Y.length : Int) - ((j : Int) + 1)).toNat < ((Y.length : Int) - (j : Int)).toNat; omega⟩⟩
      exfalso
      have e : c55 = decide (cmpR ((Y.getD j zPr).2.2.1, (Y.getD j zPr).2.2.2) d ≤ 0) := by
        rw [Bool.eq_iff_iff, hc, decide_eq_true_iff, P.nx _ (getDm hm)]
        exact cmpR_le.symm
      rw [e] at h; simp at h
  · have hz := neN hz
    have h2 : l.ck.f.length < 2 := by
      by_cases h : l.ck.f.length < 2
      · exact h
      · rw [if_neg h] at hz; exact absurd rfl hz
    have hx := P.few h2
    subst hx
    rw [if_pos h2]
    exact ⟨by simp, lH⟩
  · have hz := eqN hz
    have h2 : ¬ l.ck.f.length < 2 := fun h => by rw [if_pos h] at hz; cases hz
    rw [if_neg h2]
    have oB := best (by omega)
    obtain ⟨p1, p2⟩ := P.best (by omega)
    generalize bestPr l.ck.f l.ck.now = B at *
    have qk := refRCheck (H := H40) (r := (B.2.2.1, B.2.2.2)) oB.fit
    have ek : chkR (B.2.2.1, B.2.2.2) = 0 := chkR_ok oB
    rw [ek] at qk
    have qm := refCompareR (H := H40) (a := (B.2.2.1, B.2.2.2)) (b := d) oB od
    have e1 : (decide ((X.length : Int) > 0) == decide (cmpR (B.2.2.1, B.2.2.2) d ≤ 0)) = true := by
      rw [beq_iff_eq, Bool.eq_iff_iff, decide_eq_true_iff, decide_eq_true_iff]
      have : cmpR (B.2.2.1, B.2.2.2) d ≤ 0 ↔ leR B.2.2 d := cmpR_le
      rw [this, ← p1]; omega
    by_cases hX : X.length = 0
    · refine ⟨0, fun _ => qk, _, fun _ => qm, fun h => ?_, 0, 0, 0, 0, fun h => ?_, ?_, lH⟩
      · exfalso
        rw [hX] at h; simp at h
      · exfalso
        rw [hX] at h; simp at h
      · rw [e1, hX]; simp
    · have hX0 : 0 < X.length := by omega
      have ld := all ra (i := 0) (k := 0) rfl hX0
      have eB := p2 _ (getDP hX0)
      rw [eB] at ld
      refine ⟨0, fun _ => qk, _, fun _ => qm, fun _ => ra.inS (by omega) (by omega), _, _, _, _, fun _ => ld, ?_, lH⟩
      rw [e1]; simp
end Go.Proofs.YtkemdpobjaiolaaGreat
