/- The law CloseNear. Conditions: none. -/
import Derived.Test.YtkemdpobjaiolaaGreatCU
import Derived.Test.YtkemdpobjaiolaaGreatVgBase
import Derived.Test.YtkemdpobjaiolaaGreatVgLCloseNear
import Derived.Test.YtkemdpobjaiolaaGreatFs
set_option linter.unusedVariables false
set_option maxRecDepth 100000
open Go Go.Eng Go.Proofs
namespace Go.Proofs.YtkemdpobjaiolaaGreat

theorem ordM_ne {f : List Pt} (of : okF f) (t : Int × Int) : (ordM f t).Pairwise (· ≠ ·) := by
  refine List.pairwise_iff_getElem.2 fun i j hi hj hij => ?_
  rw [ordM_len] at hi hj
  have a := sP_ord (f := f) (t := t) hi
  have b := sP_ord (f := f) (t := t) hj
  obtain ⟨_, a2⟩ := List.getElem?_eq_some_iff.1 a
  obtain ⟨_, b2⟩ := List.getElem?_eq_some_iff.1 b
  rw [a2, b2]
  exact sP_ne of hij hj
theorem posO_sP {f : List Pt} (of : okF f) {t : Int × Int} {j : Nat} (hj : j < f.length) : posO (ordM f t) (sP f t j).1 = j := by
  exact posO_at (ordM_ne of t) (sP_ord hj)
theorem rankP {H : Hp} {w : Slc} {f : List Pt} {t : Int × Int} {j : Nat} (hf : Rd 3 fD H w f) (of : okF f) (ot : okR t) (hj : j < f.length) :
    Qf Tryz.prog F.field_Rank #[vFd w, .int .i64 (sP f t j).1, raW t] H (.tuple #[.int .i64 (j : Int), .int .i64 0]) := by
  have q := fieldOrder hf ot.fit
  rw [show orderM f t = (ordM f t, 0) by unfold orderM; rw [if_pos (timedF_zero.2 ⟨of, ot⟩)]] at q
  have sm := of.len
  refine field_Rank_vc (q.mono fun v H2 ⟨a, hv, l2, m⟩ => ⟨a, 0, hv, fun h => by simp at h, fun _ => ?_⟩)
  have m : Mine 1 fI T.int H H2 a (ordM f t) := m
  have qi := indexInts (id := (sP f t j).1) m.rdI (by rw [ordM_len]; omega)
  rw [posO_sP of hj] at qi
  exact ⟨_, qi, fun h => by have := of_decide_eq_true h; omega, fun _ => ⟨rfl, l2⟩⟩
theorem nearest_sP {l : Ls} (ok : okLs l) (h2 : 2 ≤ l.ck.f.length) {j : Nat} (hj : j < l.ck.f.length) : nearestM l (sP l.ck.f l.ck.now j).1 = nearI l.ck.f l.ck.now j := by
  have e : kRankM l (sP l.ck.f l.ck.now j).1 = ((j : Int), 0) := by
    unfold kRankM
    rw [if_pos ok, ok.ord, posO_sP ok.ck.f hj, if_neg (by omega)]
  have ol : l.ord.length = l.ck.f.length := by rw [ok.ord, ordM_len]
  unfold nearestM
  rw [e, if_neg (by simp), if_neg (by omega)]
  rfl
theorem pr_ids {f : List Pt} (of : okF f) {t : Int × Int} {a b : Nat} (hab : a < b) (hb : b < f.length) : ∃ x y, ((x = a ∧ y = b) ∨ (x = b ∧ y = a)) ∧ x < f.length ∧ y < f.length ∧ (prM f t a b).1 = (sP f t x).1 ∧ (prM f t a b).2.1 = (sP f t y).1 ∧ (sP f t x).1 < (sP f t y).1 := by
  have ne := sP_ne of (t := t) hab hb
  have e1 : (prM f t a b).1 = min (sP f t a).1 (sP f t b).1 := rfl
  have e2 : (prM f t a b).2.1 = max (sP f t a).1 (sP f t b).1 := rfl
  rcases Int.lt_trichotomy (sP f t a).1 (sP f t b).1 with h | h | h
  · exact ⟨a, b, .inl ⟨rfl, rfl⟩, by omega, hb, by omega, by omega, h⟩
  · exact absurd h ne
  · exact ⟨b, a, .inr ⟨rfl, rfl⟩, hb, by omega, by omega, by omega, h⟩
set_option maxHeartbeats 1000000 in
theorem lawCloseNear {H : Hp} {u : Lu} {l : Ls} {at0 : Int} (r : RdL H u l) (hn : fitR l.ck.now) (hh : ∀ y ∈ l.ck.ag.heap, fitR y.at_) :
    Qf Tryz.prog F.pelotonlaw28_CloseNear #[lsV u l, .int .i64 at0] H (.bool true) := by
  have on : (u.o.n : Int) = l.ord.length := by have := r.o.len; omega
  have wn : (u.k.f.n : Int) = l.ck.f.length := by have := r.k.f.len; omega
  refine pelotonlaw28_CloseNear_vc ⟨true, law28alive, _, law28asked r hn hh, fun _ => ⟨rfl, Hp.le_refl _⟩, fun hb => ?_⟩
  rw [on] at hb
  simp only [Bool.or_eq_false_iff, Bool.not_eq_false', decide_eq_false_iff_not] at hb
  obtain ⟨⟨⟨⟨hb, h2⟩, h3⟩, h4⟩, _⟩ := hb
  obtain ⟨hg, ok, ak⟩ := askedB_ok hb
  have fl := fitL_of hn hg hh
  have of := ok.ck.f
  have ot := ok.ck.now
  have W := asked_told of ak
  have N := asked_near of ak
  have A := asked_all of ak
  have hf := r.k.f
  have ol : l.ord.length = l.ck.f.length := by rw [ok.ord, ordM_len]
  have sm := of.len
  have n2 : 2 ≤ l.ck.f.length := by omega
  obtain ⟨k, rfl⟩ : ∃ k : Nat, at0 = k := ⟨at0.toNat, by omega⟩
  have hk : k < l.ck.f.length := by omega
  have lo := RdI.get (i := (k : Int)) r.o (by omega) (by omega)
  have eo : l.ord.getD (k : Int).toNat 0 = (sP l.ck.f l.ck.now k).1 := by rw [Int.toNat_natCast, ok.ord, sP_ordD hk]
  rw [eo] at lo
  have qn := nearestV (id := (sP l.ck.f l.ck.now k).1) r fl
  rw [nearest_sP ok n2 hk] at qn
  obtain ⟨z0, near⟩ := nearI_ok W N n2 hk
  rw [z0] at qn
  have told := near.told N hk
  have oP := W.okPr _ told
  have qk := refRCheck (H := H) (r := ((nearI l.ck.f l.ck.now k).1.2.2.1, (nearI l.ck.f l.ck.now k).1.2.2.2)) oP.fit
  have ek : chkR ((nearI l.ck.f l.ck.now k).1.2.2.1, (nearI l.ck.f l.ck.now k).1.2.2.2) = 0 := chkR_ok oP
  rw [ek] at qk
  obtain ⟨a, hab, hak, ep⟩ : ∃ a, a + 1 < l.ck.f.length ∧ (k = a ∨ k = a + 1) ∧ (nearI l.ck.f l.ck.now k).1 = prM l.ck.f l.ck.now a (a + 1) := by
    rcases near.mem with ⟨h, e⟩ | ⟨h, e⟩
    · exact ⟨k - 1, by omega, .inr (by omega), by rw [e, show k - 1 + 1 = k by omega]⟩
    · exact ⟨k, h, .inl rfl, e⟩
  obtain ⟨x, y, hxy, hx, hy, i1, i2, i3⟩ := pr_ids of (t := l.ck.now) (show a < a + 1 by omega) hab
  rw [← ep] at i1 i2
  have hkx : k = x ∨ k = y := by omega
  have q1 := refFAt (id := (sP l.ck.f l.ck.now k).1) hf (by omega)
  have p0 := posF_yes (sP_mem (f := l.ck.f) (t := l.ck.now) hk)
  have p1 := (posF_range p0).1
  have g1 := hf.gD (i := posF l.ck.f (sP l.ck.f l.ck.now k).1) p0 p1
  have x1 : l.ck.f.getD (posF l.ck.f (sP l.ck.f l.ck.now k).1).toNat (0, 0, 0) = sP l.ck.f l.ck.now k := by rw [← sP_find of (t := l.ck.now) hk]; rw [sP_find of hk]; exact sP_find of hk
  rw [x1] at g1
  have mk := sP_ok of (t := l.ck.now) hk
  have tk := (asked_place mk ak).1
  have okk := place_okR mk ot tk
  have bl := best_le W N n2 told
  obtain ⟨a0, b0, c1, c2, c3, c4, c5, c6⟩ := near_best W N n2
  obtain ⟨x0, y0, hxy0, hx0, hy0, j1, j2, _⟩ := pr_ids of (t := l.ck.now) c1 c2
  rw [← c4] at j1 j2
  have oB := W.okPr _ (W.best N n2).1
  have nx0 : (nearI l.ck.f l.ck.now x0).1.2.2 = (bestPr l.ck.f l.ck.now).2.2 := by rcases hxy0 with ⟨e, _⟩ | ⟨e, _⟩ <;> rw [e] <;> assumption
  have ny0 : (nearI l.ck.f l.ck.now y0).1.2.2 = (bestPr l.ck.f l.ck.now).2.2 := by rcases hxy0 with ⟨_, e⟩ | ⟨_, e⟩ <;> rw [e] <;> assumption
  have qx := nearestV (id := (sP l.ck.f l.ck.now x0).1) r fl
  rw [nearest_sP ok n2 hx0, (nearI_ok W N n2 hx0).1, ← j1] at qx
  have qy := nearestV (id := (sP l.ck.f l.ck.now y0).1) r fl
  rw [nearest_sP ok n2 hy0, (nearI_ok W N n2 hy0).1, ← j2] at qy
  have qc := closeClosest r fl
  have ec : closestL l = (bestPr l.ck.f l.ck.now, 0) := by unfold closestL closestM; rw [if_pos ok, if_neg (by omega), if_pos ⟨W.T, N⟩]
  rw [ec] at qc
  have rx := rankP hf of ot hx
  have ry := rankP hf of ot hy
  rw [← i1] at rx
  rw [← i2] at ry
  have near' := near
  have hid : (sP l.ck.f l.ck.now k).1 = (nearI l.ck.f l.ck.now k).1.1 ∨ (sP l.ck.f l.ck.now k).1 = (nearI l.ck.f l.ck.now k).1.2.1 := by
    rcases hkx with h | h
    · left; rw [i1, ← h]
    · right; rw [i2, ← h]
  generalize (nearI l.ck.f l.ck.now k).1 = p at *
  generalize (nearI l.ck.f l.ck.now x0).1 = px at *
  generalize (nearI l.ck.f l.ck.now y0).1 = py at *
  have lt12 : p.1 < p.2.1 := by omega
  rw [wn]
  refine ⟨r.o.inS (by omega) (by omega), _, lo, _, _, _, _, _, qn, 0, fun _ => qk, fun h => ?_, fun _ => ?_⟩
  · exfalso
    simp only [Bool.or_eq_true, bne_iff_ne, decide_eq_true_eq, Bool.and_eq_true] at h
    rcases h with ((h | h) | h) | h
    · exact h rfl
    · omega
    · omega
    · exact h rfl
  refine ⟨_, q1, hf.inS p0 p1, _, _, _, g1, fun n H' => ∃ i : Nat, n = i ∧ i ≤ l.ck.f.length ∧ H' = H, fun n _ => (l.ck.f.length - n).toNat, ⟨0, rfl, by omega, rfl⟩, ?_⟩
  rintro n16 H17 ⟨i, rfl, hi, rfl⟩
  refine ⟨fun hm => ?_, fun _ => ?_⟩
  · have hm : i < l.ck.f.length := by have := of_decide_eq_true hm; omega
    have gi := hf.gD (i := (i : Int)) (by omega) (by omega)
    rw [Int.toNat_natCast] at gi
    have si := hf.inS (i := (i : Int)) (by omega) (by omega)
    have mz : ((l.ck.f.length : Int) - ((i : Int) + 1)).toNat < ((l.ck.f.length : Int) - (i : Int)).toNat := by omega
    refine ⟨si, _, gi.1, fun _ => ⟨by unfold inI; omega, ⟨i + 1, by omega, by omega, rfl⟩, mz⟩, fun hne => ?_⟩
    have hne : (pG l.ck.f i).1 ≠ (sP l.ck.f l.ck.now k).1 := beq_eq_false_iff_ne.1 hne
    have mi := of.each _ (pG_mem (f := l.ck.f) hm)
    have ti := (asked_place mi ak).1
    have oi := place_okR mi ot ti
    have tz := asked_sub mk mi ak
    have qa := apartR (H := H17) mk mi ot
    rw [if_pos ⟨tk, ti⟩, if_pos ⟨tk, ti⟩, tz] at qa
    have od := (subM_ok okk oi tz).1
    obtain ⟨r1, s1⟩ := sP_at of l.ck.now (pG_mem hm)
    have far : leR p.2.2 (absR (subM (placeM (sP l.ck.f l.ck.now k) l.ck.now).1 (placeM (pG l.ck.f i) l.ck.now).1).1) := by
      have nk : rankM l.ck.f (pG l.ck.f i) l.ck.now ≠ k := fun h => hne (by rw [← h, s1])
      rcases Nat.lt_or_gt_of_ne nk with h | h
      · rw [← apart_in W (sP_mem hk) (pG_mem hm) (fun h => hne h.symm) tz h hk (.inr ⟨s1, rfl⟩) (A _ hk _ h)]
        exact near'.least W N h hk (.inr rfl) (A _ hk _ h)
      · rw [← apart_in W (sP_mem hk) (pG_mem hm) (fun h => hne h.symm) tz h r1 (.inl ⟨rfl, s1⟩) (A _ r1 _ h)]
        exact near'.least W N h r1 (.inl rfl) (A _ r1 _ h)
    generalize (subM (placeM (sP l.ck.f l.ck.now k) l.ck.now).1 (placeM (pG l.ck.f i) l.ck.now).1).1 = dd at *
    have fin : ∀ e : Int × Int, e = absR dd → (decide (cmpR e (p.2.2.1, p.2.2.2) < 0) = true → False) := fun e he h => by
      have h := of_decide_eq_true h
      rw [he] at h
      exact cmpR_lt.1 h far
    refine ⟨si, _, _, _, gi, _, _, _, qa, fun h => by simp at h, fun _ => ⟨fun hd => ?_, fun hd => ?_⟩⟩
    · have hd : dd.1 < 0 := of_decide_eq_true hd
      have e : ((0 - dd.1, dd.2) : Int × Int) = absR dd := by rw [absR_neg, if_pos hd, Int.zero_sub]
      have o1 := od.n1
      have qm := refCompareR (H := H17) (a := (0 - dd.1, dd.2)) (b := (p.2.2.1, p.2.2.2)) (by rw [e]; exact okR_abs od) oP
      exact ⟨by unfold inI; omega, _, qm, fun h => (fin _ e h).elim, fun _ => ⟨by unfold inI; omega, ⟨i + 1, by omega, by omega, rfl⟩, mz⟩⟩
    · have hd : ¬ dd.1 < 0 := of_decide_eq_false hd
      have e : ((dd.1, dd.2) : Int × Int) = absR dd := by rw [absR_neg, if_neg hd]
      have qm := refCompareR (H := H17) (a := (dd.1, dd.2)) (b := (p.2.2.1, p.2.2.2)) (by rw [e]; exact okR_abs od) oP
      exact ⟨_, qm, fun h => (fin _ e h).elim, fun _ => ⟨by unfold inI; omega, ⟨i + 1, by omega, by omega, rfl⟩, mz⟩⟩
  · have qkB := refRCheck (H := H17) (r := ((bestPr l.ck.f l.ck.now).2.2.1, (bestPr l.ck.f l.ck.now).2.2.2)) oB.fit
    have ekB : chkR ((bestPr l.ck.f l.ck.now).2.2.1, (bestPr l.ck.f l.ck.now).2.2.2) = 0 := chkR_ok oB
    rw [ekB] at qkB
    have qm := refCompareR (H := H17) (a := ((bestPr l.ck.f l.ck.now).2.2.1, (bestPr l.ck.f l.ck.now).2.2.2)) (b := (p.2.2.1, p.2.2.2)) oB oP
    have le : cmpR ((bestPr l.ck.f l.ck.now).2.2.1, (bestPr l.ck.f l.ck.now).2.2.2) (p.2.2.1, p.2.2.2) ≤ 0 := cmpR_le.2 bl
    refine ⟨_, _, rx, _, _, ry, fun _ => by unfold inI; omega, fun _ => by unfold inI; omega, fun h => ?_, fun _ => ⟨_, _, _, _, _, qc, _, _, _, _, _, qx, _, _, _, _, _, qy, 0, fun _ => qkB, _, fun _ => qm, ?_, Hp.le_refl _⟩⟩
    · exfalso
      simp only [Bool.or_eq_true, bne_iff_ne, Bool.and_eq_true] at h
      rcases h with (h | h) | h
      · exact h rfl
      · exact h rfl
      · omega
    · rw [nx0, ny0, decide_eq_true le]; simp
end Go.Proofs.YtkemdpobjaiolaaGreat
