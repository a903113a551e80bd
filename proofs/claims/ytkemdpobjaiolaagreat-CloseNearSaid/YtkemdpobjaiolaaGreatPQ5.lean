/- The engine, parts Q8, Q9, put together. Conditions: none. -/
import Derived.Test.YtkemdpobjaiolaaGreatPQ2
import Derived.Test.YtkemdpobjaiolaaGreatVgClose
import Derived.Test.YtkemdpobjaiolaaGreatFs
import Derived.Test.YtkemdpobjaiolaaGreatPN2
import Derived.Test.YtkemdpobjaiolaaGreatPM4
import Derived.Test.YtkemdpobjaiolaaGreatVgH28
set_option linter.unusedVariables false
section
/- Closest pairs: the nearest one of a point. Conditions: none. -/
set_option maxRecDepth 100000
open Go Go.Eng Go.Proofs
namespace Go.Proofs.YtkemdpobjaiolaaGreat

theorem pairG {H : Hp} {f : List Pt} {t : Int × Int} {a b : Slc} {ids : List Int} {pls : List (Int × Int)} {I K : Int} {x y : Nat} (of : okF f) (ot : okR t) (hx : x < f.length) (hy : y < f.length) (tx : (spot f t x).2 = 0) (ty : (spot f t y).2 = 0) (ra : RdI H a ids) (rb : Rd 2 fH H b pls)
    (i0 : 0 ≤ I) (i1 : I < ids.length) (k0 : 0 ≤ K) (k1 : K < ids.length) (i2 : I < pls.length) (k2 : K < pls.length) (e1 : ids.getD I.toNat 0 = (sP f t x).1) (e2 : ids.getD K.toNat 0 = (sP f t y).1) (e3 : pls.getD I.toNat (0, 0) = (spot f t x).1) (e4 : pls.getD K.toNat (0, 0) = (spot f t y).1) :
    Qf Tryz.prog F.close_points_pair #[.agg #[a.v, b.v], .int .i64 I, .int .i64 K] H (.tuple #[prV (duoM f t x y).1, .int .i64 (duoM f t x y).2]) := by
  obtain ⟨_, _, _, _, oi⟩ := spot_ok of ot hx tx
  obtain ⟨_, _, _, _, ok⟩ := spot_ok of ot hy ty
  have g1 := rb.gH (i := I) i0 i2
  have g2 := rb.gH (i := K) k0 k2
  rw [e3] at g1
  rw [e4] at g2
  have l1 := RdI.get (i := I) ra i0 i1
  have l2 := RdI.get (i := K) ra k0 k1
  rw [e1] at l1
  rw [e2] at l2
  have s1 := ra.inS (i := I) i0 i1
  have s2 := ra.inS (i := K) k0 k1
  have q := ratioSub (H := H) oi ok
  refine close_points_pair_vc ⟨rb.inS i0 i2, _, _, g1, rb.inS k0 k2, _, _, g2, _, _, _, q, fun he => ?_, fun he => ⟨s1, _, l1, s2, _, l2, s1, _, l1, s2, _, l2, ?_⟩⟩
  · have he : (gapD f t x y).2 ≠ 0 := neN he
    unfold duoM; rw [if_neg he]; exact ⟨rfl, Hp.le_refl _⟩
  · have he : (gapD f t x y).2 = 0 := eqN he
    unfold duoM; rw [if_pos he, min_if, max_if]; exact ⟨rfl, Hp.le_refl _⟩
theorem pairN_ok {f : List Pt} {t : Int × Int} {k : Nat} (h : pairT f t k) : pairN f t k = (prM f t k (k + 1), 0) := if_pos h
theorem pairN_no {f : List Pt} {t : Int × Int} {k : Nat} (h : ¬ pairT f t k) : pairN f t k = (zPr, 16) := if_neg h
set_option maxHeartbeats 4000000 in
theorem twoV {H : Hp} {u : Lu} {l : Ls} {K : Int} {k : Nat} (eK : K = k) (r : RdL H u l) (ok : okLs l) (hk : k + 1 < l.ck.f.length) :
    Qf Tryz.prog F.close_two #[lsV u l, .int .i64 K] H (.tuple #[prV (pairN l.ck.f l.ck.now k).1, .int .i64 (pairN l.ck.f l.ck.now k).2]) := by
  subst eK
  have of := ok.ck.f
  have ot := ok.ck.now
  have sm := of.small
  have ol : l.ord.length = l.ck.f.length := by rw [ok.ord, ordM_len]
  have uc := r.o.cap; have un := r.o.len
  refine close_two_vc ?_
  have e1 : Tryz.prog.cellsOf 3 = 1 := by kernel_rfl
  rw [e1]
  have rp := Rd.part r.o (lo := k) (hi := k + 2) (by omega) (by omega)
  have en : ((k : Int) + 2).toNat - (k : Int).toNat = k + 2 - k := by omega
  have ec : (u.o.c : Int).toNat - (k : Int).toNat = u.o.c - k := by omega
  rw [en, ec]
  have gI : ∀ j, j < 2 → ((l.ord.take (k + 2)).drop k).getD j 0 = (sP l.ck.f l.ck.now (k + j)).1 := fun j hj => by
    rw [List.getD_eq_getElem?_getD, List.getElem?_drop, List.getElem?_take_of_lt (by omega), ok.ord, sP_ord (by omega)]; rfl
  have lI : ((l.ord.take (k + 2)).drop k).length = 2 := by rw [List.length_drop, List.length_take]; omega
  generalize (l.ord.take (k + 2)).drop k = ids at rp gI lI
  have rp : RdI H ⟨subA u.o.a 1 (k : Int) (u.o.c : Int), k + 2 - k, u.o.c - k⟩ ids := rp
  have hf := r.k.f
  generalize l.ck.f = f at *
  generalize l.ck.now = t at *
  refine ⟨by unfold inI; omega, by unfold okSl; omega, fun n u4 u5 H' => ∃ j : Nat, n = j ∧ j ≤ 2 ∧ u4 = ⟨subA u.o.a 1 (k : Int) (u.o.c : Int), k + 2 - k, u.o.c - k⟩ ∧ (∀ i, i < j → (spot f t (k + i)).2 = 0) ∧ Hp.le H H' ∧ Mine 2 fH 23 H H' u5 ((List.range j).map fun i => (spot f t (k + i)).1), fun n _ _ _ => (2 - n).toNat,
    ⟨0, rfl, by omega, rfl, fun i hi => by omega, Hp.le_refl _, .inl ⟨rfl, rfl⟩⟩, ?_⟩
  rintro n3 u4 u5 H6 ⟨j, rfl, hj, rfl, tj, l6, m6⟩
  refine ⟨fun hn => ?_, fun hn => ?_⟩
  · have hn : j < 2 := by have := of_decide_eq_true hn; omega
    have r6 := rp.le l6
    have gk := RdI.get (i := (j : Int)) r6 (by omega) (by omega)
    rw [Int.toNat_natCast, gI j hn] at gk
    have hkj : k + j < f.length := by omega
    have qf := fieldFind (id := (sP f t (k + j)).1) (hf.le l6) of (posF_yes (sP_mem hkj))
    rw [sP_find of hkj] at qf
    have qa := courseAt (H := H6) (p := sP f t (k + j)) ot.fit
    refine ⟨r6.inS (by omega) (by omega), _, gk, _, _, _, _, qf, _, _, _, qa, fun he => ?_, fun he => ?_⟩
    · have he : (spot f t (k + j)).2 ≠ 0 := neN he
      have np : ¬ pairT f t k := fun h => by
        have h1 := h.1; have h2 := h.2.1
        have : j = 0 ∨ j = 1 := by omega
        rcases this with rfl | rfl
        · exact he h1
        · exact he h2
      have e16 : (spot f t (k + j)).2 = 16 := (spot_err of ot hkj).resolve_left he
      rw [pairN_no np]
      have e16 : (placeM (sP f t (k + j)) t).2 = 16 := e16
      rw [e16]; exact ⟨rfl, l6⟩
    · have he : (spot f t (k + j)).2 = 0 := eqN he
      refine fun b15 H16 hb hH => (append1 (k := 2) (f := fH) (bytes := 16) (x := (spot f t (k + j)).1) (by kernel_rfl) (by decide) (fun _ => rfl) fH_one l6 m6 hb hH rfl (by simp; omega) (by omega)).mono fun v H18 ⟨w, hw, l18, m18, _, _⟩ => ⟨w, hw, by unfold inI; omega, ⟨j + 1, by omega, by omega, rfl, fun i hi => ?_, l18, by rw [List.range_succ, List.map_append]; exact m18⟩, ?_⟩
      · by_cases h : i < j
        · exact tj i h
        · rw [show i = j by omega]; exact he
      · show ((2 : Int) - ((j : Int) + 1)).toNat < ((2 : Int) - (j : Int)).toNat; omega
  · have hn : j = 2 := by have := of_decide_eq_false hn; omega
    subst hn
    have r6 := rp.le l6
    have rm : Rd 2 fH H6 u5 ((List.range 2).map fun i => (spot f t (k + i)).1) := Mine.rd (fun _ => rfl) m6
    have q := pairG (I := 0) (K := 1) (x := k) (y := k + 1) of ot (by omega) hk (tj 0 (by omega)) (tj 1 (by omega)) r6 rm (by omega) (by omega) (by omega) (by omega) (by simp) (by simp) (gI 0 (by omega)) (gI 1 (by omega)) rfl rfl
    have t0 : (spot f t k).2 = 0 := tj 0 (by omega)
    have t1 : (spot f t (k + 1)).2 = 0 := tj 1 (by omega)
    have ed : duoM f t k (k + 1) = pairN f t k := by
      unfold duoM
      by_cases h : (gapD f t k (k + 1)).2 = 0
      · rw [if_pos h, pairN_ok ⟨t0, t1, h⟩]
      · obtain ⟨_, _, _, _, oa⟩ := spot_ok of ot (show k < f.length by omega) t0
        obtain ⟨_, _, _, _, ob⟩ := spot_ok of ot hk t1
        rw [if_neg h, pairN_no fun x => h x.2.2]
        have e16 : (gapD f t k (k + 1)).2 = 16 := (subM_err oa ob).resolve_left h
        rw [e16]
    rw [ed] at q
    exact ⟨_, _, _, _, _, q, rfl, l6⟩
def nrS (B p : Pr) : Pr := if p ≠ B ∧ (cmpR p.2.2 B.2.2 < 0 ∨ (cmpR p.2.2 B.2.2 = 0 ∧ p.1 + p.2.1 < B.1 + B.2.1)) then p else B
theorem nrS_self (B : Pr) : nrS B B = B := by unfold nrS; rw [if_neg fun h => h.1 rfl]
theorem nr_nearer {f : List Pt} {t : Int × Int} {i : Nat} (of : okF f) (hi0 : 0 < i) (hi : i + 1 < f.length) : nrS (prM f t (i - 1) i) (prM f t i (i + 1)) = nearer f t i := by
  unfold nrS nearer
  have s1 : (prM f t (i - 1) i).1 + (prM f t (i - 1) i).2.1 = (sP f t (i - 1)).1 + (sP f t i).1 := by show min _ _ + max _ _ = _; omega
  have s2 : (prM f t i (i + 1)).1 + (prM f t i (i + 1)).2.1 = (sP f t i).1 + (sP f t (i + 1)).1 := by show min _ _ + max _ _ = _; omega
  rw [s1, s2]
  by_cases e : prM f t i (i + 1) = prM f t (i - 1) i
  · rw [if_neg fun h => h.1 e]
    split
    · exact e.symm
    · rfl
  · by_cases c : cmpR (prM f t i (i + 1)).2.2 (prM f t (i - 1) i).2.2 < 0
    · rw [if_pos ⟨e, .inl c⟩, if_pos (.inl c)]
    · by_cases z : cmpR (prM f t i (i + 1)).2.2 (prM f t (i - 1) i).2.2 = 0 ∧ (sP f t (i + 1)).1 < (sP f t (i - 1)).1
      · rw [if_pos ⟨e, .inr ⟨z.1, by omega⟩⟩, if_pos (.inr z)]
      · rw [if_neg fun h => by
          rcases h.2 with h | h
          · exact c h
          · exact z ⟨h.1, by omega⟩, if_neg fun h => by
          rcases h with h | h
          · exact c h
          · exact z h]
theorem eqPr (p B : Pr) : (p.1 == B.1 && p.2.1 == B.2.1 && p.2.2.1 == B.2.2.1 && p.2.2.2 == B.2.2.2) = decide (p = B) := by
  obtain ⟨p1, p2, p3, p4⟩ := p
  obtain ⟨B1, B2, B3, B4⟩ := B
  rw [Bool.eq_iff_iff]
  simp only [Bool.and_eq_true, beq_iff_eq, decide_eq_true_eq, Prod.mk.injEq]
  constructor
  · rintro ⟨⟨⟨a, b⟩, c⟩, d⟩; exact ⟨a, b, c, d⟩
  · rintro ⟨a, b, c, d⟩; exact ⟨⟨⟨a, b⟩, c⟩, d⟩
def folN (xs : List Pr) (B : Pr) : Pr := xs.foldl nrS B
theorem kRank_ok {l : Ls} {id : Int} (h : (kRankM l id).2 = 0) : okLs l ∧ ∃ i : Nat, (kRankM l id).1 = i ∧ i < l.ord.length := by
  unfold kRankM at h ⊢
  by_cases ok : okLs l
  · rw [if_pos ok] at h ⊢
    by_cases hp : posO l.ord id < 0
    · rw [if_pos hp] at h; cases h
    · rw [if_neg hp]
      have := (posO_in (o := l.ord) (id := id) (by omega)).1
      exact ⟨ok, (posO l.ord id).toNat, by show posO l.ord id = _; omega, by omega⟩
  · rw [if_neg ok] at h; cases h
set_option maxHeartbeats 2000000 in
theorem nearestV {H : Hp} {u : Lu} {l : Ls} {id : Int} (r : RdL H u l) (fl : fitL l) :
    Qf Tryz.prog F.close_Nearest #[lsV u l, .int .i64 id] H (.tuple #[prV (nearestM l id).1, .int .i64 (nearestM l id).2]) := by
  have on := r.o.len
  refine close_Nearest_vc ⟨_, _, kRank r fl, fun he => ?_, fun he => ⟨fun hl => ?_, fun hl => ?_⟩⟩
  · have he := neN he
    unfold nearestM; rw [if_pos he]; exact ⟨rfl, Hp.le_refl _⟩
  · have he := eqN he
    have hl : l.ord.length < 2 := by have := of_decide_eq_true hl; omega
    unfold nearestM; rw [if_neg (by omega), if_pos hl]; exact ⟨rfl, Hp.le_refl _⟩
  have he := eqN he
  have hl : ¬ l.ord.length < 2 := by have := of_decide_eq_false hl; omega
  obtain ⟨ok, i, ei, hi⟩ := kRank_ok he
  have en : nearestM l id = nearI l.ck.f l.ck.now i := by unfold nearestM; rw [if_neg (by omega), if_neg hl, ei, Int.toNat_natCast]
  rw [en, ei]
  have of := ok.ck.f
  have ot := ok.ck.now
  have ol : l.ord.length = l.ck.f.length := by rw [ok.ord, ordM_len]
  have sm := of.len
  have two := fun (k : Nat) (H7 : Hp) (l7 : Hp.le H H7) (hk : k + 1 < l.ck.f.length) => twoV (K := (k : Int)) rfl (r.le l7) ok hk
  rw [on]
  rw [ol] at hi hl ⊢
  have st : (if (i : Int) - 1 > 0 then (i : Int) - 1 else 0) = ((i - 1 : Nat) : Int) := by split <;> omega
  rw [st]
  refine ⟨by unfold inI; omega, fun u n H' => ∃ k : Nat, n = k ∧ i - 1 ≤ k ∧ k ≤ i + 1 ∧ k + 1 ≤ l.ck.f.length ∧ (∀ j, i - 1 ≤ j → j < k → pairT l.ck.f l.ck.now j) ∧ Hp.le H H' ∧ Mine 4 fPr 76 H H' u ((List.range' (i - 1) (k - (i - 1))).map fun j => prM l.ck.f l.ck.now j (j + 1)), fun _ n _ => (i + 2 - n).toNat,
    ⟨i - 1, rfl, by omega, by omega, by omega, fun j h1 h2 => by omega, Hp.le_refl _, by rw [Nat.sub_self]; exact .inl ⟨rfl, rfl⟩⟩, ?_⟩
  rintro u5 n6 H7 ⟨k, rfl, hk0, hk1, hk2, tk, l7, m7⟩
  refine ⟨fun h => by unfold inI; omega, fun h => ?_, fun h => ?_⟩
  · simp only [Bool.and_eq_true, decide_eq_true_eq] at h
    have hki : k ≤ i := by omega
    have hkf : k + 1 < l.ck.f.length := by omega
    refine ⟨_, _, _, _, _, two k H7 l7 hkf, fun hx => ?_, fun hx => ?_⟩
    · have np : ¬ pairT l.ck.f l.ck.now k := fun h => by have := neN hx; rw [pairN_ok h] at this; exact this rfl
      have e16 : nearI l.ck.f l.ck.now i = (zPr, 16) := by
        unfold nearI
        by_cases h0 : i = 0
        · rw [if_pos h0]; have : k = 0 := by omega
          subst this; exact pairN_no np
        · rw [if_neg h0]
          by_cases h1 : i + 1 = l.ck.f.length
          · rw [if_pos h1]; have : k = i - 1 := by omega
            subst this; exact pairN_no np
          · rw [if_neg h1, if_neg]
            rintro ⟨x1, x2⟩
            have : k = i - 1 ∨ k = i := by omega
            rcases this with e | e
            · rw [e] at np; exact np x1
            · rw [e] at np; exact np x2
      rw [pairN_no np, e16]; exact ⟨rfl, l7⟩
    · have hp : pairT l.ck.f l.ck.now k := by
        by_cases h : pairT l.ck.f l.ck.now k
        · exact h
        · rw [pairN_no h] at hx; simp at hx
      rw [pairN_ok hp]
      refine fun b13 H14 hb hH => (append1 (k := 4) (f := fPr) (bytes := 32) (x := prM l.ck.f l.ck.now k (k + 1)) (by kernel_rfl) (by decide) (fun _ => rfl) fPr_one l7 m7 hb hH rfl (by simp; omega) (by omega)).mono fun v H16 ⟨w, hw, l16, m16, _, _⟩ => ⟨w, hw, by unfold inI; omega, ⟨k + 1, by omega, by omega, by omega, by omega, fun j h1 h2 => ?_, l16, ?_⟩, ?_⟩
      · by_cases e : j < k
        · exact tk j h1 e
        · rw [show j = k by omega]; exact hp
      · rw [show k + 1 - (i - 1) = (k - (i - 1)) + 1 by omega, List.range'_concat, List.map_append]
        have : i - 1 + 1 * (k - (i - 1)) = k := by omega
        rw [this]; exact m16
      · show ((i : Int) + 2 - ((k : Int) + 1)).toNat < ((i : Int) + 2 - (k : Int)).toNat; omega
  · have hend : k = i + 1 ∨ k + 1 = l.ck.f.length := by
      simp only [Bool.and_eq_false_iff, decide_eq_false_iff_not] at h
      omega
    have r7 : Rd 4 fPr H7 u5 ((List.range' (i - 1) (k - (i - 1))).map fun j => prM l.ck.f l.ck.now j (j + 1)) := Mine.rd (fun _ => rfl) m7
    have okx : ∀ x ∈ (List.range' (i - 1) (k - (i - 1))).map (fun j => prM l.ck.f l.ck.now j (j + 1)), okPr x ∧ 0 ≤ x.1 + x.2.1 ∧ x.1 + x.2.1 ≤ 200000 := fun x hx => by
      obtain ⟨j, hj, rfl⟩ := List.mem_map.1 hx
      have hj := List.mem_range'_1.1 hj
      have T := tk j hj.1 (by omega)
      obtain ⟨_, _, _, _, oa⟩ := spot_ok of ot (show j < l.ck.f.length by omega) T.1
      obtain ⟨_, _, _, _, ob⟩ := spot_ok of ot (show j + 1 < l.ck.f.length by omega) T.2.1
      have w1 := sP_ok of (t := l.ck.now) (show j < l.ck.f.length by omega)
      have w2 := sP_ok of (t := l.ck.now) (show j + 1 < l.ck.f.length by omega)
      have i1 := w1.i0; have i2 := w1.i1; have i3 := w2.i0; have i4 := w2.i1
      refine ⟨(subM_ok oa ob T.2.2).1, ?_, ?_⟩
      · show 0 ≤ min _ _ + max _ _; omega
      · show min _ _ + max _ _ ≤ _; omega
    have hx : ∃ x0 xs, ((List.range' (i - 1) (k - (i - 1))).map fun j => prM l.ck.f l.ck.now j (j + 1)) = x0 :: xs ∧ nearI l.ck.f l.ck.now i = (folN (x0 :: xs) x0, 0) := by
      unfold nearI
      by_cases h0 : i = 0
      · subst h0
        have hk : k = 1 := by omega
        subst hk
        rw [if_pos rfl, pairN_ok (tk 0 (by omega) (by omega))]
        refine ⟨prM l.ck.f l.ck.now 0 1, [], rfl, ?_⟩
        show _ = (nrS (prM l.ck.f l.ck.now 0 1) (prM l.ck.f l.ck.now 0 1), (0 : Int))
        rw [nrS_self]
      · rw [if_neg h0]
        by_cases h1 : i + 1 = l.ck.f.length
        · have hk : k = i := by omega
          subst hk
          rw [if_pos h1, pairN_ok (tk (k - 1) (by omega) (by omega))]
          refine ⟨prM l.ck.f l.ck.now (k - 1) (k - 1 + 1), [], by rw [show k - (k - 1) = 1 by omega]; rfl, ?_⟩
          show _ = (nrS _ _, (0 : Int))
          rw [nrS_self]
        · have hk : k = i + 1 := by omega
          subst hk
          rw [if_neg h1, if_pos ⟨tk (i - 1) (by omega) (by omega), tk i (by omega) (by omega)⟩]
          refine ⟨prM l.ck.f l.ck.now (i - 1) (i - 1 + 1), [prM l.ck.f l.ck.now (i - 1 + 1) (i - 1 + 1 + 1)], by rw [show i + 1 - (i - 1) = 2 by omega]; rfl, ?_⟩
          show _ = (nrS (nrS _ _) _, (0 : Int))
          rw [nrS_self, show i - 1 + 1 = i by omega, nr_nearer of (by omega) (by omega)]
    obtain ⟨x0, xs, ex, eI⟩ := hx
    rw [ex] at r7 okx
    rw [eI]
    have un : (u5.n : Int) = (x0 :: xs).length := by have := r7.len; omega
    refine ⟨r7.inS (by omega) (by simp), _, _, _, _, Rd.gPr r7 (i := 0) (x := x0) (by omega) rfl, fun n y1 y2 y3 y4 H' => ∃ (j : Nat) (B : Pr), n = j ∧ y1 = B.1 ∧ y2 = B.2.1 ∧ y3 = B.2.2.1 ∧ y4 = B.2.2.2 ∧ j ≤ (x0 :: xs).length ∧ H' = H7 ∧ (okPr B ∧ 0 ≤ B.1 + B.2.1 ∧ B.1 + B.2.1 ≤ 200000) ∧ folN ((x0 :: xs).drop j) B = folN (x0 :: xs) x0, fun n _ _ _ _ _ => ((x0 :: xs).length - n).toNat,
      ⟨0, x0, rfl, rfl, rfl, rfl, rfl, by omega, rfl, okx x0 List.mem_cons_self, rfl⟩, ?_⟩
    have lx : (x0 :: xs).length ≤ 100 := by rw [← ex]; simp; omega
    generalize x0 :: xs = X at *
    rintro n24 n25 n26 n27 n28 H29 ⟨j, B, rfl, rfl, rfl, rfl, rfl, hj, rfl, ⟨oB, b0, b1⟩, hF⟩
    rw [un]
    refine ⟨fun hm => ?_, fun hm => ?_⟩
    · have hm : j < X.length := by have := of_decide_eq_true hm; omega
      have gx : X[(j : Int).toNat]? = some X[j] := List.getElem?_eq_getElem hm
      obtain ⟨ox, c0, c1⟩ := okx X[j] (List.getElem_mem hm)
      have dj : X.drop j = X[j] :: X.drop (j + 1) := List.drop_eq_getElem_cons hm
      have eF : folN (X.drop j) B = folN (X.drop (j + 1)) (nrS B X[j]) := by rw [dj]; rfl
      rw [eF] at hF
      have ld := Rd.gPr r7 (i := (j : Int)) (by omega) gx
      have sl := r7.inS (i := (j : Int)) (by omega) (by omega)
      generalize X[j] = p at *
      have qc := ratioCmp (H := H29) (a := (p.2.2.1, p.2.2.2)) (b := (B.2.2.1, B.2.2.2)) ox.fit oB.fit
      have ec : cmpM (p.2.2.1, p.2.2.2) (B.2.2.1, B.2.2.2) = (cmpR p.2.2 B.2.2, 0) := by unfold cmpM; rw [if_pos ⟨ox, oB⟩]
      rw [ec] at qc
      have mz : ((X.length : Int) - ((j : Int) + 1)).toNat < ((X.length : Int) - (j : Int)).toNat := by omega
      have eqP := eqPr p B
      refine ⟨sl, _, _, _, _, ld, _, _, qc, fun _ => by unfold inI; omega, fun _ => by unfold inI; omega, fun hz => ?_, fun hz => ?_⟩
      · have hn : nrS B p = p := by
          unfold nrS; rw [if_pos]
          rw [eqP] at hz
          simp only [Bool.and_eq_true, Bool.or_eq_true, decide_eq_true_eq, beq_iff_eq, Bool.not_eq_true', decide_eq_false_iff_not] at hz
          exact hz
        rw [hn] at hF
        exact ⟨by unfold inI; omega, ⟨j + 1, p, by omega, rfl, rfl, rfl, rfl, by omega, rfl, ⟨ox, c0, c1⟩, hF⟩, mz⟩
      · have hn : nrS B p = B := by
          unfold nrS; rw [if_neg]
          rw [eqP] at hz
          intro h9
          have : (!decide (p = B) && (decide (cmpR p.2.2 B.2.2 < 0) || cmpR p.2.2 B.2.2 == 0 && decide (p.1 + p.2.1 < B.1 + B.2.1))) = true := by
            simp only [Bool.and_eq_true, Bool.or_eq_true, decide_eq_true_eq, beq_iff_eq, Bool.not_eq_true', decide_eq_false_iff_not]
            exact h9
          rw [this] at hz; cases hz
        rw [hn] at hF
        exact ⟨by unfold inI; omega, ⟨j + 1, B, by omega, rfl, rfl, rfl, rfl, by omega, rfl, ⟨oB, b0, b1⟩, hF⟩, mz⟩
    · have hm : j = X.length := by have := of_decide_eq_false hm; omega
      subst hm
      rw [List.drop_length] at hF
      have hF : B = folN X x0 := hF
      rw [← hF]; exact ⟨rfl, l7⟩

theorem law28whole {H : Hp} {n : Int} : Qf Tryz.prog F.pelotonlaw28_whole #[.int .i64 n] H (sI2 n 1) := pelotonlaw28_whole_vc ⟨rfl, Hp.le_refl _⟩
theorem law28example {H : Hp} {n : Int} (fn : fitR (n, 1)) : Go.Eng.Fn Tryz.prog F.pelotonlaw28_example #[.int .i64 n] H fun v H' => ∃ u : Lu, v = lsV u (buildL exF (n, 1)).1 ∧ Hp.le H H' ∧ RdL H' u (buildL exF (n, 1)).1 := by
  refine pelotonlaw28_example_vc fun b1 H2 hb hH => ⟨_, _, law28whole, ?_⟩
  have l2 : Hp.le H H2 := Hp.le_new (Hp.le_refl _) hb hH
  have rf : Rd 3 fD H2 ⟨some ⟨b1, 0, none⟩, 3, 3⟩ exF := rdConst (k := 3) (f := fD) (fun _ => rfl) hH rfl rfl
  exact (refBuildL (t := (n, 1)) rf fn).mono fun v H6 ⟨u, hv, l6, r⟩ => ⟨l6, _, _, u.k.f, _, u.k.cl, u.k.u1, u.k.u2, u.k.u3, u.k.u4, u.k.u5, u.k.d, u.o, u.n, _, hv, u, rfl, Hp.le_trans l2 l6, r⟩
def exL1 : Ls := (buildL exF (1, 1)).1
theorem exOk1 : okLs exL1 := chkLs_zero.1 (by kernel_rfl)
theorem fit11 : fitR (1, 1) := ⟨by show inI 1; unfold inI; omega, by show inI 1; unfold inI; omega⟩
theorem fit31 : fitR (3, 1) := ⟨by show inI 3; unfold inI; omega, by show inI 1; unfold inI; omega⟩
theorem ac1 : closestL exLs = ((1, 5, (0, 1)), 0) := by kernel_rfl
theorem ac2 : nearestM exLs 2 = ((1, 2, (6, 1)), 0) := by kernel_rfl
theorem ac3 : closestL exL1 = ((1, 5, (2, 1)), 0) := by kernel_rfl
theorem ac4 : soonM exL1 (3, 1) = ((2, 1), (1, 2, (0, 1)), 0) := by kernel_rfl
set_option maxHeartbeats 1000000 in
theorem law28alive_of {H : Hp} {l m : Ls} (e0 : (buildL exF (0, 1)).1 = l) (e1 : (buildL exF (1, 1)).1 = m) (fl : fitL l) (fm : fitL m) (c1 : closestL l = ((1, 5, (0, 1)), 0)) (c2 : nearestM l 2 = ((1, 2, (6, 1)), 0)) (c3 : closestL m = ((1, 5, (2, 1)), 0)) (c4 : soonM m (3, 1) = ((2, 1), (1, 2, (0, 1)), 0)) :
    Qf Tryz.prog F.pelotonlaw28_alive #[] H (.bool true) := by
  have x0 := fun H => law28example (H := H) (n := 0) fit01
  have x1 := fun H => law28example (H := H) (n := 1) fit11
  simp only [e0] at x0
  simp only [e1] at x1
  refine pelotonlaw28_alive_vc ((x0 H).mono fun v H2 ⟨a, hv, l2, ra⟩ => ⟨_, _, a.k.f, _, a.k.cl, a.k.u1, a.k.u2, a.k.u3, a.k.u4, a.k.u5, a.k.d, a.o, a.n, hv, ?_⟩)
  have q1 := closeClosest ra fl
  rw [c1] at q1
  refine ⟨1, 5, 0, 1, 0, q1, (x0 H2).mono fun v H22 ⟨b, hv, l22, rb⟩ => ⟨_, _, b.k.f, _, b.k.cl, b.k.u1, b.k.u2, b.k.u3, b.k.u4, b.k.u5, b.k.d, b.o, b.n, hv, ?_⟩⟩
  have q2 := nearestV (id := 2) rb fl
  rw [c2] at q2
  refine ⟨1, 2, 6, 1, 0, q2, (x1 H22).mono fun v H42 ⟨c, hv, l42, rc⟩ => ⟨_, _, c.k.f, _, c.k.cl, c.k.u1, c.k.u2, c.k.u3, c.k.u4, c.k.u5, c.k.d, c.o, c.n, hv, ?_⟩⟩
  have q3 := closeClosest rc fm
  rw [c3] at q3
  refine ⟨1, 5, 2, 1, 0, q3, (x1 H42).mono fun v H62 ⟨d, hv, l62, rd⟩ => ⟨_, _, d.k.f, _, d.k.cl, d.k.u1, d.k.u2, d.k.u3, d.k.u4, d.k.u5, d.k.d, d.o, d.n, hv, ?_⟩⟩
  have q4 := soonestV (to := (3, 1)) rd fm fit31
  rw [c4] at q4
  exact ⟨3, 1, law28whole, 2, 1, 1, 2, 0, 1, 0, q4, 0, 1, fun _ => law28whole, 6, 1, fun _ => law28whole, 2, 1, fun _ => law28whole, 2, 1, fun _ => law28whole, 0, 1, fun _ => law28whole, rfl, Hp.le_trans l2 (Hp.le_trans l22 (Hp.le_trans l42 l62))⟩
theorem law28alive {H : Hp} : Qf Tryz.prog F.pelotonlaw28_alive #[] H (.bool true) := law28alive_of rfl rfl exOk.fit exOk1.fit ac1 ac2 ac3 ac4
def askedB (l : Ls) : Bool := !greatL l && (chkLs l == 0) && (askT l.ck.now == 0)
theorem law28asked {H : Hp} {u : Lu} {l : Ls} (r : RdL H u l) (hn : fitR l.ck.now) (hh : ∀ y ∈ l.ck.ag.heap, fitR y.at_) : Qf Tryz.prog F.pelotonlaw28_asked #[lsV u l] H (.bool (askedB l)) :=
  pelotonlaw28_asked_vc ⟨_, refLGreat r, _, fun hg => refLCheck r (fitL_of hn (by simpa using hg) hh), _, fun _ => refAskT hn, rfl, Hp.le_refl _⟩
theorem askedB_ok {l : Ls} (h : askedB l = true) : greatL l = false ∧ okLs l ∧ askedR l.ck.now := by
  unfold askedB at h
  simp only [Bool.and_eq_true, Bool.not_eq_true', beq_iff_eq] at h
  obtain ⟨⟨h1, h2⟩, h3⟩ := h
  have := askT_zero.1 h3
  exact ⟨h1, chkLs_zero.1 h2, this.1, this.2.1, this.2.2.1, this.2.2.2⟩
end Go.Proofs.YtkemdpobjaiolaaGreat
end
