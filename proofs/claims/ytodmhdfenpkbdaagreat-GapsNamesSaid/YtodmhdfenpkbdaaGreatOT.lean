/- The order of a field: field.Order and the reference's. Conditions: none. -/
import Derived.Test.YtodmhdfenpkbdaaGreatOS
import Derived.Test.YtodmhdfenpkbdaaGreatVgBase
import Derived.Test.YtodmhdfenpkbdaaGreatFs
set_option linter.unusedVariables false
set_option maxRecDepth 100000
open Go Go.Eng Go.Proofs
namespace Go.Proofs.YtodmhdfenpkbdaaGreat

def sortedM (f : List Pt) (t : Int × Int) : List Pt × Int := if timedF f t = 0 then (sortM f t, 0) else ([], timedF f t)
def orderM (f : List Pt) (t : Int × Int) : List Int × Int := if timedF f t = 0 then (ordM f t, 0) else ([], timedF f t)

theorem fieldSorted {H : Hp} {w : Slc} {f : List Pt} {t : Int × Int} (hf : Rd 3 fD H w f) (ht : fitR t) :
    Go.Eng.Fn Tryz.prog F.field_sorted #[vFd w, raW t] H fun v H' => ∃ u : Slc, v = .tuple #[u.v, .int .i64 (sortedM f t).2] ∧ Hp.le H H' ∧ Mine 3 fD T.api_Point H H' u (sortedM f t).1 := by
  refine field_sorted_vc fun b1 H2 hb1 hH2 => ?_
  have l2 : Hp.le H H2 := Hp.le_new (Hp.le_refl _) hb1 hH2
  have hbx : H2 b1 = some (.cells #[.int .i64 t.1, .int .i64 t.2] 23 (0, 0)) := by rw [hH2]; simp [Hp.put]
  refine ⟨_, fieldCheck (hf.le l2), fun hc => ?_, fun hc => ?_⟩
  · have hc : chkF f ≠ 0 := by simpa using hc
    have e : sortedM f t = ([], chkF f) := by
      have et : timedF f t = chkF f := by unfold timedF; rw [if_pos hc]
      unfold sortedM; rw [et, if_neg hc]
    rw [e]; exact ⟨zs, rfl, l2, .inl ⟨rfl, rfl⟩⟩
  have hc : chkF f = 0 := by simpa using hc
  have of := chkF_zero.1 hc
  refine ⟨_, _, ⟨by simp [Hp.at, hbx, Addr.add], by simp [Hp.at, hbx, Addr.add]⟩, _, ratioCheck (r := t) ht, fun h2 => ?_, fun h2 => ?_⟩
  · have h2 : chkR t ≠ 0 := by simpa using h2
    have e : sortedM f t = ([], chkR t) := by
      have et : timedF f t = chkR t := by unfold timedF; rw [if_neg (by rw [hc]; simp)]
      unfold sortedM; rw [et, if_neg h2]
    rw [e]; exact ⟨zs, rfl, l2, .inl ⟨rfl, rfl⟩⟩
  have ot : okR t := chkR_zero.1 (by simpa using h2)
  have e : sortedM f t = (sortM f t, 0) := by unfold sortedM; rw [if_pos (timedF_zero.2 ⟨of, ot⟩)]
  rw [e]
  have lf := of.small
  refine (clone_pt (hf.le l2) (by omega)).mono fun v H8 ⟨u, hv, l8, m⟩ => ⟨u, hv, ?_⟩
  refine (sortPts of ot m (l8 b1 _ hbx) (Mine.sepAddr m (by rw [hbx]; simp))).mono fun v H11 ⟨hv, m2, ch⟩ => ⟨hv, u, rfl, ?_, m2.low l2⟩
  exact Hp.le_trans l2 (Hp.le_chg l8 ch m.isNew)

theorem fieldOrder {H : Hp} {w : Slc} {f : List Pt} {t : Int × Int} (hf : Rd 3 fD H w f) (ht : fitR t) :
    Go.Eng.Fn Tryz.prog F.field_Order #[vFd w, raW t] H fun v H' => ∃ u : Slc, v = .tuple #[u.v, .int .i64 (orderM f t).2] ∧ Hp.le H H' ∧ Mine 1 fI T.int H H' u (orderM f t).1 := by
  refine field_Order_vc ((fieldSorted hf ht).mono fun v H2 ⟨u, hv, l2, m⟩ => ⟨u, _, hv, fun hc => ?_, fun hc => ?_⟩)
  · have hc : timedF f t ≠ 0 := by
      have hc : (sortedM f t).2 ≠ 0 := by simpa using hc
      intro h; unfold sortedM at hc; rw [if_pos h] at hc; exact hc rfl
    have e1 : sortedM f t = ([], timedF f t) := by unfold sortedM; rw [if_neg hc]
    have e2 : orderM f t = ([], timedF f t) := by unfold orderM; rw [if_neg hc]
    rw [e1, e2]
    exact ⟨zs, rfl, l2, .inl ⟨rfl, rfl⟩⟩
  have hc : timedF f t = 0 := by
    have hc : (sortedM f t).2 = 0 := by simpa using hc
    by_cases h : timedF f t = 0
    · exact h
    · unfold sortedM at hc; rw [if_neg h] at hc; exact hc
  have e1 : sortedM f t = (sortM f t, 0) := by unfold sortedM; rw [if_pos hc]
  have e2 : orderM f t = (ordM f t, 0) := by unfold orderM; rw [if_pos hc]
  rw [e1] at m
  rw [e2]
  have lf := ((timedF_zero.1 hc).1).small
  have ln : u.n = f.length := by have := m.rdD.len; rw [sortM_len] at this; exact this
  refine ⟨⟨rfl, by omega, by omega⟩, fun b5 H6 hb5 hH6 => ?_⟩
  have m5 := made_mine (g := fun x => Value.int .i64 x) (e := 3) hfI (n := (u.n : Int)) (z := 0) hb5 hH6 rfl
  rw [Int.toNat_natCast] at m5 ⊢
  have l6 : Hp.le H2 H6 := Hp.le_new (Hp.le_refl _) hb5 hH6
  have sp := Sep.of m.isOld m5.isNew
  refine uptoH (N := (u.n : Int)) (J := fun i H' => Hp.le H2 H' ∧ Mine 3 fD T.api_Point H H' u (sortM f t) ∧ ∃ ys : List Int, Mine 1 fI 3 H2 H' ⟨some ⟨b5, 0, none⟩, u.n, u.n⟩ ys ∧ ys.length = u.n ∧ ∀ k : Nat, k < i → ys[k]? = (ordM f t)[k]?) (by omega)
    ⟨l6, m.le l6, _, m5, by simp, fun k hk => by omega⟩ fun i H10 h0 h1 ⟨l10, j1, ys, j2, j3, j4⟩ => ⟨fun hi => ?_, fun hi => ?_⟩
  · have hi : i < u.n := by simpa using hi
    have hi2 : i < (sortM f t).length := by rw [sortM_len]; omega
    have hg := getX (d := ((0 : Int), (0 : Int), (0 : Int))) h0 hi2
    refine j1.rdD.ldD h0 hi2 ⟨⟨h0, by omega, rfl⟩, j2.setI h0 (by omega) _ fun H' m' ch => uptoH.nx h0 hi (by omega) ⟨Hp.le_chg l10 ch m'.isNew, j1.chg ch sp, _, m', by simpa using j3, fun k hk => ?_⟩⟩
    rw [List.getElem?_set]
    by_cases e : i.toNat = k
    · rw [if_pos e, if_pos (by omega)]
      subst e
      unfold ordM; rw [List.getElem?_map, hg]; rfl
    · rw [if_neg e]; exact j4 k (by omega)
  · have hi : i = u.n := by have : ¬ i < u.n := by simpa using hi
                            omega
    subst hi
    have e : ys = ordM f t := by
      refine List.ext_getElem? fun k => ?_
      by_cases hk : k < u.n
      · exact j4 k (by omega)
      · rw [List.getElem?_eq_none (by omega), List.getElem?_eq_none (by rw [ordM_len]; omega)]
    subst e
    exact ⟨_, rfl, Hp.le_trans l2 l10, j2.low l2⟩

theorem refRanked {H : Hp} {w : Slc} {f : List Pt} {p : Pt} {t : Int × Int} (hf : Rd 3 fD H w f) (of : okF f) (hp : okP p) (ot : okR t) :
    Qf Tryz.prog F.pelotonref03_Ranked #[vFd w, sI3 p.1 p.2.1 p.2.2, raW t] H (.int .i64 (rankM f p t)) := by
  have lf := of.small
  have ln := hf.len
  refine pelotonref03_Ranked_vc ⟨fun n i H' => H' = H ∧ 0 ≤ i ∧ i ≤ f.length ∧ n = (f.take i.toNat).countP fun q => q.1 != p.1 && leads q p t, fun _ i _ => (f.length - i).toNat, ⟨rfl, Int.le_refl _, by omega, by simp⟩,
    fun n i H' ⟨e, i0, i1, hn⟩ => ?_⟩
  subst e
  refine ⟨fun h => ?_, fun h => ⟨?_, Hp.le_refl _⟩⟩
  · have hi : i < f.length := by have : i < w.n := by simpa using h
                                 omega
    have hg := getX (d := ((0 : Int), (0 : Int), (0 : Int))) i0 hi
    have gs := hf.inS i0 hi
    have g3 := hf.gD i0 hi
    generalize f.getD i.toNat (0, 0, 0) = q at hg g3
    have oq := of.each q (List.mem_of_getElem? hg)
    have hs : (f.take (i + 1).toNat).countP (fun q => q.1 != p.1 && leads q p t) = (f.take i.toNat).countP (fun q => q.1 != p.1 && leads q p t) + if (q.1 != p.1 && leads q p t) = true then 1 else 0 := by
      rw [show (i + 1).toNat = i.toNat + 1 by omega, take_succ hg, List.countP_append, List.countP_singleton]
    have hle : (f.take i.toNat).countP (fun q => q.1 != p.1 && leads q p t) ≤ f.length := Nat.le_trans (List.countP_le_length) (by simp; omega)
    have ms : (f.length - (i + 1) : Int).toNat < (f.length - i : Int).toNat := by omega
    refine ⟨gs, _, g3.1, fun _ => gs, _, _, _, fun _ => g3, _, fun _ => refLeads oq hp ot, fun hb => ?_, fun hb => ?_⟩
    · exact ⟨by unfold inI; omega, by unfold inI; omega, ⟨rfl, by omega, by omega, by rw [hs, if_pos hb]; omega⟩, ms⟩
    · exact ⟨by unfold inI; omega, ⟨rfl, by omega, by omega, by rw [hs, if_neg (by rw [hb]; simp)]; omega⟩, ms⟩
  · have hi : i = f.length := by have : ¬ i < w.n := by simpa using h
                                 omega
    rw [hi, Int.toNat_natCast, List.take_length] at hn
    rw [hn]; rfl

theorem refOrdered {H : Hp} {w : Slc} {f : List Pt} {t : Int × Int} (hf : Rd 3 fD H w f) (of : okF f) (ot : okR t) :
    Go.Eng.Fn Tryz.prog F.pelotonref03_Ordered #[vFd w, raW t] H fun v H' => ∃ u : Slc, v = u.v ∧ Hp.le H H' ∧ Mine 1 fI T.int H H' u (ordM f t) := by
  have lf := of.small
  have ln := hf.len
  have hid := okF_ids of
  refine pelotonref03_Ordered_vc ⟨⟨rfl, by omega, by omega⟩, fun b5 H6 hb5 hH6 => ?_⟩
  have m5 := made_mine (g := fun x => Value.int .i64 x) (e := 3) hfI (n := (w.n : Int)) (z := 0) hb5 hH6 rfl
  rw [Int.toNat_natCast] at m5 ⊢
  have l6 : Hp.le H H6 := Hp.le_new (Hp.le_refl _) hb5 hH6
  refine uptoH (N := (w.n : Int)) (J := fun i H' => Hp.le H H' ∧ ∃ ys : List Int, Mine 1 fI 3 H H' ⟨some ⟨b5, 0, none⟩, w.n, w.n⟩ ys ∧ ys.length = w.n ∧ ∀ p ∈ f.take i.toNat, ys[rankM f p t]? = some p.1) (by omega)
    ⟨l6, _, m5, by simp, fun p hp => by simp at hp⟩ fun i H10 h0 h1 ⟨l10, ys, j2, j3, j4⟩ => ⟨fun hi => ?_, fun hi => ?_⟩
  · have hi : i < f.length := by have : i < w.n := by simpa using hi
                                 omega
    have hg := getX (d := ((0 : Int), (0 : Int), (0 : Int))) h0 hi
    have gs := hf.inS h0 hi
    have g3 := (hf.le l10).gD h0 hi
    generalize f.getD i.toNat (0, 0, 0) = q at hg g3
    have hq := List.mem_of_getElem? hg
    obtain ⟨r1, r2⟩ := ordM_at (t := t) hid hq
    refine ⟨gs, _, _, _, g3, _, refRanked (hf.le l10) of (of.each q hq) ot, gs, _, g3.1, ⟨by omega, by omega, rfl⟩, j2.setI (by omega) (by omega) _ fun H' m' ch => uptoH.nx h0 (by omega) (by omega) ⟨Hp.le_chg l10 ch m'.isNew, _, m', by simpa using j3, fun p hp => ?_⟩⟩
    rw [show (i + 1).toNat = i.toNat + 1 by omega, take_succ hg] at hp
    rw [List.getElem?_set, Int.toNat_natCast]
    by_cases e : rankM f q t = rankM f p t
    · rw [if_pos e, if_pos (by omega)]
      have hpf : p ∈ f := by
        rcases List.mem_append.1 hp with hp | hp
        · exact List.mem_of_mem_take hp
        · simp at hp; subst hp; exact hq
      have a1 := (ordM_at (t := t) hid hpf).2
      rw [← e, r2] at a1
      exact a1
    · rw [if_neg e]
      rcases List.mem_append.1 hp with hp | hp
      · exact j4 p hp
      · simp at hp; subst hp; exact absurd rfl e
  · have hi : i = w.n := by have : ¬ i < w.n := by simpa using hi
                            omega
    subst hi
    rw [Int.toNat_natCast, ln, List.take_length] at j4
    have e : ys = ordM f t := ordM_of hid (by omega) j4
    subst e
    exact ⟨_, rfl, l10, j2⟩
end Go.Proofs.YtodmhdfenpkbdaaGreat
