/- Contracts of cert and pelotonref08, first part. Conditions: none. -/
import Derived.Test.YtmnbekffebdfmaaS5
import Derived.Test.YtmnbekffebdfmaaE5
import Derived.Test.YtmnbekffebdfmaaVgCert
import Derived.Test.YtmnbekffebdfmaaVgStd
import Derived.Test.YtmnbekffebdfmaaFs
set_option linter.unusedVariables false
open Go Go.Eng Go.Proofs
namespace Go.Proofs.Ytmnbekffebdfmaa

theorem isNaN_int {H : Hp} {x : Int} : Qf Try.prog F.cmp_isNaN_int #[.int .i64 x] H (.bool false) := cmp_isNaN_int_vc ⟨by simp, Hp.le_refl _⟩
theorem compare_int {H : Hp} {x y : Int} : Qf Try.prog F.cmp_Compare_int #[.int .i64 x, .int .i64 y] H (.int .i64 (cmpI x y)) := by
  refine cmp_Compare_int_vc ⟨_, isNaN_int, _, isNaN_int, fun h => (by cases h), fun _ => ⟨fun h => (by cases h), fun _ => ⟨fun h => ⟨?_, Hp.le_refl _⟩, fun h => ⟨fun h' => ⟨?_, Hp.le_refl _⟩, fun h' => ⟨?_, Hp.le_refl _⟩⟩⟩⟩⟩
  · have : x < y := by simpa using h
    unfold cmpI; rw [if_pos this]
  · have h1 : ¬ x < y := by simpa using h
    have h2 : x > y := by simpa using h'
    unfold cmpI; rw [if_neg h1, if_pos h2]
  · have h1 : ¬ x < y := by simpa using h
    have h2 : ¬ x > y := by simpa using h'
    unfold cmpI; rw [if_neg h1, if_neg h2]

theorem certValid {H : Hp} {x : Int × Int} : Qf Try.prog F.cert_valid #[.agg #[.int .i64 x.1, .int .i64 x.2]] H (.bool (validC x)) := by
  refine cert_valid_vc ⟨?_, Hp.le_refl _⟩
  congr 1
  rw [Bool.eq_iff_iff]
  simp only [validC, Bool.and_eq_true, decide_eq_true_eq, bne_iff_ne]
  split <;> split <;> omega

theorem refCert {H : Hp} {x : Int × Int} : Qf Try.prog F.pelotonref08_Cert #[.agg #[.int .i64 x.1, .int .i64 x.2]] H (.bool (validC x)) := by
  refine pelotonref08_Cert_vc ⟨?_, Hp.le_refl _⟩
  congr 1

theorem clone_held {H : Hp} {s : Slc} {xs : List (Int × Int × Int)} (hs : Rd 3 fD H s xs) (hl : xs.length ≤ 1000000000) :
    Go.Eng.Fn Try.prog F.slices_Clone_api_Held_api_Held #[s.v] H fun v H' => ∃ u : Slc, v = u.v ∧ Hp.le H H' ∧ Mine 3 fD T.api_Held H H' u xs :=
  slices_Clone_api_Held_api_Held_vc (clone_vc (k := 3) (f := fD) (bytes := 24) (by kernel_rfl) (by decide) (fun _ => rfl) hs (by omega) (by omega))

/-- The store reads c. -/
def RdC (H : Hp) (u : Slc) (c : Ct) : Prop := Rd 3 fD H u c.list

theorem certCheck {H : Hp} {u : Slc} {c : Ct} (h : Rd 3 fD H u c.list) : Qf Try.prog F.cert_Check #[.agg #[.int .i64 c.next, u.v]] H (.int .i64 (chkC c)) := by
  have lu := h.len
  have K : KL Try.prog T.api_Cert (fun x : Int × Int => Value.agg #[.int .i64 x.1, .int .i64 x.2]) := KL.pair (t := T.int) Try.underlying66 rfl rfl Try.underlying3 rfl rfl (by decide) (by decide) (by kernel_rfl) (by kernel_rfl)
  refine cert_Check_vc ⟨fun hc => ⟨?_, Hp.le_refl _⟩, fun hc b1 H2 hb1 hH2 => ?_⟩
  · rw [chkC_bad]
    intro ok
    have := ok.len; have := ok.n0; have := ok.n1
    simp at hc; omega
  · simp at hc
    have le2 : Hp.le H H2 := Hp.le_new (Hp.le_refl _) hb1 hH2
    refine ⟨fun last n H' => 0 ≤ n ∧ n ≤ c.list.length ∧ Hp.le H H' ∧ okL c.next (c.list.take n.toNat) ∧ (∀ y ∈ c.list.take n.toNat, y.1 ≤ last) ∧ (last = -1 ∨ ∃ y ∈ c.list.take n.toNat, y.1 = last) ∧
        MapR (fun x : Int × Int => Value.agg #[.int .i64 x.1, .int .i64 x.2]) H' b1 ((c.list.take n.toNat).map fun y => (y.2, Value.bool true)),
      fun _ n _ => (c.list.length - n).toNat, ⟨by omega, by omega, le2, okL.nil _, by simp, .inl rfl, MapR.new hH2⟩, fun last n H' ⟨i0, i1, i2, i3, i4, i5, i6⟩ => ⟨fun hn => ?_, fun hn => ⟨?_, i2⟩⟩⟩
    · have hn : n < c.list.length := by have : n < u.n := by simpa using hn
                                        omega
      have hg := getX (d := ((0 : Int), (0 : Int), (0 : Int))) i0 hn
      refine (h.le i2).ldD i0 hn ?_
      generalize c.list.getD n.toNat (0, 0, 0) = x at hg ⊢
      have e1 : (n + 1).toNat = n.toNat + 1 := by omega
      have hts := take_succ hg
      have hget : ∀ y : Int × Int, getM ((c.list.take n.toNat).map fun y => (y.2, Value.bool true)) y = if y ∈ (c.list.take n.toNat).map (·.2) then some (Value.bool true) else none := fun y => by
        generalize c.list.take n.toNat = l
        unfold getM
        induction l with
        | nil => rfl
        | cons p l ih =>
          rw [List.map_cons, List.find?_cons]
          by_cases e : p.2 = y
          · simp [e]
          · have e' : ¬ y = p.2 := fun h => e h.symm
            simp only [e, decide_false, List.map_cons, List.mem_cons, e', false_or]
            exact ih
      refine ⟨_, certValid (x := x.2), decide (x.2 ∈ (c.list.take n.toNat).map (·.2)), fun _ => ?_, fun hb => ⟨?_, i2⟩, fun hb => ?_⟩
      · have := K.look (t := T.map_api_Cert_bool) (e := T.bool) (x := x.2) (z := .bool false) Try.underlying181 (by kernel_rfl) i6
        rw [hget] at this
        by_cases e : x.2 ∈ (c.list.take n.toNat).map (·.2)
        · rw [if_pos e] at this; rw [decide_eq_true e]; exact this
        · rw [if_neg e] at this; rw [decide_eq_false e]; exact this
      · rw [chkC_bad]
        intro ok
        have hp := ok.ok.take (n.toNat + 1)
        rw [hts, okL.snoc] at hp
        obtain ⟨p1, p2, p3, p4, p5, p6⟩ := hp
        simp only [Bool.or_eq_true, Bool.not_eq_true', decide_eq_true_eq] at hb
        rcases hb with ((hb | hb) | hb) | hb
        · rw [p2] at hb; cases hb
        · exact p6 hb
        · rcases i5 with i5 | ⟨y, hy, i5⟩
          · omega
          · have := p5 y hy; omega
        · omega
      · simp only [Bool.or_eq_false_iff, Bool.not_eq_false', decide_eq_false_iff_not] at hb
        obtain ⟨⟨⟨q1, q2⟩, q3⟩, q4⟩ := hb
        have hadd := K.add (t := T.map_api_Cert_bool) (e := T.bool) (x := x.2) (v := .bool true) Try.underlying181 i6 (by rw [hget, if_neg q2])
        refine hadd.mono fun v H14 ⟨o, hH, hm⟩ => ⟨v, rfl, by unfold inI; omega, ⟨by omega, by omega, by subst hH; exact Hp.le_put i2 hb1, ?_, fun y hy => ?_, .inr ⟨x, ?_, rfl⟩, ?_⟩, ?_⟩
        · rw [e1, hts, okL.snoc]
          refine ⟨i3, q1, ?_, by omega, fun y hy => by have := i4 y hy; omega, q2⟩
          rcases i5 with i5 | ⟨y, hy, i5⟩
          · omega
          · have := (i3.each y hy).2.1; omega
        · rw [e1, hts] at hy
          rcases List.mem_append.1 hy with hy | hy
          · have := i4 y hy; omega
          · simp only [List.mem_singleton] at hy; subst hy; exact Int.le_refl _
        · rw [e1, hts]; simp
        · rw [e1, hts, List.map_append]; exact hm
        · show ((c.list.length : Int) - (n + 1)).toNat < ((c.list.length : Int) - n).toNat
          omega
    · have : n = c.list.length := by have : ¬ n < u.n := by simpa using hn
                                     omega
      subst this
      rw [Int.toNat_natCast, List.take_length] at i3
      rw [chkC_ok ⟨by omega, by omega, by omega, i3⟩]

theorem refCheckC {H : Hp} {u : Slc} {c : Ct} (h : Rd 3 fD H u c.list) : Qf Try.prog F.pelotonref08_Check #[.agg #[.int .i64 c.next, u.v]] H (.int .i64 (chkC c)) := by
  have lu := h.len
  refine pelotonref08_Check_vc ⟨fun hc => ⟨?_, Hp.le_refl _⟩, fun hc => ?_⟩
  · rw [chkC_bad]
    intro ok
    have := ok.len; have := ok.n0; have := ok.n1
    simp at hc; omega
  · simp at hc
    refine upto (N := c.list.length) (J := fun n => okL c.next (c.list.take n.toNat)) (by omega) (okL.nil _) fun n i0 i1 i3 => ⟨fun hn => ?_, fun hn => ⟨?_, Hp.le_refl _⟩⟩
    · have hn : n < c.list.length := by have : n < u.n := by simpa using hn
                                        omega
      have hg := getX (d := ((0 : Int), (0 : Int), (0 : Int))) i0 hn
      refine h.ldD i0 hn ?_
      generalize c.list.getD n.toNat (0, 0, 0) = x at hg ⊢
      have e1 : (n + 1).toNat = n.toNat + 1 := by omega
      have hts := take_succ hg
      have hprev : 0 < n → (c.list.getD (n - 1).toNat (0, 0, 0)) ∈ c.list.take n.toNat ∧ ∀ y ∈ c.list.take n.toNat, y.1 ≤ (c.list.getD (n - 1).toNat (0, 0, 0)).1 := fun hp => by
        have hg' := getX (d := ((0 : Int), (0 : Int), (0 : Int))) (i := n - 1) (by omega) (by omega : n - 1 < c.list.length)
        have hts' := take_succ hg'
        rw [show (n - 1).toNat + 1 = n.toNat by omega] at hts'
        refine ⟨by rw [hts']; simp, fun y hy => ?_⟩
        rw [hts', okL.snoc] at i3
        rw [hts'] at hy
        rcases List.mem_append.1 hy with hy | hy
        · have := i3.2.2.2.2.1 y hy; omega
        · simp only [List.mem_singleton] at hy; rw [hy]; exact Int.le_refl _
      refine ⟨_, refCert (x := x.2), fun _ => by unfold inI; omega, fun hb => h.inS (by simp at hb; omega) (by omega), (c.list.getD (n - 1).toNat (0, 0, 0)).1, fun hb => (h.gD (by simp at hb; omega) (by omega)).1, fun hb => ⟨?_, Hp.le_refl _⟩, fun hb => ?_⟩
      · rw [chkC_bad]
        intro ok
        have hp := ok.ok.take (n.toNat + 1)
        rw [hts, okL.snoc] at hp
        obtain ⟨p1, p2, p3, p4, p5, p6⟩ := hp
        simp only [Bool.or_eq_true, Bool.and_eq_true, Bool.not_eq_true', decide_eq_true_eq] at hb
        rcases hb with ((hb | hb) | hb) | hb
        · rw [p2] at hb; cases hb
        · omega
        · omega
        · have := p5 _ (hprev (by omega)).1; omega
      · simp only [Bool.or_eq_false_iff, Bool.not_eq_false', decide_eq_false_iff_not, Bool.and_eq_false_imp, decide_eq_true_eq] at hb
        obtain ⟨⟨⟨q1, q2⟩, q3⟩, q4⟩ := hb
        refine upto (N := n) (J := fun m => ∀ y ∈ c.list.take m.toNat, y.2 ≠ x.2) i0 (by simp) fun m j0 j1 j2 => ⟨fun hm => ?_, fun hm => upto.nx i0 hn (by omega) ?_⟩
        · have hm : m < n := by simpa using hm
          have hg2 := getX (d := ((0 : Int), (0 : Int), (0 : Int))) j0 (by omega : m < c.list.length)
          have h2 := h.gD2 j0 (by omega : m < c.list.length)
          generalize c.list.getD m.toNat (0, 0, 0) = y at hg2 h2
          refine ⟨h.inS j0 (by omega), _, _, h2, fun hb => ⟨?_, Hp.le_refl _⟩, fun hb => upto.nx j0 hm (by omega) ?_⟩
          · rw [chkC_bad]
            intro ok
            have hp := ok.ok.take (n.toNat + 1)
            rw [hts, okL.snoc] at hp
            refine hp.2.2.2.2.2 (List.mem_map.2 ⟨y, ?_, ?_⟩)
            · exact List.mem_take_iff_getElem.2 ⟨m.toNat, by omega, (List.getElem?_eq_some_iff.1 hg2).2⟩
            · simp only [Bool.and_eq_true, beq_iff_eq] at hb; exact Prod.ext hb.1 hb.2
          · rw [show (m + 1).toNat = m.toNat + 1 by omega, take_succ hg2]
            intro z hz
            rcases List.mem_append.1 hz with hz | hz
            · exact j2 z hz
            · simp only [List.mem_singleton] at hz; subst hz
              intro e; rw [e] at hb; simp at hb
        · have hm : m = n := by have : ¬ m < n := by simpa using hm
                                omega
          subst hm
          rw [e1, hts, okL.snoc]
          refine ⟨i3, q1, by omega, by omega, fun y hy => ?_, fun hmem => ?_⟩
          · have hp0 : 0 < m := by
              rcases Int.lt_or_le 0 m with h' | h'
              · exact h'
              · have : m.toNat = 0 := by omega
                rw [this] at hy; simp at hy
            have := (hprev hp0).2 y hy
            have := q4 hp0
            omega
          · obtain ⟨y, hy, e⟩ := List.mem_map.1 hmem
            exact j2 y hy e
    · have : n = c.list.length := by have : ¬ n < u.n := by simpa using hn
                                     omega
      subst this
      rw [Int.toNat_natCast, List.take_length] at i3
      rw [chkC_ok ⟨by omega, by omega, by omega, i3⟩]
end Go.Proofs.Ytmnbekffebdfmaa
