/- Contracts of cert and pelotonref08, third part. Conditions: none. -/
import Derived.Test.YtmnbekffebdfmaaC2
import Derived.Test.YtmnbekffebdfmaaVgCert
import Derived.Test.YtmnbekffebdfmaaVgStd
import Derived.Test.YtmnbekffebdfmaaFs
set_option linter.unusedVariables false
open Go Go.Eng Go.Proofs
namespace Go.Proofs.Ytmnbekffebdfmaa

theorem filter_take {α : Type} {l : List α} {p : α → Bool} {i : Nat} {x : α} (hg : l[i]? = some x) : (l.take (i + 1)).filter p = (l.take i).filter p ++ (if p x = true then [x] else []) := by
  rw [take_succ hg, List.filter_append]
  congr 1
  by_cases h : p x = true
  · rw [if_pos h, List.filter_cons_of_pos h]; rfl
  · rw [if_neg h, List.filter_cons_of_neg h]; rfl
theorem filter_len {α : Type} (l : List α) (p : α → Bool) (n : Nat) : ((l.take n).filter p).length ≤ l.length :=
  Nat.le_trans (List.length_filter_le _ _) (by simp; omega)

theorem mid_eq {i j : Int} (h0 : 0 ≤ i) (h1 : i < j) (hj : j ≤ 1000000000) : IntKind.i64.wrap ((wrapU (i + j)).fdiv (2 ^ Min.min (Int.toNat 1) IntKind.u64.bits)) = (i + j) / 2 := by
  have e1 : wrapU (i + j) = i + j := by unfold wrapU; omega
  have e2 : (2 : Int) ^ Min.min (Int.toNat 1) IntKind.u64.bits = 2 := by decide
  rw [e1, e2, Int.fdiv_eq_ediv_of_nonneg _ (by omega)]
  exact wrap_i64 (by unfold inI; omega)

/-- Halving: what is known of the places before one, and of those from it on. -/
theorem bs_lo {l : List Int} {t : Int} (hs : l.Pairwise (· < ·)) {m : Nat} {x : Int} (hx : l[m]? = some x) (h : x < t) : ∀ i y, i < m + 1 → l[i]? = some y → y < t := by
  intro i y hi hy
  rcases Nat.lt_or_ge i m with h' | h'
  · have := List.pairwise_iff_getElem.1 hs i m (List.getElem?_eq_some_iff.1 hy).1 (List.getElem?_eq_some_iff.1 hx).1 h'
    rw [(List.getElem?_eq_some_iff.1 hy).2, (List.getElem?_eq_some_iff.1 hx).2] at this
    omega
  · have : i = m := by omega
    subst this; rw [hx] at hy; cases hy; exact h
theorem bs_hi {l : List Int} {t : Int} (hs : l.Pairwise (· < ·)) {m : Nat} {x : Int} (hx : l[m]? = some x) (h : t ≤ x) : ∀ i y, m ≤ i → l[i]? = some y → t ≤ y := by
  intro i y hi hy
  rcases Nat.lt_or_ge m i with h' | h'
  · have := List.pairwise_iff_getElem.1 hs m i (List.getElem?_eq_some_iff.1 hx).1 (List.getElem?_eq_some_iff.1 hy).1 h'
    rw [(List.getElem?_eq_some_iff.1 hy).2, (List.getElem?_eq_some_iff.1 hx).2] at this
    omega
  · have : i = m := by omega
    subst this; rw [hx] at hy; cases hy; exact h

theorem certFind1 {H : Hp} {x : Int × Int × Int} {n : Int} : QfV Try.prog (.func (.func F.cert_find_1) #[] #[]) [.agg #[.int .i64 x.1, .int .i64 x.2.1, .int .i64 x.2.2], .int .i64 n] H (.int .i64 (cmpI x.1 n)) :=
  ⟨F.cert_find_1, #[], _, rfl, cert_find_1_callable, cert_find_1_vc ⟨_, compare_int, rfl, Hp.le_refl _⟩⟩

theorem bsearch_held {H : Hp} {s : Slc} {xs : List (Int × Int × Int)} {n : Int} (h : Rd 3 fD H s xs) (hs : (xs.map (·.1)).Pairwise (· < ·)) (hl : xs.length ≤ 100000000) :
    Qf Try.prog F.slices_BinarySearchFunc_api_Held_api_Held_int #[s.v, .int .i64 n, .func (.func F.cert_find_1) #[] #[]] H
      (.tuple #[.int .i64 (posI (xs.map (·.1)) n), .bool (decide (posI (xs.map (·.1)) n < xs.length) && (getD3 xs (posI (xs.map (·.1)) n)).1 == n)]) := by
  have ls := h.len
  have hml : (xs.map (·.1)).length = xs.length := by simp
  refine slices_BinarySearchFunc_api_Held_api_Held_int_vc ⟨fun i j H' => H' = H ∧ 0 ≤ i ∧ i ≤ j ∧ j ≤ xs.length ∧ (∀ k y, k < i.toNat → (xs.map (·.1))[k]? = some y → y < n) ∧ (∀ k y, j.toNat ≤ k → (xs.map (·.1))[k]? = some y → n ≤ y),
    fun i j _ => (j - i).toNat, ⟨rfl, Int.le_refl _, by omega, by omega, fun k y hk => by simp at hk, fun k y hk hy => ?_⟩, fun i j H' ⟨e, i0, i1, i2, i3, i4⟩ => ?_⟩
  · have := (List.getElem?_eq_some_iff.1 hy).1
    omega
  subst e
  refine ⟨fun hc => ?_, fun hc => ?_⟩
  · have hc : i < j := by simpa using hc
    rw [mid_eq i0 hc (by omega)]
    have m0 : 0 ≤ (i + j) / 2 := by omega
    have m1 : (i + j) / 2 < xs.length := by omega
    have hg := getX (d := ((0 : Int), (0 : Int), (0 : Int))) m0 m1
    refine ⟨by unfold inI; omega, by unfold nn; omega, h.ldD m0 m1 ⟨_, certFind1 (x := xs.getD ((i + j) / 2).toNat (0, 0, 0)), ?_⟩⟩
    generalize xs.getD ((i + j) / 2).toNat (0, 0, 0) = x at hg ⊢
    have hm : (xs.map (·.1))[((i + j) / 2).toNat]? = some x.1 := by rw [List.getElem?_map, hg]; rfl
    refine ⟨fun hlt => ?_, fun hge => ?_⟩
    · have hlt : x.1 < n := cmpI_lt.1 (by simpa using hlt)
      refine ⟨by unfold inI; omega, ⟨rfl, by omega, by omega, i2, ?_, i4⟩, ?_⟩
      · rw [show ((i + j) / 2 + 1).toNat = ((i + j) / 2).toNat + 1 by omega]; exact bs_lo hs hm hlt
      · show (j - ((i + j) / 2 + 1)).toNat < (j - i).toNat; omega
    · have hge : n ≤ x.1 := by
        have : ¬ cmpI x.1 n < 0 := by simpa using hge
        rw [cmpI_lt] at this; omega
      refine ⟨⟨rfl, i0, by omega, by omega, i3, bs_hi hs hm hge⟩, ?_⟩
      show ((i + j) / 2 - i).toNat < (j - i).toNat; omega
  · have hc : i = j := by have : ¬ i < j := by simpa using hc
                          omega
    subst hc
    have hp : i.toNat = posI (xs.map (·.1)) n := posI_eq hs (by omega) i3 i4
    have hpi : (posI (xs.map (·.1)) n : Int) = i := by omega
    rw [hpi]
    have key : (decide (i < (s.n : Int)) = true) → i < xs.length := fun hh => by
      have : i < s.n := by simpa using hh
      omega
    refine ⟨fun hh => h.inS i0 (key hh), _, _, _, fun hh => h.gD i0 (key hh), _, fun hh => certFind1 (x := xs.getD i.toNat (0, 0, 0)), ?_, Hp.le_refl _⟩
    congr 3
    have e1 : decide (i < (s.n : Int)) = decide (posI (xs.map (·.1)) n < xs.length) := by
      rw [Bool.eq_iff_iff, decide_eq_true_eq, decide_eq_true_eq]; omega
    rw [e1]
    congr 2
    congr 1
    unfold getD3
    rw [Bool.eq_iff_iff, beq_iff_eq, beq_iff_eq, cmpI_eq]

theorem certFind {H : Hp} {u : Slc} {c : Ct} {n : Int} (h : Rd 3 fD H u c.list) :
    Qf Try.prog F.cert_find #[.agg #[.int .i64 c.next, u.v], .int .i64 n] H (.tuple #[.int .i64 (if (getC c n).2 = 0 then atC c n else 0), .int .i64 (getC c n).2]) := by
  refine cert_find_vc ⟨_, certCheck h, fun hc => ?_, fun hc => ?_⟩
  · have hc : chkC c ≠ 0 := by simpa using hc
    have h8 : chkC c = 8 := by unfold chkC at *; split at hc <;> simp_all
    have : getC c n = ((0, 0), 8) := by unfold getC; rw [if_neg fun ok => hc (chkC_ok ok)]
    rw [this, h8]; exact ⟨rfl, Hp.le_refl _⟩
  have hc : chkC c = 0 := by simpa using hc
  have ok := chkC_zero.1 hc
  have := ok.len
  refine ⟨_, _, bsearch_held h ok.ok.nums (by omega), fun hb => ?_, fun hb => ?_⟩
  · rcases at_pos ok.ok n with ⟨h1, h2⟩ | ⟨h1, h2⟩
    · rw [h1] at hb; cases hb
    · have : getC c n = ((0, 0), 6) := by unfold getC; rw [if_pos ok, if_pos (by show idx _ _ < 0; rw [h2]; omega)]
      rw [this]; exact ⟨rfl, Hp.le_refl _⟩
  · rcases at_pos ok.ok n with ⟨h1, h2⟩ | ⟨h1, h2⟩
    · have e : atC c n = posI (c.list.map (·.1)) n := h2
      have : (getC c n).2 = 0 := by unfold getC; rw [if_pos ok, if_neg (by rw [e]; omega)]
      rw [this, if_pos rfl, e]; exact ⟨rfl, Hp.le_refl _⟩
    · rw [h1] at hb; simp at hb

theorem getC_ok {c : Ct} {n : Int} (h : (getC c n).2 = 0) : okC c ∧ 0 ≤ atC c n ∧ atC c n < c.list.length ∧ (getD3 c.list (atC c n)).1 = n ∧ getC c n = ((getD3 c.list (atC c n)).2, 0) := by
  unfold getC at h ⊢
  split at h
  · rename_i ok
    rw [if_pos ok]
    split at h
    · cases h
    · rename_i h0
      rw [if_neg h0]
      obtain ⟨a, x, hx, e⟩ := atC_range (c := c) (n := n) (by omega)
      refine ⟨ok, by omega, a, ?_, rfl⟩
      unfold getD3; rw [List.getD_eq_getElem?_getD, hx]; exact e
  · cases h

theorem certGet {H : Hp} {u : Slc} {c : Ct} {n : Int} (h : Rd 3 fD H u c.list) :
    Qf Try.prog F.cert_Get #[.agg #[.int .i64 c.next, u.v], .int .i64 n] H (.tuple #[.agg #[.int .i64 (getC c n).1.1, .int .i64 (getC c n).1.2], .int .i64 (getC c n).2]) := by
  refine cert_Get_vc ⟨_, _, certFind (n := n) h, fun hc => ?_, fun hc => ?_⟩
  · have : (getC c n).1 = (0, 0) := by
      have hc : (getC c n).2 ≠ 0 := by simpa using hc
      unfold getC at hc ⊢
      split
      · split
        · rfl
        · rename_i h1 h2; rw [if_pos h1, if_neg h2] at hc; exact absurd rfl hc
      · rfl
    rw [this]; exact ⟨rfl, Hp.le_refl _⟩
  · have hc : (getC c n).2 = 0 := by simpa using hc
    obtain ⟨_, g0, g1, _, ge⟩ := getC_ok hc
    rw [hc, if_pos rfl]
    refine ⟨h.inS g0 g1, _, _, h.gD2 g0 g1, ?_, Hp.le_refl _⟩
    rw [ge]; rfl

theorem rGetC {H : Hp} {u : Slc} {c : Ct} {n : Int} (h : Rd 3 fD H u c.list) :
    Qf Try.prog F.pelotonref08_Get #[.agg #[.int .i64 c.next, u.v], .int .i64 n] H (.tuple #[.agg #[.int .i64 (getC c n).1.1, .int .i64 (getC c n).1.2], .int .i64 (getC c n).2]) := by
  refine pelotonref08_Get_vc ⟨_, refCheckC h, fun hc => ?_, fun hc => ?_⟩
  · have : getC c n = ((0, 0), 8) := by unfold getC; rw [if_neg fun ok => (by rw [chkC_ok ok] at hc; simp at hc)]
    rw [this]; exact ⟨rfl, Hp.le_refl _⟩
  have hc : chkC c = 0 := by simpa using hc
  have ok := chkC_zero.1 hc
  have := ok.len
  refine ⟨_, rAtC (n := n) h (by omega), fun hb => ?_, fun hb => ?_⟩
  · have : getC c n = ((0, 0), 6) := by unfold getC; rw [if_pos ok, if_pos (by simpa using hb)]
    rw [this]; exact ⟨rfl, Hp.le_refl _⟩
  · have hb : ¬ atC c n < 0 := by simpa using hb
    have hz : (getC c n).2 = 0 := by unfold getC; rw [if_pos ok, if_neg hb]
    obtain ⟨_, g0, g1, _, ge⟩ := getC_ok hz
    refine ⟨h.inS g0 g1, _, _, h.gD2 g0 g1, ?_, Hp.le_refl _⟩
    rw [ge]; rfl

theorem rWithoutC {H : Hp} {u : Slc} {c : Ct} {n : Int} (h : Rd 3 fD H u c.list) (hl : c.list.length ≤ 100000000) :
    Go.Eng.Fn Try.prog F.pelotonref08_Without #[.agg #[.int .i64 c.next, u.v], .int .i64 n] H fun v H' => ∃ a : Slc, v = .agg #[.int .i64 c.next, a.v] ∧ NewC H H' a (withoutC c n) := by
  have lu := h.len
  refine pelotonref08_Without_vc ⟨fun i nx w H' => 0 ≤ i ∧ i ≤ c.list.length ∧ nx = c.next ∧ Hp.le H H' ∧ Mine 3 fD T.api_Held H H' w ((c.list.take i.toNat).filter fun h => h.1 != n), fun i _ _ _ => (c.list.length - i).toNat,
    ⟨Int.le_refl _, by omega, rfl, Hp.le_refl _, .inl ⟨rfl, by simp⟩⟩, fun i nx w H' ⟨i0, i1, i2, i3, i4⟩ => ⟨fun hn => ?_, fun hn => ?_⟩⟩
  · have hn : i < c.list.length := by have : i < u.n := by simpa using hn
                                      omega
    have hg := getX (d := ((0 : Int), (0 : Int), (0 : Int))) i0 hn
    have h2 := (h.le i3).gD i0 hn
    generalize c.list.getD i.toNat (0, 0, 0) = x at hg h2
    have e1 : (i + 1).toNat = i.toNat + 1 := by omega
    have hs := (h.le i3).inS i0 hn
    refine ⟨hs, _, h2.1, fun hb => ⟨hs, _, _, _, h2, fun b11 H12 hb11 hH12 => ?_⟩, fun hb => ⟨by unfold inI; omega, ⟨by omega, by omega, i2, i3, ?_⟩, ?_⟩⟩
    · have hlen : ((c.list.take i.toNat).filter fun h => h.1 != n).length ≤ 100000000 := Nat.le_trans (filter_len _ _ _) (by omega)
      refine (append1 (k := 3) (f := fD) (bytes := 24) (x := x) (by kernel_rfl) (by decide) (fun _ => rfl) (fun x v hv => by simp [fD] at hv; rcases hv with rfl | rfl | rfl <;> rfl) i3 i4 hb11 hH12 rfl hlen (by omega)).mono fun v H14 ⟨w', hw, l14, mw, _, _⟩ => ?_
      refine ⟨w', hw, by unfold inI; omega, ⟨by omega, by omega, i2, l14, ?_⟩, ?_⟩
      · rw [e1, filter_take hg, if_pos hb]; exact mw
      · show ((c.list.length : Int) - (i + 1)).toNat < ((c.list.length : Int) - i).toNat; omega
    · rw [e1, filter_take hg, if_neg (by rw [hb]; simp), List.append_nil]; exact i4
    · show ((c.list.length : Int) - (i + 1)).toNat < ((c.list.length : Int) - i).toNat; omega
  · have : i = c.list.length := by have : ¬ i < u.n := by simpa using hn
                                   omega
    subst this
    rw [Int.toNat_natCast, List.take_length] at i4
    subst i2
    exact ⟨w, rfl, i3, i4⟩

theorem rRemoveC {H : Hp} {u : Slc} {c : Ct} {n : Int} (h : Rd 3 fD H u c.list) :
    Go.Eng.Fn Try.prog F.pelotonref08_Remove #[.agg #[.int .i64 c.next, u.v], .int .i64 n] H fun v H' => ∃ a : Slc, v = .tuple #[.agg #[.int .i64 (removeC c n).1.next, a.v], .agg #[.int .i64 (removeC c n).2.1.1, .int .i64 (removeC c n).2.1.2], .int .i64 (removeC c n).2.2] ∧ NewC H H' a (removeC c n).1 := by
  refine pelotonref08_Remove_vc ⟨_, _, _, rGetC (n := n) h, fun hc => ?_, fun hc => ?_⟩
  · have hc : (getC c n).2 ≠ 0 := by simpa using hc
    have : removeC c n = (.zero, (0, 0), (getC c n).2) := by unfold removeC; rw [if_neg hc]
    rw [this]; exact ⟨zs, rfl, NewC.zero (Hp.le_refl _)⟩
  · have hc : (getC c n).2 = 0 := by simpa using hc
    have := (getC_ok hc).1.len
    have : removeC c n = (withoutC c n, (getC c n).1, 0) := by unfold removeC; rw [if_pos hc]
    rw [this]
    exact (rWithoutC (n := n) h (by omega)).mono fun v H5 ⟨a, hv, m⟩ => ⟨m.le, _, a, hv, a, rfl, m⟩

/-- The numbers of some, gathered in a loop. -/
theorem thoseC_take {c : Ct} {p : Int × Int → Bool} {i : Nat} {x : Int × Int × Int} (hg : c.list[i]? = some x) :
    ((c.list.take (i + 1)).filter fun h => p h.2).map (·.1) = ((c.list.take i).filter fun h => p h.2).map (·.1) ++ (if p x.2 then [x.1] else []) := by
  rw [filter_take (p := fun h : Int × Int × Int => p h.2) hg, List.map_append]
  congr 1
  by_cases h : p x.2 = true
  · rw [if_pos h, if_pos h]; rfl
  · rw [if_neg h, if_neg h]; rfl

theorem rOfC {H : Hp} {u : Slc} {c : Ct} {id : Int} (h : Rd 3 fD H u c.list) :
    Go.Eng.Fn Try.prog F.pelotonref08_Of #[.agg #[.int .i64 c.next, u.v], .int .i64 id] H fun v H' => ∃ a : Slc, v = .tuple #[a.v, .int .i64 (ofC c id).2] ∧ Hp.le H H' ∧ Mine 1 fI T.int H H' a (ofC c id).1 := by
  have lu := h.len
  refine pelotonref08_Of_vc ⟨_, refCheckC h, fun hc => ?_, fun hc => ?_⟩
  · have : ofC c id = ([], 8) := by unfold ofC; rw [if_neg fun ok => (by rw [chkC_ok ok] at hc; simp at hc)]
    rw [this]; exact ⟨zs, rfl, Hp.le_refl _, .inl ⟨rfl, rfl⟩⟩
  have hc : chkC c = 0 := by simpa using hc
  have ok := chkC_zero.1 hc
  have := ok.len
  have e : ofC c id = (thoseC c fun x => x.1 == id || x.2 == id, 0) := by unfold ofC; rw [if_pos ok]
  rw [e]
  refine ⟨fun w i H' => 0 ≤ i ∧ i ≤ c.list.length ∧ Hp.le H H' ∧ Mine 1 fI T.int H H' w (((c.list.take i.toNat).filter fun h => h.2.1 == id || h.2.2 == id).map (·.1)), fun _ i _ => (c.list.length - i).toNat,
    ⟨Int.le_refl _, by omega, Hp.le_refl _, .inl ⟨rfl, by simp⟩⟩, fun w i H' ⟨i0, i1, i3, i4⟩ => ⟨fun hn => ?_, fun hn => ?_⟩⟩
  · have hn : i < c.list.length := by have : i < u.n := by simpa using hn
                                      omega
    have hg := getX (d := ((0 : Int), (0 : Int), (0 : Int))) i0 hn
    have h2 := (h.le i3).gD2 i0 hn
    have h1 := ((h.le i3).gD i0 hn).1
    generalize c.list.getD i.toNat (0, 0, 0) = x at hg h2 h1
    have e1 : (i + 1).toNat = i.toNat + 1 := by omega
    have hs := (h.le i3).inS i0 hn
    have ht := thoseC_take (p := fun x => x.1 == id || x.2 == id) hg
    refine ⟨hs, _, by rw [add_zero']; exact h2.1, fun _ => hs, _, fun _ => by rw [add_zero']; exact h2.2, fun hb => ⟨hs, _, h1, fun b11 H12 hb11 hH12 => ?_⟩, fun hb => ⟨by unfold inI; omega, ⟨by omega, by omega, i3, ?_⟩, ?_⟩⟩
    · have hlen : (((c.list.take i.toNat).filter fun h => h.2.1 == id || h.2.2 == id).map (·.1)).length ≤ 100000000 := by
        rw [List.length_map]; exact Nat.le_trans (filter_len _ _ _) (by omega)
      refine (append1 (k := 1) (f := fI) (bytes := 8) (x := x.1) (by kernel_rfl) (by decide) (fun _ => rfl) (fun x v hv => by simp [fI] at hv; subst hv; rfl) i3 i4 hb11 hH12 rfl hlen (by omega)).mono fun v H14 ⟨w', hw, l14, mw, _, _⟩ => ?_
      refine ⟨w', hw, by unfold inI; omega, ⟨by omega, by omega, l14, ?_⟩, ?_⟩
      · rw [e1, ht, if_pos hb]; exact mw
      · show ((c.list.length : Int) - (i + 1)).toNat < ((c.list.length : Int) - i).toNat; omega
    · rw [e1, ht, if_neg (by rw [hb]; simp), List.append_nil]; exact i4
    · show ((c.list.length : Int) - (i + 1)).toNat < ((c.list.length : Int) - i).toNat; omega
  · have : i = c.list.length := by have : ¬ i < u.n := by simpa using hn
                                   omega
    subst this
    rw [Int.toNat_natCast, List.take_length] at i4
    exact ⟨w, rfl, i3, i4⟩
end Go.Proofs.Ytmnbekffebdfmaa
