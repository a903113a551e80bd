/- The engine, parts C1, C2, C3, C4, put together. Conditions: none. -/
import Derived.Test.YthmlkdflhnjhcaaP2
import Derived.Test.YthmlkdflhnjhcaaE5
import Derived.Test.YthmlkdflhnjhcaaVgStd
import Derived.Test.YthmlkdflhnjhcaaFs
import Derived.Test.YthmlkdflhnjhcaaVgBase
set_option linter.unusedVariables false
section
/- Contracts of cert and pelotonref08, first part. Conditions: none. -/
open Go Go.Eng Go.Proofs
namespace Go.Proofs.Ythmlkdflhnjhcaa

theorem isNaN_int {H : Hp} {x : Int} : Qf Try.prog F.cmp_isNaN_int #[.int .i64 x] H (.bool false) := cmp_isNaN_int_vc ⟨by simp, Hp.le_refl _⟩
theorem compare_int {H : Hp} {x y : Int} : Qf Try.prog F.cmp_Compare_int #[.int .i64 x, .int .i64 y] H (.int .i64 (cmpI x y)) := by
  refine cmp_Compare_int_vc ⟨_, isNaN_int, _, isNaN_int, fun h => (by cases h), fun _ => ⟨fun h => (by cases h), fun _ => ⟨fun h => ⟨?_, Hp.le_refl _⟩, fun h => ⟨fun h' => ⟨?_, Hp.le_refl _⟩, fun h' => ⟨?_, Hp.le_refl _⟩⟩⟩⟩⟩
  · have : x < y := by simpa using h
    unfold cmpI; rw [if_pos this]
  · have h1 : ¬ x < y := by simpa using h
    have h2 : x > y := by simpa using h'
    unfold cmpI; rw [if_neg h1, if_pos h2]
  · have h1 : ¬ x < y := by simpa using h
    have h2 : ¬ x > y := by simpa using h'
    unfold cmpI; rw [if_neg h1, if_neg h2]

/-- The store reads c. -/
def RdC (H : Hp) (u : Slc) (c : Ct) : Prop := Rd 3 fD H u c.list

end Go.Proofs.Ythmlkdflhnjhcaa
end
section
/- Contracts of cert and pelotonref08, second part. Conditions: none. -/
open Go Go.Eng Go.Proofs
namespace Go.Proofs.Ythmlkdflhnjhcaa

theorem sameIDs {H : Hp} {a b : Slc} {xs ys : List Int} (ha : RdI H a xs) (hb : RdI H b ys) (h63 : xs.length ≤ 1000000000) : Qf Try.prog F.pelotonref03_SameIDs #[a.v, b.v] H (.bool (xs == ys)) := by
  have la := ha.len
  have lb := hb.len
  refine pelotonref03_SameIDs_vc ⟨fun h => ⟨?_, Hp.le_refl H⟩, fun h => ?_⟩
  · have hl : (a.n : Int) ≠ b.n := by simpa using h
    have : (xs == ys) = false := by
      rw [beq_eq_false_iff_ne]; intro e; subst e; omega
    rw [this]
  · have hl : (a.n : Int) = b.n := by simpa using h
    refine upto (N := xs.length) (J := fun n => xs.take n.toNat = ys.take n.toNat) (by omega) (by simp) fun n h0 h1 h2 => ⟨fun hn => ?_, fun hn => ⟨?_, Hp.le_refl _⟩⟩
    · have hn : n < a.n := by simpa using hn
      have gx := getI (xs := xs) h0 (by omega)
      have gy := getI (xs := ys) h0 (by omega)
      refine ⟨ha.inN h0 hn, _, ha.get h0 (by omega), hb.inN h0 (by omega), _, hb.get h0 (by omega), fun hne => ⟨?_, Hp.le_refl _⟩, fun he => upto.nx h0 (by omega) (by omega) ?_⟩
      · have : (xs == ys) = false := by
          rw [beq_eq_false_iff_ne]; intro e; subst e; simp at hne
        rw [this]
      · have e : (n + 1).toNat = n.toNat + 1 := by omega
        rw [e]
        exact (take_succ_eq gx gy h2).2 (by simpa using he)
    · have hn : n = xs.length := by
        have : ¬ n < a.n := by simpa using hn
        omega
      subst hn
      have : xs = ys := by
        have e1 : xs.take xs.length = xs := List.take_length
        have e2 : ys.take xs.length = ys := by
          have : xs.length = ys.length := by omega
          rw [this]; exact List.take_length
        rw [Int.toNat_natCast] at h2
        rw [← e1, h2, e2]
      subst this; simp

/-- Two cells in a block. -/
theorem pair_at {H H' : Hp} {b : Nat} {x y : Value} {T : TypeId} (h : H' = H.put b (.cells #[x, y] T (0, 0))) : H'.at ((Addr.mk b 0 none).add 0) = some x ∧ H'.at ((Addr.mk b 0 none).add 1) = some y := by
  subst h
  constructor
  · rw [add_zero', Cel.at Cel.put]; rfl
  · rw [Addr.add_lit, Cel.at Cel.put]; rfl

theorem addC_bad {c : Ct} {x : Int × Int} (h : chkC c ≠ 0) : addC c x = (.zero, 0, 8) := by
  unfold addC; rw [if_neg]; intro ⟨h1, _⟩; exact h (chkC_ok h1)

end Go.Proofs.Ythmlkdflhnjhcaa
end
section
/- Contracts of cert and pelotonref08, third part. Conditions: none. -/
open Go Go.Eng Go.Proofs
namespace Go.Proofs.Ythmlkdflhnjhcaa

theorem filter_take {α : Type} {l : List α} {p : α → Bool} {i : Nat} {x : α} (hg : l[i]? = some x) : (l.take (i + 1)).filter p = (l.take i).filter p ++ (if p x = true then [x] else []) := by
  rw [take_succ hg, List.filter_append]
  congr 1
  by_cases h : p x = true
  · rw [if_pos h, List.filter_cons_of_pos h]; rfl
  · rw [if_neg h, List.filter_cons_of_neg h]; rfl
theorem filter_len {α : Type} (l : List α) (p : α → Bool) (n : Nat) : ((l.take n).filter p).length ≤ l.length :=
  Nat.le_trans (List.length_filter_le _ _) (by simp; omega)

theorem mid_eq {i j : Int} (h0 : 0 ≤ i) (h1 : i < j) (hj : j ≤ 1000000000) : IntKind.i64.wrap ((wrapU (i + j)).fdiv (2 ^ Min.min (Int.toNat 1) IntKind.u64.bits)) = (i + j) / 2 := by
  have e1 : wrapU (i + j) = i + j := by unfold wrapU; omega
  have e2 : (2 : Int) ^ Min.min (Int.toNat 1) IntKind.u64.bits = 2 := by decide
  rw [e1, e2, Int.fdiv_eq_ediv_of_nonneg _ (by omega)]
  exact wrap_i64 (by unfold inI; omega)

/-- Halving: what is known of the places before one, and of those from it on. -/
theorem bs_lo {l : List Int} {t : Int} (hs : l.Pairwise (· < ·)) {m : Nat} {x : Int} (hx : l[m]? = some x) (h : x < t) : ∀ i y, i < m + 1 → l[i]? = some y → y < t := by
  intro i y hi hy
  rcases Nat.lt_or_ge i m with h' | h'
  · have := List.pairwise_iff_getElem.1 hs i m (List.getElem?_eq_some_iff.1 hy).1 (List.getElem?_eq_some_iff.1 hx).1 h'
    rw [(List.getElem?_eq_some_iff.1 hy).2, (List.getElem?_eq_some_iff.1 hx).2] at this
    omega
  · have : i = m := by omega
    subst this; rw [hx] at hy; cases hy; exact h
theorem bs_hi {l : List Int} {t : Int} (hs : l.Pairwise (· < ·)) {m : Nat} {x : Int} (hx : l[m]? = some x) (h : t ≤ x) : ∀ i y, m ≤ i → l[i]? = some y → t ≤ y := by
  intro i y hi hy
  rcases Nat.lt_or_ge m i with h' | h'
  · have := List.pairwise_iff_getElem.1 hs m i (List.getElem?_eq_some_iff.1 hx).1 (List.getElem?_eq_some_iff.1 hy).1 h'
    rw [(List.getElem?_eq_some_iff.1 hy).2, (List.getElem?_eq_some_iff.1 hx).2] at this
    omega
  · have : i = m := by omega
    subst this; rw [hx] at hy; cases hy; exact h

theorem getC_ok {c : Ct} {n : Int} (h : (getC c n).2 = 0) : okC c ∧ 0 ≤ atC c n ∧ atC c n < c.list.length ∧ (getD3 c.list (atC c n)).1 = n ∧ getC c n = ((getD3 c.list (atC c n)).2, 0) := by
  unfold getC at h ⊢
  split at h
  · rename_i ok
    rw [if_pos ok]
    split at h
    · cases h
    · rename_i h0
      rw [if_neg h0]
      obtain ⟨a, x, hx, e⟩ := atC_range (c := c) (n := n) (by omega)
      refine ⟨ok, by omega, a, ?_, rfl⟩
      unfold getD3; rw [List.getD_eq_getElem?_getD, hx]; exact e
  · cases h

/-- The numbers of some, gathered in a loop. -/
theorem thoseC_take {c : Ct} {p : Int × Int → Bool} {i : Nat} {x : Int × Int × Int} (hg : c.list[i]? = some x) :
    ((c.list.take (i + 1)).filter fun h => p h.2).map (·.1) = ((c.list.take i).filter fun h => p h.2).map (·.1) ++ (if p x.2 then [x.1] else []) := by
  rw [filter_take (p := fun h : Int × Int × Int => p h.2) hg, List.map_append]
  congr 1
  by_cases h : p x.2 = true
  · rw [if_pos h, if_pos h]; rfl
  · rw [if_neg h, if_neg h]; rfl

end Go.Proofs.Ythmlkdflhnjhcaa
end
section
/- Contracts of cert and pelotonref08, fourth part. Conditions: none. -/
set_option maxRecDepth 100000
open Go Go.Eng Go.Proofs
namespace Go.Proofs.Ythmlkdflhnjhcaa

theorem Hp.le.chg {H H' : Hp} {v : Slc} (h : Hp.le H H') : Chg H H' v := fun b hb _ => by
  obtain ⟨o, ho⟩ := Option.ne_none_iff_exists'.1 hb
  rw [ho]; exact h b o ho

theorem Old.zs {H : Hp} : Old H zs := fun p hp => by unfold Go.Eng.zs at hp; cases hp

theorem addC_len (c : Ct) (x : Int × Int) : (addC c x).1.list.length ≤ 1000 := by
  unfold addC
  split
  · rename_i h
    have := h.1.len
    split
    · simp [Ct.zero]
    · split
      · simp [Ct.zero]
      · simp; omega
  · simp [Ct.zero]
theorem removeC_len (c : Ct) (n : Int) : (removeC c n).1.list.length ≤ 1000 := by
  unfold removeC
  split
  · rename_i h
    have := (getC_ok h).1.len
    have := List.length_filter_le (fun h : Int × Int × Int => h.1 != n) c.list
    show ((c.list.filter _).length) ≤ 1000
    omega
  · simp [Ct.zero]
theorem ofC_len (c : Ct) (id : Int) : (ofC c id).1.length ≤ 1000 := by
  unfold ofC
  split
  · rename_i h
    have := h.len
    have := List.length_filter_le (fun h : Int × Int × Int => h.2.1 == id || h.2.2 == id) c.list
    simp [thoseC]; omega
  · simp

end Go.Proofs.Ythmlkdflhnjhcaa
end
