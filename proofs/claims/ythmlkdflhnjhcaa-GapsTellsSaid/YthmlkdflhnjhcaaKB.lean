/- Adding to a whole number: the reference. Conditions: none. -/
import Derived.Test.YthmlkdflhnjhcaaKA
import Derived.Test.YthmlkdflhnjhcaaVgBase
import Derived.Test.YthmlkdflhnjhcaaFs
set_option linter.unusedVariables false
set_option maxRecDepth 100000
open Go Go.Eng Go.Proofs
namespace Go.Proofs.Ythmlkdflhnjhcaa

theorem absI_iff (v : Int) : (v < 0 → absI v = -v) ∧ (0 ≤ v → absI v = v) := by
  unfold absI
  constructor
  · intro h; rw [if_pos h]
  · intro h; rw [if_neg (by omega)]
theorem plusM_val {c d : Bool} {v w : Int} (hc : v ≠ 0 → (c = true ↔ v < 0)) (hd : w ≠ 0 → (d = true ↔ w < 0)) :
    (plusM c d (absI v) (absI w)).2 = absI (v + w) ∧ (v + w ≠ 0 → ((plusM c d (absI v) (absI w)).1 = true ↔ v + w < 0)) := by
  have av := absI_iff v
  have aw := absI_iff w
  have avw := absI_iff (v + w)
  unfold plusM
  generalize absI v = x at *
  generalize absI w = y at *
  generalize absI (v + w) = z at *
  cases c <;> cases d <;> simp only [Bool.false_eq_true, false_iff, true_iff, if_true, if_false, reduceCtorEq] at hc hd ⊢
  · exact ⟨by omega, fun h => by omega⟩
  · by_cases h : x < y
    · rw [if_pos h]; exact ⟨by show y - x = z; omega, fun h => by simp only [true_iff]; omega⟩
    · rw [if_neg h]; exact ⟨by show x - y = z; omega, fun h => by simp only [Bool.false_eq_true, false_iff]; omega⟩
  · by_cases h : x < y
    · rw [if_pos h]; exact ⟨by show y - x = z; omega, fun h => by simp only [Bool.false_eq_true, false_iff]; omega⟩
    · rw [if_neg h]; exact ⟨by show x - y = z; omega, fun h => by simp only [true_iff]; omega⟩
  · exact ⟨by omega, fun h => by omega⟩
theorem refAdd1 {H : Hp} {A : Int} {b : Int × Int} (h1 : -2097152 ≤ A) (h2 : A ≤ 2097152) (hb : fitR b) :
    Qf Try.prog F.pelotonref01_Add #[.agg #[.int .i64 A, .int .i64 1], .agg #[.int .i64 b.1, .int .i64 b.2]] H (.tuple #[.agg #[.int .i64 (addW A b).1.1, .int .i64 (addW A b).1.2], .int .i64 (addW A b).2]) := by
  have oa := okW h1 h2
  refine pelotonref01_Add_vc ⟨_, refBoth (a := (A, 1)) oa.fit hb, fun hc => ?_, fun hc => ?_⟩
  · have h : ¬ okR b := fun x => by rw [if_pos ⟨oa, x⟩] at hc; simp at hc
    refine ⟨_, refBoth (a := (A, 1)) oa.fit hb, ?_, Hp.le_refl _⟩
    unfold addW; rw [if_neg h, if_neg fun x => h x.2]
  · have ob : okR b := by
      by_cases x : okR b
      · exact x
      · rw [if_neg fun y => x y.2] at hc; simp at hc
    have d3 := ob.d1; have d4 := ob.d2
    rw [wrapUs (n := b.2) (by omega) (by omega), show wrapU 1 = 1 from by decide]
    have hg : Qf Try.prog F.pelotonref01_common #[.int .u64 1, .int .u64 b.2] H (.int .u64 1) := by
      have := refCommon (H := H) (a := 1) (b := b.2) (by omega) (by omega)
      rw [show ((1 : Int).toNat) = 1 from rfl, Nat.gcd_one_left] at this; exact this
    have hg2 : Qf Try.prog F.pelotonref01_common #[.int .u64 1, .int .u64 0] H (.int .u64 1) := by
      have := refCommon (H := H) (a := 1) (b := 0) (by omega) (by omega)
      rw [show ((1 : Int).toNat) = 1 from rfl, Nat.gcd_one_left] at this; exact this
    refine ⟨_, hg, ?_⟩
    rw [show IntKind.i64.wrap 1 = 1 from by decide, show b.2.tdiv 1 = b.2 by simp, show (1 : Int).tdiv 1 = 1 by simp, show wrapU 1 = 1 from by decide]
    have small : ∀ {u v : Int}, -2097152 ≤ u → u ≤ 2097152 → inI v → absI (u * v) < 85070591730234615865843651857942052864 := fun {u v} q1 q2 hv => by
      have hu : absI u ≤ 2097152 := by unfold absI; split <;> omega
      have pu : 0 ≤ absI u := by unfold absI; split <;> omega
      have hbb := absB hv
      rw [← absI_mul]
      have := Int.mul_le_mul hu hbb.2 hbb.1 (by omega)
      omega
    have s1 := small h1 h2 hb.2
    have s2 := small (u := 1) (v := b.1) (by omega) (by omega) hb.1
    rw [Int.mul_comm] at s2
    have iA : inI A := by unfold inI; omega
    obtain ⟨c1, x1, y1, q1, b1⟩ := refProduct (H := H) iA hb.2
    obtain ⟨c2, x2, y2, q2, b2⟩ := refProduct (H := H) (b := 1) hb.1 (by unfold inI; omega)
    obtain ⟨e, hh, ll, q3, b3⟩ := refPlus (H := H) b1 b2 s1 s2
    obtain ⟨p0, p1, p2, p3, p4, p5⟩ := b3
    have hv2 := absI_iff (A * b.2 + b.1 * 1)
    have hN : hh * 18446744073709551616 + ll = absI (A * b.2 + b.1 * 1) := by
      cases e with
      | true => have := p4 rfl; omega
      | false => have := p5 rfl; omega
    obtain ⟨V, rfl⟩ := Int.eq_ofNat_of_zero_le p0
    obtain ⟨W, rfl⟩ := Int.eq_ofNat_of_zero_le p2
    have dv := refDivided1 (H := H) (c := e) (V := V) (W := W) (by omega) (by omega)
    have pr := refProd (H := H) (x := 1) (y := b.2) (by omega) (by omega) (by omega) (by omega)
    rw [Int.one_mul] at pr
    have md := refMade (H := H) (c := e) (c1 := false) (c2 := false) (N := absI (A * b.2 + b.1 * 1)) (D := b.2) (by omega) (by omega)
    rw [show absI (A * b.2 + b.1 * 1) / 18446744073709551616 = (V : Int) by omega, show absI (A * b.2 + b.1 * 1) % 18446744073709551616 = (W : Int) by omega] at md
    have es : addW A b = buildM e (absI (A * b.2 + b.1 * 1)) b.2 := by
      unfold addW; rw [if_pos ob]
      have sg1 : A * b.2 ≠ 0 → ((!(decide (A < 0) == decide (b.2 < 0))) = true ↔ A * b.2 < 0) := fun hne => by
        rw [decide_eq_false (by omega : ¬ b.2 < 0)]
        have : A * b.2 < 0 ↔ A < 0 := by
          constructor
          · intro h; rcases Int.lt_or_le A 0 with h' | h'
            · exact h'
            · have := Int.mul_nonneg h' (by omega : 0 ≤ b.2); omega
          · intro h; exact Int.mul_neg_of_neg_of_pos h (by omega)
        rw [this]; simp
      have sg2 : b.1 * 1 ≠ 0 → ((!(decide (b.1 < 0) == decide ((1 : Int) < 0))) = true ↔ b.1 * 1 < 0) := fun hne => by
        rw [Int.mul_one, decide_eq_false (by omega : ¬ (1 : Int) < 0)]; simp
      obtain ⟨r1, r2⟩ := plusM_val sg1 sg2
      show buildM _ _ _ = _
      rw [r1]
      refine buildM_sign fun hne => ?_
      have hz : A * b.2 + b.1 * 1 ≠ 0 := fun h => hne (by rw [h]; rfl)
      have r3 := r2 hz
      rw [Bool.eq_iff_iff, r3]
      constructor
      · intro h; cases e with
        | true => rfl
        | false => have := (p5 rfl).1; omega
      · intro h; exact (p4 h).1
    rw [es]
    refine ⟨⟨by unfold nz; omega, by unfold inI; omega⟩, _, _, _, q1, ⟨by unfold nz; omega, by unfold inI; omega⟩, _, _, _, q2, _, _, _, q3, _, _, _, _, dv, _, hg2, _, _, _, _, dv, ⟨by unfold nz; omega, by unfold inI; omega⟩, by unfold nz; omega, _, _, _, ?_, _, _, _, md, rfl, Hp.le_refl _⟩
    rw [show b.2.tdiv 1 = b.2 by simp, wrapUs (n := b.2) (by omega) (by omega)]
    exact pr
end Go.Proofs.Ythmlkdflhnjhcaa
