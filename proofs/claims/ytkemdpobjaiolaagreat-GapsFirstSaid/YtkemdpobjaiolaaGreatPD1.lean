/- The engine, parts DX, DW, AT, RV, put together. Conditions: none. -/
import Derived.Test.YtkemdpobjaiolaaGreatPX1
import Derived.Test.YtkemdpobjaiolaaGreatE7
import Derived.Test.YtkemdpobjaiolaaGreatPK2
import Derived.Lib.ItoaNum
import Derived.Test.YtkemdpobjaiolaaGreatVgStd
import Derived.Test.YtkemdpobjaiolaaGreatFs
import Derived.Test.YtkemdpobjaiolaaGreatP4
import Derived.Test.YtkemdpobjaiolaaGreatVgBase
set_option linter.unusedVariables false
section
/- bits.Len64, as the library has it. Conditions: none. -/
set_option maxRecDepth 100000
open Go Go.Eng Go.Proofs
namespace Go.Proofs.YtkemdpobjaiolaaGreat
end Go.Proofs.YtkemdpobjaiolaaGreat
end
section
/- bits.Div64 and bits.Rem64. Conditions: none. -/
set_option maxRecDepth 100000
open Go Go.Eng Go.Proofs
namespace Go.Proofs.YtkemdpobjaiolaaGreat

end Go.Proofs.YtkemdpobjaiolaaGreat
end
section
/- A point's place at a time: course.At and the reference's. Conditions: none. -/
set_option maxRecDepth 100000
open Go Go.Eng Go.Proofs
namespace Go.Proofs.YtkemdpobjaiolaaGreat

/-- A whole number over a denominator, in lowest terms. -/
def overM (N d : Int) : (Int × Int) × Int := buildM (decide (N < 0)) (absI N / gcdA N d) (d / gcdA N d)
end Go.Proofs.YtkemdpobjaiolaaGreat
end
section
/- The reference's division bit by bit; a place by the reference. Conditions: none. -/
set_option maxRecDepth 100000
open Go Go.Eng Go.Proofs
namespace Go.Proofs.YtkemdpobjaiolaaGreat

/-- What is in lowest terms stays so where a whole number of it is added. -/
theorem gcd_addmul (a b k : Int) : gcdA (a + k * b) b = gcdA a b := by
  have e1 : ∀ z : Int, (absI z).toNat = z.natAbs := fun z => by rw [absI_nat]; simp
  unfold gcdA
  rw [e1, e1, e1]
  congr 1
  have := Int.gcd_add_mul_right_left (m := b) (n := a) (k := k)
  unfold Int.gcd at this
  exact this
theorem gcd_mulr (a b : Int) {g : Int} (hg : 0 < g) : gcdA (a * g) (b * g) = gcdA a b * g := by
  have e1 : ∀ z : Int, (absI z).toNat = z.natAbs := fun z => by rw [absI_nat]; simp
  unfold gcdA
  rw [e1, e1, e1, e1, Int.natAbs_mul, Int.natAbs_mul, Nat.gcd_mul_right]
  have : ((g.natAbs : Nat) : Int) = g := by omega
  rw [Int.natCast_mul, this]

/-- B times a time, then A: it is the sum over the time's denominator. -/
theorem addW_place {A B : Int} {t : Int × Int} (ob : okR (B, 1)) (ot : okR t) (h0 : (mulM (B, 1) t).2 = 0) : addW A (mulM (B, 1) t).1 = overM (A * t.2 + B * t.1) t.2 := by
  have h3 := ot.d1
  obtain ⟨g1, g2⟩ := gA_pos (a := (B, 1)) (b := t) ot
  -- g: what B and the denominator have in common
  have eg : gA (B, 1) t = gcdA B t.2 := by
    unfold gA gcdA
    have ed : absI t.2 = t.2 := by unfold absI; rw [if_neg (by omega)]
    rw [ed, Nat.gcd_comm]
  have eh : gA t (B, 1) = 1 := by
    unfold gA
    show ((Nat.gcd (1 : Int).toNat _ : Nat) : Int) = 1
    rw [show (1 : Int).toNat = 1 from rfl, Nat.gcd_one_left]; rfl
  have e1 : ∀ z : Int, (absI z).toNat = z.natAbs := fun z => by rw [absI_nat]; simp
  generalize hg : gA (B, 1) t = g at *
  have dB : g ∣ B := by
    rw [eg]; unfold gcdA; rw [e1, e1]
    exact Int.gcd_dvd_left ..
  have dD : g ∣ t.2 := by
    rw [eg]; unfold gcdA; rw [e1, e1]
    exact Int.gcd_dvd_right ..
  obtain ⟨B', hB⟩ := dB
  obtain ⟨D', hD⟩ := dD
  have tB : B.tdiv g = B' := by rw [hB]; exact Int.mul_tdiv_cancel_left _ (by omega)
  have tD : t.2 / g = D' := by rw [hD]; exact Int.mul_ediv_cancel_left _ (by omega)
  have D0 : 0 < D' := by
    rcases Int.lt_or_le 0 D' with h | h
    · exact h
    · have := Int.mul_le_mul_of_nonneg_left h (show 0 ≤ g by omega)
      rw [Int.mul_zero, ← hD] at this
      omega
  have em : mulM (B, 1) t = buildM (!(decide (B < 0) == decide (t.1 < 0)) && B != 0 && t.1 != 0) (absI (B' * t.1)) D' := by
    unfold mulM
    rw [if_pos ⟨ob, ot⟩, hg, eh, tB, tD, show t.1.tdiv 1 = t.1 by simp, show (1 : Int) / 1 = 1 from rfl, Int.one_mul]
  rw [em] at h0 ⊢
  have eb : ∀ {c : Bool} {N D : Int}, (buildM c N D).2 = 0 → N ≤ 9223372036854775807 ∧ D ≤ 9223372036854775807 ∧ (buildM c N D).1 = (if c = true then 0 - N else N, D) := by
    intro c N D h
    unfold buildM at h ⊢
    split at h
    · cases h
    · rename_i hh; rw [if_neg hh]; exact ⟨by omega, by omega, rfl⟩
  obtain ⟨b1, b2, b3⟩ := eb h0
  have sg : (if (!(decide (B < 0) == decide (t.1 < 0)) && B != 0 && t.1 != 0) = true then 0 - absI (B' * t.1) else absI (B' * t.1)) = B' * t.1 := by
    have ai := absI_iff (B' * t.1)
    have mn := mul_neg_iff (a := B') (b := t.1)
    have sB : (B < 0 ↔ B' < 0) ∧ (B = 0 ↔ B' = 0) := by
      have p : B' < 0 → B < 0 := fun h => by rw [hB]; exact Int.mul_neg_of_pos_of_neg (by omega) h
      have q : 0 < B' → 0 < B := fun h => by rw [hB]; exact Int.mul_pos (by omega) h
      have r : B' = 0 → B = 0 := fun h => by rw [hB, h, Int.mul_zero]
      constructor
      · constructor
        · intro h; rcases Int.lt_trichotomy B' 0 with x | x | x
          · exact x
          · have := r x; omega
          · have := q x; omega
        · exact p
      · constructor
        · intro h; rcases Int.lt_trichotomy B' 0 with x | x | x
          · have := p x; omega
          · exact x
          · have := q x; omega
        · exact r
    have zz : B' * t.1 = 0 ↔ B' = 0 ∨ t.1 = 0 := Int.mul_eq_zero
    by_cases hc : (!(decide (B < 0) == decide (t.1 < 0)) && B != 0 && t.1 != 0) = true
    · rw [if_pos hc]
      have : B' * t.1 < 0 := by
        rw [mn]
        simp only [Bool.and_eq_true, Bool.not_eq_true', beq_eq_false_iff_ne, bne_iff_ne, ne_eq, decide_eq_decide] at hc
        omega
      have := ai.1 this; omega
    · rw [if_neg hc]
      have : ¬ B' * t.1 < 0 := by
        rw [mn]; intro h; apply hc
        simp only [Bool.and_eq_true, Bool.not_eq_true', beq_eq_false_iff_ne, bne_iff_ne, ne_eq, decide_eq_decide]
        omega
      exact ai.2 (by omega)
  have e3 : (buildM (!(decide (B < 0) == decide (t.1 < 0)) && B != 0 && t.1 != 0) (absI (B' * t.1)) D').1 = (B' * t.1, D') := by rw [b3, sg]
  rw [e3]
  -- in lowest terms
  have c1 : gcdA B' D' = 1 := by
    have := gcd_mulr B' D' g1
    rw [Int.mul_comm B' g, Int.mul_comm D' g, ← hB, ← hD, ← eg] at this
    have h' : gcdA B' D' * g = 1 * g := by rw [Int.one_mul]; exact this.symm
    exact Int.eq_of_mul_eq_mul_right (by omega) h'
  have ct : Nat.gcd t.1.natAbs t.2.natAbs = 1 := ot.g
  have n1 : Nat.gcd (B' * t.1).natAbs D'.natAbs = 1 := by
    unfold gcdA at c1
    rw [e1, e1] at c1
    have k1 : Nat.Coprime B'.natAbs D'.natAbs := by exact_mod_cast c1
    have k2 : Nat.Coprime t.1.natAbs D'.natAbs := by
      refine Nat.Coprime.coprime_dvd_right ?_ ct
      rw [hD, Int.natAbs_mul]; exact Nat.dvd_mul_left ..
    rw [Int.natAbs_mul]
    exact Nat.Coprime.mul_left k1 k2
  have ai := absI_iff (B' * t.1)
  have or' : okR (B' * t.1, D') := ⟨by show 1 ≤ D'; omega, b2, by show _ ≤ B' * t.1; omega, by show B' * t.1 ≤ _; omega, n1⟩
  have pv := plusM_val (c := !(decide (A < 0) == decide (D' < 0))) (d := !(decide (B' * t.1 < 0) == decide ((1 : Int) < 0))) (v := A * D') (w := B' * t.1 * 1) (fun hne => by
      rw [decide_eq_false (by omega : ¬ D' < 0)]
      have : A * D' < 0 ↔ A < 0 := by
        constructor
        · intro h; rcases Int.lt_or_le A 0 with h' | h'
          · exact h'
          · have := Int.mul_nonneg h' (by omega : 0 ≤ D'); omega
        · intro h; exact Int.mul_neg_of_neg_of_pos h D0
      rw [this]; simp) (fun hne => by
      rw [Int.mul_one, decide_eq_false (by omega : ¬ (1 : Int) < 0)]; simp)
  obtain ⟨r1, r2⟩ := pv
  have ew : addW A (B' * t.1, D') = buildM (plusM (!(decide (A < 0) == decide (D' < 0))) (!(decide (B' * t.1 < 0) == decide ((1 : Int) < 0))) (absI (A * D')) (absI (B' * t.1 * 1))).1 (absI (A * D' + B' * t.1 * 1)) D' := by
    unfold addW
    rw [if_pos or']
    show buildM _ _ _ = _
    rw [r1]
  rw [ew, Int.mul_one]
  -- the same over the time's denominator
  have eN : A * t.2 + B * t.1 = (A * D' + B' * t.1) * g := by
    rw [hD, Int.add_mul, Int.mul_comm g D', ← Int.mul_assoc, Int.mul_assoc B', Int.mul_comm t.1 g, ← Int.mul_assoc, Int.mul_comm B' g, ← hB]
  have gN : gcdA (A * D' + B' * t.1) D' = 1 := by
    rw [Int.add_comm, gcd_addmul]
    unfold gcdA
    rw [e1, e1, n1]; rfl
  unfold overM
  have hgN : gcdA (A * t.2 + B * t.1) t.2 = g := by
    have h' := gcd_mulr (A * D' + B' * t.1) D' g1
    rw [← eN, gN, Int.one_mul, Int.mul_comm D' g, ← hD] at h'
    exact h'
  rw [hgN, tD]
  have aN : absI (A * t.2 + B * t.1) / g = absI (A * D' + B' * t.1) := by
    rw [eN, ← absI_mul]
    have : absI g = g := by unfold absI; rw [if_neg (by omega)]
    rw [this]; exact Int.mul_ediv_cancel _ (by omega)
  rw [aN]
  refine buildM_sign fun hne => ?_
  have hz : A * D' + B' * t.1 * 1 ≠ 0 := fun h => hne (by rw [Int.mul_one] at h; rw [h]; rfl)
  have r3 := r2 hz
  rw [Int.mul_one] at r3
  rw [Bool.eq_iff_iff, r3, decide_eq_true_eq, eN]
  constructor
  · intro h; exact Int.mul_neg_of_neg_of_pos h g1
  · intro h; rcases Int.lt_or_le (A * D' + B' * t.1) 0 with h' | h'
    · exact h'
    · have := Int.mul_nonneg h' (by omega : 0 ≤ g); omega

end Go.Proofs.YtkemdpobjaiolaaGreat
end
