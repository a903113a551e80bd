/- The engine, parts K5, K6, K7, K8, K9, KA, KB, KC, put together. Conditions: none. -/
import Derived.Test.YtkemdpobjaiolaaGreatPK1
import Derived.Test.YtkemdpobjaiolaaGreatVgGaps
import Derived.Test.YtkemdpobjaiolaaGreatFs
import Derived.Test.YtkemdpobjaiolaaGreatFx
import Derived.Laws.Externs
import Derived.Shelf.Spec.BitsCarry
import Derived.Test.YtkemdpobjaiolaaGreatVgBase
import Derived.Test.YtkemdpobjaiolaaGreatVgStd
import Derived.Test.YtkemdpobjaiolaaGreatE7
set_option linter.unusedVariables false
section
/- When a gap closes, in plain words. Conditions: none. -/
set_option maxRecDepth 100000
open Go Go.Eng Go.Proofs
namespace Go.Proofs.YtkemdpobjaiolaaGreat

theorem makeNeg {A B : Int} (h1 : -2097152 ≤ A) (h2 : A ≤ 2097152) (h3 : -2097152 ≤ B) (h4 : B < 0) :
    ∃ x y g : Int, 0 < g ∧ makeM (-A) B = ((x, y), 0) ∧ x * g = A ∧ y * g = -B ∧ okR (x, y) := by
  obtain ⟨a, ha⟩ : ∃ a : Nat, (a : Int) = absI (-A) := ⟨(absI (-A)).toNat, by unfold absI; split <;> omega⟩
  obtain ⟨b, hb⟩ : ∃ b : Nat, (b : Int) = absI B := ⟨(absI B).toNat, by unfold absI; split <;> omega⟩
  have a1 : a ≤ 2097152 := by unfold absI at ha; split at ha <;> omega
  have b1 : 0 < b ∧ b ≤ 2097152 := by unfold absI at hb; split at hb <;> omega
  have hG : 0 < Nat.gcd a b := Nat.gcd_pos_of_pos_right _ b1.1
  have da := Nat.gcd_dvd_left a b
  have db := Nat.gcd_dvd_right a b
  have ea := Nat.div_mul_cancel da
  have eb := Nat.div_mul_cancel db
  have cop := Nat.gcd_div_gcd_div_gcd_of_pos_right (n := a) (m := b) b1.1
  have la : a / Nat.gcd a b ≤ a := Nat.div_le_self _ _
  have lb : b / Nat.gcd a b ≤ b := Nat.div_le_self _ _
  have pb : 0 < b / Nat.gcd a b := Nat.div_pos (Nat.le_of_dvd b1.1 db) hG
  have hgc : gcdA (-A) B = (Nat.gcd a b : Nat) := by unfold gcdA; rw [← ha, ← hb, Int.toNat_natCast, Int.toNat_natCast]
  have hm : makeM (-A) B = buildM (!(decide (-A < 0) == decide (B < 0))) ((a / Nat.gcd a b : Nat) : Int) ((b / Nat.gcd a b : Nat) : Int) := by
    unfold makeM
    rw [if_neg (by omega), hgc, ← ha, ← hb]; try rfl
  generalize Nat.gcd a b = G at *
  generalize a / G = N at *
  generalize b / G = D at *
  have eaz : (N : Int) * G = a := by exact_mod_cast ea
  have ebz : (D : Int) * G = b := by exact_mod_cast eb
  have hB : (b : Int) = -B := by unfold absI at hb; rw [if_pos h4] at hb; omega
  rw [hm]
  unfold buildM
  rw [if_neg (by omega)]
  by_cases hA : 0 < A
  · have e : (!(decide (-A < 0) == decide (B < 0))) = false := by rw [decide_eq_true (by omega : -A < 0), decide_eq_true h4]; try rfl
    have hAa : (a : Int) = A := by unfold absI at ha; rw [if_pos (by omega)] at ha; omega
    rw [e]
    exact ⟨N, D, G, by omega, rfl, by rw [eaz]; exact hAa, by rw [ebz]; exact hB, ⟨by show (1 : Int) ≤ D; omega, by show (D : Int) ≤ _; omega, by show _ ≤ (N : Int); omega, by show (N : Int) ≤ _; omega, by show Nat.gcd (N : Int).natAbs (D : Int).natAbs = 1; simpa using cop⟩⟩
  · have e : (!(decide (-A < 0) == decide (B < 0))) = true := by rw [decide_eq_false (by omega : ¬ -A < 0), decide_eq_true h4]; try rfl
    have hAa : (a : Int) = -A := by unfold absI at ha; rw [if_neg (by omega)] at ha; omega
    rw [e]
    exact ⟨0 - N, D, G, by omega, rfl, by rw [Int.sub_mul, eaz]; omega, by rw [ebz]; exact hB, ⟨by show (1 : Int) ≤ D; omega, by show (D : Int) ≤ _; omega, by show _ ≤ (0 - (N : Int)); omega, by show (0 - (N : Int)) ≤ _; omega, by show Nat.gcd (0 - (N : Int)).natAbs (D : Int).natAbs = 1; rw [show (0 - (N : Int)).natAbs = N by omega]; simpa using cop⟩⟩

end Go.Proofs.YtkemdpobjaiolaaGreat
end
section
/- When a gap closes: both functions. Conditions: none. -/
set_option maxRecDepth 100000
open Go Go.Eng Go.Proofs
namespace Go.Proofs.YtkemdpobjaiolaaGreat

end Go.Proofs.YtkemdpobjaiolaaGreat
end
section
/- Sums of 128 bits with a sign. Conditions: none. -/
set_option maxRecDepth 100000
open Go Go.Eng Go.Proofs
namespace Go.Proofs.YtkemdpobjaiolaaGreat

end Go.Proofs.YtkemdpobjaiolaaGreat
end
section
/- Fractions: adding to a whole number. Conditions: none. -/
set_option maxRecDepth 100000
open Go Go.Eng Go.Proofs
namespace Go.Proofs.YtkemdpobjaiolaaGreat

end Go.Proofs.YtkemdpobjaiolaaGreat
end
section
/- The reference's division bit by bit, by 1. Conditions: none. -/
set_option maxRecDepth 100000
open Go Go.Eng Go.Proofs
namespace Go.Proofs.YtkemdpobjaiolaaGreat

end Go.Proofs.YtkemdpobjaiolaaGreat
end
section
/- The reference divides by 1. Conditions: none. -/
set_option maxRecDepth 100000
open Go Go.Eng Go.Proofs
namespace Go.Proofs.YtkemdpobjaiolaaGreat

end Go.Proofs.YtkemdpobjaiolaaGreat
end
section
/- Adding to a whole number: the reference. Conditions: none. -/
set_option maxRecDepth 100000
open Go Go.Eng Go.Proofs
namespace Go.Proofs.YtkemdpobjaiolaaGreat

end Go.Proofs.YtkemdpobjaiolaaGreat
end
section
/- The law GapsTells. Conditions: none. -/
set_option maxRecDepth 100000
open Go Go.Eng Go.Proofs
namespace Go.Proofs.YtkemdpobjaiolaaGreat

end Go.Proofs.YtkemdpobjaiolaaGreat
end
