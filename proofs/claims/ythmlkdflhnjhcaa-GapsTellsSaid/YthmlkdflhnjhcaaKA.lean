/- The reference divides by 1. Conditions: none. -/
import Derived.Test.YthmlkdflhnjhcaaK9
import Derived.Test.YthmlkdflhnjhcaaVgBase
import Derived.Test.YthmlkdflhnjhcaaFs
set_option linter.unusedVariables false
set_option maxRecDepth 100000
open Go Go.Eng Go.Proofs
namespace Go.Proofs.Ythmlkdflhnjhcaa

theorem bit_val {V m : Nat} (hV : V < 18446744073709551616) (hm : m ≤ 64) : IntKind.u64.wrap (↑(BitVec.ofInt IntKind.u64.bits ((V : Int).fdiv (2 ^ Min.min m IntKind.u64.bits)) &&& BitVec.ofInt IntKind.u64.bits 1).toNat : Int) = ((V / 2 ^ m % 2 : Nat) : Int) := by
  have e : ((V : Int) / 2 ^ m) = ((V / 2 ^ m : Nat) : Int) := by simp
  have hl : V / 2 ^ m ≤ V := Nat.div_le_self _ _
  rw [shrU (by omega) hm, e]
  generalize V / 2 ^ m = q at *
  rw [bitU (by omega) (by omega)]
  omega

theorem refDivided1 {H : Hp} {c : Bool} {V W : Nat} (hV : V < 18446744073709551616) (hW : W < 18446744073709551616) :
    Qf Try.prog F.pelotonref01_divided #[.agg #[.bool c, .int .u64 (V : Int), .int .u64 (W : Int)], .int .u64 1] H (.tuple #[.agg #[.bool false, .int .u64 (V : Int), .int .u64 (W : Int)], .int .u64 0]) := by
  have h2 : (2 : Nat) ^ 64 = 18446744073709551616 := by decide
  refine pelotonref01_divided_vc ⟨fun n3 n4 c5 n6 n7 H' => ∃ j : Nat, n4 = (j : Int) - 1 ∧ j ≤ 128 ∧ n3 = 0 ∧ c5 = false ∧ n6 = ((topB (j - 64) V : Nat) : Int) ∧ n7 = ((topB (min j 64) W : Nat) : Int) ∧ H' = H, fun _ n4 _ _ _ _ => (n4 + 1).toNat,
    ⟨128, by omega, by omega, rfl, rfl, by rw [show 128 - 64 = 64 from rfl, topB_big (by omega)]; rfl, by rw [show min 128 64 = 64 from rfl, topB_big (by omega)]; rfl, rfl⟩, fun n3 n4 c5 n6 n7 H8 ⟨j, e4, hj, e3, e5, e6, e7, eH⟩ => ?_⟩
  subst e4; subst e3; subst e5; subst e6; subst e7; subst eH
  refine ⟨fun hn => ?_, fun hn => ?_⟩
  · obtain ⟨k, rfl⟩ : ∃ k, j = k + 1 := ⟨j - 1, by have : (0 : Int) ≤ (j : Int) - 1 := (by simpa using hn); omega⟩
    rw [show ((k + 1 : Nat) : Int) - 1 = (k : Int) by omega]
    have z0 : wrapU (2 * 0) = 0 := by decide
    rw [z0]
    refine ⟨by unfold nn; omega, fun hk => ?_, fun hk => ?_⟩
    · have hk : 64 ≤ k := by have : (64 : Int) ≤ k := (by simpa using hk); omega
      obtain ⟨m, rfl⟩ : ∃ m, k = m + 64 := ⟨k - 64, by omega⟩
      rw [show (((m + 64 : Nat) : Int) - 64).toNat = m by omega, bit_val hV (by omega), show m + 64 + 1 - 64 = m + 1 by omega]
      have ts := topB_step m V
      have hb : V / 2 ^ m % 2 < 2 := Nat.mod_lt _ (by omega)
      generalize V / 2 ^ m % 2 = b at *
      have zb : wrapU (0 + (b : Int)) = b := by unfold wrapU; omega
      rw [zb]
      refine ⟨by unfold inI; omega, by unfold nn; omega, fun h1 => ⟨fun _ => ?_, fun hf => ?_⟩, fun h1 => ?_⟩
      · have h1 : b = 1 := by have : (1 : Int) ≤ b := (by simpa using h1); omega
        subst h1
        rw [orU (by omega) (by omega)]
        refine ⟨by unfold inI; omega, by unfold nn; omega, by unfold inI; omega, ⟨m + 64, rfl, by omega, by decide, rfl, ?_, ?_, rfl⟩, ?_⟩
        · rw [show m + 64 - 64 = m by omega, ts, Nat.mul_one]
        · rw [show min (m + 64 + 1) 64 = min (m + 64) 64 by omega]
        · show (((m + 64 : Nat) : Int) - 1 + 1).toNat < (((m + 64 : Nat) : Int) + 1).toNat; omega
      · exfalso; simp at hf; omega
      · have h1 : b = 0 := by have : ¬ (1 : Int) ≤ b := (by simpa using h1); omega
        subst h1
        refine ⟨by unfold inI; omega, ⟨m + 64, rfl, by omega, rfl, rfl, ?_, ?_, rfl⟩, ?_⟩
        · rw [show m + 64 - 64 = m by omega, ts, Nat.mul_zero]; rfl
        · rw [show min (m + 64 + 1) 64 = min (m + 64) 64 by omega]
        · show (((m + 64 : Nat) : Int) - 1 + 1).toNat < (((m + 64 : Nat) : Int) + 1).toNat; omega
    · have hk' : k < 64 := by have : ¬ (64 : Int) ≤ k := (by simpa using hk); omega
      rw [Int.toNat_natCast, bit_val hW (by omega), show min (k + 1) 64 = k + 1 by omega]
      have ts := topB_step k W
      have hb : W / 2 ^ k % 2 < 2 := Nat.mod_lt _ (by omega)
      generalize W / 2 ^ k % 2 = b at *
      have zb : wrapU (0 + (b : Int)) = b := by unfold wrapU; omega
      rw [zb]
      refine ⟨fun h1 => ⟨fun hf => ?_, fun _ => ?_⟩, fun h1 => ?_⟩
      · exfalso; simp at hf; omega
      · have h1 : b = 1 := by have : (1 : Int) ≤ b := (by simpa using h1); omega
        subst h1
        rw [orU hk' (by omega)]
        refine ⟨by unfold nn; omega, by unfold inI; omega, ⟨k, rfl, by omega, by decide, rfl, ?_, ?_, rfl⟩, ?_⟩
        · rw [show k + 1 - 64 = k - 64 by omega]
        · rw [show min k 64 = k by omega, ts, Nat.mul_one]
        · show ((k : Int) - 1 + 1).toNat < ((k : Int) + 1).toNat; omega
      · have h1 : b = 0 := by have : ¬ (1 : Int) ≤ b := (by simpa using h1); omega
        subst h1
        refine ⟨by unfold inI; omega, ⟨k, rfl, by omega, rfl, rfl, ?_, ?_, rfl⟩, ?_⟩
        · rw [show k + 1 - 64 = k - 64 by omega]
        · rw [show min k 64 = k by omega, ts, Nat.mul_zero]; rfl
        · show ((k : Int) - 1 + 1).toNat < ((k : Int) + 1).toNat; omega
  · have : j = 0 := by have : ¬ (0 : Int) ≤ (j : Int) - 1 := (by simpa using hn); omega
    subst this
    refine ⟨?_, Hp.le_refl _⟩
    rw [show 0 - 64 = 0 from rfl, show min 0 64 = 0 from rfl, topB_zero, topB_zero]
end Go.Proofs.Ythmlkdflhnjhcaa
