/- The reference's division bit by bit, by 1. Conditions: none. -/
import Derived.Test.YthmlkdflhnjhcaaK8
import Derived.Test.YthmlkdflhnjhcaaDV
set_option linter.unusedVariables false
set_option maxRecDepth 100000
open Go Go.Eng Go.Proofs
namespace Go.Proofs.Ythmlkdflhnjhcaa

theorem ofU {z : Int} (h0 : 0 ≤ z) (h1 : z < 18446744073709551616) : (BitVec.ofInt IntKind.u64.bits z).toNat = z.toNat := by
  rw [BitVec.toNat_ofInt]
  have : (((2 : Nat) ^ IntKind.u64.bits : Nat) : Int) = 18446744073709551616 := by decide
  rw [this]; omega
theorem bitU {z : Int} (h0 : 0 ≤ z) (h1 : z < 18446744073709551616) : IntKind.u64.wrap (↑(BitVec.ofInt IntKind.u64.bits z &&& BitVec.ofInt IntKind.u64.bits 1).toNat : Int) = z % 2 := by
  have e : (BitVec.ofInt IntKind.u64.bits z &&& BitVec.ofInt IntKind.u64.bits 1).toNat = z.toNat % 2 := by
    rw [BitVec.toNat_and, ofU h0 h1, ofU (by omega) (by omega)]
    exact Nat.and_two_pow_sub_one_eq_mod _ 1
  rw [e, wrap_u64]
  unfold wrapU; omega
theorem shrU {z : Int} {k : Nat} (h0 : 0 ≤ z) (hk : k ≤ 64) : z.fdiv (2 ^ Min.min k IntKind.u64.bits) = z / 2 ^ k := by
  have : Min.min k IntKind.u64.bits = k := by show min k 64 = k; omega
  rw [this]
  exact Int.fdiv_eq_ediv_of_nonneg _ (Int.le_of_lt (Int.pow_pos (by omega)))
def topB (k V : Nat) : Nat := 2 ^ k * (V / 2 ^ k)
theorem topB_step (k V : Nat) : topB k V = topB (k + 1) V + 2 ^ k * ((V / 2 ^ k) % 2) := by
  unfold topB
  rw [half_pow]
  generalize V / 2 ^ k = W
  have : W = 2 * (W / 2) + W % 2 := by omega
  conv => lhs; rw [this, Nat.mul_add, ← Nat.mul_assoc, ← Nat.pow_succ]
theorem topB_zero (V : Nat) : topB 0 V = V := by simp [topB]
theorem topB_le (k V : Nat) : topB k V ≤ V := by unfold topB; exact Nat.mul_div_le _ _
theorem topB_big {V : Nat} (h : V < 2 ^ 64) : topB 64 V = 0 := by unfold topB; rw [Nat.div_eq_of_lt h, Nat.mul_zero]
theorem orU {k V : Nat} (hk : k < 64) (hV : V < 2 ^ 64) : IntKind.u64.wrap (↑(BitVec.ofInt IntKind.u64.bits ((topB (k + 1) V : Nat) : Int) ||| BitVec.ofInt IntKind.u64.bits (IntKind.u64.wrap (1 * 2 ^ Min.min k IntKind.u64.bits))).toNat : Int) = ((topB (k + 1) V + 2 ^ k : Nat) : Int) := by
  have h2 : (2 : Nat) ^ 64 = 18446744073709551616 := by decide
  have p1 : 2 ^ k < 2 ^ 64 := Nat.pow_lt_pow_right (by omega) hk
  have p2 : 2 ^ k < 2 ^ (k + 1) := Nat.pow_lt_pow_right (by omega) (by omega)
  have tl := topB_le (k + 1) V
  have em : Min.min k IntKind.u64.bits = k := by show min k 64 = k; omega
  have ep : IntKind.u64.wrap (1 * 2 ^ Min.min k IntKind.u64.bits) = ((2 ^ k : Nat) : Int) := by
    rw [em, Int.one_mul, wrap_u64]
    have : ((2 : Int) ^ k) = ((2 ^ k : Nat) : Int) := by simp
    rw [this]; unfold wrapU; omega
  rw [ep]
  have eo : (BitVec.ofInt IntKind.u64.bits ((topB (k + 1) V : Nat) : Int) ||| BitVec.ofInt IntKind.u64.bits ((2 ^ k : Nat) : Int)).toNat = topB (k + 1) V + 2 ^ k := by
    rw [BitVec.toNat_or, ofU (by omega) (by omega), ofU (by omega) (by omega), Int.toNat_natCast, Int.toNat_natCast]
    unfold topB
    exact (Nat.two_pow_add_eq_or_of_lt p2 _).symm
  rw [eo, wrap_u64]
  have ts := topB_step k V
  have tk := topB_le k V
  have : topB (k + 1) V + 2 ^ k < 2 ^ 64 := by
    unfold topB at *
    generalize V / 2 ^ (k + 1) = q at *
    have hq : 2 ^ (k + 1) * q ≤ V := tl
    have hd : 2 ^ 64 = 2 ^ (k + 1) * 2 ^ (63 - k) := by rw [← Nat.pow_add]; congr 1; omega
    have hlt : q < 2 ^ (63 - k) := by
      rcases Nat.lt_or_ge q (2 ^ (63 - k)) with h | h
      · exact h
      · have := Nat.mul_le_mul_left (2 ^ (k + 1)) h
        omega
    have := Nat.mul_le_mul_left (2 ^ (k + 1)) (show q + 1 ≤ 2 ^ (63 - k) from hlt)
    rw [Nat.mul_add, Nat.mul_one] at this
    omega
  unfold wrapU; omega
end Go.Proofs.Ythmlkdflhnjhcaa
