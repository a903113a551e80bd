/- Sums of 128 bits with a sign. Conditions: none. -/
import Derived.Test.YthmlkdflhnjhcaaK6
import Derived.Test.YthmlkdflhnjhcaaFx
import Derived.Laws.Externs
import Derived.Shelf.Spec.BitsCarry
import Derived.Test.YthmlkdflhnjhcaaVgBase
import Derived.Test.YthmlkdflhnjhcaaFs
set_option linter.unusedVariables false
set_option maxRecDepth 100000
open Go Go.Eng Go.Proofs
namespace Go.Proofs.Ythmlkdflhnjhcaa

theorem add64c {H : Hp} {x y c : Int} (hx : 0 ≤ x) (hy : 0 ≤ y) (hc : 0 ≤ c) (hc' : c ≤ 1) : OpQ Try.prog (callFunc F.math_bits_Add64 #[.int .u64 x, .int .u64 y, .int .u64 c]) H (.tuple #[.int .u64 ((x + y + c) % 18446744073709551616), .int .u64 ((x + y + c) / 18446744073709551616)]) := by
  intro w _
  rw [run_callFunc_extern func_Add64 (by kernel_rfl) (by kernel_rfl) (by kernel_rfl) (e := add64Entry) (by kernel_rfl), run_add64 x y c hx hy hc hc']
  simp only [Result.andThen]

theorem sub64c {H : Hp} {x y b : Int} (hx : 0 ≤ x) (hy : 0 ≤ y) (hy' : y < 18446744073709551616) (hb : 0 ≤ b) (hb' : b ≤ 1) : OpQ Try.prog (callFunc F.math_bits_Sub64 #[.int .u64 x, .int .u64 y, .int .u64 b]) H (.tuple #[.int .u64 ((x - y - b) % 18446744073709551616), .int .u64 (if x < y + b then 1 else 0)]) := by
  intro w _
  obtain ⟨x, rfl⟩ := Int.eq_ofNat_of_zero_le hx
  obtain ⟨y, rfl⟩ := Int.eq_ofNat_of_zero_le hy
  obtain ⟨b, rfl⟩ := Int.eq_ofNat_of_zero_le hb
  rw [run_callFunc_extern func_Sub64 (by kernel_rfl) (by kernel_rfl) (by kernel_rfl) (e := sub64Entry) (by kernel_rfl), run_sub64 x y b (by omega)]
  simp only [Result.andThen]
  have e1 : (((x + 18446744073709551616 - y - b) % 18446744073709551616 : Nat) : Int) = ((x : Int) - y - b) % 18446744073709551616 := by omega
  have e2 : ((if x < y + b then 1 else 0 : Nat) : Int) = if (x : Int) < (y : Int) + b then 1 else 0 := by
    by_cases h : x < y + b
    · rw [if_pos h, if_pos (by omega)]; rfl
    · rw [if_neg h, if_neg (by omega)]; rfl
  rw [e1, e2]

def plusM (c d : Bool) (N M : Int) : Bool × Int := if c = d then (c, N + M) else if N < M then (d, M - N) else (c, N - M)
theorem cmpI_lt' {x y : Int} : cmpI x y < 0 ↔ x < y := cmpI_lt
theorem ratioPlus {H : Hp} {c d : Bool} {N M : Int} (hN : 0 ≤ N) (hN' : N < 170141183460469231731687303715884105728) (hM : 0 ≤ M) (hM' : M < 170141183460469231731687303715884105728) :
    Qf Try.prog F.ratio_plus #[.agg #[.bool c, .int .u64 (N / 18446744073709551616), .int .u64 (N % 18446744073709551616)], .agg #[.bool d, .int .u64 (M / 18446744073709551616), .int .u64 (M % 18446744073709551616)]] H
      (.agg #[.bool (plusM c d N M).1, .int .u64 ((plusM c d N M).2 / 18446744073709551616), .int .u64 ((plusM c d N M).2 % 18446744073709551616)]) := by
  have n0 : 0 ≤ N / 18446744073709551616 := by omega
  have m0 : 0 ≤ M / 18446744073709551616 := by omega
  have n1 : 0 ≤ N % 18446744073709551616 := by omega
  have m1 : 0 ≤ M % 18446744073709551616 := by omega
  refine ratio_plus_vc ⟨fun h => ?_, fun h => ?_⟩
  · have h : c = d := by simpa using h
    refine ⟨_, _, add64c n1 m1 (by omega) (by omega), _, _, add64c n0 m0 (by omega) (by omega), ?_, Hp.le_refl _⟩
    unfold plusM; rw [if_pos h]
    have e1 : (N / 18446744073709551616 + M / 18446744073709551616 + (N % 18446744073709551616 + M % 18446744073709551616 + 0) / 18446744073709551616) % 18446744073709551616 = (N + M) / 18446744073709551616 := by omega
    have e2 : (N % 18446744073709551616 + M % 18446744073709551616 + 0) % 18446744073709551616 = (N + M) % 18446744073709551616 := by omega
    rw [e1, e2]
  · have h : ¬ c = d := by simpa using h
    refine ⟨_, ratioCompare hN hM, fun hc => ?_, fun hc => ?_⟩
    · have hc : N < M := cmpI_lt.1 (by simpa using hc)
      refine ⟨_, _, sub64c m1 n1 (by omega) (by omega) (by omega), _, _, sub64c m0 n0 (by omega) (by split <;> omega) (by split <;> omega), ?_, Hp.le_refl _⟩
      unfold plusM; rw [if_neg h, if_pos hc]
      have e1 : (M / 18446744073709551616 - N / 18446744073709551616 - (if M % 18446744073709551616 < N % 18446744073709551616 + 0 then 1 else 0)) % 18446744073709551616 = (M - N) / 18446744073709551616 := by split <;> omega
      have e2 : (M % 18446744073709551616 - N % 18446744073709551616 - 0) % 18446744073709551616 = (M - N) % 18446744073709551616 := by omega
      rw [e1, e2]
    · have hc : ¬ N < M := fun x => by have := cmpI_lt.2 x; simp at hc; omega
      refine ⟨_, _, sub64c n1 m1 (by omega) (by omega) (by omega), _, _, sub64c n0 m0 (by omega) (by split <;> omega) (by split <;> omega), ?_, Hp.le_refl _⟩
      unfold plusM; rw [if_neg h, if_neg hc]
      have e1 : (N / 18446744073709551616 - M / 18446744073709551616 - (if N % 18446744073709551616 < M % 18446744073709551616 + 0 then 1 else 0)) % 18446744073709551616 = (N - M) / 18446744073709551616 := by split <;> omega
      have e2 : (N % 18446744073709551616 - M % 18446744073709551616 - 0) % 18446744073709551616 = (N - M) % 18446744073709551616 := by omega
      rw [e1, e2]
end Go.Proofs.Ythmlkdflhnjhcaa
