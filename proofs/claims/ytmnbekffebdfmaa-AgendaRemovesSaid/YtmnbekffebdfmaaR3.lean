/- Contracts of course. Conditions: none. -/
import Derived.Test.YtmnbekffebdfmaaR2
import Derived.Test.YtmnbekffebdfmaaFx
import Derived.Test.YtmnbekffebdfmaaVgBase
import Derived.Test.YtmnbekffebdfmaaFs
set_option linter.unusedVariables false
set_option maxRecDepth 100000
open Go Go.Eng Go.Proofs
namespace Go.Proofs.Ytmnbekffebdfmaa

theorem add64 {H : Hp} {x y : Int} (hx : 0 ≤ x) (hy : 0 ≤ y) : OpQ Try.prog (callFunc F.math_bits_Add64 #[.int .u64 x, .int .u64 y, .int .u64 0]) H (.tuple #[.int .u64 ((x + y) % 18446744073709551616), .int .u64 ((x + y) / 18446744073709551616)]) := by
  intro w _
  rw [run_callFunc_extern func_Add64 (by kernel_rfl) (by kernel_rfl) (by kernel_rfl) (e := add64Entry) (by kernel_rfl), run_add64 x y 0 hx hy (by omega) (by omega)]
  simp only [Result.andThen, Int.add_zero]

theorem mul_wrap {a b : Int} (ha : inI a) (hb : inI b) : wrapU a * wrapU b = a * b + 18446744073709551616 * ((if a < 0 then b else 0) + (if b < 0 then a else 0) + (if a < 0 ∧ b < 0 then 18446744073709551616 else 0)) := by
  obtain ⟨a1, a2⟩ := ha
  obtain ⟨b1, b2⟩ := hb
  have ea : wrapU a = a + (if a < 0 then 18446744073709551616 else 0) := by unfold wrapU; split <;> omega
  have eb : wrapU b = b + (if b < 0 then 18446744073709551616 else 0) := by unfold wrapU; split <;> omega
  rw [ea, eb, Int.add_mul, Int.mul_add, Int.mul_add]
  generalize a * b = P
  by_cases ha : a < 0 <;> by_cases hb : b < 0 <;> simp only [ha, hb, if_true, if_false, and_self, and_true, and_false] <;> omega

/-- One round of the sum: the parts of what was before, and a product. -/
theorem sumStep {a b hi lo V : Int} (ha : inI a) (hb : inI b) (hab : absI (a * b) ≤ 19342813113834066795298816) (hV : hi * 18446744073709551616 + lo = V) (l0 : 0 ≤ lo) (l1 : lo < 18446744073709551616) (hVa : absI V ≤ 19342813113834066795298816) {k : Int}
    (hk : k = (wrapU a * wrapU b / 18446744073709551616) - (if a < 0 then b else 0) - (if b < 0 then a else 0)) :
    ∀ x : Int, x % 18446744073709551616 = (hi + k + (lo + wrapU a * wrapU b % 18446744073709551616) / 18446744073709551616) % 18446744073709551616 → -9223372036854775808 ≤ x → x ≤ 9223372036854775807 →
      x * 18446744073709551616 + (lo + wrapU a * wrapU b % 18446744073709551616) % 18446744073709551616 = V + a * b := by
  intro x hx x0 x1
  rw [mul_wrap ha hb] at hk hx ⊢
  have b1 := absB ha; have b2 := absB hb
  unfold absI at hab hVa
  generalize a * b = P at *
  obtain ⟨a1, a2⟩ := ha
  obtain ⟨c1, c2⟩ := hb
  split at hab <;> split at hVa <;> (by_cases h1 : a < 0 <;> by_cases h2 : b < 0 <;> simp only [h1, h2, if_true, if_false, and_self, and_true, and_false] at hk hx ⊢ <;> omega)

theorem courseSum {H : Hp} {a b c d : Int} (ha : inI a) (hb : inI b) (hc : inI c) (hd : inI d) (hab : absI (a * b) ≤ 19342813113834066795298816) (hcd : absI (c * d) ≤ 19342813113834066795298816) :
    ∃ hi lo, Qf Try.prog F.course_sum #[.agg #[.int .i64 a, .int .i64 b, .int .i64 c, .int .i64 d]] H (.agg #[.int .i64 hi, .int .u64 lo]) ∧ hi * 18446744073709551616 + lo = a * b + c * d ∧ 0 ≤ lo ∧ lo < 18446744073709551616 := by
  have hW : ∀ z : Int, 0 ≤ wrapU z ∧ wrapU z < 18446744073709551616 := fun z => by unfold wrapU; omega
  -- the two rounds
  let H1 : Int := IntKind.i64.wrap (0 + (wrapU a * wrapU b / 18446744073709551616 - (if a < 0 then b else 0) - (if b < 0 then a else 0)) + (0 + wrapU a * wrapU b % 18446744073709551616) / 18446744073709551616)
  let L1 : Int := (0 + wrapU a * wrapU b % 18446744073709551616) % 18446744073709551616
  let H2 : Int := IntKind.i64.wrap (H1 + (wrapU c * wrapU d / 18446744073709551616 - (if c < 0 then d else 0) - (if d < 0 then c else 0)) + (L1 + wrapU c * wrapU d % 18446744073709551616) / 18446744073709551616)
  let L2 : Int := (L1 + wrapU c * wrapU d % 18446744073709551616) % 18446744073709551616
  have wr : ∀ z : Int, IntKind.i64.wrap z % 18446744073709551616 = z % 18446744073709551616 ∧ -9223372036854775808 ≤ IntKind.i64.wrap z ∧ IntKind.i64.wrap z ≤ 9223372036854775807 := fun z => by rw [i64w]; omega
  have wcong : ∀ y z : Int, y % 18446744073709551616 = z % 18446744073709551616 → IntKind.i64.wrap y = IntKind.i64.wrap z := fun y z h => by rw [i64w, i64w]; omega
  have s1 : H1 * 18446744073709551616 + L1 = a * b := by
    have := sumStep ha hb hab (hi := 0) (lo := 0) (V := 0) (by omega) (by omega) (by omega) (by unfold absI; simp) rfl H1 (wr _).1 (wr _).2.1 (wr _).2.2
    rw [Int.zero_add (a * b)] at this
    exact this
  have l1a : 0 ≤ L1 ∧ L1 < 18446744073709551616 := by
    show 0 ≤ (0 + wrapU a * wrapU b % 18446744073709551616) % 18446744073709551616 ∧ (0 + wrapU a * wrapU b % 18446744073709551616) % 18446744073709551616 < _
    generalize wrapU a * wrapU b = P
    omega
  have s2 : H2 * 18446744073709551616 + L2 = a * b + c * d :=
    sumStep hc hd hcd s1 l1a.1 l1a.2 hab rfl H2 (wr _).1 (wr _).2.1 (wr _).2.2
  have l2a : 0 ≤ L2 ∧ L2 < 18446744073709551616 := by
    show 0 ≤ (L1 + wrapU c * wrapU d % 18446744073709551616) % 18446744073709551616 ∧ (L1 + wrapU c * wrapU d % 18446744073709551616) % 18446744073709551616 < _
    generalize wrapU c * wrapU d = P
    omega
  refine ⟨H2, L2, ?_, s2, l2a.1, l2a.2⟩
  refine course_sum_vc ⟨fun i h l H' => H' = H ∧ ((i = 0 ∧ h = 0 ∧ l = 0) ∨ (i = 1 ∧ h = H1 ∧ l = L1) ∨ (i = 2 ∧ h = H2 ∧ l = L2)), fun i _ _ _ => (2 - i).toNat, ⟨rfl, .inl ⟨rfl, rfl, rfl⟩⟩, fun i h l H' ⟨e, hi⟩ => ⟨fun hn => ?_, fun hn => ?_⟩⟩
  · subst e
    have hn : i < 2 := by simpa using hn
    have step : ∀ (x y : Int), 0 ≤ l → (∀ h' l', h' = IntKind.i64.wrap (h + (wrapU x * wrapU y / 18446744073709551616 - (if x < 0 then y else 0) - (if y < 0 then x else 0)) + (l + wrapU x * wrapU y % 18446744073709551616) / 18446744073709551616) →
          l' = (l + wrapU x * wrapU y % 18446744073709551616) % 18446744073709551616 → ((H' = H' ∧ ((IntKind.i64.wrap (i + 1) = 0 ∧ h' = 0 ∧ l' = 0) ∨ (IntKind.i64.wrap (i + 1) = 1 ∧ h' = H1 ∧ l' = L1) ∨ (IntKind.i64.wrap (i + 1) = 2 ∧ h' = H2 ∧ l' = L2))) ∧ (2 - IntKind.i64.wrap (i + 1)).toNat < (2 - i).toNat)) →
        ∃ n9 n10, Qf Try.prog F.math_bits_Mul64 #[.int .u64 (wrapU x), .int .u64 (wrapU y)] H' (.tuple #[.int .u64 n9, .int .u64 n10]) ∧
         ((decide (x < 0) = true → (decide (y < 0) = true → ∃ n11 n12, OpQ Try.prog (callFunc F.math_bits_Add64 #[.int .u64 l, .int .u64 n10, .int .u64 0]) H' (.tuple #[.int .u64 n11, .int .u64 n12]) ∧
            (H' = H' ∧ ((IntKind.i64.wrap (i + 1) = 0 ∧ IntKind.i64.wrap (IntKind.i64.wrap (h + IntKind.i64.wrap (IntKind.i64.wrap (IntKind.i64.wrap n9 - y) - x)) + IntKind.i64.wrap n12) = 0 ∧ n11 = 0) ∨ (IntKind.i64.wrap (i + 1) = 1 ∧ IntKind.i64.wrap (IntKind.i64.wrap (h + IntKind.i64.wrap (IntKind.i64.wrap (IntKind.i64.wrap n9 - y) - x)) + IntKind.i64.wrap n12) = H1 ∧ n11 = L1) ∨ (IntKind.i64.wrap (i + 1) = 2 ∧ IntKind.i64.wrap (IntKind.i64.wrap (h + IntKind.i64.wrap (IntKind.i64.wrap (IntKind.i64.wrap n9 - y) - x)) + IntKind.i64.wrap n12) = H2 ∧ n11 = L2))) ∧ (2 - IntKind.i64.wrap (i + 1)).toNat < (2 - i).toNat) ∧
          (decide (y < 0) = false → ∃ n11 n12, OpQ Try.prog (callFunc F.math_bits_Add64 #[.int .u64 l, .int .u64 n10, .int .u64 0]) H' (.tuple #[.int .u64 n11, .int .u64 n12]) ∧
            (H' = H' ∧ ((IntKind.i64.wrap (i + 1) = 0 ∧ IntKind.i64.wrap (IntKind.i64.wrap (h + IntKind.i64.wrap (IntKind.i64.wrap n9 - y)) + IntKind.i64.wrap n12) = 0 ∧ n11 = 0) ∨ (IntKind.i64.wrap (i + 1) = 1 ∧ IntKind.i64.wrap (IntKind.i64.wrap (h + IntKind.i64.wrap (IntKind.i64.wrap n9 - y)) + IntKind.i64.wrap n12) = H1 ∧ n11 = L1) ∨ (IntKind.i64.wrap (i + 1) = 2 ∧ IntKind.i64.wrap (IntKind.i64.wrap (h + IntKind.i64.wrap (IntKind.i64.wrap n9 - y)) + IntKind.i64.wrap n12) = H2 ∧ n11 = L2))) ∧ (2 - IntKind.i64.wrap (i + 1)).toNat < (2 - i).toNat)) ∧
         (decide (x < 0) = false → (decide (y < 0) = true → ∃ n11 n12, OpQ Try.prog (callFunc F.math_bits_Add64 #[.int .u64 l, .int .u64 n10, .int .u64 0]) H' (.tuple #[.int .u64 n11, .int .u64 n12]) ∧
            (H' = H' ∧ ((IntKind.i64.wrap (i + 1) = 0 ∧ IntKind.i64.wrap (IntKind.i64.wrap (h + IntKind.i64.wrap (IntKind.i64.wrap n9 - x)) + IntKind.i64.wrap n12) = 0 ∧ n11 = 0) ∨ (IntKind.i64.wrap (i + 1) = 1 ∧ IntKind.i64.wrap (IntKind.i64.wrap (h + IntKind.i64.wrap (IntKind.i64.wrap n9 - x)) + IntKind.i64.wrap n12) = H1 ∧ n11 = L1) ∨ (IntKind.i64.wrap (i + 1) = 2 ∧ IntKind.i64.wrap (IntKind.i64.wrap (h + IntKind.i64.wrap (IntKind.i64.wrap n9 - x)) + IntKind.i64.wrap n12) = H2 ∧ n11 = L2))) ∧ (2 - IntKind.i64.wrap (i + 1)).toNat < (2 - i).toNat) ∧
          (decide (y < 0) = false → ∃ n11 n12, OpQ Try.prog (callFunc F.math_bits_Add64 #[.int .u64 l, .int .u64 n10, .int .u64 0]) H' (.tuple #[.int .u64 n11, .int .u64 n12]) ∧
            (H' = H' ∧ ((IntKind.i64.wrap (i + 1) = 0 ∧ IntKind.i64.wrap (IntKind.i64.wrap (h + IntKind.i64.wrap n9) + IntKind.i64.wrap n12) = 0 ∧ n11 = 0) ∨ (IntKind.i64.wrap (i + 1) = 1 ∧ IntKind.i64.wrap (IntKind.i64.wrap (h + IntKind.i64.wrap n9) + IntKind.i64.wrap n12) = H1 ∧ n11 = L1) ∨ (IntKind.i64.wrap (i + 1) = 2 ∧ IntKind.i64.wrap (IntKind.i64.wrap (h + IntKind.i64.wrap n9) + IntKind.i64.wrap n12) = H2 ∧ n11 = L2))) ∧ (2 - IntKind.i64.wrap (i + 1)).toNat < (2 - i).toNat))) := by
      intro x y hl0 hgo
      have hp : 0 ≤ wrapU x * wrapU y % 18446744073709551616 := by generalize wrapU x * wrapU y = P; omega
      refine ⟨_, _, mul64 (hW x).1 (hW x).2 (hW y).1 (hW y).2, fun hx => ⟨fun hy => ⟨_, _, add64 hl0 hp, hgo _ _ (wcong _ _ ?_) rfl⟩, fun hy => ⟨_, _, add64 hl0 hp, hgo _ _ (wcong _ _ ?_) rfl⟩⟩, fun hx => ⟨fun hy => ⟨_, _, add64 hl0 hp, hgo _ _ (wcong _ _ ?_) rfl⟩, fun hy => ⟨_, _, add64 hl0 hp, hgo _ _ (wcong _ _ ?_) rfl⟩⟩⟩
      all_goals
        simp only [decide_eq_true_eq, decide_eq_false_iff_not] at hx hy
        simp only [hx, hy, if_true, if_false, i64w]
        generalize wrapU x * wrapU y = P
        omega
    have e1 : IntKind.i64.wrap (0 + 1) = 1 := by decide
    have e2 : IntKind.i64.wrap (1 + 1) = 2 := by decide
    rcases hi with ⟨rfl, rfl, rfl⟩ | ⟨rfl, rfl, rfl⟩ | ⟨rfl, _, _⟩
    · refine ⟨a, b, ⟨by omega, by omega, rfl, rfl⟩, ?_⟩
      exact step a b (by omega) fun h' l' eh el => ⟨⟨rfl, .inr (.inl ⟨e1, eh, el⟩)⟩, by rw [e1]; decide⟩
    · refine ⟨c, d, ⟨by omega, by omega, rfl, rfl⟩, ?_⟩
      exact step c d l1a.1 fun h' l' eh el => ⟨⟨rfl, .inr (.inr ⟨e2, eh, el⟩)⟩, by rw [e2]; decide⟩
    · omega
  · subst e
    have hn : ¬ i < 2 := by simpa using hn
    rcases hi with ⟨rfl, _, _⟩ | ⟨rfl, _, _⟩ | ⟨_, rfl, rfl⟩
    · omega
    · omega
    · exact ⟨rfl, Hp.le_refl _⟩
end Go.Proofs.Ytmnbekffebdfmaa
