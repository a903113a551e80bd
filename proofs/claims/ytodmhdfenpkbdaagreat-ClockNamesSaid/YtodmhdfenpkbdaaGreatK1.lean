/- Gaps and fractions: building, making. Conditions: none. -/
import Derived.Test.YtodmhdfenpkbdaaGreatP4
import Derived.Test.YtodmhdfenpkbdaaGreatVgBase
import Derived.Test.YtodmhdfenpkbdaaGreatVgGaps
import Derived.Test.YtodmhdfenpkbdaaGreatFs
set_option linter.unusedVariables false
set_option maxRecDepth 100000
open Go Go.Eng Go.Proofs
namespace Go.Proofs.YtodmhdfenpkbdaaGreat

/-- A fraction with a sign, if it has a place. -/
def buildM (c : Bool) (N D : Int) : (Int × Int) × Int := if 9223372036854775807 < N ∨ 9223372036854775807 < D then ((0, 0), 16) else ((if c = true then 0 - N else N, D), 0)
theorem buildM_sign {c d : Bool} {N D : Int} (h : N ≠ 0 → c = d) : buildM c N D = buildM d N D := by
  unfold buildM
  split
  · rfl
  · by_cases e : N = 0
    · subst e; cases c <;> cases d <;> rfl
    · rw [h e]
theorem i64s {n : Int} (h0 : 0 ≤ n) (h1 : n ≤ 9223372036854775807) : IntKind.i64.wrap n = n := by rw [i64w]; omega

theorem ratioBuild {H : Hp} {c : Bool} {N D : Int} (hN : 0 ≤ N) (hD : 0 ≤ D) :
    Qf Tryz.prog F.ratio_build #[.agg #[.bool c, .int .u64 (N / 18446744073709551616), .int .u64 (N % 18446744073709551616)], .int .u64 (D / 18446744073709551616), .int .u64 (D % 18446744073709551616)] H
      (.tuple #[.agg #[.int .i64 (buildM c N D).1.1, .int .i64 (buildM c N D).1.2], .int .i64 (buildM c N D).2]) := by
  refine ratio_build_vc ⟨fun hc => ?_, fun hc => ?_⟩
  · simp only [Bool.or_eq_true, decide_eq_true_eq] at hc
    unfold buildM
    rw [if_pos (by omega)]
    exact ⟨rfl, Hp.le_refl _⟩
  · simp only [Bool.or_eq_false_iff, decide_eq_false_iff_not] at hc
    unfold buildM
    rw [if_neg (by omega), i64s (by omega) (by omega), i64s (by omega) (by omega), show N % 18446744073709551616 = N by omega, show D % 18446744073709551616 = D by omega]
    exact ⟨fun h => ⟨by unfold inI; omega, by subst h; exact ⟨rfl, Hp.le_refl _⟩⟩, fun h => by subst h; exact ⟨rfl, Hp.le_refl _⟩⟩
theorem refMade {H : Hp} {c c1 c2 : Bool} {N D : Int} (hN : 0 ≤ N) (hD : 0 ≤ D) :
    Qf Tryz.prog F.pelotonref01_made #[.bool c, .agg #[.bool c1, .int .u64 (N / 18446744073709551616), .int .u64 (N % 18446744073709551616)], .agg #[.bool c2, .int .u64 (D / 18446744073709551616), .int .u64 (D % 18446744073709551616)]] H
      (.tuple #[.agg #[.int .i64 (buildM c N D).1.1, .int .i64 (buildM c N D).1.2], .int .i64 (buildM c N D).2]) := by
  refine pelotonref01_made_vc ⟨fun hc => ?_, fun hc => ?_⟩
  · simp only [Bool.or_eq_true, decide_eq_true_eq] at hc
    unfold buildM
    rw [if_pos (by omega)]
    exact ⟨rfl, Hp.le_refl _⟩
  · simp only [Bool.or_eq_false_iff, decide_eq_false_iff_not] at hc
    unfold buildM
    rw [if_neg (by omega), i64s (by omega) (by omega), i64s (by omega) (by omega), show N % 18446744073709551616 = N by omega, show D % 18446744073709551616 = D by omega]
    exact ⟨fun h => ⟨by unfold inI; omega, by subst h; exact ⟨rfl, Hp.le_refl _⟩⟩, fun h => by subst h; exact ⟨rfl, Hp.le_refl _⟩⟩

/-- A gap: High, Low, A, B. -/
structure Gp where
  hi : Int
  lo : Int
  a : Int
  b : Int
def okGp (g : Gp) : Prop := 0 ≤ g.hi ∧ g.hi ≤ 65535 ∧ 0 ≤ g.lo ∧ g.lo ≤ 65535 ∧ g.hi ≠ g.lo ∧ -2097152 ≤ g.a ∧ g.a ≤ 2097152 ∧ -2097152 ≤ g.b ∧ g.b ≤ 2097152
instance (g : Gp) : Decidable (okGp g) := by unfold okGp; infer_instance
end Go.Proofs.YtodmhdfenpkbdaaGreat
