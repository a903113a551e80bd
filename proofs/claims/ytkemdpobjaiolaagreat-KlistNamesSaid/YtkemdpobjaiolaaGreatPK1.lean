/- The engine, parts K1, K2, K3, K4, put together. Conditions: none. -/
import Derived.Test.YtkemdpobjaiolaaGreatP4
import Derived.Test.YtkemdpobjaiolaaGreatVgBase
import Derived.Test.YtkemdpobjaiolaaGreatVgGaps
import Derived.Test.YtkemdpobjaiolaaGreatFs
set_option linter.unusedVariables false
section
/- Gaps and fractions: building, making. Conditions: none. -/
set_option maxRecDepth 100000
open Go Go.Eng Go.Proofs
namespace Go.Proofs.YtkemdpobjaiolaaGreat

/-- A fraction with a sign, if it has a place. -/
def buildM (c : Bool) (N D : Int) : (Int × Int) × Int := if 9223372036854775807 < N ∨ 9223372036854775807 < D then ((0, 0), 16) else ((if c = true then 0 - N else N, D), 0)
theorem buildM_sign {c d : Bool} {N D : Int} (h : N ≠ 0 → c = d) : buildM c N D = buildM d N D := by
  unfold buildM
  split
  · rfl
  · by_cases e : N = 0
    · subst e; cases c <;> cases d <;> rfl
    · rw [h e]
theorem i64s {n : Int} (h0 : 0 ≤ n) (h1 : n ≤ 9223372036854775807) : IntKind.i64.wrap n = n := by rw [i64w]; omega

theorem ratioBuild {H : Hp} {c : Bool} {N D : Int} (hN : 0 ≤ N) (hD : 0 ≤ D) :
    Qf Tryz.prog F.ratio_build #[.agg #[.bool c, .int .u64 (N / 18446744073709551616), .int .u64 (N % 18446744073709551616)], .int .u64 (D / 18446744073709551616), .int .u64 (D % 18446744073709551616)] H
      (.tuple #[.agg #[.int .i64 (buildM c N D).1.1, .int .i64 (buildM c N D).1.2], .int .i64 (buildM c N D).2]) := by
  refine ratio_build_vc ⟨fun hc => ?_, fun hc => ?_⟩
  · simp only [Bool.or_eq_true, decide_eq_true_eq] at hc
    unfold buildM
    rw [if_pos (by omega)]
    exact ⟨rfl, Hp.le_refl _⟩
  · simp only [Bool.or_eq_false_iff, decide_eq_false_iff_not] at hc
    unfold buildM
    rw [if_neg (by omega), i64s (by omega) (by omega), i64s (by omega) (by omega), show N % 18446744073709551616 = N by omega, show D % 18446744073709551616 = D by omega]
    exact ⟨fun h => ⟨by unfold inI; omega, by subst h; exact ⟨rfl, Hp.le_refl _⟩⟩, fun h => by subst h; exact ⟨rfl, Hp.le_refl _⟩⟩
/-- A gap: High, Low, A, B. -/
structure Gp where
  hi : Int
  lo : Int
  a : Int
  b : Int
def okGp (g : Gp) : Prop := 0 ≤ g.hi ∧ g.hi ≤ 65535 ∧ 0 ≤ g.lo ∧ g.lo ≤ 65535 ∧ g.hi ≠ g.lo ∧ -2097152 ≤ g.a ∧ g.a ≤ 2097152 ∧ -2097152 ≤ g.b ∧ g.b ≤ 2097152
instance (g : Gp) : Decidable (okGp g) := by unfold okGp; infer_instance
end Go.Proofs.YtkemdpobjaiolaaGreat
end
section
/- Fractions: Make, Mul. Conditions: none. -/
set_option maxRecDepth 100000
open Go Go.Eng Go.Proofs
namespace Go.Proofs.YtkemdpobjaiolaaGreat

def gcdA (a b : Int) : Int := (Nat.gcd (absI a).toNat (absI b).toNat : Nat)
def makeM (n d : Int) : (Int × Int) × Int := if d = 0 then ((0, 0), 26) else buildM (!(decide (n < 0) == decide (d < 0))) (absI n / gcdA n d) (absI d / gcdA n d)

theorem abs_pos {d : Int} (h : d ≠ 0) : 0 < absI d := by unfold absI; split <;> omega
theorem gcdA_pos {n d : Int} (h : d ≠ 0) : 0 < gcdA n d := by
  unfold gcdA
  have := abs_pos h
  have : 0 < Nat.gcd (absI n).toNat (absI d).toNat := Nat.gcd_pos_of_pos_right _ (by omega)
  omega
theorem divU {x g : Int} (h0 : 0 ≤ x) (h1 : x ≤ 9223372036854775808) (hg : 0 < g) : wrapU (x.tdiv g) = x / g ∧ 0 ≤ x / g ∧ x / g ≤ 9223372036854775808 := by
  have e : x.tdiv g = x / g := Int.tdiv_eq_ediv_of_nonneg h0
  have p : 0 ≤ x / g := Int.ediv_nonneg h0 (by omega)
  have q : x / g ≤ x := Int.ediv_le_self _ h0
  refine ⟨?_, p, by omega⟩
  rw [e]; unfold wrapU; omega

theorem ratioMake {H : Hp} {n d : Int} (hn : inI n) (hd : inI d) : Qf Tryz.prog F.ratio_Make #[.int .i64 n, .int .i64 d] H (.tuple #[.agg #[.int .i64 (makeM n d).1.1, .int .i64 (makeM n d).1.2], .int .i64 (makeM n d).2]) := by
  have an := absB hn; have ad := absB hd
  refine ratio_Make_vc ⟨fun h => ?_, fun h => ?_⟩
  · have h : d = 0 := by simpa using h
    unfold makeM; rw [if_pos h]; exact ⟨rfl, Hp.le_refl _⟩
  · have h : d ≠ 0 := by simpa using h
    have gp := gcdA_pos (n := n) h
    obtain ⟨u1, u2, u3⟩ := divU an.1 an.2 gp
    obtain ⟨w1, w2, w3⟩ := divU ad.1 ad.2 gp
    have rb := ratioBuild (H := H) (c := !(decide (n < 0) == decide (d < 0))) (N := absI n / gcdA n d) (D := absI d / gcdA n d) u2 w2
    rw [show absI n / gcdA n d / 18446744073709551616 = 0 by omega, show absI n / gcdA n d % 18446744073709551616 = absI n / gcdA n d by omega, show absI d / gcdA n d / 18446744073709551616 = 0 by omega, show absI d / gcdA n d % 18446744073709551616 = absI d / gcdA n d by omega] at rb
    refine ⟨_, ratioAbs hn, _, ratioAbs hd, gcdA n d, ratioGcd an.1 ad.1, _, ratioAbs hn, by unfold nz; omega, _, ratioAbs hd, by unfold nz; omega, ?_⟩
    rw [u1, w1]
    refine ⟨_, _, _, rb, ?_, Hp.le_refl _⟩
    unfold makeM; rw [if_neg h]
end Go.Proofs.YtkemdpobjaiolaaGreat
end
section
/- Fractions: Mul. Conditions: none. -/
set_option maxRecDepth 100000
open Go Go.Eng Go.Proofs
namespace Go.Proofs.YtkemdpobjaiolaaGreat

end Go.Proofs.YtkemdpobjaiolaaGreat
end
section
/- Gaps: what is asked of a gap and a time. Conditions: none. -/
set_option maxRecDepth 100000
open Go Go.Eng Go.Proofs
namespace Go.Proofs.YtkemdpobjaiolaaGreat

end Go.Proofs.YtkemdpobjaiolaaGreat
end
