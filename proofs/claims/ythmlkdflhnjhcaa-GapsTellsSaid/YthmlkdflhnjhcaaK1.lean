/- Gaps and fractions: building, making. Conditions: none. -/
import Derived.Test.YthmlkdflhnjhcaaP4
import Derived.Test.YthmlkdflhnjhcaaVgBase
import Derived.Test.YthmlkdflhnjhcaaVgGaps
import Derived.Test.YthmlkdflhnjhcaaFs
set_option linter.unusedVariables false
set_option maxRecDepth 100000
open Go Go.Eng Go.Proofs
namespace Go.Proofs.Ythmlkdflhnjhcaa

/-- A fraction with a sign, if it has a place. -/
def buildM (c : Bool) (N D : Int) : (Int × Int) × Int := if 9223372036854775807 < N ∨ 9223372036854775807 < D then ((0, 0), 16) else ((if c = true then 0 - N else N, D), 0)
theorem buildM_sign {c d : Bool} {N D : Int} (h : N ≠ 0 → c = d) : buildM c N D = buildM d N D := by
  unfold buildM
  split
  · rfl
  · by_cases e : N = 0
    · subst e; cases c <;> cases d <;> rfl
    · rw [h e]
theorem i64s {n : Int} (h0 : 0 ≤ n) (h1 : n ≤ 9223372036854775807) : IntKind.i64.wrap n = n := by rw [i64w]; omega

theorem ratioBuild {H : Hp} {c : Bool} {N D : Int} (hN : 0 ≤ N) (hD : 0 ≤ D) :
    Qf Try.prog F.ratio_build #[.agg #[.bool c, .int .u64 (N / 18446744073709551616), .int .u64 (N % 18446744073709551616)], .int .u64 (D / 18446744073709551616), .int .u64 (D % 18446744073709551616)] H
      (.tuple #[.agg #[.int .i64 (buildM c N D).1.1, .int .i64 (buildM c N D).1.2], .int .i64 (buildM c N D).2]) := by
  refine ratio_build_vc ⟨fun hc => ?_, fun hc => ?_⟩
  · simp only [Bool.or_eq_true, decide_eq_true_eq] at hc
    unfold buildM
    rw [if_pos (by omega)]
    exact ⟨rfl, Hp.le_refl _⟩
  · simp only [Bool.or_eq_false_iff, decide_eq_false_iff_not] at hc
    unfold buildM
    rw [if_neg (by omega), i64s (by omega) (by omega), i64s (by omega) (by omega), show N % 18446744073709551616 = N by omega, show D % 18446744073709551616 = D by omega]
    exact ⟨fun h => ⟨by unfold inI; omega, by subst h; exact ⟨rfl, Hp.le_refl _⟩⟩, fun h => by subst h; exact ⟨rfl, Hp.le_refl _⟩⟩
theorem refMade {H : Hp} {c c1 c2 : Bool} {N D : Int} (hN : 0 ≤ N) (hD : 0 ≤ D) :
    Qf Try.prog F.pelotonref01_made #[.bool c, .agg #[.bool c1, .int .u64 (N / 18446744073709551616), .int .u64 (N % 18446744073709551616)], .agg #[.bool c2, .int .u64 (D / 18446744073709551616), .int .u64 (D % 18446744073709551616)]] H
      (.tuple #[.agg #[.int .i64 (buildM c N D).1.1, .int .i64 (buildM c N D).1.2], .int .i64 (buildM c N D).2]) := by
  refine pelotonref01_made_vc ⟨fun hc => ?_, fun hc => ?_⟩
  · simp only [Bool.or_eq_true, decide_eq_true_eq] at hc
    unfold buildM
    rw [if_pos (by omega)]
    exact ⟨rfl, Hp.le_refl _⟩
  · simp only [Bool.or_eq_false_iff, decide_eq_false_iff_not] at hc
    unfold buildM
    rw [if_neg (by omega), i64s (by omega) (by omega), i64s (by omega) (by omega), show N % 18446744073709551616 = N by omega, show D % 18446744073709551616 = D by omega]
    exact ⟨fun h => ⟨by unfold inI; omega, by subst h; exact ⟨rfl, Hp.le_refl _⟩⟩, fun h => by subst h; exact ⟨rfl, Hp.le_refl _⟩⟩

/-- A gap: High, Low, A, B. -/
structure Gp where
  hi : Int
  lo : Int
  a : Int
  b : Int
def okGp (g : Gp) : Prop := 0 ≤ g.hi ∧ g.hi ≤ 65535 ∧ 0 ≤ g.lo ∧ g.lo ≤ 65535 ∧ g.hi ≠ g.lo ∧ -2097152 ≤ g.a ∧ g.a ≤ 2097152 ∧ -2097152 ≤ g.b ∧ g.b ≤ 2097152
instance (g : Gp) : Decidable (okGp g) := by unfold okGp; infer_instance
def chkGp (g : Gp) : Int := if okGp g then 0 else 8
abbrev gpV (g : Gp) : Value := .agg #[.int .i64 g.hi, .int .i64 g.lo, .int .i64 g.a, .int .i64 g.b]
theorem chkGp_bad {g : Gp} (h : ¬ okGp g) : chkGp g = 8 := by unfold chkGp; rw [if_neg h]
theorem chkGp_ok {g : Gp} (h : okGp g) : chkGp g = 0 := by unfold chkGp; rw [if_pos h]

theorem refGapCheck {H : Hp} {g : Gp} : Qf Try.prog F.pelotonref27_Check #[gpV g] H (.int .i64 (chkGp g)) := by
  refine pelotonref27_Check_vc ⟨fun hc => ?_, fun hc => ?_⟩
  · simp only [Bool.or_eq_true, decide_eq_true_eq, beq_iff_eq] at hc
    rw [chkGp_bad (by unfold okGp; omega)]
    exact ⟨rfl, Hp.le_refl _⟩
  · simp only [Bool.or_eq_false_iff, decide_eq_false_iff_not, beq_eq_false_iff_ne, ne_eq] at hc
    rw [chkGp_ok (by unfold okGp; omega)]
    exact ⟨rfl, Hp.le_refl _⟩

/-- Two ints, one after the other. -/
theorem two_ix {n x y : Int} (h0 : 0 ≤ n) (h1 : n < 2) : okIx n 2 [.int .i64 x, .int .i64 y] 1 [.int .i64 (if n = 0 then x else y)] := by
  have : n = 0 ∨ n = 1 := by omega
  rcases this with rfl | rfl
  · exact ⟨by omega, by omega, rfl, rfl⟩
  · exact ⟨by omega, by omega, rfl, rfl⟩

theorem gapsCheck {H : Hp} {g : Gp} : Qf Try.prog F.gaps_Check #[gpV g] H (.int .i64 (chkGp g)) := by
  refine gaps_Check_vc (upto (N := 2) (J := fun n => (0 < n → 0 ≤ g.hi ∧ g.hi ≤ 65535) ∧ (1 < n → 0 ≤ g.lo ∧ g.lo ≤ 65535)) (by omega) ⟨fun h => by omega, fun h => by omega⟩ fun n n0 n1 ⟨j1, j2⟩ => ⟨fun hn => ?_, fun hn => ?_⟩)
  · have hn : n < 2 := by simpa using hn
    refine ⟨_, two_ix n0 hn, fun hb => ⟨?_, Hp.le_refl _⟩, fun hb => upto.nx n0 hn (by omega) ?_⟩
    · rw [chkGp_bad]
      intro ok
      unfold okGp at ok
      simp only [Bool.or_eq_true, decide_eq_true_eq] at hb
      split at hb <;> omega
    · simp only [Bool.or_eq_false_iff, decide_eq_false_iff_not] at hb
      split at hb
      · exact ⟨fun _ => by omega, fun h => by omega⟩
      · exact ⟨fun _ => j1 (by omega), fun _ => by omega⟩
  · have hn : ¬ n < 2 := by simpa using hn
    refine upto (N := 2) (J := fun n => (0 < n → -2097152 ≤ g.a ∧ g.a ≤ 2097152) ∧ (1 < n → -2097152 ≤ g.b ∧ g.b ≤ 2097152)) (by omega) ⟨fun h => by omega, fun h => by omega⟩ fun k k0 k1 ⟨i1, i2⟩ => ⟨fun hk => ?_, fun hk => ?_⟩
    · have hk : k < 2 := by simpa using hk
      refine ⟨_, two_ix k0 hk, fun hb => ⟨?_, Hp.le_refl _⟩, fun hb => upto.nx k0 hk (by omega) ?_⟩
      · rw [chkGp_bad]
        intro ok
        unfold okGp at ok
        simp only [Bool.or_eq_true, decide_eq_true_eq] at hb
        split at hb <;> omega
      · simp only [Bool.or_eq_false_iff, decide_eq_false_iff_not] at hb
        split at hb
        · exact ⟨fun _ => by omega, fun h => by omega⟩
        · exact ⟨fun _ => i1 (by omega), fun _ => by omega⟩
    · have hk : ¬ k < 2 := by simpa using hk
      have := j1 (by omega); have := j2 (by omega); have := i1 (by omega); have := i2 (by omega)
      refine ⟨fun h => ⟨?_, Hp.le_refl _⟩, fun h => ⟨?_, Hp.le_refl _⟩⟩
      · have h : g.hi = g.lo := by simpa using h
        rw [chkGp_bad (by unfold okGp; omega)]
      · have h : ¬ g.hi = g.lo := by simpa using h
        rw [chkGp_ok (by unfold okGp; omega)]
end Go.Proofs.Ythmlkdflhnjhcaa
