/- Fractions: Mul. Conditions: none. -/
import Derived.Test.YthmlkdflhnjhcaaK2
import Derived.Test.YthmlkdflhnjhcaaP4
import Derived.Test.YthmlkdflhnjhcaaVgBase
import Derived.Test.YthmlkdflhnjhcaaFs
set_option linter.unusedVariables false
set_option maxRecDepth 100000
open Go Go.Eng Go.Proofs
namespace Go.Proofs.Ythmlkdflhnjhcaa

theorem refBoth {H : Hp} {a b : Int × Int} (ha : fitR a) (hb : fitR b) : Qf Try.prog F.pelotonref01_Both #[.agg #[.int .i64 a.1, .int .i64 a.2], .agg #[.int .i64 b.1, .int .i64 b.2]] H (.int .i64 (if okR a ∧ okR b then 0 else 8)) := by
  refine pelotonref01_Both_vc ⟨_, refRCheck ha, fun hc => ?_, fun hc => ?_⟩
  · have h : ¬ okR a := fun ok => by rw [chkR_ok ok] at hc; simp at hc
    refine ⟨_, refRCheck ha, ?_, Hp.le_refl _⟩
    rw [chkR_bad h, if_neg fun x => h x.1]
  · have h : okR a := chkR_zero.1 (by simpa using hc)
    refine ⟨_, refRCheck hb, ?_, Hp.le_refl _⟩
    by_cases h2 : okR b
    · rw [chkR_ok h2, if_pos ⟨h, h2⟩]
    · rw [chkR_bad h2, if_neg fun x => h2 x.2]

theorem absI_tdiv {a g : Int} (hg : 0 < g) : absI (a.tdiv g) = absI a / g := by
  unfold absI
  by_cases h : a < 0
  · have e : a.tdiv g = -((-a) / g) := by
      have : a = -(-a) := by omega
      rw [this, Int.neg_tdiv, Int.tdiv_eq_ediv_of_nonneg (by omega : (0 : Int) ≤ -a)]; simp
    have p : 0 ≤ (-a) / g := Int.ediv_nonneg (by omega) (by omega)
    rw [if_pos h, e]
    split <;> omega
  · have e : a.tdiv g = a / g := Int.tdiv_eq_ediv_of_nonneg (by omega)
    have p : 0 ≤ a / g := Int.ediv_nonneg (by omega) (by omega)
    rw [if_neg h, e, if_neg (by omega)]
theorem tdiv_sign {a g : Int} (hg : 0 < g) (hz : a.tdiv g ≠ 0) : (a.tdiv g < 0 ↔ a < 0) ∧ a ≠ 0 := by
  by_cases h : a < 0
  · have e : a.tdiv g = -((-a) / g) := by
      have : a = -(-a) := by omega
      rw [this, Int.neg_tdiv, Int.tdiv_eq_ediv_of_nonneg (by omega : (0 : Int) ≤ -a)]; simp
    have p : 0 ≤ (-a) / g := Int.ediv_nonneg (by omega) (by omega)
    rw [e] at hz ⊢
    exact ⟨⟨fun _ => h, fun _ => by omega⟩, by omega⟩
  · have e : a.tdiv g = a / g := Int.tdiv_eq_ediv_of_nonneg (by omega)
    have p : 0 ≤ a / g := Int.ediv_nonneg (by omega) (by omega)
    rw [e] at hz ⊢
    exact ⟨⟨fun x => by omega, fun x => by omega⟩, fun e0 => hz (by rw [e0]; exact Int.zero_ediv _)⟩
theorem tdiv_in {a g : Int} (h1 : -9223372036854775807 ≤ a) (h2 : a ≤ 9223372036854775807) (hg : 0 < g) : inI (a.tdiv g) := by
  have := absI_tdiv (a := a) hg
  have p : 0 ≤ absI a := by unfold absI; split <;> omega
  have q : absI a / g ≤ absI a := Int.ediv_le_self _ p
  rw [← this] at q
  have r : absI a ≤ 9223372036854775807 := by unfold absI; split <;> omega
  unfold inI
  unfold absI at q r
  split at q <;> split at r <;> omega

def gA (a b : Int × Int) : Int := (Nat.gcd b.2.toNat (absI a.1).toNat : Nat)
def mulM (a b : Int × Int) : (Int × Int) × Int :=
  if okR a ∧ okR b then buildM (!(decide (a.1 < 0) == decide (b.1 < 0)) && a.1 != 0 && b.1 != 0) (absI (a.1.tdiv (gA a b) * b.1.tdiv (gA b a))) (a.2 / gA b a * (b.2 / gA a b)) else ((0, 0), 8)

theorem gA_pos {a b : Int × Int} (hb : okR b) : 0 < gA a b ∧ gA a b ≤ b.2 := by
  have := hb.d1
  unfold gA
  have h1 : 0 < Nat.gcd b.2.toNat (absI a.1).toNat := Nat.gcd_pos_of_pos_left _ (by omega)
  have h2 : Nat.gcd b.2.toNat (absI a.1).toNat ≤ b.2.toNat := Nat.gcd_le_left _ (by omega)
  omega
theorem pos_divU {d g : Int} (h1 : 1 ≤ d) (h2 : d ≤ 9223372036854775807) (hg : 0 < g) : d.tdiv g = d / g ∧ 0 ≤ d / g ∧ d / g ≤ 9223372036854775807 := by
  have q : d / g ≤ d := Int.ediv_le_self _ (by omega)
  exact ⟨Int.tdiv_eq_ediv_of_nonneg (by omega), Int.ediv_nonneg (by omega) (by omega), by omega⟩
theorem wrapUs {n : Int} (h0 : 0 ≤ n) (h1 : n < 18446744073709551616) : wrapU n = n := by unfold wrapU; omega

theorem ratioMul {H : Hp} {a b : Int × Int} (ha : fitR a) (hb : fitR b) : Qf Try.prog F.ratio_Mul #[.agg #[.int .i64 a.1, .int .i64 a.2], .agg #[.int .i64 b.1, .int .i64 b.2]] H (.tuple #[.agg #[.int .i64 (mulM a b).1.1, .int .i64 (mulM a b).1.2], .int .i64 (mulM a b).2]) := by
  refine ratio_Mul_vc ⟨_, ratioBoth ha hb, fun hc => ?_, fun hc => ?_⟩
  · have h : ¬ (okR a ∧ okR b) := fun x => by rw [if_pos x] at hc; simp at hc
    unfold mulM; rw [if_neg h, if_neg h]; exact ⟨rfl, Hp.le_refl _⟩
  · have h : okR a ∧ okR b := by
      by_cases x : okR a ∧ okR b
      · exact x
      · rw [if_neg x] at hc; simp at hc
    obtain ⟨oa, ob⟩ := h
    have ga := gA_pos (a := a) ob
    have gb := gA_pos (a := b) oa
    have an := absB ha.1; have bn := absB hb.1
    have d1 := oa.d1; have d2 := oa.d2; have d3 := ob.d1; have d4 := ob.d2
    rw [wrapUs (n := b.2) (by omega) (by omega), wrapUs (n := a.2) (by omega) (by omega)]
    refine ⟨_, ratioAbs ha.1, gA a b, ratioGcd (by omega) an.1, _, ratioAbs hb.1, gA b a, ratioGcd (by omega) bn.1, ?_⟩
    rw [i64s (n := gA a b) (by omega) (by omega), i64s (n := gA b a) (by omega) (by omega)]
    obtain ⟨e1, e2, e3⟩ := pos_divU d1 d2 gb.1
    obtain ⟨f1, f2, f3⟩ := pos_divU d3 d4 ga.1
    have i1 := tdiv_in oa.n1 oa.n2 ga.1
    have i2 := tdiv_in ob.n1 ob.n2 gb.1
    rw [e1, f1, wrapUs (n := a.2 / gA b a) e2 (by omega), wrapUs (n := b.2 / gA a b) f2 (by omega)]
    refine ⟨⟨by unfold nz; omega, by unfold inI; omega⟩, ⟨by unfold nz; omega, by unfold inI; omega⟩, _, _, mul64 e2 (by omega) f2 (by omega), ⟨by unfold nz; omega, i1⟩, ⟨by unfold nz; omega, i2⟩, _, _, _, ratioTimes i1 i2, _, _, _, ratioBuild (by rw [← absI_mul]; exact Int.mul_nonneg (absB i1).1 (absB i2).1) (Int.mul_nonneg e2 f2), ?_, Hp.le_refl _⟩
    have es : mulM a b = buildM (!(decide (a.1.tdiv (gA a b) < 0) == decide (b.1.tdiv (gA b a) < 0))) (absI (a.1.tdiv (gA a b) * b.1.tdiv (gA b a))) (a.2 / gA b a * (b.2 / gA a b)) := by
      unfold mulM; rw [if_pos ⟨oa, ob⟩]
      refine buildM_sign fun hN => ?_
      have hz : a.1.tdiv (gA a b) ≠ 0 ∧ b.1.tdiv (gA b a) ≠ 0 := by
        constructor
        · intro e; apply hN; rw [e, Int.zero_mul]; rfl
        · intro e; apply hN; rw [e, Int.mul_zero]; rfl
      obtain ⟨s1, s2⟩ := tdiv_sign ga.1 hz.1
      obtain ⟨s3, s4⟩ := tdiv_sign gb.1 hz.2
      have t1 : (a.1 != 0) = true := by simpa using s2
      have t2 : (b.1 != 0) = true := by simpa using s4
      rw [t1, t2, Bool.and_true, Bool.and_true]
      simp only [s1, s3]
    rw [es]

theorem refMul {H : Hp} {a b : Int × Int} (ha : fitR a) (hb : fitR b) : Qf Try.prog F.pelotonref01_Mul #[.agg #[.int .i64 a.1, .int .i64 a.2], .agg #[.int .i64 b.1, .int .i64 b.2]] H (.tuple #[.agg #[.int .i64 (mulM a b).1.1, .int .i64 (mulM a b).1.2], .int .i64 (mulM a b).2]) := by
  refine pelotonref01_Mul_vc ⟨_, refBoth ha hb, fun hc => ?_, fun hc => ?_⟩
  · have h : ¬ (okR a ∧ okR b) := fun x => by rw [if_pos x] at hc; simp at hc
    refine ⟨_, refBoth ha hb, ?_, Hp.le_refl _⟩
    unfold mulM; rw [if_neg h, if_neg h]
  · have h : okR a ∧ okR b := by
      by_cases x : okR a ∧ okR b
      · exact x
      · rw [if_neg x] at hc; simp at hc
    obtain ⟨oa, ob⟩ := h
    have ga := gA_pos (a := a) ob
    have gb := gA_pos (a := b) oa
    have an := absB ha.1; have bn := absB hb.1
    have d1 := oa.d1; have d2 := oa.d2; have d3 := ob.d1; have d4 := ob.d2
    rw [wrapUs (n := b.2) (by omega) (by omega), wrapUs (n := a.2) (by omega) (by omega)]
    have c1 : Qf Try.prog F.pelotonref01_common #[.int .u64 (absI a.1), .int .u64 b.2] H (.int .u64 (gA a b)) := by
      have := refCommon (H := H) an.1 (b := b.2) (by omega)
      rw [Nat.gcd_comm] at this; exact this
    have c2 : Qf Try.prog F.pelotonref01_common #[.int .u64 (absI b.1), .int .u64 a.2] H (.int .u64 (gA b a)) := by
      have := refCommon (H := H) bn.1 (b := a.2) (by omega)
      rw [Nat.gcd_comm] at this; exact this
    obtain ⟨e1, e2, e3⟩ := pos_divU d1 d2 gb.1
    obtain ⟨f1, f2, f3⟩ := pos_divU d3 d4 ga.1
    obtain ⟨u1, u2, u3⟩ := divU an.1 an.2 ga.1
    obtain ⟨w1, w2, w3⟩ := divU bn.1 bn.2 gb.1
    refine ⟨_, refSize ha.1, _, c1, _, refSize hb.1, _, c2, _, refSize ha.1, by unfold nz; omega, _, refSize hb.1, by unfold nz; omega, ?_⟩
    rw [u1, w1, e1, f1, wrapUs (n := a.2 / gA b a) e2 (by omega), wrapUs (n := b.2 / gA a b) f2 (by omega)]
    have hm : absI a.1 / gA a b * (absI b.1 / gA b a) = absI (a.1.tdiv (gA a b) * b.1.tdiv (gA b a)) := by
      rw [← absI_mul, absI_tdiv ga.1, absI_tdiv gb.1]
    refine ⟨_, _, _, refProd u2 (by omega) w2 (by omega), by unfold nz; omega, by unfold nz; omega, _, _, _, refProd e2 (by omega) f2 (by omega), _, _, _, refMade (Int.mul_nonneg u2 w2) (Int.mul_nonneg e2 f2), ?_, Hp.le_refl _⟩
    unfold mulM; rw [if_pos ⟨oa, ob⟩, hm]
end Go.Proofs.Ythmlkdflhnjhcaa
