/- The engine, parts K1, K2, K3, K4, put together. Conditions: none. -/
import Derived.Test.YtkemdpobjaiolaaGreatP4
import Derived.Test.YtkemdpobjaiolaaGreatVgBase
import Derived.Test.YtkemdpobjaiolaaGreatVgGaps
import Derived.Test.YtkemdpobjaiolaaGreatFs
set_option linter.unusedVariables false
section
/- Gaps and fractions: building, making. Conditions: none. -/
set_option maxRecDepth 100000
open Go Go.Eng Go.Proofs
namespace Go.Proofs.YtkemdpobjaiolaaGreat

/-- A fraction with a sign, if it has a place. -/
def buildM (c : Bool) (N D : Int) : (Int × Int) × Int := if 9223372036854775807 < N ∨ 9223372036854775807 < D then ((0, 0), 16) else ((if c = true then 0 - N else N, D), 0)
theorem buildM_sign {c d : Bool} {N D : Int} (h : N ≠ 0 → c = d) : buildM c N D = buildM d N D := by
  unfold buildM
  split
  · rfl
  · by_cases e : N = 0
    · subst e; cases c <;> cases d <;> rfl
    · rw [h e]
theorem i64s {n : Int} (h0 : 0 ≤ n) (h1 : n ≤ 9223372036854775807) : IntKind.i64.wrap n = n := by rw [i64w]; omega

theorem ratioBuild {H : Hp} {c : Bool} {N D : Int} (hN : 0 ≤ N) (hD : 0 ≤ D) :
    Qf Tryz.prog F.ratio_build #[.agg #[.bool c, .int .u64 (N / 18446744073709551616), .int .u64 (N % 18446744073709551616)], .int .u64 (D / 18446744073709551616), .int .u64 (D % 18446744073709551616)] H
      (.tuple #[.agg #[.int .i64 (buildM c N D).1.1, .int .i64 (buildM c N D).1.2], .int .i64 (buildM c N D).2]) := by
  refine ratio_build_vc ⟨fun hc => ?_, fun hc => ?_⟩
  · simp only [Bool.or_eq_true, decide_eq_true_eq] at hc
    unfold buildM
    rw [if_pos (by omega)]
    exact ⟨rfl, Hp.le_refl _⟩
  · simp only [Bool.or_eq_false_iff, decide_eq_false_iff_not] at hc
    unfold buildM
    rw [if_neg (by omega), i64s (by omega) (by omega), i64s (by omega) (by omega), show N % 18446744073709551616 = N by omega, show D % 18446744073709551616 = D by omega]
    exact ⟨fun h => ⟨by unfold inI; omega, by subst h; exact ⟨rfl, Hp.le_refl _⟩⟩, fun h => by subst h; exact ⟨rfl, Hp.le_refl _⟩⟩
theorem refMade {H : Hp} {c c1 c2 : Bool} {N D : Int} (hN : 0 ≤ N) (hD : 0 ≤ D) :
    Qf Tryz.prog F.pelotonref01_made #[.bool c, .agg #[.bool c1, .int .u64 (N / 18446744073709551616), .int .u64 (N % 18446744073709551616)], .agg #[.bool c2, .int .u64 (D / 18446744073709551616), .int .u64 (D % 18446744073709551616)]] H
      (.tuple #[.agg #[.int .i64 (buildM c N D).1.1, .int .i64 (buildM c N D).1.2], .int .i64 (buildM c N D).2]) := by
  refine pelotonref01_made_vc ⟨fun hc => ?_, fun hc => ?_⟩
  · simp only [Bool.or_eq_true, decide_eq_true_eq] at hc
    unfold buildM
    rw [if_pos (by omega)]
    exact ⟨rfl, Hp.le_refl _⟩
  · simp only [Bool.or_eq_false_iff, decide_eq_false_iff_not] at hc
    unfold buildM
    rw [if_neg (by omega), i64s (by omega) (by omega), i64s (by omega) (by omega), show N % 18446744073709551616 = N by omega, show D % 18446744073709551616 = D by omega]
    exact ⟨fun h => ⟨by unfold inI; omega, by subst h; exact ⟨rfl, Hp.le_refl _⟩⟩, fun h => by subst h; exact ⟨rfl, Hp.le_refl _⟩⟩

/-- A gap: High, Low, A, B. -/
structure Gp where
  hi : Int
  lo : Int
  a : Int
  b : Int
def okGp (g : Gp) : Prop := 0 ≤ g.hi ∧ g.hi ≤ 65535 ∧ 0 ≤ g.lo ∧ g.lo ≤ 65535 ∧ g.hi ≠ g.lo ∧ -2097152 ≤ g.a ∧ g.a ≤ 2097152 ∧ -2097152 ≤ g.b ∧ g.b ≤ 2097152
instance (g : Gp) : Decidable (okGp g) := by unfold okGp; infer_instance
def chkGp (g : Gp) : Int := if okGp g then 0 else 8
abbrev gpV (g : Gp) : Value := .agg #[.int .i64 g.hi, .int .i64 g.lo, .int .i64 g.a, .int .i64 g.b]
theorem chkGp_bad {g : Gp} (h : ¬ okGp g) : chkGp g = 8 := by unfold chkGp; rw [if_neg h]
theorem chkGp_ok {g : Gp} (h : okGp g) : chkGp g = 0 := by unfold chkGp; rw [if_pos h]

theorem refGapCheck {H : Hp} {g : Gp} : Qf Tryz.prog F.pelotonref27_Check #[gpV g] H (.int .i64 (chkGp g)) := by
  refine pelotonref27_Check_vc ⟨fun hc => ?_, fun hc => ?_⟩
  · simp only [Bool.or_eq_true, decide_eq_true_eq, beq_iff_eq] at hc
    rw [chkGp_bad (by unfold okGp; omega)]
    exact ⟨rfl, Hp.le_refl _⟩
  · simp only [Bool.or_eq_false_iff, decide_eq_false_iff_not, beq_eq_false_iff_ne, ne_eq] at hc
    rw [chkGp_ok (by unfold okGp; omega)]
    exact ⟨rfl, Hp.le_refl _⟩

/-- Two ints, one after the other. -/
theorem two_ix {n x y : Int} (h0 : 0 ≤ n) (h1 : n < 2) : okIx n 2 [.int .i64 x, .int .i64 y] 1 [.int .i64 (if n = 0 then x else y)] := by
  have : n = 0 ∨ n = 1 := by omega
  rcases this with rfl | rfl
  · exact ⟨by omega, by omega, rfl, rfl⟩
  · exact ⟨by omega, by omega, rfl, rfl⟩

theorem gapsCheck {H : Hp} {g : Gp} : Qf Tryz.prog F.gaps_Check #[gpV g] H (.int .i64 (chkGp g)) := by
  refine gaps_Check_vc (upto (N := 2) (J := fun n => (0 < n → 0 ≤ g.hi ∧ g.hi ≤ 65535) ∧ (1 < n → 0 ≤ g.lo ∧ g.lo ≤ 65535)) (by omega) ⟨fun h => by omega, fun h => by omega⟩ fun n n0 n1 ⟨j1, j2⟩ => ⟨fun hn => ?_, fun hn => ?_⟩)
  · have hn : n < 2 := by simpa using hn
    refine ⟨_, two_ix n0 hn, fun hb => ⟨?_, Hp.le_refl _⟩, fun hb => upto.nx n0 hn (by omega) ?_⟩
    · rw [chkGp_bad]
      intro ok
      unfold okGp at ok
      simp only [Bool.or_eq_true, decide_eq_true_eq] at hb
      split at hb <;> omega
    · simp only [Bool.or_eq_false_iff, decide_eq_false_iff_not] at hb
      split at hb
      · exact ⟨fun _ => by omega, fun h => by omega⟩
      · exact ⟨fun _ => j1 (by omega), fun _ => by omega⟩
  · have hn : ¬ n < 2 := by simpa using hn
    refine upto (N := 2) (J := fun n => (0 < n → -2097152 ≤ g.a ∧ g.a ≤ 2097152) ∧ (1 < n → -2097152 ≤ g.b ∧ g.b ≤ 2097152)) (by omega) ⟨fun h => by omega, fun h => by omega⟩ fun k k0 k1 ⟨i1, i2⟩ => ⟨fun hk => ?_, fun hk => ?_⟩
    · have hk : k < 2 := by simpa using hk
      refine ⟨_, two_ix k0 hk, fun hb => ⟨?_, Hp.le_refl _⟩, fun hb => upto.nx k0 hk (by omega) ?_⟩
      · rw [chkGp_bad]
        intro ok
        unfold okGp at ok
        simp only [Bool.or_eq_true, decide_eq_true_eq] at hb
        split at hb <;> omega
      · simp only [Bool.or_eq_false_iff, decide_eq_false_iff_not] at hb
        split at hb
        · exact ⟨fun _ => by omega, fun h => by omega⟩
        · exact ⟨fun _ => i1 (by omega), fun _ => by omega⟩
    · have hk : ¬ k < 2 := by simpa using hk
      have := j1 (by omega); have := j2 (by omega); have := i1 (by omega); have := i2 (by omega)
      refine ⟨fun h => ⟨?_, Hp.le_refl _⟩, fun h => ⟨?_, Hp.le_refl _⟩⟩
      · have h : g.hi = g.lo := by simpa using h
        rw [chkGp_bad (by unfold okGp; omega)]
      · have h : ¬ g.hi = g.lo := by simpa using h
        rw [chkGp_ok (by unfold okGp; omega)]
end Go.Proofs.YtkemdpobjaiolaaGreat
end
section
/- Fractions: Make, Mul. Conditions: none. -/
set_option maxRecDepth 100000
open Go Go.Eng Go.Proofs
namespace Go.Proofs.YtkemdpobjaiolaaGreat

def gcdA (a b : Int) : Int := (Nat.gcd (absI a).toNat (absI b).toNat : Nat)
def makeM (n d : Int) : (Int × Int) × Int := if d = 0 then ((0, 0), 26) else buildM (!(decide (n < 0) == decide (d < 0))) (absI n / gcdA n d) (absI d / gcdA n d)

theorem abs_pos {d : Int} (h : d ≠ 0) : 0 < absI d := by unfold absI; split <;> omega
theorem gcdA_pos {n d : Int} (h : d ≠ 0) : 0 < gcdA n d := by
  unfold gcdA
  have := abs_pos h
  have : 0 < Nat.gcd (absI n).toNat (absI d).toNat := Nat.gcd_pos_of_pos_right _ (by omega)
  omega
theorem divU {x g : Int} (h0 : 0 ≤ x) (h1 : x ≤ 9223372036854775808) (hg : 0 < g) : wrapU (x.tdiv g) = x / g ∧ 0 ≤ x / g ∧ x / g ≤ 9223372036854775808 := by
  have e : x.tdiv g = x / g := Int.tdiv_eq_ediv_of_nonneg h0
  have p : 0 ≤ x / g := Int.ediv_nonneg h0 (by omega)
  have q : x / g ≤ x := Int.ediv_le_self _ h0
  refine ⟨?_, p, by omega⟩
  rw [e]; unfold wrapU; omega

theorem ratioMake {H : Hp} {n d : Int} (hn : inI n) (hd : inI d) : Qf Tryz.prog F.ratio_Make #[.int .i64 n, .int .i64 d] H (.tuple #[.agg #[.int .i64 (makeM n d).1.1, .int .i64 (makeM n d).1.2], .int .i64 (makeM n d).2]) := by
  have an := absB hn; have ad := absB hd
  refine ratio_Make_vc ⟨fun h => ?_, fun h => ?_⟩
  · have h : d = 0 := by simpa using h
    unfold makeM; rw [if_pos h]; exact ⟨rfl, Hp.le_refl _⟩
  · have h : d ≠ 0 := by simpa using h
    have gp := gcdA_pos (n := n) h
    obtain ⟨u1, u2, u3⟩ := divU an.1 an.2 gp
    obtain ⟨w1, w2, w3⟩ := divU ad.1 ad.2 gp
    have rb := ratioBuild (H := H) (c := !(decide (n < 0) == decide (d < 0))) (N := absI n / gcdA n d) (D := absI d / gcdA n d) u2 w2
    rw [show absI n / gcdA n d / 18446744073709551616 = 0 by omega, show absI n / gcdA n d % 18446744073709551616 = absI n / gcdA n d by omega, show absI d / gcdA n d / 18446744073709551616 = 0 by omega, show absI d / gcdA n d % 18446744073709551616 = absI d / gcdA n d by omega] at rb
    refine ⟨_, ratioAbs hn, _, ratioAbs hd, gcdA n d, ratioGcd an.1 ad.1, _, ratioAbs hn, by unfold nz; omega, _, ratioAbs hd, by unfold nz; omega, ?_⟩
    rw [u1, w1]
    refine ⟨_, _, _, rb, ?_, Hp.le_refl _⟩
    unfold makeM; rw [if_neg h]
theorem refMake {H : Hp} {n d : Int} (hn : inI n) (hd : inI d) : Qf Tryz.prog F.pelotonref01_Make #[.int .i64 n, .int .i64 d] H (.tuple #[.agg #[.int .i64 (makeM n d).1.1, .int .i64 (makeM n d).1.2], .int .i64 (makeM n d).2]) := by
  have an := absB hn; have ad := absB hd
  refine pelotonref01_Make_vc ⟨fun h => ?_, fun h => ?_⟩
  · have h : d = 0 := by simpa using h
    unfold makeM; rw [if_pos h]; exact ⟨rfl, Hp.le_refl _⟩
  · have h : d ≠ 0 := by simpa using h
    have gp := gcdA_pos (n := n) h
    obtain ⟨u1, u2, u3⟩ := divU an.1 an.2 gp
    obtain ⟨w1, w2, w3⟩ := divU ad.1 ad.2 gp
    have rb := refMade (H := H) (c := (!(decide (n < 0) == decide (d < 0)) && n != 0)) (c1 := false) (c2 := false) (N := absI n / gcdA n d) (D := absI d / gcdA n d) u2 w2
    rw [show absI n / gcdA n d / 18446744073709551616 = 0 by omega, show absI n / gcdA n d % 18446744073709551616 = absI n / gcdA n d by omega, show absI d / gcdA n d / 18446744073709551616 = 0 by omega, show absI d / gcdA n d % 18446744073709551616 = absI d / gcdA n d by omega] at rb
    have es : makeM n d = buildM (!(decide (n < 0) == decide (d < 0)) && n != 0) (absI n / gcdA n d) (absI d / gcdA n d) := by
      unfold makeM; rw [if_neg h]
      refine buildM_sign fun hN => ?_
      have : n ≠ 0 := fun e => by
        apply hN; rw [e]; rw [show absI 0 = 0 from rfl]; exact Int.zero_ediv _
      simp [this]
    rw [es]
    refine ⟨_, refSize hn, _, refSize hd, gcdA n d, refCommon an.1 ad.1, _, refSize hn, by unfold nz; omega, _, refSize hd, by unfold nz; omega, ?_⟩
    rw [u1, w1]
    exact ⟨_, _, _, rb, rfl, Hp.le_refl _⟩
end Go.Proofs.YtkemdpobjaiolaaGreat
end
section
/- Fractions: Mul. Conditions: none. -/
set_option maxRecDepth 100000
open Go Go.Eng Go.Proofs
namespace Go.Proofs.YtkemdpobjaiolaaGreat

theorem refBoth {H : Hp} {a b : Int × Int} (ha : fitR a) (hb : fitR b) : Qf Tryz.prog F.pelotonref01_Both #[.agg #[.int .i64 a.1, .int .i64 a.2], .agg #[.int .i64 b.1, .int .i64 b.2]] H (.int .i64 (if okR a ∧ okR b then 0 else 8)) := by
  refine pelotonref01_Both_vc ⟨_, refRCheck ha, fun hc => ?_, fun hc => ?_⟩
  · have h : ¬ okR a := fun ok => by rw [chkR_ok ok] at hc; simp at hc
    refine ⟨_, refRCheck ha, ?_, Hp.le_refl _⟩
    rw [chkR_bad h, if_neg fun x => h x.1]
  · have h : okR a := chkR_zero.1 (by simpa using hc)
    refine ⟨_, refRCheck hb, ?_, Hp.le_refl _⟩
    by_cases h2 : okR b
    · rw [chkR_ok h2, if_pos ⟨h, h2⟩]
    · rw [chkR_bad h2, if_neg fun x => h2 x.2]

theorem absI_tdiv {a g : Int} (hg : 0 < g) : absI (a.tdiv g) = absI a / g := by
  unfold absI
  by_cases h : a < 0
  · have e : a.tdiv g = -((-a) / g) := by
      have : a = -(-a) := by omega
      rw [this, Int.neg_tdiv, Int.tdiv_eq_ediv_of_nonneg (by omega : (0 : Int) ≤ -a)]; simp
    have p : 0 ≤ (-a) / g := Int.ediv_nonneg (by omega) (by omega)
    rw [if_pos h, e]
    split <;> omega
  · have e : a.tdiv g = a / g := Int.tdiv_eq_ediv_of_nonneg (by omega)
    have p : 0 ≤ a / g := Int.ediv_nonneg (by omega) (by omega)
    rw [if_neg h, e, if_neg (by omega)]
theorem tdiv_sign {a g : Int} (hg : 0 < g) (hz : a.tdiv g ≠ 0) : (a.tdiv g < 0 ↔ a < 0) ∧ a ≠ 0 := by
  by_cases h : a < 0
  · have e : a.tdiv g = -((-a) / g) := by
      have : a = -(-a) := by omega
      rw [this, Int.neg_tdiv, Int.tdiv_eq_ediv_of_nonneg (by omega : (0 : Int) ≤ -a)]; simp
    have p : 0 ≤ (-a) / g := Int.ediv_nonneg (by omega) (by omega)
    rw [e] at hz ⊢
    exact ⟨⟨fun _ => h, fun _ => by omega⟩, by omega⟩
  · have e : a.tdiv g = a / g := Int.tdiv_eq_ediv_of_nonneg (by omega)
    have p : 0 ≤ a / g := Int.ediv_nonneg (by omega) (by omega)
    rw [e] at hz ⊢
    exact ⟨⟨fun x => by omega, fun x => by omega⟩, fun e0 => hz (by rw [e0]; exact Int.zero_ediv _)⟩
theorem tdiv_in {a g : Int} (h1 : -9223372036854775807 ≤ a) (h2 : a ≤ 9223372036854775807) (hg : 0 < g) : inI (a.tdiv g) := by
  have := absI_tdiv (a := a) hg
  have p : 0 ≤ absI a := by unfold absI; split <;> omega
  have q : absI a / g ≤ absI a := Int.ediv_le_self _ p
  rw [← this] at q
  have r : absI a ≤ 9223372036854775807 := by unfold absI; split <;> omega
  unfold inI
  unfold absI at q r
  split at q <;> split at r <;> omega

def gA (a b : Int × Int) : Int := (Nat.gcd b.2.toNat (absI a.1).toNat : Nat)
def mulM (a b : Int × Int) : (Int × Int) × Int :=
  if okR a ∧ okR b then buildM (!(decide (a.1 < 0) == decide (b.1 < 0)) && a.1 != 0 && b.1 != 0) (absI (a.1.tdiv (gA a b) * b.1.tdiv (gA b a))) (a.2 / gA b a * (b.2 / gA a b)) else ((0, 0), 8)

theorem gA_pos {a b : Int × Int} (hb : okR b) : 0 < gA a b ∧ gA a b ≤ b.2 := by
  have := hb.d1
  unfold gA
  have h1 : 0 < Nat.gcd b.2.toNat (absI a.1).toNat := Nat.gcd_pos_of_pos_left _ (by omega)
  have h2 : Nat.gcd b.2.toNat (absI a.1).toNat ≤ b.2.toNat := Nat.gcd_le_left _ (by omega)
  omega
theorem pos_divU {d g : Int} (h1 : 1 ≤ d) (h2 : d ≤ 9223372036854775807) (hg : 0 < g) : d.tdiv g = d / g ∧ 0 ≤ d / g ∧ d / g ≤ 9223372036854775807 := by
  have q : d / g ≤ d := Int.ediv_le_self _ (by omega)
  exact ⟨Int.tdiv_eq_ediv_of_nonneg (by omega), Int.ediv_nonneg (by omega) (by omega), by omega⟩
theorem wrapUs {n : Int} (h0 : 0 ≤ n) (h1 : n < 18446744073709551616) : wrapU n = n := by unfold wrapU; omega

theorem ratioMul {H : Hp} {a b : Int × Int} (ha : fitR a) (hb : fitR b) : Qf Tryz.prog F.ratio_Mul #[.agg #[.int .i64 a.1, .int .i64 a.2], .agg #[.int .i64 b.1, .int .i64 b.2]] H (.tuple #[.agg #[.int .i64 (mulM a b).1.1, .int .i64 (mulM a b).1.2], .int .i64 (mulM a b).2]) := by
  refine ratio_Mul_vc ⟨_, ratioBoth ha hb, fun hc => ?_, fun hc => ?_⟩
  · have h : ¬ (okR a ∧ okR b) := fun x => by rw [if_pos x] at hc; simp at hc
    unfold mulM; rw [if_neg h, if_neg h]; exact ⟨rfl, Hp.le_refl _⟩
  · have h : okR a ∧ okR b := by
      by_cases x : okR a ∧ okR b
      · exact x
      · rw [if_neg x] at hc; simp at hc
    obtain ⟨oa, ob⟩ := h
    have ga := gA_pos (a := a) ob
    have gb := gA_pos (a := b) oa
    have an := absB ha.1; have bn := absB hb.1
    have d1 := oa.d1; have d2 := oa.d2; have d3 := ob.d1; have d4 := ob.d2
    rw [wrapUs (n := b.2) (by omega) (by omega), wrapUs (n := a.2) (by omega) (by omega)]
    refine ⟨_, ratioAbs ha.1, gA a b, ratioGcd (by omega) an.1, _, ratioAbs hb.1, gA b a, ratioGcd (by omega) bn.1, ?_⟩
    rw [i64s (n := gA a b) (by omega) (by omega), i64s (n := gA b a) (by omega) (by omega)]
    obtain ⟨e1, e2, e3⟩ := pos_divU d1 d2 gb.1
    obtain ⟨f1, f2, f3⟩ := pos_divU d3 d4 ga.1
    have i1 := tdiv_in oa.n1 oa.n2 ga.1
    have i2 := tdiv_in ob.n1 ob.n2 gb.1
    rw [e1, f1, wrapUs (n := a.2 / gA b a) e2 (by omega), wrapUs (n := b.2 / gA a b) f2 (by omega)]
    refine ⟨⟨by unfold nz; omega, by unfold inI; omega⟩, ⟨by unfold nz; omega, by unfold inI; omega⟩, _, _, mul64 e2 (by omega) f2 (by omega), ⟨by unfold nz; omega, i1⟩, ⟨by unfold nz; omega, i2⟩, _, _, _, ratioTimes i1 i2, _, _, _, ratioBuild (by rw [← absI_mul]; exact Int.mul_nonneg (absB i1).1 (absB i2).1) (Int.mul_nonneg e2 f2), ?_, Hp.le_refl _⟩
    have es : mulM a b = buildM (!(decide (a.1.tdiv (gA a b) < 0) == decide (b.1.tdiv (gA b a) < 0))) (absI (a.1.tdiv (gA a b) * b.1.tdiv (gA b a))) (a.2 / gA b a * (b.2 / gA a b)) := by
      unfold mulM; rw [if_pos ⟨oa, ob⟩]
      refine buildM_sign fun hN => ?_
      have hz : a.1.tdiv (gA a b) ≠ 0 ∧ b.1.tdiv (gA b a) ≠ 0 := by
        constructor
        · intro e; apply hN; rw [e, Int.zero_mul]; try rfl
        · intro e; apply hN; rw [e, Int.mul_zero]; try rfl
      obtain ⟨s1, s2⟩ := tdiv_sign ga.1 hz.1
      obtain ⟨s3, s4⟩ := tdiv_sign gb.1 hz.2
      have t1 : (a.1 != 0) = true := by simpa using s2
      have t2 : (b.1 != 0) = true := by simpa using s4
      rw [t1, t2, Bool.and_true, Bool.and_true]
      simp only [s1, s3]
    rw [es]

theorem refMul {H : Hp} {a b : Int × Int} (ha : fitR a) (hb : fitR b) : Qf Tryz.prog F.pelotonref01_Mul #[.agg #[.int .i64 a.1, .int .i64 a.2], .agg #[.int .i64 b.1, .int .i64 b.2]] H (.tuple #[.agg #[.int .i64 (mulM a b).1.1, .int .i64 (mulM a b).1.2], .int .i64 (mulM a b).2]) := by
  refine pelotonref01_Mul_vc ⟨_, refBoth ha hb, fun hc => ?_, fun hc => ?_⟩
  · have h : ¬ (okR a ∧ okR b) := fun x => by rw [if_pos x] at hc; simp at hc
    refine ⟨_, refBoth ha hb, ?_, Hp.le_refl _⟩
    unfold mulM; rw [if_neg h, if_neg h]
  · have h : okR a ∧ okR b := by
      by_cases x : okR a ∧ okR b
      · exact x
      · rw [if_neg x] at hc; simp at hc
    obtain ⟨oa, ob⟩ := h
    have ga := gA_pos (a := a) ob
    have gb := gA_pos (a := b) oa
    have an := absB ha.1; have bn := absB hb.1
    have d1 := oa.d1; have d2 := oa.d2; have d3 := ob.d1; have d4 := ob.d2
    rw [wrapUs (n := b.2) (by omega) (by omega), wrapUs (n := a.2) (by omega) (by omega)]
    have c1 : Qf Tryz.prog F.pelotonref01_common #[.int .u64 (absI a.1), .int .u64 b.2] H (.int .u64 (gA a b)) := by
      have := refCommon (H := H) an.1 (b := b.2) (by omega)
      rw [Nat.gcd_comm] at this; exact this
    have c2 : Qf Tryz.prog F.pelotonref01_common #[.int .u64 (absI b.1), .int .u64 a.2] H (.int .u64 (gA b a)) := by
      have := refCommon (H := H) bn.1 (b := a.2) (by omega)
      rw [Nat.gcd_comm] at this; exact this
    obtain ⟨e1, e2, e3⟩ := pos_divU d1 d2 gb.1
    obtain ⟨f1, f2, f3⟩ := pos_divU d3 d4 ga.1
    obtain ⟨u1, u2, u3⟩ := divU an.1 an.2 ga.1
    obtain ⟨w1, w2, w3⟩ := divU bn.1 bn.2 gb.1
    refine ⟨_, refSize ha.1, _, c1, _, refSize hb.1, _, c2, _, refSize ha.1, by unfold nz; omega, _, refSize hb.1, by unfold nz; omega, ?_⟩
    rw [u1, w1, e1, f1, wrapUs (n := a.2 / gA b a) e2 (by omega), wrapUs (n := b.2 / gA a b) f2 (by omega)]
    have hm : absI a.1 / gA a b * (absI b.1 / gA b a) = absI (a.1.tdiv (gA a b) * b.1.tdiv (gA b a)) := by
      rw [← absI_mul, absI_tdiv ga.1, absI_tdiv gb.1]
    refine ⟨_, _, _, refProd u2 (by omega) w2 (by omega), by unfold nz; omega, by unfold nz; omega, _, _, _, refProd e2 (by omega) f2 (by omega), _, _, _, refMade (Int.mul_nonneg u2 w2) (Int.mul_nonneg e2 f2), ?_, Hp.le_refl _⟩
    unfold mulM; rw [if_pos ⟨oa, ob⟩, hm]
end Go.Proofs.YtkemdpobjaiolaaGreat
end
section
/- Gaps: what is asked of a gap and a time. Conditions: none. -/
set_option maxRecDepth 100000
open Go Go.Eng Go.Proofs
namespace Go.Proofs.YtkemdpobjaiolaaGreat

def askM (g : Gp) (t : Int × Int) : Int := if okGp g ∧ okR t then 0 else 8
theorem askM_ok {g : Gp} {t : Int × Int} (h : okGp g) (h2 : okR t) : askM g t = 0 := by unfold askM; rw [if_pos ⟨h, h2⟩]
theorem askM_zero {g : Gp} {t : Int × Int} : askM g t = 0 ↔ okGp g ∧ okR t := by
  unfold askM
  split
  · rename_i h; simp [h]
  · rename_i h; simp [h]

theorem gapsAsk {H : Hp} {g : Gp} {t : Int × Int} (ht : fitR t) : Qf Tryz.prog F.gaps_check #[gpV g, .agg #[.int .i64 t.1, .int .i64 t.2]] H (.int .i64 (askM g t)) := by
  refine gaps_check_vc ⟨_, gapsCheck, fun hc => ?_, fun hc => ⟨_, ratioCheck ht, ?_, Hp.le_refl _⟩⟩
  · have h : ¬ okGp g := fun ok => by rw [chkGp_ok ok] at hc; simp at hc
    unfold askM
    rw [chkGp_bad h, if_neg fun x => h x.1]
    exact ⟨rfl, Hp.le_refl _⟩
  · have h : okGp g := by
      by_cases x : okGp g
      · exact x
      · rw [chkGp_bad x] at hc; simp at hc
    unfold askM
    by_cases h2 : okR t
    · rw [chkR_ok h2, if_pos ⟨h, h2⟩]
    · rw [chkR_bad h2, if_neg fun x => h2 x.2]
theorem refAsk {H : Hp} {g : Gp} {t : Int × Int} (ht : fitR t) : Qf Tryz.prog F.pelotonref27_asked #[gpV g, .agg #[.int .i64 t.1, .int .i64 t.2]] H (.int .i64 (askM g t)) := by
  refine pelotonref27_asked_vc ⟨_, refGapCheck, fun hc => ⟨_, refGapCheck, ?_, Hp.le_refl _⟩, fun hc => ⟨_, refRCheck ht, ?_, Hp.le_refl _⟩⟩
  · have h : ¬ okGp g := fun ok => by rw [chkGp_ok ok] at hc; simp at hc
    unfold askM
    rw [chkGp_bad h, if_neg fun x => h x.1]
  · have h : okGp g := by
      by_cases x : okGp g
      · exact x
      · rw [chkGp_bad x] at hc; simp at hc
    unfold askM
    by_cases h2 : okR t
    · rw [chkR_ok h2, if_pos ⟨h, h2⟩]
    · rw [chkR_bad h2, if_neg fun x => h2 x.2]
end Go.Proofs.YtkemdpobjaiolaaGreat
end
