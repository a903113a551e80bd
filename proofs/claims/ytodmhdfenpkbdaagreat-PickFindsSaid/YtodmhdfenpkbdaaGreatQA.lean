/- Adding two fractions. Conditions: none. -/
import Derived.Test.YtodmhdfenpkbdaaGreatPD1
import Derived.Test.YtodmhdfenpkbdaaGreatPK2
import Derived.Test.YtodmhdfenpkbdaaGreatVgBase
import Derived.Test.YtodmhdfenpkbdaaGreatFs
set_option linter.unusedVariables false
set_option maxRecDepth 100000
open Go Go.Eng Go.Proofs
namespace Go.Proofs.YtodmhdfenpkbdaaGreat

def gD (a b : Int × Int) : Int := (Nat.gcd a.2.toNat b.2.toNat : Nat)
def addV (a b : Int × Int) : Int := a.1 * (b.2 / gD a b) + b.1 * (a.2 / gD a b)
def addH (a b : Int × Int) : Int := (Nat.gcd (gD a b).toNat (absI (addV a b) % gD a b).toNat : Nat)
def addM (a b : Int × Int) : (Int × Int) × Int := if okR a ∧ okR b then buildM (decide (addV a b < 0)) (absI (addV a b) / addH a b) (a.2 / gD a b * (b.2 / addH a b)) else ((0, 0), 8)

theorem ratioOver {H : Hp} {c : Bool} {V d : Int} (v0 : 0 ≤ V) (v1 : V < 340282366920938463463374607431768211456) (d0 : 1 ≤ d) (d1 : d < 18446744073709551616) :
    Qf Tryz.prog F.ratio_wide_over #[.agg #[.bool c, .int .u64 (V / 18446744073709551616), .int .u64 (V % 18446744073709551616)], .int .u64 d] H (.tuple #[.agg #[.bool c, .int .u64 (V / d / 18446744073709551616), .int .u64 (V / d % 18446744073709551616)], .int .u64 (V % d)]) := by
  have h0 : 0 ≤ V / 18446744073709551616 := by omega
  have h1 : V / 18446744073709551616 < 18446744073709551616 := by omega
  have t0 : 0 ≤ V / 18446744073709551616 % d := Int.emod_nonneg _ (by omega)
  have t1 : V / 18446744073709551616 % d < d := Int.emod_lt_of_pos _ (by omega)
  have q0 : 0 ≤ V / 18446744073709551616 / d := Int.ediv_nonneg h0 (by omega)
  have q1 : V / 18446744073709551616 / d ≤ V / 18446744073709551616 := Int.ediv_le_self _ h0
  have dv := div64 (H := H) (hi := V / 18446744073709551616 % d) (lo := V % 18446744073709551616) (y := d) d0 d1 t0 t1 (by omega) (by omega)
  have e := Int.mul_ediv_add_emod (V / 18446744073709551616) d
  have eV : V = (V / 18446744073709551616 % d * 18446744073709551616 + V % 18446744073709551616) + d * (V / 18446744073709551616 / d * 18446744073709551616) := by
    rw [← Int.mul_assoc]
    generalize d * (V / 18446744073709551616 / d) = Z at *
    omega
  have eq : V / d = (V / 18446744073709551616 % d * 18446744073709551616 + V % 18446744073709551616) / d + V / 18446744073709551616 / d * 18446744073709551616 := by
    have this : V / d = ((V / 18446744073709551616 % d * 18446744073709551616 + V % 18446744073709551616) + d * (V / 18446744073709551616 / d * 18446744073709551616)) / d := congrArg (· / d) eV
    rw [this, Int.add_mul_ediv_left _ _ (by omega : d ≠ 0)]
  have er : V % d = (V / 18446744073709551616 % d * 18446744073709551616 + V % 18446744073709551616) % d := by
    have this : V % d = ((V / 18446744073709551616 % d * 18446744073709551616 + V % 18446744073709551616) + d * (V / 18446744073709551616 / d * 18446744073709551616)) % d := congrArg (· % d) eV
    rw [this, Int.add_mul_emod_self_left]
  have z0 : 0 ≤ (V / 18446744073709551616 % d * 18446744073709551616 + V % 18446744073709551616) / d := Int.ediv_nonneg (by omega) (by omega)
  have z1 : (V / 18446744073709551616 % d * 18446744073709551616 + V % 18446744073709551616) / d < 18446744073709551616 := Int.ediv_lt_of_lt_mul (by omega) (by omega)
  refine ratio_wide_over_vc ⟨by unfold nz; omega, by unfold nz; omega, _, _, by rw [Int.tmod_eq_emod_of_nonneg h0]; exact dv, ?_, Hp.le_refl _⟩
  rw [Int.tdiv_eq_ediv_of_nonneg h0, wrapU_id q0 (by omega), er, eq]
  generalize (V / 18446744073709551616 % d * 18446744073709551616 + V % 18446744073709551616) / d = z at *
  generalize V / 18446744073709551616 / d = q at *
  rw [show (z + q * 18446744073709551616) / 18446744073709551616 = q by omega, show (z + q * 18446744073709551616) % 18446744073709551616 = z by omega]

/-- The sizes of what is reckoned. -/
structure AddB (a b : Int × Int) : Prop where
  g0 : 1 ≤ gD a b
  g1 : gD a b ≤ 9223372036854775807
  x0 : 1 ≤ a.2 / gD a b
  x1 : a.2 / gD a b ≤ 9223372036854775807
  y0 : 1 ≤ b.2 / gD a b
  y1 : b.2 / gD a b ≤ 9223372036854775807
  s1 : absI (a.1 * (b.2 / gD a b)) < 85070591730234615865843651857942052864
  s2 : absI (b.1 * (a.2 / gD a b)) < 85070591730234615865843651857942052864
  h0 : 1 ≤ addH a b
  h1 : addH a b ≤ gD a b
  z0 : 0 ≤ b.2 / addH a b
  z1 : b.2 / addH a b ≤ 9223372036854775807
theorem addB {a b : Int × Int} (oa : okR a) (ob : okR b) : AddB a b := by
  have a1 := oa.d1; have a2 := oa.d2; have a3 := oa.n1; have a4 := oa.n2
  have b1 := ob.d1; have b2 := ob.d2; have b3 := ob.n1; have b4 := ob.n2
  have hg : 0 < Nat.gcd a.2.toNat b.2.toNat := Nat.gcd_pos_of_pos_left _ (by omega)
  have ga : Nat.gcd a.2.toNat b.2.toNat ≤ a.2.toNat := Nat.gcd_le_left _ (by omega)
  have gb : Nat.gcd a.2.toNat b.2.toNat ≤ b.2.toNat := Nat.gcd_le_right _ (by omega)
  have g0 : 1 ≤ gD a b := by unfold gD; omega
  have g1 : gD a b ≤ a.2 := by unfold gD; omega
  have g2 : gD a b ≤ b.2 := by unfold gD; omega
  have x0 : 1 ≤ a.2 / gD a b := Int.le_ediv_of_mul_le (by omega) (by omega)
  have x1 : a.2 / gD a b ≤ a.2 := Int.ediv_le_self _ (by omega)
  have y0 : 1 ≤ b.2 / gD a b := Int.le_ediv_of_mul_le (by omega) (by omega)
  have y1 : b.2 / gD a b ≤ b.2 := Int.ediv_le_self _ (by omega)
  have s1 := absI_mul_le (x := a.1) (y := b.2 / gD a b) (m := 9223372036854775807) (n := 9223372036854775807) (absI_le (by omega) (by omega)) (absI_le (by omega) (by omega))
  have s2 := absI_mul_le (x := b.1) (y := a.2 / gD a b) (m := 9223372036854775807) (n := 9223372036854775807) (absI_le (by omega) (by omega)) (absI_le (by omega) (by omega))
  have hh : 0 < Nat.gcd (gD a b).toNat (absI (addV a b) % gD a b).toNat := Nat.gcd_pos_of_pos_left _ (by omega)
  have hl : Nat.gcd (gD a b).toNat (absI (addV a b) % gD a b).toNat ≤ (gD a b).toNat := Nat.gcd_le_left _ (by omega)
  have h0 : 1 ≤ addH a b := by unfold addH; omega
  have h1 : addH a b ≤ gD a b := by unfold addH; omega
  have z0 : 0 ≤ b.2 / addH a b := Int.ediv_nonneg (by omega) (by omega)
  have z1 : b.2 / addH a b ≤ b.2 := Int.ediv_le_self _ (by omega)
  exact ⟨g0, by omega, x0, by omega, y0, by omega, by omega, by omega, h0, h1, z0, by omega⟩
theorem sg_pos {n d : Int} (hd : 1 ≤ d) : n * d ≠ 0 → ((!(decide (n < 0) == decide (d < 0))) = true ↔ n * d < 0) := fun hne => by
  rw [decide_eq_false (by omega : ¬ d < 0)]
  have : n * d < 0 ↔ n < 0 := by
    constructor
    · intro h; rcases Int.lt_or_le n 0 with h' | h'
      · exact h'
      · have := Int.mul_nonneg h' (by omega : 0 ≤ d); omega
    · intro h; exact Int.mul_neg_of_neg_of_pos h (by omega)
  rw [this]; simp

set_option maxHeartbeats 1000000 in
theorem ratioAdd {H : Hp} {a b : Int × Int} (ha : fitR a) (hb : fitR b) :
    Qf Tryz.prog F.ratio_Add #[sI2 a.1 a.2, sI2 b.1 b.2] H (.tuple #[sI2 (addM a b).1.1 (addM a b).1.2, .int .i64 (addM a b).2]) := by
  refine ratio_Add_vc ⟨_, ratioBoth ha hb, fun hc => ?_, fun hc => ?_⟩
  · have h : ¬ (okR a ∧ okR b) := fun x => by rw [if_pos x] at hc; simp at hc
    unfold addM; rw [if_neg h, if_neg h]; exact ⟨rfl, Hp.le_refl _⟩
  have ok : okR a ∧ okR b := by
    by_cases x : okR a ∧ okR b
    · exact x
    · rw [if_neg x] at hc; simp at hc
  obtain ⟨oa, ob⟩ := ok
  obtain ⟨g0, g1, x0, x1, y0, y1, s1, s2, h0, h1, z0, z1⟩ := addB oa ob
  have a1 := oa.d1; have a2 := oa.d2
  have b1 := ob.d1; have b2 := ob.d2
  have q1 := absI_nonneg (a.1 * (b.2 / gD a b)); have q2 := absI_nonneg (b.1 * (a.2 / gD a b))
  have hg := ratioGcd (H := H) (a := a.2) (b := b.2) (by omega) (by omega)
  have hg : Qf Tryz.prog F.ratio_gcd #[.int .u64 a.2, .int .u64 b.2] H (.int .u64 (gD a b)) := hg
  have t1 := ratioTimes (H := H) (a := a.1) (b := b.2 / gD a b) oa.fit.1 (by unfold inI; omega)
  have t2 := ratioTimes (H := H) (a := b.1) (b := a.2 / gD a b) ob.fit.1 (by unfold inI; omega)
  have pl := ratioPlus (H := H) (c := !(decide (a.1 < 0) == decide (b.2 / gD a b < 0))) (d := !(decide (b.1 < 0) == decide (a.2 / gD a b < 0))) q1 (by omega) q2 (by omega)
  obtain ⟨p1, p2⟩ := plusM_val (c := !(decide (a.1 < 0) == decide (b.2 / gD a b < 0))) (d := !(decide (b.1 < 0) == decide (a.2 / gD a b < 0))) (v := a.1 * (b.2 / gD a b)) (w := b.1 * (a.2 / gD a b)) (sg_pos y0) (sg_pos x0)
  rw [p1] at pl
  have eV : a.1 * (b.2 / gD a b) + b.1 * (a.2 / gD a b) = addV a b := rfl
  have av : absI (addV a b) ≤ absI (a.1 * (b.2 / gD a b)) + absI (b.1 * (a.2 / gD a b)) := absI_add_le _ _
  have v0 := absI_nonneg (addV a b)
  rw [eV] at pl p2
  have m0 : 0 ≤ absI (addV a b) % gD a b := Int.emod_nonneg _ (by omega)
  have hg2 := ratioGcd (H := H) (a := gD a b) (b := absI (addV a b) % gD a b) (by omega) m0
  have hg2 : Qf Tryz.prog F.ratio_gcd #[.int .u64 (gD a b), .int .u64 (absI (addV a b) % gD a b)] H (.int .u64 (addH a b)) := hg2
  have es : addM a b = buildM (plusM (!(decide (a.1 < 0) == decide (b.2 / gD a b < 0))) (!(decide (b.1 < 0) == decide (a.2 / gD a b < 0))) (absI (a.1 * (b.2 / gD a b))) (absI (b.1 * (a.2 / gD a b)))).1 (absI (addV a b) / addH a b) (a.2 / gD a b * (b.2 / addH a b)) := by
    unfold addM; rw [if_pos ⟨oa, ob⟩]
    refine buildM_sign fun hne => ?_
    have hz : addV a b ≠ 0 := fun h => hne (by rw [h]; simp [absI])
    rw [Bool.eq_iff_iff, p2 hz, decide_eq_true_eq]
  rw [es]
  generalize (plusM (!(decide (a.1 < 0) == decide (b.2 / gD a b < 0))) (!(decide (b.1 < 0) == decide (a.2 / gD a b < 0))) (absI (a.1 * (b.2 / gD a b))) (absI (b.1 * (a.2 / gD a b)))).1 = S at *
  have o1 := ratioOver (H := H) (c := S) (V := absI (addV a b)) (d := gD a b) v0 (by omega) g0 (by omega)
  have o2 := ratioOver (H := H) (c := S) (V := absI (addV a b)) (d := addH a b) v0 (by omega) h0 (by omega)
  have mu := mul64 (H := H) (x := a.2 / gD a b) (y := b.2 / addH a b) (by omega) (by omega) z0 (by omega)
  have nq : 0 ≤ absI (addV a b) / addH a b := Int.ediv_nonneg v0 (by omega)
  have bd := ratioBuild (H := H) (c := S) (N := absI (addV a b) / addH a b) (D := a.2 / gD a b * (b.2 / addH a b)) nq (Int.mul_nonneg (by omega) z0)
  have wg : IntKind.i64.wrap (gD a b) = gD a b := i64s (by omega) (by omega)
  have wa : wrapU a.2 = a.2 := wrapU_id (by omega) (by omega)
  have wb : wrapU b.2 = b.2 := wrapU_id (by omega) (by omega)
  have wgu : wrapU (gD a b) = gD a b := wrapU_id (by omega) (by omega)
  have da : a.2.tdiv (gD a b) = a.2 / gD a b := Int.tdiv_eq_ediv_of_nonneg (by omega)
  have db : b.2.tdiv (gD a b) = b.2 / gD a b := Int.tdiv_eq_ediv_of_nonneg (by omega)
  have dh : b.2.tdiv (addH a b) = b.2 / addH a b := Int.tdiv_eq_ediv_of_nonneg (by omega)
  have wx : wrapU (a.2 / gD a b) = a.2 / gD a b := wrapU_id (by omega) (by omega)
  have wy : wrapU (b.2 / addH a b) = b.2 / addH a b := wrapU_id z0 (by omega)
  rw [wa, wb]
  refine ⟨gD a b, hg, ?_⟩
  rw [wg, wgu, da, db, wx]
  refine ⟨⟨by unfold nz; omega, by unfold inI; omega⟩, _, _, _, t1, ⟨by unfold nz; omega, by unfold inI; omega⟩, _, _, _, t2, _, _, _, pl, _, _, _, _, o1, addH a b, hg2, _, _, _, _, o2, ⟨by unfold nz; omega, by unfold inI; omega⟩, by unfold nz; omega, ?_⟩
  rw [dh, wy]
  exact ⟨_, _, mu, _, _, _, bd, rfl, Hp.le_refl _⟩

set_option maxHeartbeats 1000000 in
theorem refAdd {H : Hp} {a b : Int × Int} (ha : fitR a) (hb : fitR b) :
    Qf Tryz.prog F.pelotonref01_Add #[sI2 a.1 a.2, sI2 b.1 b.2] H (.tuple #[sI2 (addM a b).1.1 (addM a b).1.2, .int .i64 (addM a b).2]) := by
  refine pelotonref01_Add_vc ⟨_, refBoth ha hb, fun hc => ⟨_, refBoth ha hb, ?_⟩, fun hc => ?_⟩
  · have h : ¬ (okR a ∧ okR b) := fun x => by rw [if_pos x] at hc; simp at hc
    unfold addM; rw [if_neg h, if_neg h]; exact ⟨rfl, Hp.le_refl _⟩
  have ok : okR a ∧ okR b := by
    by_cases x : okR a ∧ okR b
    · exact x
    · rw [if_neg x] at hc; simp at hc
  obtain ⟨oa, ob⟩ := ok
  obtain ⟨g0, g1, x0, x1, y0, y1, s1, s2, h0, h1, z0, z1⟩ := addB oa ob
  have a1 := oa.d1; have a2 := oa.d2
  have b1 := ob.d1; have b2 := ob.d2
  have hg := refCommon (H := H) (a := a.2) (b := b.2) (by omega) (by omega)
  have hg : Qf Tryz.prog F.pelotonref01_common #[.int .u64 a.2, .int .u64 b.2] H (.int .u64 (gD a b)) := hg
  obtain ⟨c1, u1, w1, t1, B1⟩ := refProduct (H := H) (a := a.1) (b := b.2 / gD a b) oa.fit.1 (by unfold inI; omega)
  obtain ⟨c2, u2, w2, t2, B2⟩ := refProduct (H := H) (a := b.1) (b := a.2 / gD a b) ob.fit.1 (by unfold inI; omega)
  obtain ⟨S, hh, ll, pl, B3⟩ := refPlus (H := H) B1 B2 s1 s2
  obtain ⟨k0, k1, k2, k3, k4, k5⟩ := B3
  have eV : a.1 * (b.2 / gD a b) + b.1 * (a.2 / gD a b) = addV a b := rfl
  rw [eV] at k4 k5
  have v0 := absI_nonneg (addV a b)
  have av := absI_iff (addV a b)
  have hX : hh * 18446744073709551616 + ll = absI (addV a b) := by
    cases S with
    | true => have := k4 rfl; omega
    | false => have := k5 rfl; omega
  have m0 : 0 ≤ absI (addV a b) % gD a b := Int.emod_nonneg _ (by omega)
  have hg2 := refCommon (H := H) (a := gD a b) (b := absI (addV a b) % gD a b) (by omega) m0
  have hg2 : Qf Tryz.prog F.pelotonref01_common #[.int .u64 (gD a b), .int .u64 (absI (addV a b) % gD a b)] H (.int .u64 (addH a b)) := hg2
  have es : addM a b = buildM S (absI (addV a b) / addH a b) (a.2 / gD a b * (b.2 / addH a b)) := by
    unfold addM; rw [if_pos ⟨oa, ob⟩]
    refine buildM_sign fun _ => ?_
    cases S with
    | true => exact decide_eq_true (k4 rfl).1
    | false => exact decide_eq_false (by have := (k5 rfl).1; omega)
  rw [es]
  have dv : ∀ {d : Int}, 1 ≤ d → d ≤ 9223372036854775807 → Qf Tryz.prog F.pelotonref01_divided #[.agg #[.bool S, .int .u64 hh, .int .u64 ll], .int .u64 d] H (.tuple #[.agg #[.bool false, .int .u64 (absI (addV a b) / d / 18446744073709551616), .int .u64 (absI (addV a b) / d % 18446744073709551616)], .int .u64 (absI (addV a b) % d)]) := fun {d} d0 d1 => by
    obtain ⟨V, rfl⟩ := Int.eq_ofNat_of_zero_le k0
    obtain ⟨W, rfl⟩ := Int.eq_ofNat_of_zero_le k2
    obtain ⟨D, rfl⟩ := Int.eq_ofNat_of_zero_le (show 0 ≤ d by omega)
    have := refDivided (H := H) (c := S) (V := V) (W := W) (d := D) (by omega) (by omega) (by omega) (by omega)
    have eX : absI (addV a b) = ((V * 18446744073709551616 + W : Nat) : Int) := by omega
    rw [eX]
    simpa using this
  have mu := refProd (H := H) (x := a.2 / gD a b) (y := b.2 / addH a b) (by omega) (by omega) z0 (by omega)
  have nq : 0 ≤ absI (addV a b) / addH a b := Int.ediv_nonneg v0 (by omega)
  have bd := refMade (H := H) (c := S) (c1 := false) (c2 := false) (N := absI (addV a b) / addH a b) (D := a.2 / gD a b * (b.2 / addH a b)) nq (Int.mul_nonneg (by omega) z0)
  have wg : IntKind.i64.wrap (gD a b) = gD a b := i64s (by omega) (by omega)
  have wa : wrapU a.2 = a.2 := wrapU_id (by omega) (by omega)
  have wb : wrapU b.2 = b.2 := wrapU_id (by omega) (by omega)
  have wgu : wrapU (gD a b) = gD a b := wrapU_id (by omega) (by omega)
  have da : a.2.tdiv (gD a b) = a.2 / gD a b := Int.tdiv_eq_ediv_of_nonneg (by omega)
  have db : b.2.tdiv (gD a b) = b.2 / gD a b := Int.tdiv_eq_ediv_of_nonneg (by omega)
  have dh : b.2.tdiv (addH a b) = b.2 / addH a b := Int.tdiv_eq_ediv_of_nonneg (by omega)
  have wx : wrapU (a.2 / gD a b) = a.2 / gD a b := wrapU_id (by omega) (by omega)
  have wy : wrapU (b.2 / addH a b) = b.2 / addH a b := wrapU_id z0 (by omega)
  rw [wa, wb]
  refine ⟨gD a b, hg, ?_⟩
  rw [wg, wgu, da, db, wx]
  refine ⟨⟨by unfold nz; omega, by unfold inI; omega⟩, _, _, _, t1, ⟨by unfold nz; omega, by unfold inI; omega⟩, _, _, _, t2, _, _, _, pl, _, _, _, _, dv g0 g1, addH a b, hg2, _, _, _, _, dv h0 (by omega), ⟨by unfold nz; omega, by unfold inI; omega⟩, by unfold nz; omega, ?_⟩
  rw [dh, wy]
  exact ⟨_, _, _, mu, _, _, _, bd, rfl, Hp.le_refl _⟩
end Go.Proofs.YtodmhdfenpkbdaaGreat
