/- Fractions: adding to a whole number. Conditions: none. -/
import Derived.Test.YthmlkdflhnjhcaaK7
import Derived.Test.YthmlkdflhnjhcaaVgBase
import Derived.Test.YthmlkdflhnjhcaaVgStd
import Derived.Test.YthmlkdflhnjhcaaFs
set_option linter.unusedVariables false
set_option maxRecDepth 100000
open Go Go.Eng Go.Proofs
namespace Go.Proofs.Ythmlkdflhnjhcaa

theorem ratioOver1 {H : Hp} {c : Bool} {h l : Int} (h0 : 0 ≤ h) (h1 : h < 18446744073709551616) (l0 : 0 ≤ l) (l1 : l < 18446744073709551616) :
    Qf Try.prog F.ratio_wide_over #[.agg #[.bool c, .int .u64 h, .int .u64 l], .int .u64 1] H (.tuple #[.agg #[.bool c, .int .u64 h, .int .u64 l], .int .u64 0]) := by
  have e1 : h.tmod 1 = 0 := by simp
  have e2 : h.tdiv 1 = h := by simp
  have e3 : l.tmod 1 = 0 := by simp
  have e4 : l.tdiv 1 = l := by simp
  have hd : Qf Try.prog F.math_bits_Div64 #[.int .u64 0, .int .u64 l, .int .u64 1] H (.tuple #[.int .u64 l, .int .u64 0]) := by
    refine math_bits_Div64_vc ⟨fun x => by simp at x, fun _ => ⟨fun x => by simp at x, fun _ => ⟨fun _ => ⟨by unfold nz; omega, by unfold nz; omega, ?_, Hp.le_refl _⟩, fun x => by simp at x⟩⟩⟩
    rw [e3, e4, wrapUs l0 l1]
  refine ratio_wide_over_vc ⟨by unfold nz; omega, by unfold nz; omega, _, _, by rw [e1]; exact hd, ?_, Hp.le_refl _⟩
  rw [e2, wrapUs h0 h1]

def addW (A : Int) (b : Int × Int) : (Int × Int) × Int :=
  if okR b then (let p := plusM (!(decide (A < 0) == decide (b.2 < 0))) (!(decide (b.1 < 0) == decide ((1 : Int) < 0))) (absI (A * b.2)) (absI (b.1 * 1)); buildM p.1 p.2 b.2) else ((0, 0), 8)
theorem okW {A : Int} (h1 : -2097152 ≤ A) (h2 : A ≤ 2097152) : okR (A, 1) := ⟨by show (1 : Int) ≤ 1; omega, by show (1 : Int) ≤ _; omega, by show _ ≤ A; omega, by show A ≤ _; omega, by simp⟩

theorem ratioAdd1 {H : Hp} {A : Int} {b : Int × Int} (h1 : -2097152 ≤ A) (h2 : A ≤ 2097152) (hb : fitR b) :
    Qf Try.prog F.ratio_Add #[.agg #[.int .i64 A, .int .i64 1], .agg #[.int .i64 b.1, .int .i64 b.2]] H (.tuple #[.agg #[.int .i64 (addW A b).1.1, .int .i64 (addW A b).1.2], .int .i64 (addW A b).2]) := by
  have oa := okW h1 h2
  refine ratio_Add_vc ⟨_, ratioBoth (a := (A, 1)) oa.fit hb, fun hc => ?_, fun hc => ?_⟩
  · have h : ¬ okR b := fun x => by rw [if_pos ⟨oa, x⟩] at hc; simp at hc
    unfold addW; rw [if_neg h, if_neg fun x => h x.2]; exact ⟨rfl, Hp.le_refl _⟩
  · have ob : okR b := by
      by_cases x : okR b
      · exact x
      · rw [if_neg fun y => x y.2] at hc; simp at hc
    have d3 := ob.d1; have d4 := ob.d2
    rw [wrapUs (n := b.2) (by omega) (by omega), show wrapU 1 = 1 from by decide]
    have hg : Qf Try.prog F.ratio_gcd #[.int .u64 1, .int .u64 b.2] H (.int .u64 1) := by
      have := ratioGcd (H := H) (a := 1) (b := b.2) (by omega) (by omega)
      rw [show ((1 : Int).toNat) = 1 from rfl, Nat.gcd_one_left] at this; exact this
    have hg2 : Qf Try.prog F.ratio_gcd #[.int .u64 1, .int .u64 0] H (.int .u64 1) := by
      have := ratioGcd (H := H) (a := 1) (b := 0) (by omega) (by omega)
      rw [show ((1 : Int).toNat) = 1 from rfl, Nat.gcd_one_left] at this; exact this
    refine ⟨_, hg, ?_⟩
    rw [show IntKind.i64.wrap 1 = 1 from by decide, show b.2.tdiv 1 = b.2 by simp, show (1 : Int).tdiv 1 = 1 by simp, show wrapU 1 = 1 from by decide]
    have small : ∀ {u v : Int}, -2097152 ≤ u → u ≤ 2097152 → inI v → absI (u * v) < 170141183460469231731687303715884105728 ∧ 0 ≤ absI (u * v) := fun {u v} q1 q2 hv => by
      have hu : absI u ≤ 2097152 := by unfold absI; split <;> omega
      have pu : 0 ≤ absI u := by unfold absI; split <;> omega
      have hbb := absB hv
      rw [← absI_mul]
      have := Int.mul_le_mul hu hbb.2 hbb.1 (by omega)
      exact ⟨by omega, Int.mul_nonneg pu hbb.1⟩
    have s1 := small h1 h2 hb.2
    have s2 := small (u := 1) (v := b.1) (by omega) (by omega) hb.1
    rw [Int.one_mul] at s2
    have iA : inI A := by unfold inI; omega
    have pl := ratioPlus (H := H) (c := !(decide (A < 0) == decide (b.2 < 0))) (d := !(decide (b.1 < 0) == decide ((1 : Int) < 0))) s1.2 s1.1 (M := absI (b.1 * 1)) (by rw [Int.mul_one]; exact s2.2) (by rw [Int.mul_one]; exact s2.1)
    have hp : 0 ≤ (plusM (!(decide (A < 0) == decide (b.2 < 0))) (!(decide (b.1 < 0) == decide ((1 : Int) < 0))) (absI (A * b.2)) (absI (b.1 * 1))).2 ∧ (plusM (!(decide (A < 0) == decide (b.2 < 0))) (!(decide (b.1 < 0) == decide ((1 : Int) < 0))) (absI (A * b.2)) (absI (b.1 * 1))).2 < 340282366920938463463374607431768211456 := by
      rw [Int.mul_one]
      unfold plusM
      split
      · exact ⟨by show 0 ≤ _ + _; omega, by show _ + _ < _; omega⟩
      · split
        · exact ⟨by show 0 ≤ _ - _; omega, by show _ - _ < _; omega⟩
        · exact ⟨by show 0 ≤ _ - _; omega, by show _ - _ < _; omega⟩
    have es : addW A b = buildM (plusM (!(decide (A < 0) == decide (b.2 < 0))) (!(decide (b.1 < 0) == decide ((1 : Int) < 0))) (absI (A * b.2)) (absI (b.1 * 1))).1 (plusM (!(decide (A < 0) == decide (b.2 < 0))) (!(decide (b.1 < 0) == decide ((1 : Int) < 0))) (absI (A * b.2)) (absI (b.1 * 1))).2 b.2 := by unfold addW; rw [if_pos ob]
    rw [es]
    generalize plusM (!(decide (A < 0) == decide (b.2 < 0))) (!(decide (b.1 < 0) == decide ((1 : Int) < 0))) (absI (A * b.2)) (absI (b.1 * 1)) = P at *
    have ov := ratioOver1 (H := H) (c := P.1) (h := P.2 / 18446744073709551616) (l := P.2 % 18446744073709551616) (by omega) (by omega) (by omega) (by omega)
    have mu := mul64 (H := H) (x := 1) (y := b.2) (by omega) (by omega) (by omega) (by omega)
    rw [Int.one_mul] at mu
    refine ⟨⟨by unfold nz; omega, by unfold inI; omega⟩, _, _, _, ratioTimes iA hb.2, ⟨by unfold nz; omega, by unfold inI; omega⟩, _, _, _, ratioTimes hb.1 (by unfold inI; omega), _, _, _, pl, _, _, _, _, ov, _, hg2, _, _, _, _, ov, ⟨by unfold nz; omega, by unfold inI; omega⟩, by unfold nz; omega, _, _, ?_, _, _, _, ratioBuild hp.1 (by omega), rfl, Hp.le_refl _⟩
    rw [show b.2.tdiv 1 = b.2 by simp, wrapUs (n := b.2) (by omega) (by omega)]
    exact mu
end Go.Proofs.Ythmlkdflhnjhcaa
