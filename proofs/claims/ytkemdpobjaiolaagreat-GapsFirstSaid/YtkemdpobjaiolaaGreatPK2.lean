/- The engine, parts K5, K6, K7, K8, K9, KA, KB, KC, put together. Conditions: none. -/
import Derived.Test.YtkemdpobjaiolaaGreatPK1
import Derived.Test.YtkemdpobjaiolaaGreatVgGaps
import Derived.Test.YtkemdpobjaiolaaGreatFs
import Derived.Test.YtkemdpobjaiolaaGreatFx
import Derived.Laws.Externs
import Derived.Shelf.Spec.BitsCarry
import Derived.Test.YtkemdpobjaiolaaGreatVgBase
import Derived.Test.YtkemdpobjaiolaaGreatVgStd
import Derived.Test.YtkemdpobjaiolaaGreatE7
set_option linter.unusedVariables false
section
/- When a gap closes, in plain words. Conditions: none. -/
set_option maxRecDepth 100000
open Go Go.Eng Go.Proofs
namespace Go.Proofs.YtkemdpobjaiolaaGreat

theorem makeNeg {A B : Int} (h1 : -2097152 ≤ A) (h2 : A ≤ 2097152) (h3 : -2097152 ≤ B) (h4 : B < 0) :
    ∃ x y g : Int, 0 < g ∧ makeM (-A) B = ((x, y), 0) ∧ x * g = A ∧ y * g = -B ∧ okR (x, y) := by
  obtain ⟨a, ha⟩ : ∃ a : Nat, (a : Int) = absI (-A) := ⟨(absI (-A)).toNat, by unfold absI; split <;> omega⟩
  obtain ⟨b, hb⟩ : ∃ b : Nat, (b : Int) = absI B := ⟨(absI B).toNat, by unfold absI; split <;> omega⟩
  have a1 : a ≤ 2097152 := by unfold absI at ha; split at ha <;> omega
  have b1 : 0 < b ∧ b ≤ 2097152 := by unfold absI at hb; split at hb <;> omega
  have hG : 0 < Nat.gcd a b := Nat.gcd_pos_of_pos_right _ b1.1
  have da := Nat.gcd_dvd_left a b
  have db := Nat.gcd_dvd_right a b
  have ea := Nat.div_mul_cancel da
  have eb := Nat.div_mul_cancel db
  have cop := Nat.gcd_div_gcd_div_gcd_of_pos_right (n := a) (m := b) b1.1
  have la : a / Nat.gcd a b ≤ a := Nat.div_le_self _ _
  have lb : b / Nat.gcd a b ≤ b := Nat.div_le_self _ _
  have pb : 0 < b / Nat.gcd a b := Nat.div_pos (Nat.le_of_dvd b1.1 db) hG
  have hgc : gcdA (-A) B = (Nat.gcd a b : Nat) := by unfold gcdA; rw [← ha, ← hb, Int.toNat_natCast, Int.toNat_natCast]
  have hm : makeM (-A) B = buildM (!(decide (-A < 0) == decide (B < 0))) ((a / Nat.gcd a b : Nat) : Int) ((b / Nat.gcd a b : Nat) : Int) := by
    unfold makeM
    rw [if_neg (by omega), hgc, ← ha, ← hb]; try rfl
  generalize Nat.gcd a b = G at *
  generalize a / G = N at *
  generalize b / G = D at *
  have eaz : (N : Int) * G = a := by exact_mod_cast ea
  have ebz : (D : Int) * G = b := by exact_mod_cast eb
  have hB : (b : Int) = -B := by unfold absI at hb; rw [if_pos h4] at hb; omega
  rw [hm]
  unfold buildM
  rw [if_neg (by omega)]
  by_cases hA : 0 < A
  · have e : (!(decide (-A < 0) == decide (B < 0))) = false := by rw [decide_eq_true (by omega : -A < 0), decide_eq_true h4]; try rfl
    have hAa : (a : Int) = A := by unfold absI at ha; rw [if_pos (by omega)] at ha; omega
    rw [e]
    exact ⟨N, D, G, by omega, rfl, by rw [eaz]; exact hAa, by rw [ebz]; exact hB, ⟨by show (1 : Int) ≤ D; omega, by show (D : Int) ≤ _; omega, by show _ ≤ (N : Int); omega, by show (N : Int) ≤ _; omega, by show Nat.gcd (N : Int).natAbs (D : Int).natAbs = 1; simpa using cop⟩⟩
  · have e : (!(decide (-A < 0) == decide (B < 0))) = true := by rw [decide_eq_false (by omega : ¬ -A < 0), decide_eq_true h4]; try rfl
    have hAa : (a : Int) = -A := by unfold absI at ha; rw [if_neg (by omega)] at ha; omega
    rw [e]
    exact ⟨0 - N, D, G, by omega, rfl, by rw [Int.sub_mul, eaz]; omega, by rw [ebz]; exact hB, ⟨by show (1 : Int) ≤ D; omega, by show (D : Int) ≤ _; omega, by show _ ≤ (0 - (N : Int)); omega, by show (0 - (N : Int)) ≤ _; omega, by show Nat.gcd (0 - (N : Int)).natAbs (D : Int).natAbs = 1; rw [show (0 - (N : Int)).natAbs = N by omega]; simpa using cop⟩⟩

/-- It closes later, if its value is more than 0. -/
theorem close_sign {x y g A B : Int} {t : Int × Int} (hg : 0 < g) (hx : x * g = A) (hy : y * g = -B) : (x * t.2 ≤ t.1 * y) ↔ A * t.2 + B * t.1 ≤ 0 := by
  have e : (t.1 * y - x * t.2) * g = -(A * t.2 + B * t.1) := by
    have hB : B = -(y * g) := by omega
    rw [← hx, hB, Int.sub_mul, Int.mul_assoc, Int.neg_mul]
    have h1 : x * g * t.2 = x * t.2 * g := by rw [Int.mul_assoc, Int.mul_comm g, ← Int.mul_assoc]
    have h2 : y * g * t.1 = t.1 * (y * g) := Int.mul_comm ..
    omega
  constructor
  · intro h
    have : 0 ≤ (t.1 * y - x * t.2) * g := Int.mul_nonneg (by omega) (by omega)
    omega
  · intro h
    have h0 : 0 ≤ (t.1 * y - x * t.2) * g := by omega
    rcases Int.lt_or_le (t.1 * y - x * t.2) 0 with hn | hn
    · have := Int.mul_neg_of_neg_of_pos hn hg
      omega
    · omega
end Go.Proofs.YtkemdpobjaiolaaGreat
end
section
/- When a gap closes: both functions. Conditions: none. -/
set_option maxRecDepth 100000
open Go Go.Eng Go.Proofs
namespace Go.Proofs.YtkemdpobjaiolaaGreat

def closesM (g : Gp) (t : Int × Int) : (Int × Int) × Int :=
  if okGp g ∧ okR t then (if 0 ≤ g.b ∨ g.a * t.2 + g.b * t.1 ≤ 0 then ((0, 0), 6) else makeM (-g.a) g.b) else ((0, 0), 8)

theorem askM_bad {g : Gp} {t : Int × Int} (h : ¬ (okGp g ∧ okR t)) : askM g t = 8 := by unfold askM; rw [if_neg h]
theorem cmpI_le {x y : Int} : cmpI x y ≤ 0 ↔ x ≤ y := by
  unfold cmpI
  split
  · simp; omega
  · split
    · simp; omega
    · simp; omega

theorem gapsCloses {H : Hp} {g : Gp} {t : Int × Int} (ht : fitR t) : Qf Tryz.prog F.gaps_Closes #[gpV g, .agg #[.int .i64 t.1, .int .i64 t.2]] H (.tuple #[.agg #[.int .i64 (closesM g t).1.1, .int .i64 (closesM g t).1.2], .int .i64 (closesM g t).2]) := by
  refine gaps_Closes_vc ⟨_, gapsAsk ht, fun hc => ?_, fun hc => ?_⟩
  · have h : ¬ (okGp g ∧ okR t) := fun x => by rw [askM_ok x.1 x.2] at hc; simp at hc
    unfold closesM
    rw [if_neg h, askM_bad h]; exact ⟨rfl, Hp.le_refl _⟩
  · have ok : okGp g ∧ okR t := askM_zero.1 (by simpa using hc)
    obtain ⟨o1, o2, o3, o4, o5, o6, o7, o8, o9⟩ := ok.1
    unfold closesM
    rw [if_pos ok]
    refine ⟨fun hb => ?_, fun hb => ?_⟩
    · have hb : 0 ≤ g.b := by simpa using hb
      rw [if_pos (.inl hb)]; exact ⟨rfl, Hp.le_refl _⟩
    · have hb : g.b < 0 := by have : ¬ 0 ≤ g.b := (by simpa using hb); omega
      obtain ⟨x, y, q, hq, hm, hx, hy, okxy⟩ := makeNeg o6 o7 o8 hb
      have rm := ratioMake (H := H) (n := -g.a) (d := g.b) (by unfold inI; omega) (by unfold inI; omega)
      rw [hm] at rm
      rw [show 0 - g.a = -g.a by omega]
      have hcl := close_sign (t := t) hq hx hy
      have rc := ratioCmp (H := H) (a := (x, y)) (b := t) okxy.fit ht
      have ec : cmpM (x, y) t = (cmpI (x * t.2) (t.1 * y), 0) := by unfold cmpM; rw [if_pos ⟨okxy, ok.2⟩]; try rfl
      rw [ec] at rc
      refine ⟨by unfold inI; omega, _, _, _, rm, _, _, rc, fun hh => ?_, fun hh => ?_⟩
      · have hh : cmpI (x * t.2) (t.1 * y) ≤ 0 := by simpa using hh
        rw [if_pos (.inr (hcl.1 (cmpI_le.1 hh)))]; exact ⟨rfl, Hp.le_refl _⟩
      · have hh : ¬ cmpI (x * t.2) (t.1 * y) ≤ 0 := by simpa using hh
        rw [if_neg (by rintro (h | h); · omega
                       · exact hh (cmpI_le.2 (hcl.2 h))), hm]
        exact ⟨rfl, Hp.le_refl _⟩

end Go.Proofs.YtkemdpobjaiolaaGreat
end
section
/- Sums of 128 bits with a sign. Conditions: none. -/
set_option maxRecDepth 100000
open Go Go.Eng Go.Proofs
namespace Go.Proofs.YtkemdpobjaiolaaGreat

theorem add64c {H : Hp} {x y c : Int} (hx : 0 ≤ x) (hy : 0 ≤ y) (hc : 0 ≤ c) (hc' : c ≤ 1) : OpQ Tryz.prog (callFunc F.math_bits_Add64 #[.int .u64 x, .int .u64 y, .int .u64 c]) H (.tuple #[.int .u64 ((x + y + c) % 18446744073709551616), .int .u64 ((x + y + c) / 18446744073709551616)]) := by
  intro w _
  rw [run_callFunc_extern func_Add64 (by kernel_rfl) (by kernel_rfl) (by kernel_rfl) (e := add64Entry) (by kernel_rfl), run_add64 x y c hx hy hc hc']
  simp only [Result.andThen]

theorem sub64c {H : Hp} {x y b : Int} (hx : 0 ≤ x) (hy : 0 ≤ y) (hy' : y < 18446744073709551616) (hb : 0 ≤ b) (hb' : b ≤ 1) : OpQ Tryz.prog (callFunc F.math_bits_Sub64 #[.int .u64 x, .int .u64 y, .int .u64 b]) H (.tuple #[.int .u64 ((x - y - b) % 18446744073709551616), .int .u64 (if x < y + b then 1 else 0)]) := by
  intro w _
  obtain ⟨x, rfl⟩ := Int.eq_ofNat_of_zero_le hx
  obtain ⟨y, rfl⟩ := Int.eq_ofNat_of_zero_le hy
  obtain ⟨b, rfl⟩ := Int.eq_ofNat_of_zero_le hb
  rw [run_callFunc_extern func_Sub64 (by kernel_rfl) (by kernel_rfl) (by kernel_rfl) (e := sub64Entry) (by kernel_rfl), run_sub64 x y b (by omega)]
  simp only [Result.andThen]
  have e1 : (((x + 18446744073709551616 - y - b) % 18446744073709551616 : Nat) : Int) = ((x : Int) - y - b) % 18446744073709551616 := by omega
  have e2 : ((if x < y + b then 1 else 0 : Nat) : Int) = if (x : Int) < (y : Int) + b then 1 else 0 := by
    by_cases h : x < y + b
    · rw [if_pos h, if_pos (by omega)]; try rfl
    · rw [if_neg h, if_neg (by omega)]; try rfl
  rw [e1, e2]

def plusM (c d : Bool) (N M : Int) : Bool × Int := if c = d then (c, N + M) else if N < M then (d, M - N) else (c, N - M)
theorem ratioPlus {H : Hp} {c d : Bool} {N M : Int} (hN : 0 ≤ N) (hN' : N < 170141183460469231731687303715884105728) (hM : 0 ≤ M) (hM' : M < 170141183460469231731687303715884105728) :
    Qf Tryz.prog F.ratio_plus #[.agg #[.bool c, .int .u64 (N / 18446744073709551616), .int .u64 (N % 18446744073709551616)], .agg #[.bool d, .int .u64 (M / 18446744073709551616), .int .u64 (M % 18446744073709551616)]] H
      (.agg #[.bool (plusM c d N M).1, .int .u64 ((plusM c d N M).2 / 18446744073709551616), .int .u64 ((plusM c d N M).2 % 18446744073709551616)]) := by
  have n0 : 0 ≤ N / 18446744073709551616 := by omega
  have m0 : 0 ≤ M / 18446744073709551616 := by omega
  have n1 : 0 ≤ N % 18446744073709551616 := by omega
  have m1 : 0 ≤ M % 18446744073709551616 := by omega
  refine ratio_plus_vc ⟨fun h => ?_, fun h => ?_⟩
  · have h : c = d := by simpa using h
    refine ⟨_, _, add64c n1 m1 (by omega) (by omega), _, _, add64c n0 m0 (by omega) (by omega), ?_, Hp.le_refl _⟩
    unfold plusM; rw [if_pos h]
    have e1 : (N / 18446744073709551616 + M / 18446744073709551616 + (N % 18446744073709551616 + M % 18446744073709551616 + 0) / 18446744073709551616) % 18446744073709551616 = (N + M) / 18446744073709551616 := by omega
    have e2 : (N % 18446744073709551616 + M % 18446744073709551616 + 0) % 18446744073709551616 = (N + M) % 18446744073709551616 := by omega
    rw [e1, e2]
  · have h : ¬ c = d := by simpa using h
    refine ⟨_, ratioCompare hN hM, fun hc => ?_, fun hc => ?_⟩
    · have hc : N < M := cmpI_lt.1 (by simpa using hc)
      refine ⟨_, _, sub64c m1 n1 (by omega) (by omega) (by omega), _, _, sub64c m0 n0 (by omega) (by split <;> omega) (by split <;> omega), ?_, Hp.le_refl _⟩
      unfold plusM; rw [if_neg h, if_pos hc]
      have e1 : (M / 18446744073709551616 - N / 18446744073709551616 - (if M % 18446744073709551616 < N % 18446744073709551616 + 0 then 1 else 0)) % 18446744073709551616 = (M - N) / 18446744073709551616 := by split <;> omega
      have e2 : (M % 18446744073709551616 - N % 18446744073709551616 - 0) % 18446744073709551616 = (M - N) % 18446744073709551616 := by omega
      rw [e1, e2]
    · have hc : ¬ N < M := fun x => by have := cmpI_lt.2 x; simp at hc; omega
      refine ⟨_, _, sub64c n1 m1 (by omega) (by omega) (by omega), _, _, sub64c n0 m0 (by omega) (by split <;> omega) (by split <;> omega), ?_, Hp.le_refl _⟩
      unfold plusM; rw [if_neg h, if_neg hc]
      have e1 : (N / 18446744073709551616 - M / 18446744073709551616 - (if N % 18446744073709551616 < M % 18446744073709551616 + 0 then 1 else 0)) % 18446744073709551616 = (N - M) / 18446744073709551616 := by split <;> omega
      have e2 : (N % 18446744073709551616 - M % 18446744073709551616 - 0) % 18446744073709551616 = (N - M) % 18446744073709551616 := by omega
      rw [e1, e2]
end Go.Proofs.YtkemdpobjaiolaaGreat
end
section
/- Fractions: adding to a whole number. Conditions: none. -/
set_option maxRecDepth 100000
open Go Go.Eng Go.Proofs
namespace Go.Proofs.YtkemdpobjaiolaaGreat

theorem ratioOver1 {H : Hp} {c : Bool} {h l : Int} (h0 : 0 ≤ h) (h1 : h < 18446744073709551616) (l0 : 0 ≤ l) (l1 : l < 18446744073709551616) :
    Qf Tryz.prog F.ratio_wide_over #[.agg #[.bool c, .int .u64 h, .int .u64 l], .int .u64 1] H (.tuple #[.agg #[.bool c, .int .u64 h, .int .u64 l], .int .u64 0]) := by
  have e1 : h.tmod 1 = 0 := by simp
  have e2 : h.tdiv 1 = h := by simp
  have e3 : l.tmod 1 = 0 := by simp
  have e4 : l.tdiv 1 = l := by simp
  have hd : Qf Tryz.prog F.math_bits_Div64 #[.int .u64 0, .int .u64 l, .int .u64 1] H (.tuple #[.int .u64 l, .int .u64 0]) := by
    refine math_bits_Div64_vc ⟨fun x => by simp at x, fun _ => ⟨fun x => by simp at x, fun _ => ⟨fun _ => ⟨by unfold nz; omega, by unfold nz; omega, ?_, Hp.le_refl _⟩, fun x => by simp at x⟩⟩⟩
    rw [e3, e4, wrapUs l0 l1]
  refine ratio_wide_over_vc ⟨by unfold nz; omega, by unfold nz; omega, _, _, by rw [e1]; exact hd, ?_, Hp.le_refl _⟩
  rw [e2, wrapUs h0 h1]

def addW (A : Int) (b : Int × Int) : (Int × Int) × Int :=
  if okR b then (let p := plusM (!(decide (A < 0) == decide (b.2 < 0))) (!(decide (b.1 < 0) == decide ((1 : Int) < 0))) (absI (A * b.2)) (absI (b.1 * 1)); buildM p.1 p.2 b.2) else ((0, 0), 8)
theorem okW {A : Int} (h1 : -2097152 ≤ A) (h2 : A ≤ 2097152) : okR (A, 1) := ⟨by show (1 : Int) ≤ 1; omega, by show (1 : Int) ≤ _; omega, by show _ ≤ A; omega, by show A ≤ _; omega, by simp⟩

theorem ratioAdd1 {H : Hp} {A : Int} {b : Int × Int} (h1 : -2097152 ≤ A) (h2 : A ≤ 2097152) (hb : fitR b) :
    Qf Tryz.prog F.ratio_Add #[.agg #[.int .i64 A, .int .i64 1], .agg #[.int .i64 b.1, .int .i64 b.2]] H (.tuple #[.agg #[.int .i64 (addW A b).1.1, .int .i64 (addW A b).1.2], .int .i64 (addW A b).2]) := by
  have oa := okW h1 h2
  refine ratio_Add_vc ⟨_, ratioBoth (a := (A, 1)) oa.fit hb, fun hc => ?_, fun hc => ?_⟩
  · have h : ¬ okR b := fun x => by rw [if_pos ⟨oa, x⟩] at hc; simp at hc
    unfold addW; rw [if_neg h, if_neg fun x => h x.2]; exact ⟨rfl, Hp.le_refl _⟩
  · have ob : okR b := by
      by_cases x : okR b
      · exact x
      · rw [if_neg fun y => x y.2] at hc; simp at hc
    have d3 := ob.d1; have d4 := ob.d2
    rw [wrapUs (n := b.2) (by omega) (by omega), show wrapU 1 = 1 from by decide]
    have hg : Qf Tryz.prog F.ratio_gcd #[.int .u64 1, .int .u64 b.2] H (.int .u64 1) := by
      have := ratioGcd (H := H) (a := 1) (b := b.2) (by omega) (by omega)
      rw [show ((1 : Int).toNat) = 1 from rfl, Nat.gcd_one_left] at this; exact this
    have hg2 : Qf Tryz.prog F.ratio_gcd #[.int .u64 1, .int .u64 0] H (.int .u64 1) := by
      have := ratioGcd (H := H) (a := 1) (b := 0) (by omega) (by omega)
      rw [show ((1 : Int).toNat) = 1 from rfl, Nat.gcd_one_left] at this; exact this
    refine ⟨_, hg, ?_⟩
    rw [show IntKind.i64.wrap 1 = 1 from by decide, show b.2.tdiv 1 = b.2 by simp, show (1 : Int).tdiv 1 = 1 by simp, show wrapU 1 = 1 from by decide]
    have small : ∀ {u v : Int}, -2097152 ≤ u → u ≤ 2097152 → inI v → absI (u * v) < 170141183460469231731687303715884105728 ∧ 0 ≤ absI (u * v) := fun {u v} q1 q2 hv => by
      have hu : absI u ≤ 2097152 := by unfold absI; split <;> omega
      have pu : 0 ≤ absI u := by unfold absI; split <;> omega
      have hbb := absB hv
      rw [← absI_mul]
      have := Int.mul_le_mul hu hbb.2 hbb.1 (by omega)
      exact ⟨by omega, Int.mul_nonneg pu hbb.1⟩
    have s1 := small h1 h2 hb.2
    have s2 := small (u := 1) (v := b.1) (by omega) (by omega) hb.1
    rw [Int.one_mul] at s2
    have iA : inI A := by unfold inI; omega
    have pl := ratioPlus (H := H) (c := !(decide (A < 0) == decide (b.2 < 0))) (d := !(decide (b.1 < 0) == decide ((1 : Int) < 0))) s1.2 s1.1 (M := absI (b.1 * 1)) (by rw [Int.mul_one]; exact s2.2) (by rw [Int.mul_one]; exact s2.1)
    have hp : 0 ≤ (plusM (!(decide (A < 0) == decide (b.2 < 0))) (!(decide (b.1 < 0) == decide ((1 : Int) < 0))) (absI (A * b.2)) (absI (b.1 * 1))).2 ∧ (plusM (!(decide (A < 0) == decide (b.2 < 0))) (!(decide (b.1 < 0) == decide ((1 : Int) < 0))) (absI (A * b.2)) (absI (b.1 * 1))).2 < 340282366920938463463374607431768211456 := by
      rw [Int.mul_one]
      unfold plusM
      split
      · exact ⟨by show 0 ≤ _ + _; omega, by show _ + _ < _; omega⟩
      · split
        · exact ⟨by show 0 ≤ _ - _; omega, by show _ - _ < _; omega⟩
        · exact ⟨by show 0 ≤ _ - _; omega, by show _ - _ < _; omega⟩
    have es : addW A b = buildM (plusM (!(decide (A < 0) == decide (b.2 < 0))) (!(decide (b.1 < 0) == decide ((1 : Int) < 0))) (absI (A * b.2)) (absI (b.1 * 1))).1 (plusM (!(decide (A < 0) == decide (b.2 < 0))) (!(decide (b.1 < 0) == decide ((1 : Int) < 0))) (absI (A * b.2)) (absI (b.1 * 1))).2 b.2 := by unfold addW; rw [if_pos ob]
    rw [es]
    generalize plusM (!(decide (A < 0) == decide (b.2 < 0))) (!(decide (b.1 < 0) == decide ((1 : Int) < 0))) (absI (A * b.2)) (absI (b.1 * 1)) = P at *
    have ov := ratioOver1 (H := H) (c := P.1) (h := P.2 / 18446744073709551616) (l := P.2 % 18446744073709551616) (by omega) (by omega) (by omega) (by omega)
    have mu := mul64 (H := H) (x := 1) (y := b.2) (by omega) (by omega) (by omega) (by omega)
    rw [Int.one_mul] at mu
    refine ⟨⟨by unfold nz; omega, by unfold inI; omega⟩, _, _, _, ratioTimes iA hb.2, ⟨by unfold nz; omega, by unfold inI; omega⟩, _, _, _, ratioTimes hb.1 (by unfold inI; omega), _, _, _, pl, _, _, _, _, ov, _, hg2, _, _, _, _, ov, ⟨by unfold nz; omega, by unfold inI; omega⟩, by unfold nz; omega, _, _, ?_, _, _, _, ratioBuild hp.1 (by omega), rfl, Hp.le_refl _⟩
    rw [show b.2.tdiv 1 = b.2 by simp, wrapUs (n := b.2) (by omega) (by omega)]
    exact mu
end Go.Proofs.YtkemdpobjaiolaaGreat
end
section
/- The reference's division bit by bit, by 1. Conditions: none. -/
set_option maxRecDepth 100000
open Go Go.Eng Go.Proofs
namespace Go.Proofs.YtkemdpobjaiolaaGreat

theorem ofU {z : Int} (h0 : 0 ≤ z) (h1 : z < 18446744073709551616) : (BitVec.ofInt IntKind.u64.bits z).toNat = z.toNat := by
  rw [BitVec.toNat_ofInt]
  have : (((2 : Nat) ^ IntKind.u64.bits : Nat) : Int) = 18446744073709551616 := by decide
  rw [this]; omega
theorem bitU {z : Int} (h0 : 0 ≤ z) (h1 : z < 18446744073709551616) : IntKind.u64.wrap (↑(BitVec.ofInt IntKind.u64.bits z &&& BitVec.ofInt IntKind.u64.bits 1).toNat : Int) = z % 2 := by
  have e : (BitVec.ofInt IntKind.u64.bits z &&& BitVec.ofInt IntKind.u64.bits 1).toNat = z.toNat % 2 := by
    rw [BitVec.toNat_and, ofU h0 h1, ofU (by omega) (by omega)]
    exact Nat.and_two_pow_sub_one_eq_mod _ 1
  rw [e, wrap_u64]
  unfold wrapU; omega
theorem shrU {z : Int} {k : Nat} (h0 : 0 ≤ z) (hk : k ≤ 64) : z.fdiv (2 ^ Min.min k IntKind.u64.bits) = z / 2 ^ k := by
  have : Min.min k IntKind.u64.bits = k := by show min k 64 = k; omega
  rw [this]
  exact Int.fdiv_eq_ediv_of_nonneg _ (Int.le_of_lt (Int.pow_pos (by omega)))
def topB (k V : Nat) : Nat := 2 ^ k * (V / 2 ^ k)
theorem topB_step (k V : Nat) : topB k V = topB (k + 1) V + 2 ^ k * ((V / 2 ^ k) % 2) := by
  unfold topB
  rw [half_pow]
  generalize V / 2 ^ k = W
  have : W = 2 * (W / 2) + W % 2 := by omega
  conv => lhs; rw [this, Nat.mul_add, ← Nat.mul_assoc, ← Nat.pow_succ]
theorem topB_zero (V : Nat) : topB 0 V = V := by simp [topB]
theorem topB_le (k V : Nat) : topB k V ≤ V := by unfold topB; exact Nat.mul_div_le _ _
theorem topB_big {V : Nat} (h : V < 2 ^ 64) : topB 64 V = 0 := by unfold topB; rw [Nat.div_eq_of_lt h, Nat.mul_zero]
theorem orU {k V : Nat} (hk : k < 64) (hV : V < 2 ^ 64) : IntKind.u64.wrap (↑(BitVec.ofInt IntKind.u64.bits ((topB (k + 1) V : Nat) : Int) ||| BitVec.ofInt IntKind.u64.bits (IntKind.u64.wrap (1 * 2 ^ Min.min k IntKind.u64.bits))).toNat : Int) = ((topB (k + 1) V + 2 ^ k : Nat) : Int) := by
  have h2 : (2 : Nat) ^ 64 = 18446744073709551616 := by decide
  have p1 : 2 ^ k < 2 ^ 64 := Nat.pow_lt_pow_right (by omega) hk
  have p2 : 2 ^ k < 2 ^ (k + 1) := Nat.pow_lt_pow_right (by omega) (by omega)
  have tl := topB_le (k + 1) V
  have em : Min.min k IntKind.u64.bits = k := by show min k 64 = k; omega
  have ep : IntKind.u64.wrap (1 * 2 ^ Min.min k IntKind.u64.bits) = ((2 ^ k : Nat) : Int) := by
    rw [em, Int.one_mul, wrap_u64]
    have : ((2 : Int) ^ k) = ((2 ^ k : Nat) : Int) := by simp
    rw [this]; unfold wrapU; omega
  rw [ep]
  have eo : (BitVec.ofInt IntKind.u64.bits ((topB (k + 1) V : Nat) : Int) ||| BitVec.ofInt IntKind.u64.bits ((2 ^ k : Nat) : Int)).toNat = topB (k + 1) V + 2 ^ k := by
    rw [BitVec.toNat_or, ofU (by omega) (by omega), ofU (by omega) (by omega), Int.toNat_natCast, Int.toNat_natCast]
    unfold topB
    exact (Nat.two_pow_add_eq_or_of_lt p2 _).symm
  rw [eo, wrap_u64]
  have ts := topB_step k V
  have tk := topB_le k V
  have : topB (k + 1) V + 2 ^ k < 2 ^ 64 := by
    unfold topB at *
    generalize V / 2 ^ (k + 1) = q at *
    have hq : 2 ^ (k + 1) * q ≤ V := tl
    have hd : 2 ^ 64 = 2 ^ (k + 1) * 2 ^ (63 - k) := by rw [← Nat.pow_add]; congr 1; omega
    have hlt : q < 2 ^ (63 - k) := by
      rcases Nat.lt_or_ge q (2 ^ (63 - k)) with h | h
      · exact h
      · have := Nat.mul_le_mul_left (2 ^ (k + 1)) h
        omega
    have := Nat.mul_le_mul_left (2 ^ (k + 1)) (show q + 1 ≤ 2 ^ (63 - k) from hlt)
    rw [Nat.mul_add, Nat.mul_one] at this
    omega
  unfold wrapU; omega
end Go.Proofs.YtkemdpobjaiolaaGreat
end
section
/- The reference divides by 1. Conditions: none. -/
set_option maxRecDepth 100000
open Go Go.Eng Go.Proofs
namespace Go.Proofs.YtkemdpobjaiolaaGreat

theorem bit_val {V m : Nat} (hV : V < 18446744073709551616) (hm : m ≤ 64) : IntKind.u64.wrap (↑(BitVec.ofInt IntKind.u64.bits ((V : Int).fdiv (2 ^ Min.min m IntKind.u64.bits)) &&& BitVec.ofInt IntKind.u64.bits 1).toNat : Int) = ((V / 2 ^ m % 2 : Nat) : Int) := by
  have e : ((V : Int) / 2 ^ m) = ((V / 2 ^ m : Nat) : Int) := by simp
  have hl : V / 2 ^ m ≤ V := Nat.div_le_self _ _
  rw [shrU (by omega) hm, e]
  generalize V / 2 ^ m = q at *
  rw [bitU (by omega) (by omega)]
  omega

theorem refDivided1 {H : Hp} {c : Bool} {V W : Nat} (hV : V < 18446744073709551616) (hW : W < 18446744073709551616) :
    Qf Tryz.prog F.pelotonref01_divided #[.agg #[.bool c, .int .u64 (V : Int), .int .u64 (W : Int)], .int .u64 1] H (.tuple #[.agg #[.bool false, .int .u64 (V : Int), .int .u64 (W : Int)], .int .u64 0]) := by
  have h2 : (2 : Nat) ^ 64 = 18446744073709551616 := by decide
  refine pelotonref01_divided_vc ⟨fun n3 n4 c5 n6 n7 H' => ∃ j : Nat, n4 = (j : Int) - 1 ∧ j ≤ 128 ∧ n3 = 0 ∧ c5 = false ∧ n6 = ((topB (j - 64) V : Nat) : Int) ∧ n7 = ((topB (min j 64) W : Nat) : Int) ∧ H' = H, fun _ n4 _ _ _ _ => (n4 + 1).toNat,
    ⟨128, by omega, by omega, rfl, rfl, by rw [show 128 - 64 = 64 from rfl, topB_big (by omega)]; try rfl, by rw [show min 128 64 = 64 from rfl, topB_big (by omega)]; try rfl, rfl⟩, fun n3 n4 c5 n6 n7 H8 ⟨j, e4, hj, e3, e5, e6, e7, eH⟩ => ?_⟩
  subst e4; subst e3; subst e5; subst e6; subst e7; subst eH
  refine ⟨fun hn => ?_, fun hn => ?_⟩
  · obtain ⟨k, rfl⟩ : ∃ k, j = k + 1 := ⟨j - 1, by have : (0 : Int) ≤ (j : Int) - 1 := (by simpa using hn); omega⟩
    rw [show ((k + 1 : Nat) : Int) - 1 = (k : Int) by omega]
    have z0 : wrapU (2 * 0) = 0 := by decide
    rw [z0]
    refine ⟨by unfold nn; omega, fun hk => ?_, fun hk => ?_⟩
    · have hk : 64 ≤ k := by have : (64 : Int) ≤ k := (by simpa using hk); omega
      obtain ⟨m, rfl⟩ : ∃ m, k = m + 64 := ⟨k - 64, by omega⟩
      rw [show (((m + 64 : Nat) : Int) - 64).toNat = m by omega, bit_val hV (by omega), show m + 64 + 1 - 64 = m + 1 by omega]
      have ts := topB_step m V
      have hb : V / 2 ^ m % 2 < 2 := Nat.mod_lt _ (by omega)
      generalize V / 2 ^ m % 2 = b at *
      have zb : wrapU (0 + (b : Int)) = b := by unfold wrapU; omega
      rw [zb]
      refine ⟨by unfold inI; omega, by unfold nn; omega, fun h1 => ⟨fun _ => ?_, fun hf => ?_⟩, fun h1 => ?_⟩
      · have h1 : b = 1 := by have : (1 : Int) ≤ b := (by simpa using h1); omega
        subst h1
        rw [orU (by omega) (by omega)]
        refine ⟨by unfold inI; omega, by unfold nn; omega, by unfold inI; omega, ⟨m + 64, rfl, by omega, by decide, rfl, ?_, ?_, rfl⟩, ?_⟩
        · rw [show m + 64 - 64 = m by omega, ts, Nat.mul_one]
        · rw [show min (m + 64 + 1) 64 = min (m + 64) 64 by omega]
        · show (((m + 64 : Nat) : Int) - 1 + 1).toNat < (((m + 64 : Nat) : Int) + 1).toNat; omega
      · exfalso; simp at hf; omega
      · have h1 : b = 0 := by have : ¬ (1 : Int) ≤ b := (by simpa using h1); omega
        subst h1
        refine ⟨by unfold inI; omega, ⟨m + 64, rfl, by omega, rfl, rfl, ?_, ?_, rfl⟩, ?_⟩
        · rw [show m + 64 - 64 = m by omega, ts, Nat.mul_zero]; try rfl
        · rw [show min (m + 64 + 1) 64 = min (m + 64) 64 by omega]
        · show (((m + 64 : Nat) : Int) - 1 + 1).toNat < (((m + 64 : Nat) : Int) + 1).toNat; omega
    · have hk' : k < 64 := by have : ¬ (64 : Int) ≤ k := (by simpa using hk); omega
      rw [Int.toNat_natCast, bit_val hW (by omega), show min (k + 1) 64 = k + 1 by omega]
      have ts := topB_step k W
      have hb : W / 2 ^ k % 2 < 2 := Nat.mod_lt _ (by omega)
      generalize W / 2 ^ k % 2 = b at *
      have zb : wrapU (0 + (b : Int)) = b := by unfold wrapU; omega
      rw [zb]
      refine ⟨fun h1 => ⟨fun hf => ?_, fun _ => ?_⟩, fun h1 => ?_⟩
      · exfalso; simp at hf; omega
      · have h1 : b = 1 := by have : (1 : Int) ≤ b := (by simpa using h1); omega
        subst h1
        rw [orU hk' (by omega)]
        refine ⟨by unfold nn; omega, by unfold inI; omega, ⟨k, rfl, by omega, by decide, rfl, ?_, ?_, rfl⟩, ?_⟩
        · rw [show k + 1 - 64 = k - 64 by omega]
        · rw [show min k 64 = k by omega, ts, Nat.mul_one]
        · show ((k : Int) - 1 + 1).toNat < ((k : Int) + 1).toNat; omega
      · have h1 : b = 0 := by have : ¬ (1 : Int) ≤ b := (by simpa using h1); omega
        subst h1
        refine ⟨by unfold inI; omega, ⟨k, rfl, by omega, rfl, rfl, ?_, ?_, rfl⟩, ?_⟩
        · rw [show k + 1 - 64 = k - 64 by omega]
        · rw [show min k 64 = k by omega, ts, Nat.mul_zero]; try rfl
        · show ((k : Int) - 1 + 1).toNat < ((k : Int) + 1).toNat; omega
  · have : j = 0 := by have : ¬ (0 : Int) ≤ (j : Int) - 1 := (by simpa using hn); omega
    subst this
    refine ⟨?_, Hp.le_refl _⟩
    rw [show 0 - 64 = 0 from rfl, show min 0 64 = 0 from rfl, topB_zero, topB_zero]
end Go.Proofs.YtkemdpobjaiolaaGreat
end
section
/- Adding to a whole number: the reference. Conditions: none. -/
set_option maxRecDepth 100000
open Go Go.Eng Go.Proofs
namespace Go.Proofs.YtkemdpobjaiolaaGreat

theorem absI_iff (v : Int) : (v < 0 → absI v = -v) ∧ (0 ≤ v → absI v = v) := by
  unfold absI
  constructor
  · intro h; rw [if_pos h]
  · intro h; rw [if_neg (by omega)]
theorem plusM_val {c d : Bool} {v w : Int} (hc : v ≠ 0 → (c = true ↔ v < 0)) (hd : w ≠ 0 → (d = true ↔ w < 0)) :
    (plusM c d (absI v) (absI w)).2 = absI (v + w) ∧ (v + w ≠ 0 → ((plusM c d (absI v) (absI w)).1 = true ↔ v + w < 0)) := by
  have av := absI_iff v
  have aw := absI_iff w
  have avw := absI_iff (v + w)
  unfold plusM
  generalize absI v = x at *
  generalize absI w = y at *
  generalize absI (v + w) = z at *
  cases c <;> cases d <;> simp only [Bool.false_eq_true, false_iff, true_iff, if_true, if_false, reduceCtorEq] at hc hd ⊢
  · exact ⟨by omega, fun h => by omega⟩
  · by_cases h : x < y
    · rw [if_pos h]; exact ⟨by show y - x = z; omega, fun h => by simp only [true_iff]; omega⟩
    · rw [if_neg h]; exact ⟨by show x - y = z; omega, fun h => by simp only [Bool.false_eq_true, false_iff]; omega⟩
  · by_cases h : x < y
    · rw [if_pos h]; exact ⟨by show y - x = z; omega, fun h => by simp only [Bool.false_eq_true, false_iff]; omega⟩
    · rw [if_neg h]; exact ⟨by show x - y = z; omega, fun h => by simp only [true_iff]; omega⟩
  · exact ⟨by omega, fun h => by omega⟩
theorem refAdd1 {H : Hp} {A : Int} {b : Int × Int} (h1 : -2097152 ≤ A) (h2 : A ≤ 2097152) (hb : fitR b) :
    Qf Tryz.prog F.pelotonref01_Add #[.agg #[.int .i64 A, .int .i64 1], .agg #[.int .i64 b.1, .int .i64 b.2]] H (.tuple #[.agg #[.int .i64 (addW A b).1.1, .int .i64 (addW A b).1.2], .int .i64 (addW A b).2]) := by
  have oa := okW h1 h2
  refine pelotonref01_Add_vc ⟨_, refBoth (a := (A, 1)) oa.fit hb, fun hc => ?_, fun hc => ?_⟩
  · have h : ¬ okR b := fun x => by rw [if_pos ⟨oa, x⟩] at hc; simp at hc
    refine ⟨_, refBoth (a := (A, 1)) oa.fit hb, ?_, Hp.le_refl _⟩
    unfold addW; rw [if_neg h, if_neg fun x => h x.2]
  · have ob : okR b := by
      by_cases x : okR b
      · exact x
      · rw [if_neg fun y => x y.2] at hc; simp at hc
    have d3 := ob.d1; have d4 := ob.d2
    rw [wrapUs (n := b.2) (by omega) (by omega), show wrapU 1 = 1 from by decide]
    have hg : Qf Tryz.prog F.pelotonref01_common #[.int .u64 1, .int .u64 b.2] H (.int .u64 1) := by
      have := refCommon (H := H) (a := 1) (b := b.2) (by omega) (by omega)
      rw [show ((1 : Int).toNat) = 1 from rfl, Nat.gcd_one_left] at this; exact this
    have hg2 : Qf Tryz.prog F.pelotonref01_common #[.int .u64 1, .int .u64 0] H (.int .u64 1) := by
      have := refCommon (H := H) (a := 1) (b := 0) (by omega) (by omega)
      rw [show ((1 : Int).toNat) = 1 from rfl, Nat.gcd_one_left] at this; exact this
    refine ⟨_, hg, ?_⟩
    rw [show IntKind.i64.wrap 1 = 1 from by decide, show b.2.tdiv 1 = b.2 by simp, show (1 : Int).tdiv 1 = 1 by simp, show wrapU 1 = 1 from by decide]
    have small : ∀ {u v : Int}, -2097152 ≤ u → u ≤ 2097152 → inI v → absI (u * v) < 85070591730234615865843651857942052864 := fun {u v} q1 q2 hv => by
      have hu : absI u ≤ 2097152 := by unfold absI; split <;> omega
      have pu : 0 ≤ absI u := by unfold absI; split <;> omega
      have hbb := absB hv
      rw [← absI_mul]
      have := Int.mul_le_mul hu hbb.2 hbb.1 (by omega)
      omega
    have s1 := small h1 h2 hb.2
    have s2 := small (u := 1) (v := b.1) (by omega) (by omega) hb.1
    rw [Int.mul_comm] at s2
    have iA : inI A := by unfold inI; omega
    obtain ⟨c1, x1, y1, q1, b1⟩ := refProduct (H := H) iA hb.2
    obtain ⟨c2, x2, y2, q2, b2⟩ := refProduct (H := H) (b := 1) hb.1 (by unfold inI; omega)
    obtain ⟨e, hh, ll, q3, b3⟩ := refPlus (H := H) b1 b2 s1 s2
    obtain ⟨p0, p1, p2, p3, p4, p5⟩ := b3
    have hv2 := absI_iff (A * b.2 + b.1 * 1)
    have hN : hh * 18446744073709551616 + ll = absI (A * b.2 + b.1 * 1) := by
      cases e with
      | true => have := p4 rfl; omega
      | false => have := p5 rfl; omega
    obtain ⟨V, rfl⟩ := Int.eq_ofNat_of_zero_le p0
    obtain ⟨W, rfl⟩ := Int.eq_ofNat_of_zero_le p2
    have dv := refDivided1 (H := H) (c := e) (V := V) (W := W) (by omega) (by omega)
    have pr := refProd (H := H) (x := 1) (y := b.2) (by omega) (by omega) (by omega) (by omega)
    rw [Int.one_mul] at pr
    have md := refMade (H := H) (c := e) (c1 := false) (c2 := false) (N := absI (A * b.2 + b.1 * 1)) (D := b.2) (by omega) (by omega)
    rw [show absI (A * b.2 + b.1 * 1) / 18446744073709551616 = (V : Int) by omega, show absI (A * b.2 + b.1 * 1) % 18446744073709551616 = (W : Int) by omega] at md
    have es : addW A b = buildM e (absI (A * b.2 + b.1 * 1)) b.2 := by
      unfold addW; rw [if_pos ob]
      have sg1 : A * b.2 ≠ 0 → ((!(decide (A < 0) == decide (b.2 < 0))) = true ↔ A * b.2 < 0) := fun hne => by
        rw [decide_eq_false (by omega : ¬ b.2 < 0)]
        have : A * b.2 < 0 ↔ A < 0 := by
          constructor
          · intro h; rcases Int.lt_or_le A 0 with h' | h'
            · exact h'
            · have := Int.mul_nonneg h' (by omega : 0 ≤ b.2); omega
          · intro h; exact Int.mul_neg_of_neg_of_pos h (by omega)
        rw [this]; simp
      have sg2 : b.1 * 1 ≠ 0 → ((!(decide (b.1 < 0) == decide ((1 : Int) < 0))) = true ↔ b.1 * 1 < 0) := fun hne => by
        rw [Int.mul_one, decide_eq_false (by omega : ¬ (1 : Int) < 0)]; simp
      obtain ⟨r1, r2⟩ := plusM_val sg1 sg2
      show buildM _ _ _ = _
      rw [r1]
      refine buildM_sign fun hne => ?_
      have hz : A * b.2 + b.1 * 1 ≠ 0 := fun h => hne (by rw [h]; try rfl)
      have r3 := r2 hz
      rw [Bool.eq_iff_iff, r3]
      constructor
      · intro h; cases e with
        | true => rfl
        | false => have := (p5 rfl).1; omega
      · intro h; exact (p4 h).1
    rw [es]
    refine ⟨⟨by unfold nz; omega, by unfold inI; omega⟩, _, _, _, q1, ⟨by unfold nz; omega, by unfold inI; omega⟩, _, _, _, q2, _, _, _, q3, _, _, _, _, dv, _, hg2, _, _, _, _, dv, ⟨by unfold nz; omega, by unfold inI; omega⟩, by unfold nz; omega, _, _, _, ?_, _, _, _, md, rfl, Hp.le_refl _⟩
    rw [show b.2.tdiv 1 = b.2 by simp, wrapUs (n := b.2) (by omega) (by omega)]
    exact pr
end Go.Proofs.YtkemdpobjaiolaaGreat
end
section
/- The law GapsTells. Conditions: none. -/
set_option maxRecDepth 100000
open Go Go.Eng Go.Proofs
namespace Go.Proofs.YtkemdpobjaiolaaGreat

theorem buildM_fit {c : Bool} {N D : Int} (hN : 0 ≤ N) (hD : 0 ≤ D) : fitR (buildM c N D).1 := by
  unfold buildM
  split
  · exact ⟨by show inI 0; unfold inI; omega, by show inI 0; unfold inI; omega⟩
  · refine ⟨?_, by show inI D; unfold inI; omega⟩
    show inI (if c = true then 0 - N else N)
    split <;> (unfold inI; omega)
theorem absI_nn (v : Int) : 0 ≤ absI v := by unfold absI; split <;> omega
theorem mulM_fit {a b : Int × Int} : fitR (mulM a b).1 := by
  unfold mulM
  split
  · rename_i h
    have d1 := h.1.d1; have d2 := h.1.d2; have d3 := h.2.d1; have d4 := h.2.d2
    have ga := gA_pos (a := a) h.2
    have gb := gA_pos (a := b) h.1
    exact buildM_fit (absI_nn _) (Int.mul_nonneg (Int.ediv_nonneg (by omega) (by omega)) (Int.ediv_nonneg (by omega) (by omega)))
  · exact ⟨by show inI 0; unfold inI; omega, by show inI 0; unfold inI; omega⟩

def atM (g : Gp) (t : Int × Int) : (Int × Int) × Int :=
  if okGp g ∧ okR t then (if (mulM (g.b, 1) t).2 = 0 then addW g.a (mulM (g.b, 1) t).1 else ((0, 0), (mulM (g.b, 1) t).2)) else ((0, 0), 8)

theorem gapsAt {H : Hp} {g : Gp} {t : Int × Int} (ht : fitR t) : Qf Tryz.prog F.gaps_At #[gpV g, .agg #[.int .i64 t.1, .int .i64 t.2]] H (.tuple #[.agg #[.int .i64 (atM g t).1.1, .int .i64 (atM g t).1.2], .int .i64 (atM g t).2]) := by
  refine gaps_At_vc ⟨_, gapsAsk ht, fun hc => ?_, fun hc => ?_⟩
  · have h : ¬ (okGp g ∧ okR t) := fun x => by rw [askM_ok x.1 x.2] at hc; simp at hc
    unfold atM
    rw [if_neg h, askM_bad h]; exact ⟨rfl, Hp.le_refl _⟩
  · have ok : okGp g ∧ okR t := askM_zero.1 (by simpa using hc)
    obtain ⟨o1, o2, o3, o4, o5, o6, o7, o8, o9⟩ := ok.1
    unfold atM
    rw [if_pos ok]
    refine ⟨_, _, _, ratioMul (a := (g.b, 1)) (okW o8 o9).fit ht, fun hb => ?_, fun hb => ?_⟩
    · have hb : (mulM (g.b, 1) t).2 ≠ 0 := by simpa using hb
      rw [if_neg hb]; exact ⟨rfl, Hp.le_refl _⟩
    · have hb : (mulM (g.b, 1) t).2 = 0 := by simpa using hb
      rw [if_pos hb]
      exact ⟨_, _, _, ratioAdd1 o6 o7 mulM_fit, rfl, Hp.le_refl _⟩
theorem refAt {H : Hp} {g : Gp} {t : Int × Int} (ht : fitR t) : Qf Tryz.prog F.pelotonref27_At #[gpV g, .agg #[.int .i64 t.1, .int .i64 t.2]] H (.tuple #[.agg #[.int .i64 (atM g t).1.1, .int .i64 (atM g t).1.2], .int .i64 (atM g t).2]) := by
  refine pelotonref27_At_vc ⟨_, refAsk ht, fun hc => ?_, fun hc => ?_⟩
  · have h : ¬ (okGp g ∧ okR t) := fun x => by rw [askM_ok x.1 x.2] at hc; simp at hc
    unfold atM
    rw [if_neg h, askM_bad h]; exact ⟨rfl, Hp.le_refl _⟩
  · have ok : okGp g ∧ okR t := askM_zero.1 (by simpa using hc)
    obtain ⟨o1, o2, o3, o4, o5, o6, o7, o8, o9⟩ := ok.1
    unfold atM
    rw [if_pos ok]
    refine ⟨_, _, _, refMul (a := (g.b, 1)) (okW o8 o9).fit ht, fun hb => ?_, fun hb => ?_⟩
    · have hb : (mulM (g.b, 1) t).2 ≠ 0 := by simpa using hb
      rw [if_neg hb]; exact ⟨rfl, Hp.le_refl _⟩
    · have hb : (mulM (g.b, 1) t).2 = 0 := by simpa using hb
      rw [if_pos hb]
      exact ⟨_, _, _, refAdd1 o6 o7 mulM_fit, rfl, Hp.le_refl _⟩

end Go.Proofs.YtkemdpobjaiolaaGreat
end
