/- The engine, parts FM, FN, DV, DQ, put together. Conditions: none. -/
import Derived.Test.YtkemdpobjaiolaaGreatE5
set_option linter.unusedVariables false
section
/- Points, fields, numbers of 128 bits, in plain words. Conditions: none. -/
namespace Go.Eng

theorem i64w (z : Int) : IntKind.i64.wrap z = (z + 9223372036854775808) % 18446744073709551616 - 9223372036854775808 := by
  unfold IntKind.wrap
  simp [IntKind.bits, IntKind.signed]
  omega

theorem maskU {z : Int} (h0 : 0 ≤ z) (h1 : z < 18446744073709551616) : IntKind.u64.wrap (↑(BitVec.ofInt IntKind.u64.bits z &&& BitVec.ofInt IntKind.u64.bits 4294967295).toNat : Int) = z % 4294967296 := by
  have e : (BitVec.ofInt IntKind.u64.bits z &&& BitVec.ofInt IntKind.u64.bits 4294967295).toNat = z.toNat % 4294967296 := by
    rw [BitVec.toNat_and, BitVec.toNat_ofInt, BitVec.toNat_ofInt]
    have e1 : (z % ((2 : Int) ^ IntKind.u64.bits)).toNat = z.toNat := by
      have : (2 : Int) ^ IntKind.u64.bits = 18446744073709551616 := by decide
      rw [this]; omega
    have e2 : ((4294967295 : Int) % ((2 : Int) ^ IntKind.u64.bits)).toNat = 2 ^ 32 - 1 := by decide
    have e1' : (z % (((2 : Nat) ^ IntKind.u64.bits : Nat) : Int)).toNat = z.toNat := by
      have : (((2 : Nat) ^ IntKind.u64.bits : Nat) : Int) = 18446744073709551616 := by decide
      rw [this]; omega
    have e2' : ((4294967295 : Int) % (((2 : Nat) ^ IntKind.u64.bits : Nat) : Int)).toNat = 2 ^ 32 - 1 := by decide
    first
      | rw [e1, e2]; exact Nat.and_two_pow_sub_one_eq_mod _ 32
      | rw [e1', e2']; exact Nat.and_two_pow_sub_one_eq_mod _ 32
  rw [e, wrap_u64]
  unfold wrapU
  omega
theorem shr32 {z : Int} (h0 : 0 ≤ z) : z.fdiv (2 ^ Min.min (Int.toNat 32) IntKind.u64.bits) = z / 4294967296 := by
  have e : (2 : Int) ^ Min.min (Int.toNat 32) IntKind.u64.bits = 4294967296 := by decide
  rw [e, Int.fdiv_eq_ediv_of_nonneg _ (by omega)]

theorem mulB {x y m n : Int} (hx : 0 ≤ x) (hx' : x ≤ m) (hy : 0 ≤ y) (hy' : y ≤ n) : 0 ≤ x * y ∧ x * y ≤ m * n :=
  ⟨Int.mul_nonneg hx hy, Int.mul_le_mul hx' hy' hy (by omega)⟩

/-- The halves of a product. -/
theorem mul_split (x y : Int) : x * y = (x / 4294967296) * (y / 4294967296) * 18446744073709551616 + ((x / 4294967296) * (y % 4294967296) + (x % 4294967296) * (y / 4294967296)) * 4294967296 + (x % 4294967296) * (y % 4294967296) := by
  have hx : x = 4294967296 * (x / 4294967296) + x % 4294967296 := (Int.mul_ediv_add_emod x 4294967296).symm
  have hy : y = 4294967296 * (y / 4294967296) + y % 4294967296 := (Int.mul_ediv_add_emod y 4294967296).symm
  conv => lhs; rw [hx, hy]
  generalize x / 4294967296 = a
  generalize x % 4294967296 = b
  generalize y / 4294967296 = c
  generalize y % 4294967296 = d
  rw [Int.add_mul, Int.mul_add, Int.mul_add]
  have e1 : 4294967296 * a * (4294967296 * c) = a * c * 18446744073709551616 := by
    rw [Int.mul_assoc, Int.mul_left_comm a, ← Int.mul_assoc 4294967296, Int.mul_comm]
    rfl
  have e2 : 4294967296 * a * d = (a * d) * 4294967296 := by rw [Int.mul_assoc, Int.mul_comm]
  have e3 : b * (4294967296 * c) = (b * c) * 4294967296 := by rw [Int.mul_left_comm, Int.mul_comm]
  rw [e1, e2, e3]
  omega

theorem hi64 {x y : Int} (hx : 0 ≤ x) (hx' : x < 18446744073709551616) (hy : 0 ≤ y) (hy' : y < 18446744073709551616) :
    wrapU (wrapU (wrapU ((x / 4294967296) * (y / 4294967296)) + wrapU (wrapU ((x / 4294967296) * (y % 4294967296)) + wrapU ((x % 4294967296) * (y % 4294967296)) / 4294967296) / 4294967296) +
      wrapU (wrapU (wrapU ((x / 4294967296) * (y % 4294967296)) + wrapU ((x % 4294967296) * (y % 4294967296)) / 4294967296) % 4294967296 + wrapU ((x % 4294967296) * (y / 4294967296))) / 4294967296) = x * y / 18446744073709551616 := by
  have hs := mul_split x y
  have b11 := mulB (x := x / 4294967296) (y := y / 4294967296) (m := 4294967295) (n := 4294967295) (by omega) (by omega) (by omega) (by omega)
  have b10 := mulB (x := x / 4294967296) (y := y % 4294967296) (m := 4294967295) (n := 4294967295) (by omega) (by omega) (by omega) (by omega)
  have b01 := mulB (x := x % 4294967296) (y := y / 4294967296) (m := 4294967295) (n := 4294967295) (by omega) (by omega) (by omega) (by omega)
  have b00 := mulB (x := x % 4294967296) (y := y % 4294967296) (m := 4294967295) (n := 4294967295) (by omega) (by omega) (by omega) (by omega)
  unfold wrapU
  generalize (x / 4294967296) * (y / 4294967296) = p11 at *
  generalize (x / 4294967296) * (y % 4294967296) = p10 at *
  generalize (x % 4294967296) * (y / 4294967296) = p01 at *
  generalize (x % 4294967296) * (y % 4294967296) = p00 at *
  generalize x * y = P at *
  omega

def absI (x : Int) : Int := if x < 0 then -x else x
theorem absI_nat (x : Int) : absI x = x.natAbs := by unfold absI; split <;> omega
theorem absI_nonneg (x : Int) : 0 ≤ absI x := by unfold absI; split <;> omega
theorem absI_mul (x y : Int) : absI x * absI y = absI (x * y) := by
  rw [absI_nat, absI_nat, absI_nat, Int.natAbs_mul]; simp

/-- A number with a sign and two halves reads v. -/
structure BigV (neg : Bool) (hi lo : Int) (v : Int) : Prop where
  h0 : 0 ≤ hi
  h1 : hi < 18446744073709551616
  l0 : 0 ≤ lo
  l1 : lo < 18446744073709551616
  ng : neg = true → v < 0 ∧ hi * 18446744073709551616 + lo = -v
  ps : neg = false → 0 ≤ v ∧ hi * 18446744073709551616 + lo = v

theorem mul_neg_iff {a b : Int} : a * b < 0 ↔ (a < 0 ∧ 0 < b) ∨ (0 < a ∧ b < 0) := by
  rcases Int.lt_trichotomy a 0 with ha | ha | ha <;> rcases Int.lt_trichotomy b 0 with hb | hb | hb
  · have := Int.mul_pos_of_neg_of_neg ha hb; omega
  · subst hb; simp; 
  · have := Int.mul_neg_of_neg_of_pos ha hb; omega
  · subst ha; simp
  · subst ha; simp
  · subst ha; simp
  · have := Int.mul_neg_of_pos_of_neg ha hb; omega
  · subst hb; simp
  · have := Int.mul_pos ha hb; omega

/-- How far one point is ahead of another one, times the denominator. -/
abbrev Pt := Int × Int × Int
def farV (p q : Pt) (t : Int × Int) : Int := (p.2.1 - q.2.1) * t.2 + (p.2.2 - q.2.2) * t.1
def sgn (v : Int) : Int := if v < 0 then -1 else if v > 0 then 1 else 0
def leads (p q : Pt) (t : Int × Int) : Bool := if farV p q t ≠ 0 then decide (farV p q t > 0) else if p.2.2 ≠ q.2.2 then decide (p.2.2 > q.2.2) else decide (p.1 < q.1)
def cmpP (p q : Pt) (t : Int × Int) : Int := if farV p q t ≠ 0 then (if farV p q t < 0 then -1 else 1) else if cmpI p.2.2 q.2.2 ≠ 0 then cmpI p.2.2 q.2.2 else cmpI q.1 p.1
theorem cmpP_leads (p q : Pt) (t : Int × Int) : decide (cmpP p q t > 0) = leads p q t := by
  unfold cmpP leads
  split
  · split
    · rw [Bool.eq_iff_iff, decide_eq_true_eq, decide_eq_true_eq]; omega
    · rw [Bool.eq_iff_iff, decide_eq_true_eq, decide_eq_true_eq]; omega
  · split
    · rename_i h1 h2
      rw [if_pos (fun e => h2 (cmpI_eq.2 e)), Bool.eq_iff_iff, decide_eq_true_eq, decide_eq_true_eq, cmpI_gt]
    · rename_i h1 h2
      have : p.2.2 = q.2.2 := cmpI_eq.1 (by omega)
      rw [if_neg (by omega), Bool.eq_iff_iff, decide_eq_true_eq, decide_eq_true_eq, cmpI_gt]

structure okP (p : Pt) : Prop where
  i0 : 0 ≤ p.1
  i1 : p.1 ≤ 65535
  a0 : -1048576 ≤ p.2.1
  a1 : p.2.1 ≤ 1048576
  b0 : -1048576 ≤ p.2.2
  b1 : p.2.2 ≤ 1048576
instance (p : Pt) : Decidable (okP p) :=
  decidable_of_iff (0 ≤ p.1 ∧ p.1 ≤ 65535 ∧ -1048576 ≤ p.2.1 ∧ p.2.1 ≤ 1048576 ∧ -1048576 ≤ p.2.2 ∧ p.2.2 ≤ 1048576) ⟨fun ⟨a, b, c, d, e, f⟩ => ⟨a, b, c, d, e, f⟩, fun ⟨a, b, c, d, e, f⟩ => ⟨a, b, c, d, e, f⟩⟩
def chkP (p : Pt) : Int := if okP p then 0 else 8
theorem chkP_ok {p : Pt} (h : okP p) : chkP p = 0 := by unfold chkP; rw [if_pos h]
theorem chkP_bad {p : Pt} (h : ¬ okP p) : chkP p = 8 := by unfold chkP; rw [if_neg h]
theorem chkP_zero {p : Pt} : chkP p = 0 ↔ okP p := by
  by_cases h : okP p
  · simp [chkP_ok h, h]
  · simp [chkP_bad h, h]

structure okF (f : List Pt) : Prop where
  len : f.length ≤ 64
  each : ∀ p ∈ f, okP p
  inc : (f.map (·.1)).Pairwise (· < ·)
instance (f : List Pt) : Decidable (okF f) :=
  decidable_of_iff (f.length ≤ 64 ∧ (∀ p ∈ f, okP p) ∧ (f.map (·.1)).Pairwise (· < ·)) ⟨fun ⟨a, b, c⟩ => ⟨a, b, c⟩, fun ⟨a, b, c⟩ => ⟨a, b, c⟩⟩
def chkF (f : List Pt) : Int := if 64 < f.length then 4 else if ∀ p ∈ f, okP p then (if (f.map (·.1)).Pairwise (· < ·) then 0 else 32) else 8
theorem chkF_zero {f : List Pt} : chkF f = 0 ↔ okF f := by
  unfold chkF
  constructor
  · intro h
    split at h
    · cases h
    · split at h
      · split at h
        · exact ⟨by omega, by assumption, by assumption⟩
        · cases h
      · cases h
  · intro h
    rw [if_neg (by have := h.len; omega), if_pos h.each, if_pos h.inc]
def timedF (f : List Pt) (t : Int × Int) : Int := if chkF f ≠ 0 then chkF f else chkR t
theorem timedF_zero {f : List Pt} {t : Int × Int} : timedF f t = 0 ↔ okF f ∧ okR t := by
  unfold timedF
  by_cases h : chkF f = 0
  · rw [if_neg (by omega), chkR_zero]; exact ⟨fun x => ⟨chkF_zero.1 h, x⟩, fun x => x.2⟩
  · rw [if_pos h]; rw [chkF_zero] at h; rw [chkF_zero]; simp [h]

/-- Neighbours in order: all in order. -/
theorem inc_snoc {l : List Int} {x : Int} : (l ++ [x]).Pairwise (· < ·) ↔ l.Pairwise (· < ·) ∧ ∀ y ∈ l, y < x := by
  rw [List.pairwise_append]
  simp

def posF (f : List Pt) (id : Int) : Int := idx (fun p : Pt => p.1 == id) f
def gP (f : List Pt) (i : Int) : Pt := f.getD i.toNat (0, 0, 0)
end Go.Eng
end
section
/- Products of 128 bits, by halves. Conditions: none. -/
namespace Go.Eng
theorem tdH {z : Int} (h : 0 ≤ z) : z.tdiv 4294967296 = z / 4294967296 := Int.tdiv_eq_ediv_of_nonneg h
theorem tmH {z : Int} (h : 0 ≤ z) : z.tmod 4294967296 = z % 4294967296 := Int.tmod_eq_emod_of_nonneg h
theorem wU0 (z : Int) : 0 ≤ wrapU z := by unfold wrapU; omega
theorem twd (z : Int) : (wrapU z).tdiv 4294967296 = wrapU z / 4294967296 := tdH (wU0 z)
theorem twm (z : Int) : (wrapU z).tmod 4294967296 = wrapU z % 4294967296 := tmH (wU0 z)

theorem prodHi {x y : Int} (hx : 0 ≤ x) (hx' : x < 18446744073709551616) (hy : 0 ≤ y) (hy' : y < 18446744073709551616) :
    wrapU (wrapU (wrapU (wrapU (x / 4294967296) * wrapU (y / 4294967296)) + wrapU (wrapU (wrapU (wrapU (x / 4294967296) * (y % 4294967296)) + wrapU (wrapU (x % 4294967296 * (y % 4294967296)) / 4294967296)) / 4294967296)) +
      wrapU (wrapU (wrapU (x % 4294967296 * wrapU (y / 4294967296)) + wrapU (wrapU (wrapU (x / 4294967296) * (y % 4294967296)) + wrapU (wrapU (x % 4294967296 * (y % 4294967296)) / 4294967296)) % 4294967296) / 4294967296)) = x * y / 18446744073709551616 ∧
    wrapU (wrapU (wrapU (wrapU (x % 4294967296 * wrapU (y / 4294967296)) + wrapU (wrapU (wrapU (x / 4294967296) * (y % 4294967296)) + wrapU (wrapU (x % 4294967296 * (y % 4294967296)) / 4294967296)) % 4294967296) % 4294967296 * 4294967296) + wrapU (x % 4294967296 * (y % 4294967296)) % 4294967296) = x * y % 18446744073709551616 := by
  have hs := mul_split x y
  have b11 := mulB (x := x / 4294967296) (y := y / 4294967296) (m := 4294967295) (n := 4294967295) (by omega) (by omega) (by omega) (by omega)
  have b10 := mulB (x := x / 4294967296) (y := y % 4294967296) (m := 4294967295) (n := 4294967295) (by omega) (by omega) (by omega) (by omega)
  have b01 := mulB (x := x % 4294967296) (y := y / 4294967296) (m := 4294967295) (n := 4294967295) (by omega) (by omega) (by omega) (by omega)
  have b00 := mulB (x := x % 4294967296) (y := y % 4294967296) (m := 4294967295) (n := 4294967295) (by omega) (by omega) (by omega) (by omega)
  have e1 : wrapU (x / 4294967296) = x / 4294967296 := by unfold wrapU; omega
  have e2 : wrapU (y / 4294967296) = y / 4294967296 := by unfold wrapU; omega
  rw [e1, e2]
  unfold wrapU
  generalize (x / 4294967296) * (y / 4294967296) = p11 at *
  generalize (x / 4294967296) * (y % 4294967296) = p10 at *
  generalize (x % 4294967296) * (y / 4294967296) = p01 at *
  generalize (x % 4294967296) * (y % 4294967296) = p00 at *
  generalize x * y = P at *
  constructor <;> omega

theorem BigV.add {c : Bool} {h1 l1 h2 l2 v1 v2 : Int} (b1 : BigV c h1 l1 v1) (b2 : BigV c h2 l2 v2) (r1 : absI v1 < 85070591730234615865843651857942052864) (r2 : absI v2 < 85070591730234615865843651857942052864) :
    (wrapU (l1 + l2) < l1 → BigV c (wrapU (wrapU (h1 + h2) + 1)) (wrapU (l1 + l2)) (v1 + v2)) ∧ (¬ wrapU (l1 + l2) < l1 → BigV c (wrapU (h1 + h2)) (wrapU (l1 + l2)) (v1 + v2)) := by
  obtain ⟨a1, a2, a3, a4, a5, a6⟩ := b1
  obtain ⟨d1, d2, d3, d4, d5, d6⟩ := b2
  unfold absI at r1 r2
  unfold wrapU
  cases c
  · have a6 := a6 rfl
    have d6 := d6 rfl
    constructor
    · intro h
      refine ⟨by omega, by omega, by omega, by omega, fun h => by (cases h), fun _ => ?_⟩
      split at r1 <;> split at r2 <;> omega
    · intro h
      refine ⟨by omega, by omega, by omega, by omega, fun h => by (cases h), fun _ => ?_⟩
      split at r1 <;> split at r2 <;> omega
  · have a5 := a5 rfl
    have d5 := d5 rfl
    constructor
    · intro h
      refine ⟨by omega, by omega, by omega, by omega, fun _ => ?_, fun h => by (cases h)⟩
      split at r1 <;> split at r2 <;> omega
    · intro h
      refine ⟨by omega, by omega, by omega, by omega, fun _ => ?_, fun h => by (cases h)⟩
      split at r1 <;> split at r2 <;> omega

theorem absI_le {x m : Int} (h1 : -m ≤ x) (h2 : x ≤ m) : absI x ≤ m := by unfold absI; split <;> omega
theorem absI_mul_le {x y m n : Int} (hx : absI x ≤ m) (hy : absI y ≤ n) : absI (x * y) ≤ m * n := by
  rw [← absI_mul]
  exact (mulB (absI_nonneg x) hx (absI_nonneg y) hy).2
end Go.Eng
end
section
/- Division bit by bit. Conditions: none. -/
namespace Go.Eng
theorem half_pow (V i : Nat) : V / 2 ^ (i + 1) = (V / 2 ^ i) / 2 := by
  rw [Nat.div_div_eq_div_mul, Nat.pow_succ]
end Go.Eng
end
section
/- Dividing by digits of 32 bits, in plain words. Conditions: none. -/
namespace Go.Eng
/-- Two digits of the divisor, what is divided by it, and the next digit. -/
structure Nrm (u d y1 y0 : Int) : Prop where
  a : 2147483648 ≤ y1
  b : y1 < 4294967296
  c : 0 ≤ y0
  e : y0 < 4294967296
  u0 : 0 ≤ u
  ul : u < y1 * 4294967296 + y0
  d0 : 0 ≤ d
  d1 : d < 4294967296
/-- A digit that is not too small, and what is left by the upper half of the divisor. -/
structure Dg (u d y1 y0 q r : Int) : Prop where
  e : q * y1 + r = u
  r0 : 0 ≤ r
  r1 : r < 4294967296
  q0 : 0 ≤ q
  q1 : q ≤ 4294967298
  lt : u * 4294967296 + d < (q + 1) * (y1 * 4294967296 + y0)
theorem dg_mul (q y1 y0 : Int) : q * (y1 * 4294967296 + y0) = q * y1 * 4294967296 + q * y0 := by rw [Int.mul_add, ← Int.mul_assoc]
theorem Dg.start {u d y1 y0 : Int} (n : Nrm u d y1 y0) : Dg u d y1 y0 (u / y1) (u - u / y1 * y1) := by
  obtain ⟨a, b, c, e, u0, ul, d0, d1⟩ := n
  have h1 := Int.mul_ediv_add_emod u y1
  have h2 := Int.emod_nonneg u (by omega : y1 ≠ 0)
  have h3 := Int.emod_lt_of_pos u (by omega : 0 < y1)
  have h4 : 0 ≤ u / y1 := Int.ediv_nonneg u0 (by omega)
  rw [Int.mul_comm] at h1
  generalize u / y1 = q at *
  generalize u % y1 = m at *
  have h5 : q ≤ 4294967298 := by
    rcases Int.lt_or_le 4294967298 q with h | h
    · have := Int.mul_le_mul_of_nonneg_right (show 4294967299 ≤ q by omega) (by omega : 0 ≤ y1)
      generalize q * y1 = P at *
      omega
    · exact h
  have h6 : (q + 1) * (y1 * 4294967296 + y0) = (q * y1 + y1) * 4294967296 + (q + 1) * y0 := by
    rw [dg_mul, Int.add_mul q 1 y1, Int.one_mul]
  have h7 : 0 ≤ (q + 1) * y0 := Int.mul_nonneg (by omega) c
  refine ⟨by omega, by omega, by omega, h4, h5, ?_⟩
  rw [h6]
  generalize q * y1 = P at *
  generalize (q + 1) * y0 = R at *
  omega
theorem Dg.lt_of {u d y1 y0 q r : Int} (n : Nrm u d y1 y0) (g : Dg u d y1 y0 q r) (h : 4294967296 ≤ q ∨ 4294967296 * r + d < q * y0) : u * 4294967296 + d < q * (y1 * 4294967296 + y0) ∧ 1 ≤ q := by
  obtain ⟨a, b, c, e, u0, ul, d0, d1⟩ := n
  obtain ⟨g1, g2, g3, g4, g5, g6⟩ := g
  rcases h with h | h
  · refine ⟨?_, by omega⟩
    have h7 := Int.mul_le_mul_of_nonneg_right h (by omega : 0 ≤ y1 * 4294967296 + y0)
    generalize q * (y1 * 4294967296 + y0) = Z at *
    omega
  · refine ⟨?_, ?_⟩
    · rw [dg_mul]
      generalize q * y1 = P at *
      generalize q * y0 = R at *
      omega
    · rcases Int.lt_or_le 0 q with h' | h'
      · omega
      · have : q = 0 := by omega
        subst this
        rw [Int.zero_mul] at h; omega
theorem Dg.next {u d y1 y0 q r : Int} (n : Nrm u d y1 y0) (g : Dg u d y1 y0 q r) (h : 4294967296 ≤ q ∨ 4294967296 * r + d < q * y0) (hr : r + y1 < 4294967296) : Dg u d y1 y0 (q - 1) (r + y1) := by
  obtain ⟨k1, k2⟩ := g.lt_of n h
  obtain ⟨a, b, c, e, u0, ul, d0, d1⟩ := n
  obtain ⟨g1, g2, g3, g4, g5, g6⟩ := g
  refine ⟨?_, by omega, hr, by omega, by omega, ?_⟩
  · rw [Int.sub_mul, Int.one_mul]; omega
  · rw [show q - 1 + 1 = q by omega]; exact k1
/-- What a digit is to be. -/
structure Digit (u d Y q : Int) : Prop where
  le : q * Y ≤ u * 4294967296 + d
  lt : u * 4294967296 + d < (q + 1) * Y
  q0 : 0 ≤ q
  q1 : q < 4294967296
theorem Dg.done {u d y1 y0 q r : Int} (n : Nrm u d y1 y0) (g : Dg u d y1 y0 q r) (h : 4294967296 ≤ q ∨ 4294967296 * r + d < q * y0) (hr : 4294967296 ≤ r + y1) : Digit u d (y1 * 4294967296 + y0) (q - 1) := by
  obtain ⟨k1, k2⟩ := g.lt_of n h
  obtain ⟨a, b, c, e, u0, ul, d0, d1⟩ := n
  obtain ⟨g1, g2, g3, g4, g5, g6⟩ := g
  have s1 : (q - 1) * y1 + (r + y1) = u := by rw [Int.sub_mul, Int.one_mul]; omega
  have s2 : q - 1 < 4294967296 := by
    rcases Int.lt_or_le (q - 1) 4294967296 with h' | h'
    · exact h'
    · have := Int.mul_le_mul_of_nonneg_right h' (by omega : 0 ≤ y1)
      generalize (q - 1) * y1 = P at *
      omega
  have s3 := Int.mul_le_mul_of_nonneg_left (show y0 ≤ 4294967296 by omega) (show 0 ≤ q - 1 by omega)
  refine ⟨?_, by rw [show q - 1 + 1 = q by omega]; exact k1, by omega, s2⟩
  rw [dg_mul]
  generalize (q - 1) * y1 = P at *
  generalize (q - 1) * y0 = R at *
  omega
theorem wrapU_id {n : Int} (h0 : 0 ≤ n) (h1 : n < 18446744073709551616) : wrapU n = n := by unfold wrapU; omega
theorem Dg.cond {u d y1 y0 q r : Int} (n : Nrm u d y1 y0) (g : Dg u d y1 y0 q r) : (decide (q ≥ 4294967296) || decide (wrapU (q * y0) > wrapU (wrapU (4294967296 * r) + d))) = true ↔ (4294967296 ≤ q ∨ 4294967296 * r + d < q * y0) := by
  obtain ⟨a, b, c, e, u0, ul, d0, d1⟩ := n
  obtain ⟨g1, g2, g3, g4, g5, g6⟩ := g
  rw [wrapU_id (n := 4294967296 * r) (by omega) (by omega), wrapU_id (n := 4294967296 * r + d) (by omega) (by omega), Bool.or_eq_true, decide_eq_true_eq, decide_eq_true_eq]
  by_cases h : 4294967296 ≤ q
  · exact ⟨fun _ => .inl h, fun _ => .inl h⟩
  · have h1 : 0 ≤ q * y0 := Int.mul_nonneg g4 c
    have h2 := Int.mul_le_mul_of_nonneg_left (show y0 ≤ 4294967296 by omega) g4
    rw [wrapU_id h1 (by omega)]
end Go.Eng
end
