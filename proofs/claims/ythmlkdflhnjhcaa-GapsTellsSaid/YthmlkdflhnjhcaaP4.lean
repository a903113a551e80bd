/- The engine, parts R1, R2, R3, R4, put together. Conditions: none. -/
import Derived.Test.YthmlkdflhnjhcaaP3
import Derived.Test.YthmlkdflhnjhcaaE7
import Derived.Laws.Externs
import Derived.Test.YthmlkdflhnjhcaaVgBase
import Derived.Test.YthmlkdflhnjhcaaVgStd
import Derived.Test.YthmlkdflhnjhcaaFs
import Derived.Test.YthmlkdflhnjhcaaFx
set_option linter.unusedVariables false
section
/- Contracts of ratio, course and their references. Conditions: none. -/
set_option maxRecDepth 100000
open Go Go.Eng Go.Proofs
namespace Go.Proofs.Ythmlkdflhnjhcaa

theorem isNaN_u64 {H : Hp} {x : Int} : Qf Try.prog F.cmp_isNaN_uint64 #[.int .u64 x] H (.bool false) := cmp_isNaN_uint64_vc ⟨by simp, Hp.le_refl _⟩
theorem isNaN_i64 {H : Hp} {x : Int} : Qf Try.prog F.cmp_isNaN_int64 #[.int .i64 x] H (.bool false) := cmp_isNaN_int64_vc ⟨by simp, Hp.le_refl _⟩
theorem compare_u64 {H : Hp} {x y : Int} : Qf Try.prog F.cmp_Compare_uint64 #[.int .u64 x, .int .u64 y] H (.int .i64 (cmpI x y)) := by
  refine cmp_Compare_uint64_vc ⟨_, isNaN_u64, _, isNaN_u64, fun h => (by cases h), fun _ => ⟨fun h => (by cases h), fun _ => ⟨fun h => ⟨?_, Hp.le_refl _⟩, fun h => ⟨fun h' => ⟨?_, Hp.le_refl _⟩, fun h' => ⟨?_, Hp.le_refl _⟩⟩⟩⟩⟩
  · have : x < y := by simpa using h
    unfold cmpI; rw [if_pos this]
  · have h1 : ¬ x < y := by simpa using h
    have h2 : x > y := by simpa using h'
    unfold cmpI; rw [if_neg h1, if_pos h2]
  · have h1 : ¬ x < y := by simpa using h
    have h2 : ¬ x > y := by simpa using h'
    unfold cmpI; rw [if_neg h1, if_neg h2]
theorem compare_i64 {H : Hp} {x y : Int} : Qf Try.prog F.cmp_Compare_int64 #[.int .i64 x, .int .i64 y] H (.int .i64 (cmpI x y)) := by
  refine cmp_Compare_int64_vc ⟨_, isNaN_i64, _, isNaN_i64, fun h => (by cases h), fun _ => ⟨fun h => (by cases h), fun _ => ⟨fun h => ⟨?_, Hp.le_refl _⟩, fun h => ⟨fun h' => ⟨?_, Hp.le_refl _⟩, fun h' => ⟨?_, Hp.le_refl _⟩⟩⟩⟩⟩
  · have : x < y := by simpa using h
    unfold cmpI; rw [if_pos this]
  · have h1 : ¬ x < y := by simpa using h
    have h2 : x > y := by simpa using h'
    unfold cmpI; rw [if_neg h1, if_pos h2]
  · have h1 : ¬ x < y := by simpa using h
    have h2 : ¬ x > y := by simpa using h'
    unfold cmpI; rw [if_neg h1, if_neg h2]

theorem ratioAbs {H : Hp} {n : Int} (h : inI n) : Qf Try.prog F.ratio_abs #[.int .i64 n] H (.int .u64 (absI n)) := by
  obtain ⟨h1, h2⟩ := h
  refine ratio_abs_vc ⟨fun hc => ⟨?_, Hp.le_refl _⟩, fun hc => ⟨?_, Hp.le_refl _⟩⟩
  · have hc : n < 0 := by simpa using hc
    congr 1; unfold wrapU absI; rw [if_pos hc]; omega
  · have hc : ¬ n < 0 := by simpa using hc
    congr 1; unfold wrapU absI; rw [if_neg hc]; omega
theorem refSize {H : Hp} {n : Int} (h : inI n) : Qf Try.prog F.pelotonref01_size #[.int .i64 n] H (.int .u64 (absI n)) := by
  obtain ⟨h1, h2⟩ := h
  refine pelotonref01_size_vc ⟨fun hc => ?_, fun hc => ⟨?_, Hp.le_refl _⟩⟩
  · have hc : n < 0 := by simpa using hc
    refine ⟨by unfold inI; omega, by unfold inI; omega, ?_, Hp.le_refl _⟩
    congr 1; unfold wrapU absI; rw [if_pos hc]; omega
  · have hc : ¬ n < 0 := by simpa using hc
    congr 1; unfold wrapU absI; rw [if_neg hc]; omega

theorem gcd_step {a b n m : Int} (hm : 0 < m) (hn : 0 ≤ n) (h : Nat.gcd n.toNat m.toNat = Nat.gcd a.toNat b.toNat) : 0 ≤ n.tmod m ∧ n.tmod m < m ∧ Nat.gcd m.toNat (n.tmod m).toNat = Nat.gcd a.toNat b.toNat := by
  have e : n.tmod m = n % m := Int.tmod_eq_emod_of_nonneg hn
  have e2 : (n % m).toNat = n.toNat % m.toNat := by
    obtain ⟨x, rfl⟩ := Int.eq_ofNat_of_zero_le hn
    obtain ⟨y, rfl⟩ := Int.eq_ofNat_of_zero_le (Int.le_of_lt hm)
    rfl
  refine ⟨by rw [e]; exact Int.emod_nonneg _ (by omega), by rw [e]; exact Int.emod_lt_of_pos _ hm, ?_⟩
  rw [e, e2, ← h]
  rw [Nat.gcd_comm m.toNat, ← Nat.gcd_rec, Nat.gcd_comm]

theorem ratioGcd {H : Hp} {a b : Int} (ha : 0 ≤ a) (hb : 0 ≤ b) : Qf Try.prog F.ratio_gcd #[.int .u64 a, .int .u64 b] H (.int .u64 (Nat.gcd a.toNat b.toNat : Nat)) := by
  refine ratio_gcd_vc ⟨fun n m H' => H' = H ∧ 0 ≤ n ∧ 0 ≤ m ∧ Nat.gcd n.toNat m.toNat = Nat.gcd a.toNat b.toNat, fun _ m _ => m.toNat, ⟨rfl, ha, hb, rfl⟩, fun n m H' ⟨e, h1, h2, h3⟩ => ?_⟩
  subst e
  refine ⟨fun hc => ?_, fun hc => ⟨?_, Hp.le_refl _⟩⟩
  · have hc : 0 < m := by simpa using hc
    obtain ⟨g1, g2, g3⟩ := gcd_step hc h1 h3
    exact ⟨by unfold nz; omega, ⟨rfl, h2, g1, g3⟩, by show (n.tmod m).toNat < m.toNat; omega⟩
  · have : m = 0 := by have : ¬ m > 0 := by simpa using hc
                       omega
    subst this
    rw [← h3]; simp; omega
theorem refCommon {H : Hp} {a b : Int} (ha : 0 ≤ a) (hb : 0 ≤ b) : Qf Try.prog F.pelotonref01_common #[.int .u64 a, .int .u64 b] H (.int .u64 (Nat.gcd a.toNat b.toNat : Nat)) := by
  refine pelotonref01_common_vc ⟨fun n m H' => H' = H ∧ 0 ≤ n ∧ 0 ≤ m ∧ Nat.gcd n.toNat m.toNat = Nat.gcd a.toNat b.toNat, fun _ m _ => m.toNat, ⟨rfl, ha, hb, rfl⟩, fun n m H' ⟨e, h1, h2, h3⟩ => ?_⟩
  subst e
  refine ⟨fun hc => ?_, fun hc => ⟨?_, Hp.le_refl _⟩⟩
  · have hc : 0 < m := by have : m ≠ 0 := by simpa using hc
                          omega
    obtain ⟨g1, g2, g3⟩ := gcd_step hc h1 h3
    exact ⟨by unfold nz; omega, ⟨rfl, h2, g1, g3⟩, by show (n.tmod m).toNat < m.toNat; omega⟩
  · have : m = 0 := by simpa using hc
    subst this
    rw [← h3]; simp; omega

theorem okR_iff {r : Int × Int} (h : fitR r) : okR r ↔ 1 ≤ r.2 ∧ r.1 ≠ -9223372036854775808 ∧ Nat.gcd r.1.natAbs r.2.natAbs = 1 := by
  obtain ⟨⟨h1, h2⟩, h3, h4⟩ := h
  constructor
  · intro o; have := o.n1; exact ⟨o.d1, by omega, o.g⟩
  · intro ⟨a, b, c⟩; exact ⟨a, by omega, by omega, by omega, c⟩

theorem ratioCheck {H : Hp} {r : Int × Int} (h : fitR r) : Qf Try.prog F.ratio_Check #[.agg #[.int .i64 r.1, .int .i64 r.2]] H (.int .i64 (chkR r)) := by
  have hk := okR_iff h
  obtain ⟨hn, hd⟩ := h
  have hd' := hd
  obtain ⟨d1, d2⟩ := hd'
  refine ratio_Check_vc ⟨_, fun _ => ratioAbs hn, (Nat.gcd r.2.toNat r.1.natAbs : Nat), fun hc => ?_, fun hc => ⟨?_, Hp.le_refl _⟩, fun hc => ⟨?_, Hp.le_refl _⟩⟩
  · simp only [Bool.not_eq_true', Bool.or_eq_false_iff, decide_eq_false_iff_not] at hc
    have e : wrapU r.2 = r.2 := by unfold wrapU; omega
    rw [e]
    have := ratioGcd (H := H) (a := r.2) (b := absI r.1) (by omega) (absI_nonneg _)
    rw [absI_nat, Int.toNat_natCast] at this
    rw [absI_nat]; exact this
  · rw [chkR_bad]
    rw [hk]
    intro ⟨a, b, c⟩
    simp only [Bool.or_eq_true, decide_eq_true_eq, beq_iff_eq] at hc
    rcases hc with (hc | hc) | hc
    · omega
    · exact b hc
    · have e : r.2.toNat = r.2.natAbs := by omega
      rw [e, Nat.gcd_comm, c] at hc; omega
  · rw [chkR_ok]
    rw [hk]
    simp only [Bool.or_eq_false_iff, decide_eq_false_iff_not, beq_eq_false_iff_ne] at hc
    obtain ⟨⟨a, b⟩, c⟩ := hc
    refine ⟨by omega, b, ?_⟩
    have e : r.2.toNat = r.2.natAbs := by omega
    rw [e, Nat.gcd_comm] at c
    have : 0 < Nat.gcd r.1.natAbs r.2.natAbs := Nat.gcd_pos_of_pos_right _ (by omega)
    omega
theorem refRCheck {H : Hp} {r : Int × Int} (h : fitR r) : Qf Try.prog F.pelotonref01_Check #[.agg #[.int .i64 r.1, .int .i64 r.2]] H (.int .i64 (chkR r)) := by
  have hk := okR_iff h
  obtain ⟨hn, hd⟩ := h
  have hd' := hd
  obtain ⟨d1, d2⟩ := hd'
  refine pelotonref01_Check_vc ⟨_, fun _ => refSize hn, (Nat.gcd r.1.natAbs r.2.toNat : Nat), fun hc => ?_, fun hc => ⟨?_, Hp.le_refl _⟩, fun hc => ⟨?_, Hp.le_refl _⟩⟩
  · simp only [Bool.not_eq_true', Bool.or_eq_false_iff, decide_eq_false_iff_not] at hc
    have e : wrapU r.2 = r.2 := by unfold wrapU; omega
    rw [e]
    have := refCommon (H := H) (a := absI r.1) (b := r.2) (absI_nonneg _) (by omega)
    rw [absI_nat, Int.toNat_natCast] at this
    rw [absI_nat]; exact this
  · rw [chkR_bad]
    rw [hk]
    intro ⟨a, b, c⟩
    simp only [Bool.or_eq_true, decide_eq_true_eq, beq_iff_eq, bne_iff_ne] at hc
    rcases hc with (hc | hc) | hc
    · omega
    · exact b hc
    · have e : r.2.toNat = r.2.natAbs := by omega
      rw [e, c] at hc; omega
  · rw [chkR_ok]
    rw [hk]
    simp only [Bool.or_eq_false_iff, decide_eq_false_iff_not, beq_eq_false_iff_ne, bne_eq_false_iff_eq] at hc
    obtain ⟨⟨a, b⟩, c⟩ := hc
    refine ⟨by omega, b, ?_⟩
    have e : r.2.toNat = r.2.natAbs := by omega
    rw [e] at c
    omega

theorem ratioBoth {H : Hp} {a b : Int × Int} (ha : fitR a) (hb : fitR b) : Qf Try.prog F.ratio_both #[.agg #[.int .i64 a.1, .int .i64 a.2], .agg #[.int .i64 b.1, .int .i64 b.2]] H (.int .i64 (if okR a ∧ okR b then 0 else 8)) := by
  refine ratio_both_vc ⟨_, ratioCheck ha, _, ratioCheck hb, ?_, Hp.le_refl _⟩
  congr 1
  by_cases h1 : okR a <;> by_cases h2 : okR b
  · rw [chkR_ok h1, chkR_ok h2]; simp [h1, h2]
  · rw [chkR_ok h1, chkR_bad h2]; simp [h1, h2]
  · rw [chkR_bad h1, chkR_ok h2]; simp [h1, h2]
  · rw [chkR_bad h1, chkR_bad h2]; simp [h1, h2]

theorem mul64 {H : Hp} {x y : Int} (hx : 0 ≤ x) (hx' : x < 18446744073709551616) (hy : 0 ≤ y) (hy' : y < 18446744073709551616) :
    Qf Try.prog F.math_bits_Mul64 #[.int .u64 x, .int .u64 y] H (.tuple #[.int .u64 (x * y / 18446744073709551616), .int .u64 (x * y % 18446744073709551616)]) := by
  refine math_bits_Mul64_vc ⟨by unfold nn; omega, by unfold nn; omega, by unfold nn; omega, by unfold nn; omega, by unfold nn; omega, ?_, Hp.le_refl _⟩
  have hW : ∀ z : Int, 0 ≤ wrapU z ∧ wrapU z < 18446744073709551616 := fun z => by unfold wrapU; omega
  rw [maskU hx hx', maskU hy hy', shr32 hx, shr32 hy, shr32 (hW _).1, shr32 (hW _).1, maskU (hW _).1 (hW _).2, shr32 (hW _).1, hi64 hx hx' hy hy']
  rfl

theorem absB {n : Int} (h : inI n) : 0 ≤ absI n ∧ absI n ≤ 9223372036854775808 := by
  obtain ⟨h1, h2⟩ := h
  unfold absI; split <;> omega

theorem ratioTimes {H : Hp} {a b : Int} (ha : inI a) (hb : inI b) :
    Qf Try.prog F.ratio_times #[.int .i64 a, .int .i64 b] H (.agg #[.bool (!(decide (a < 0) == decide (b < 0))), .int .u64 (absI (a * b) / 18446744073709551616), .int .u64 (absI (a * b) % 18446744073709551616)]) := by
  have h1 := absB ha; have h2 := absB hb
  refine ratio_times_vc ⟨_, ratioAbs ha, _, ratioAbs hb, _, _, mul64 (by omega) (by omega) (by omega) (by omega), ?_, Hp.le_refl _⟩
  rw [absI_mul]

theorem ratioCompare {H : Hp} {c d : Bool} {x y : Int} (hx : 0 ≤ x) (hy : 0 ≤ y) :
    Qf Try.prog F.ratio_compare #[.agg #[.bool c, .int .u64 (x / 18446744073709551616), .int .u64 (x % 18446744073709551616)], .agg #[.bool d, .int .u64 (y / 18446744073709551616), .int .u64 (y % 18446744073709551616)]] H (.int .i64 (cmpI x y)) := by
  refine ratio_compare_vc ⟨_, compare_u64, fun hc => ⟨?_, Hp.le_refl _⟩, fun hc => ⟨_, compare_u64, ?_, Hp.le_refl _⟩⟩
  · have hc : cmpI (x / 18446744073709551616) (y / 18446744073709551616) ≠ 0 := by simpa using hc
    congr 1
    have h1 : ¬ x / 18446744073709551616 = y / 18446744073709551616 := fun e => hc (cmpI_eq.2 e)
    unfold cmpI
    split
    · rw [if_pos (by omega)]
    · rw [if_pos (by omega), if_neg (by omega), if_pos (by omega)]
  · have hc : cmpI (x / 18446744073709551616) (y / 18446744073709551616) = 0 := by simpa using hc
    have h1 := cmpI_eq.1 hc
    congr 1
    unfold cmpI
    split
    · rw [if_pos (by omega)]
    · split
      · rw [if_neg (by omega), if_pos (by omega)]
      · rw [if_neg (by omega), if_neg (by omega)]

theorem cmpR_abs {a b : Int × Int} (ha : okR a) (hb : okR b) (hs : a.1 < 0 ↔ b.1 < 0) : (if a.1 < 0 then 0 - cmpI (absI (a.1 * b.2)) (absI (b.1 * a.2)) else cmpI (absI (a.1 * b.2)) (absI (b.1 * a.2))) = cmpR a b := by
  have da := ha.d1; have db := hb.d1
  unfold cmpR
  split
  · rename_i h
    have h' := hs.1 h
    have p := Int.mul_neg_of_neg_of_pos h (show 0 < b.2 by omega)
    have q := Int.mul_neg_of_neg_of_pos h' (show 0 < a.2 by omega)
    rw [cmpI_neg]
    unfold absI
    rw [if_pos p, if_pos q]
    unfold cmpI
    split
    · rw [if_pos (by omega)]
    · split
      · rw [if_neg (by omega), if_pos (by omega)]
      · rw [if_neg (by omega), if_neg (by omega)]
  · rename_i h
    have h' : ¬ b.1 < 0 := fun x => h (hs.2 x)
    have p := Int.mul_nonneg (show 0 ≤ a.1 by omega) (show 0 ≤ b.2 by omega)
    have q := Int.mul_nonneg (show 0 ≤ b.1 by omega) (show 0 ≤ a.2 by omega)
    unfold absI
    rw [if_neg (by omega), if_neg (by omega)]

theorem cmpR_sign {a b : Int × Int} (ha : okR a) (hb : okR b) (hs : ¬ (a.1 < 0 ↔ b.1 < 0)) : cmpI a.1 b.1 = cmpR a b := by
  have da := ha.d1; have db := hb.d1
  unfold cmpR
  by_cases h : a.1 < 0
  · have h' : ¬ b.1 < 0 := fun x => hs (iff_of_true h x)
    have p := Int.mul_neg_of_neg_of_pos h (show 0 < b.2 by omega)
    have q := Int.mul_nonneg (show 0 ≤ b.1 by omega) (show 0 ≤ a.2 by omega)
    unfold cmpI
    rw [if_pos (by omega), if_pos (by omega)]
  · have h' : b.1 < 0 := by
      rcases Int.lt_or_le b.1 0 with x | x
      · exact x
      · exact absurd (iff_of_false h (by omega)) hs
    have p := Int.mul_nonneg (show 0 ≤ a.1 by omega) (show 0 ≤ b.2 by omega)
    have q := Int.mul_neg_of_neg_of_pos h' (show 0 < a.2 by omega)
    unfold cmpI
    rw [if_neg (by omega), if_pos (by omega), if_neg (by omega), if_pos (by omega)]

/-- What Cmp returns: 0 for what is not valid. -/
def cmpM (a b : Int × Int) : Int × Int := if okR a ∧ okR b then (cmpR a b, 0) else (0, 8)
theorem ratioCmp {H : Hp} {a b : Int × Int} (ha : fitR a) (hb : fitR b) : Qf Try.prog F.ratio_Cmp #[.agg #[.int .i64 a.1, .int .i64 a.2], .agg #[.int .i64 b.1, .int .i64 b.2]] H (.tuple #[.int .i64 (cmpM a b).1, .int .i64 (cmpM a b).2]) := by
  refine ratio_Cmp_vc ⟨_, ratioBoth ha hb, fun hc => ⟨?_, Hp.le_refl _⟩, fun hc => ?_⟩
  · have : ¬ (okR a ∧ okR b) := fun h => by rw [if_pos h] at hc; simp at hc
    unfold cmpM; rw [if_neg this, if_neg this]
  · have hk : okR a ∧ okR b := by
      by_cases h : okR a ∧ okR b
      · exact h
      · rw [if_neg h] at hc; simp at hc
    obtain ⟨oa, ob⟩ := hk
    have e : cmpM a b = (cmpR a b, 0) := by unfold cmpM; rw [if_pos ⟨oa, ob⟩]
    rw [e]
    refine ⟨fun hs => ⟨_, compare_i64, ?_, Hp.le_refl _⟩, fun hs => ⟨_, _, _, ratioTimes ha.1 hb.2, _, _, _, ratioTimes hb.1 ha.2, _, ratioCompare (absI_nonneg _) (absI_nonneg _), fun hn => ⟨?_, ?_, Hp.le_refl _⟩, fun hn => ⟨?_, Hp.le_refl _⟩⟩⟩
    · rw [cmpR_sign oa ob]
      intro h
      simp only [Bool.not_eq_true', beq_eq_false_iff_ne] at hs
      exact hs (by rw [Bool.eq_iff_iff, decide_eq_true_eq, decide_eq_true_eq]; exact h)
    · have := cmpI_range (absI (a.1 * b.2)) (absI (b.1 * a.2))
      unfold inI; omega
    · have hs' : a.1 < 0 ↔ b.1 < 0 := by
        simp only [Bool.not_eq_false', beq_iff_eq] at hs
        rw [Bool.eq_iff_iff, decide_eq_true_eq, decide_eq_true_eq] at hs; exact hs
      have hn : a.1 < 0 := by simpa using hn
      rw [← cmpR_abs oa ob hs', if_pos hn]
    · have hs' : a.1 < 0 ↔ b.1 < 0 := by
        simp only [Bool.not_eq_false', beq_iff_eq] at hs
        rw [Bool.eq_iff_iff, decide_eq_true_eq, decide_eq_true_eq] at hs; exact hs
      have hn : ¬ a.1 < 0 := by simpa using hn
      rw [← cmpR_abs oa ob hs', if_neg hn]
end Go.Proofs.Ythmlkdflhnjhcaa
end
section
/- Contracts of course and pelotonref01, 02. Conditions: none. -/
set_option maxRecDepth 100000
open Go Go.Eng Go.Proofs
namespace Go.Proofs.Ythmlkdflhnjhcaa

theorem bneB {c d : Bool} (h : ¬ c = d) : (c = true → d = false) ∧ (c = false → d = true) := by
  revert h; cases c <;> cases d <;> simp

theorem refProd {H : Hp} {x y : Int} (hx : 0 ≤ x) (hx' : x < 18446744073709551616) (hy : 0 ≤ y) (hy' : y < 18446744073709551616) :
    Qf Try.prog F.pelotonref01_product #[.int .u64 x, .int .u64 y] H (.agg #[.bool false, .int .u64 (x * y / 18446744073709551616), .int .u64 (x * y % 18446744073709551616)]) := by
  refine pelotonref01_product_vc ⟨by unfold nz; omega, by unfold nz; omega, by unfold nz; omega, by unfold nz; omega, by unfold nz; omega, by unfold nz; omega, by unfold nz; omega, by unfold nz; omega, by unfold nz; omega, by unfold nz; omega, ?_, Hp.le_refl _⟩
  rw [tdH hx, tdH hy, tmH hx, tmH hy]
  simp only [twd, twm]
  rw [(prodHi hx hx' hy hy').1, (prodHi hx hx' hy hy').2]

theorem refProduct {H : Hp} {a b : Int} (ha : inI a) (hb : inI b) : ∃ c h l, Qf Try.prog F.pelotonref01_Product #[.int .i64 a, .int .i64 b] H (.agg #[.bool c, .int .u64 h, .int .u64 l]) ∧ BigV c h l (a * b) := by
  have h1 := absB ha; have h2 := absB hb
  have hm := mulB h1.1 h1.2 h2.1 h2.2
  refine ⟨_, _, _, pelotonref01_Product_vc ⟨_, refSize ha, _, refSize hb, _, _, _, refProd (by omega) (by omega) (by omega) (by omega), rfl, Hp.le_refl _⟩, ?_⟩
  rw [absI_mul] at hm ⊢
  have key : (!(decide (a < 0) == decide (b < 0)) && (a != 0 && b != 0)) = decide (a * b < 0) := by
    rw [Bool.eq_iff_iff, decide_eq_true_eq, mul_neg_iff]
    simp only [Bool.and_eq_true, Bool.not_eq_true', beq_eq_false_iff_ne, bne_iff_ne]
    by_cases x : a < 0 <;> by_cases y : b < 0 <;> simp [x, y] <;> omega
  rw [key]
  generalize a * b = v at *
  refine ⟨by omega, by omega, by omega, by omega, fun h => ?_, fun h => ?_⟩
  · have h : v < 0 := by simpa using h
    refine ⟨h, ?_⟩
    have : absI v = -v := by unfold absI; rw [if_pos h]
    omega
  · have h : ¬ v < 0 := by simpa using h
    have : absI v = v := by unfold absI; rw [if_neg h]
    omega

theorem refLess {H : Hp} {c d : Bool} {h1 l1 h2 l2 : Int} (a0 : 0 ≤ l1) (a1 : l1 < 18446744073709551616) (b0 : 0 ≤ l2) (b1 : l2 < 18446744073709551616) :
    Qf Try.prog F.pelotonref01_less #[.agg #[.bool c, .int .u64 h1, .int .u64 l1], .agg #[.bool d, .int .u64 h2, .int .u64 l2]] H (.int .i64 (cmpI (h1 * 18446744073709551616 + l1) (h2 * 18446744073709551616 + l2))) := by
  refine pelotonref01_less_vc ⟨fun hc => ⟨fun hl => ⟨?_, Hp.le_refl _⟩, fun hl => ⟨?_, Hp.le_refl _⟩⟩, fun hc => ⟨fun hl => ⟨fun hx => ⟨?_, Hp.le_refl _⟩, fun hx => ⟨?_, Hp.le_refl _⟩⟩, fun hl => ⟨?_, Hp.le_refl _⟩⟩⟩
  · simp at hc hl; unfold cmpI; rw [if_pos (by omega)]
  · simp at hc hl; unfold cmpI; rw [if_neg (by omega), if_pos (by omega)]
  · simp at hc hl hx; unfold cmpI; rw [if_pos (by omega)]
  · simp at hc hl hx; unfold cmpI; rw [if_neg (by omega), if_pos (by omega)]
  · simp at hc hl; unfold cmpI; rw [if_neg (by omega), if_neg (by omega)]

theorem refMinus {H : Hp} {c d : Bool} {h1 l1 h2 l2 : Int} (a0 : 0 ≤ l1) (a1 : l1 < 18446744073709551616) (b0 : 0 ≤ l2) (b1 : l2 < 18446744073709551616) (a2 : 0 ≤ h1) (a3 : h1 < 18446744073709551616) (b2 : 0 ≤ h2) (b3 : h2 < 18446744073709551616)
    (hv : h2 * 18446744073709551616 + l2 ≤ h1 * 18446744073709551616 + l1) :
    ∃ h l, Qf Try.prog F.pelotonref01_minus #[.agg #[.bool c, .int .u64 h1, .int .u64 l1], .agg #[.bool d, .int .u64 h2, .int .u64 l2]] H (.agg #[.bool false, .int .u64 h, .int .u64 l]) ∧
      0 ≤ h ∧ h < 18446744073709551616 ∧ 0 ≤ l ∧ l < 18446744073709551616 ∧ h * 18446744073709551616 + l = (h1 * 18446744073709551616 + l1) - (h2 * 18446744073709551616 + l2) := by
  by_cases hl : l1 < l2
  · refine ⟨_, _, pelotonref01_minus_vc ⟨fun _ => ⟨rfl, Hp.le_refl _⟩, fun hc => by simp at hc; omega⟩, ?_⟩
    unfold wrapU; omega
  · refine ⟨_, _, pelotonref01_minus_vc ⟨fun hc => by simp at hc; omega, fun _ => ⟨rfl, Hp.le_refl _⟩⟩, ?_⟩
    unfold wrapU; omega

theorem refPlus {H : Hp} {c d : Bool} {h1 l1 h2 l2 v1 v2 : Int} (b1 : BigV c h1 l1 v1) (b2 : BigV d h2 l2 v2) (r1 : absI v1 < 85070591730234615865843651857942052864) (r2 : absI v2 < 85070591730234615865843651857942052864) :
    ∃ e h l, Qf Try.prog F.pelotonref01_Plus #[.agg #[.bool c, .int .u64 h1, .int .u64 l1], .agg #[.bool d, .int .u64 h2, .int .u64 l2]] H (.agg #[.bool e, .int .u64 h, .int .u64 l]) ∧ BigV e h l (v1 + v2) := by
  by_cases hcd : c = d
  · subst hcd
    obtain ⟨k1, k2⟩ := b1.add b2 r1 r2
    by_cases hl : wrapU (l1 + l2) < l1
    · exact ⟨_, _, _, pelotonref01_Plus_vc ⟨fun _ => ⟨fun _ => ⟨rfl, Hp.le_refl _⟩, fun hx => by simp at hx; omega⟩, fun hx => by simp at hx⟩, k1 hl⟩
    · exact ⟨_, _, _, pelotonref01_Plus_vc ⟨fun _ => ⟨fun hx => by simp at hx; omega, fun _ => ⟨rfl, Hp.le_refl _⟩⟩, fun hx => by simp at hx⟩, k2 hl⟩
  · have b1' := b1; have b2' := b2
    obtain ⟨p0, p1, p2, p3, p4, p5⟩ := b1'
    obtain ⟨q0, q1, q2, q3, q4, q5⟩ := b2'
    have hle := refLess (H := H) (c := c) (d := d) (h1 := h1) (l1 := l1) (h2 := h2) (l2 := l2) p2 p3 q2 q3
    by_cases hv : h2 * 18446744073709551616 + l2 ≤ h1 * 18446744073709551616 + l1
    · obtain ⟨h, l, hq, g0, g1, g2, g3, g4⟩ := refMinus (H := H) (c := c) (d := d) p2 p3 q2 q3 p0 p1 q0 q1 hv
      refine ⟨_, _, _, pelotonref01_Plus_vc ⟨fun hx => by simp at hx; exact absurd hx hcd, fun _ => ⟨_, hle, fun _ => ⟨_, _, _, hq, rfl, Hp.le_refl _⟩, fun hx => ?_⟩⟩, ?_⟩
      · have : cmpI (h1 * 18446744073709551616 + l1) (h2 * 18446744073709551616 + l2) < 0 := by simpa using hx
        rw [cmpI_lt] at this; omega
      · refine ⟨g0, g1, g2, g3, fun hx => ?_, fun hx => ?_⟩
        · simp only [Bool.and_eq_true, Bool.or_eq_true, decide_eq_true_eq] at hx
          have hc := hx.1
          subst hc
          have hd : d = false := (bneB hcd).1 rfl
          subst hd
          have := p4 rfl; have := q5 rfl
          omega
        · cases c
          · have hd : d = true := (bneB hcd).2 rfl
            subst hd
            have := p5 rfl; have := q4 rfl
            omega
          · have hd : d = false := (bneB hcd).1 rfl
            subst hd
            have := p4 rfl; have := q5 rfl
            simp at hx
            omega
    · obtain ⟨h, l, hq, g0, g1, g2, g3, g4⟩ := refMinus (H := H) (c := d) (d := c) q2 q3 p2 p3 q0 q1 p0 p1 (by omega)
      refine ⟨_, _, _, pelotonref01_Plus_vc ⟨fun hx => by simp at hx; exact absurd hx hcd, fun _ => ⟨_, hle, fun hx => ?_, fun _ => ⟨_, _, _, hq, rfl, Hp.le_refl _⟩⟩⟩, ?_⟩
      · have : ¬ cmpI (h1 * 18446744073709551616 + l1) (h2 * 18446744073709551616 + l2) < 0 := by simpa using hx
        rw [cmpI_lt] at this; omega
      · refine ⟨g0, g1, g2, g3, fun hx => ?_, fun hx => ?_⟩
        · subst hx
          have hc : c = false := (bneB (fun e => hcd e.symm)).1 rfl
          subst hc
          have := p5 rfl; have := q4 rfl
          omega
        · subst hx
          have hc : c = true := (bneB (fun e => hcd e.symm)).2 rfl
          subst hc
          have := p4 rfl; have := q5 rfl
          omega

theorem refSign {H : Hp} {c : Bool} {h l v : Int} (b : BigV c h l v) : Qf Try.prog F.pelotonref01_Sign #[.agg #[.bool c, .int .u64 h, .int .u64 l]] H (.int .i64 (sgn v)) := by
  obtain ⟨p0, p1, p2, p3, p4, p5⟩ := b
  refine pelotonref01_Sign_vc ⟨fun hc => ⟨?_, Hp.le_refl _⟩, fun hc => ⟨fun hn => ⟨?_, Hp.le_refl _⟩, fun hn => ⟨?_, Hp.le_refl _⟩⟩⟩
  · simp at hc
    have : v = 0 := by
      cases c
      · have := p5 rfl; omega
      · have := p4 rfl; omega
    subst this; rfl
  · subst hn; have := p4 rfl; unfold sgn; rw [if_pos this.1]
  · subst hn; have := p5 rfl
    simp at hc
    unfold sgn; rw [if_neg (by omega), if_pos (by omega)]

theorem refCompareR {H : Hp} {a b : Int × Int} (ha : okR a) (hb : okR b) : Qf Try.prog F.pelotonref01_Compare #[.agg #[.int .i64 a.1, .int .i64 a.2], .agg #[.int .i64 b.1, .int .i64 b.2]] H (.int .i64 (cmpR a b)) := by
  obtain ⟨c, h, l, q1, b1⟩ := refProduct (H := H) ha.fit.1 hb.fit.2
  obtain ⟨c', h', l', q2, b2⟩ := refProduct (H := H) hb.fit.1 ha.fit.2
  have s1 := refSign (H := H) b1
  have s2 := refSign (H := H) b2
  have p := b1; have p' := b2
  obtain ⟨p0, p1, p2, p3, p4, p5⟩ := p
  obtain ⟨r0, r1, r2, r3, r4, r5⟩ := p'
  unfold cmpR
  refine pelotonref01_Compare_vc ⟨_, _, _, q1, _, _, _, q2, _, s1, _, s2, fun hc => ⟨_, s1, _, s2, fun hx => ⟨?_, Hp.le_refl _⟩, fun hx => ⟨?_, Hp.le_refl _⟩⟩, fun hc => ⟨_, s1, fun hx => ⟨_, refLess r2 r3 p2 p3, ?_, Hp.le_refl _⟩, fun hx => ⟨_, refLess p2 p3 r2 r3, ?_, Hp.le_refl _⟩⟩⟩
  · simp only [bne_iff_ne, decide_eq_true_eq] at hc hx
    unfold sgn at hx hc
    unfold cmpI
    rw [if_pos]
    split at hx <;> split at hx <;> omega
  · simp only [bne_iff_ne, decide_eq_false_iff_not] at hc hx
    unfold sgn at hx hc
    unfold cmpI
    rw [if_neg, if_pos]
    · split at hx <;> split at hx <;> omega
    · split at hx <;> split at hx <;> omega
  · simp only [bne_eq_false_iff_eq, decide_eq_true_eq] at hc hx
    have v1 : a.1 * b.2 < 0 := by unfold sgn at hx; split at hx <;> omega
    have v2 : b.1 * a.2 < 0 := by unfold sgn at hx hc; split at hc <;> split at hc <;> omega
    have e1 : c = true := by cases c; · have := p5 rfl; omega
                             · rfl
    have e2 : c' = true := by cases c'; · have := r5 rfl; omega
                              · rfl
    rw [(p4 e1).2, (r4 e2).2]
    congr 1
    unfold cmpI
    split
    · rw [if_pos (by omega)]
    · split
      · rw [if_neg (by omega), if_pos (by omega)]
      · rw [if_neg (by omega), if_neg (by omega)]
  · simp only [bne_eq_false_iff_eq, decide_eq_false_iff_not] at hc hx
    have v1 : ¬ a.1 * b.2 < 0 := by intro h; unfold sgn at hx; rw [if_pos h] at hx; omega
    have v2 : ¬ b.1 * a.2 < 0 := by
      intro h; unfold sgn at hx hc; rw [if_neg v1] at hc hx; rw [if_pos h] at hc; split at hc <;> omega
    have e1 : c = false := by cases c; · rfl
                              · have := p4 rfl; omega
    have e2 : c' = false := by cases c'; · rfl
                               · have := r4 rfl; omega
    rw [(p5 e1).2, (r5 e2).2]

/-- The range of what is reckoned with. -/
theorem farR {p q : Pt} {t : Int × Int} (hp : okP p) (hq : okP q) (ht : okR t) :
    absI ((p.2.1 - q.2.1) * t.2) ≤ 19342813113834066795298816 ∧ absI ((p.2.2 - q.2.2) * t.1) ≤ 19342813113834066795298816 ∧ inI (p.2.1 - q.2.1) ∧ inI (p.2.2 - q.2.2) := by
  obtain ⟨_, _, a0, a1, b0, b1⟩ := hp
  obtain ⟨_, _, c0, c1, d0, d1⟩ := hq
  obtain ⟨t1, t2, t3, t4, _⟩ := ht
  refine ⟨?_, ?_, by unfold inI; omega, by unfold inI; omega⟩
  · exact absI_mul_le (m := 2097152) (n := 9223372036854775808) (absI_le (by omega) (by omega)) (absI_le (by omega) (by omega))
  · exact absI_mul_le (m := 2097152) (n := 9223372036854775808) (absI_le (by omega) (by omega)) (absI_le (by omega) (by omega))

end Go.Proofs.Ythmlkdflhnjhcaa
end
section
/- Contracts of course. Conditions: none. -/
set_option maxRecDepth 100000
open Go Go.Eng Go.Proofs
namespace Go.Proofs.Ythmlkdflhnjhcaa

theorem mul_wrap {a b : Int} (ha : inI a) (hb : inI b) : wrapU a * wrapU b = a * b + 18446744073709551616 * ((if a < 0 then b else 0) + (if b < 0 then a else 0) + (if a < 0 ∧ b < 0 then 18446744073709551616 else 0)) := by
  obtain ⟨a1, a2⟩ := ha
  obtain ⟨b1, b2⟩ := hb
  have ea : wrapU a = a + (if a < 0 then 18446744073709551616 else 0) := by unfold wrapU; split <;> omega
  have eb : wrapU b = b + (if b < 0 then 18446744073709551616 else 0) := by unfold wrapU; split <;> omega
  rw [ea, eb, Int.add_mul, Int.mul_add, Int.mul_add]
  generalize a * b = P
  by_cases ha : a < 0 <;> by_cases hb : b < 0 <;> simp only [ha, hb, if_true, if_false, and_self, and_true, and_false] <;> omega

/-- One round of the sum: the parts of what was before, and a product. -/
theorem sumStep {a b hi lo V : Int} (ha : inI a) (hb : inI b) (hab : absI (a * b) ≤ 19342813113834066795298816) (hV : hi * 18446744073709551616 + lo = V) (l0 : 0 ≤ lo) (l1 : lo < 18446744073709551616) (hVa : absI V ≤ 19342813113834066795298816) {k : Int}
    (hk : k = (wrapU a * wrapU b / 18446744073709551616) - (if a < 0 then b else 0) - (if b < 0 then a else 0)) :
    ∀ x : Int, x % 18446744073709551616 = (hi + k + (lo + wrapU a * wrapU b % 18446744073709551616) / 18446744073709551616) % 18446744073709551616 → -9223372036854775808 ≤ x → x ≤ 9223372036854775807 →
      x * 18446744073709551616 + (lo + wrapU a * wrapU b % 18446744073709551616) % 18446744073709551616 = V + a * b := by
  intro x hx x0 x1
  rw [mul_wrap ha hb] at hk hx ⊢
  have b1 := absB ha; have b2 := absB hb
  unfold absI at hab hVa
  generalize a * b = P at *
  obtain ⟨a1, a2⟩ := ha
  obtain ⟨c1, c2⟩ := hb
  split at hab <;> split at hVa <;> (by_cases h1 : a < 0 <;> by_cases h2 : b < 0 <;> simp only [h1, h2, if_true, if_false, and_self, and_true, and_false] at hk hx ⊢ <;> omega)

end Go.Proofs.Ythmlkdflhnjhcaa
end
section
/- Contracts of course and field, and their references. Conditions: none. -/
set_option maxRecDepth 100000
open Go Go.Eng Go.Proofs
namespace Go.Proofs.Ythmlkdflhnjhcaa

def twoM (p q : Pt) (t : Int × Int) : Int := if okP p ∧ okP q ∧ okR t then (if p.1 = q.1 then 2 else 0) else 8
theorem orInt {H : Hp} {u : Slc} {x y : Int} (h : RdI H u [x, y]) : Qf Try.prog F.cmp_Or_int #[u.v] H (.int .i64 (if x ≠ 0 then x else y)) := by
  have lu := h.len
  simp only [List.length_cons, List.length_nil] at lu
  refine cmp_Or_int_vc (upto (N := 2) (J := fun n => 0 < n → x = 0 ∧ (1 < n → y = 0)) (by omega) (fun h => by omega) fun n h0 h1 hJ => ⟨fun hn => ?_, fun hn => ⟨?_, Hp.le_refl _⟩⟩)
  · have hn : n < 2 := by have : n < u.n := by simpa using hn
                          omega
    have hc : n = 0 ∨ n = 1 := by omega
    rcases hc with rfl | rfl
    · refine h.ldI (by omega) (by simp) ⟨fun hb => ⟨?_, Hp.le_refl _⟩, fun hb => upto.nx (by omega) (by omega) (by omega) fun _ => ⟨?_, fun h => by omega⟩⟩
      · have : x ≠ 0 := by simpa using hb
        rw [if_pos this]; rfl
      · simpa using hb
    · obtain ⟨hx, _⟩ := hJ (by omega)
      refine h.ldI (by omega) (by simp) ⟨fun hb => ⟨?_, Hp.le_refl _⟩, fun hb => upto.nx (by omega) (by omega) (by omega) fun _ => ⟨hx, fun _ => ?_⟩⟩
      · rw [if_neg (by omega)]; rfl
      · simpa using hb
  · have : n = 2 := by have : ¬ n < u.n := by simpa using hn
                       omega
    subst this
    obtain ⟨hx, hy⟩ := hJ (by omega)
    have hy := hy (by omega)
    rw [hx, hy]; rfl

/-- Two ints in a block of their own. -/
theorem rdI2 {H H' : Hp} {b : Nat} {x y : Int} {T : TypeId} (h : H' = H.put b (.cells #[.int .i64 x, .int .i64 y] T (0, 0))) : RdI H' ⟨some ⟨b, 0, none⟩, 2, 2⟩ [x, y] :=
  rdConst (k := 1) (f := fI) (fun _ => rfl) h rfl rfl

def aheadM (p q : Pt) (t : Int × Int) : Bool × Int := if twoM p q t = 0 then (leads p q t, 0) else (false, twoM p q t)
theorem twoM_zero {p q : Pt} {t : Int × Int} : twoM p q t = 0 ↔ okP p ∧ okP q ∧ okR t ∧ p.1 ≠ q.1 := by
  unfold twoM
  constructor
  · intro h
    split at h
    · rename_i k
      split at h
      · cases h
      · exact ⟨k.1, k.2.1, k.2.2, by assumption⟩
    · cases h
  · intro ⟨a, b, c, d⟩
    rw [if_pos ⟨a, b, c⟩, if_neg d]
end Go.Proofs.Ythmlkdflhnjhcaa
end
