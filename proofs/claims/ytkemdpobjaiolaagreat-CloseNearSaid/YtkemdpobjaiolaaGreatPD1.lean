/- The engine, parts DX, DW, AT, RV, put together. Conditions: none. -/
import Derived.Test.YtkemdpobjaiolaaGreatPX1
import Derived.Test.YtkemdpobjaiolaaGreatE7
import Derived.Test.YtkemdpobjaiolaaGreatPK1
import Derived.Lib.ItoaNum
import Derived.Test.YtkemdpobjaiolaaGreatVgStd
import Derived.Test.YtkemdpobjaiolaaGreatFs
import Derived.Test.YtkemdpobjaiolaaGreatP4
import Derived.Test.YtkemdpobjaiolaaGreatVgBase
set_option linter.unusedVariables false
section
/- bits.Len64, as the library has it. Conditions: none. -/
set_option maxRecDepth 100000
open Go Go.Eng Go.Proofs
namespace Go.Proofs.YtkemdpobjaiolaaGreat
theorem len64 {H : Hp} {x : Int} (h0 : 0 ≤ x) (h1 : x ≤ 18446744073709551615) : Qf Tryz.prog 196 #[.int .u64 x] H (.int .i64 ((Go.Lib.bitLen x.toNat : Nat) : Int)) := fun w hv =>
  (Any.bits_Len64 Tryz.len64 x w h0 h1).mono fun e w' ⟨he, hw⟩ => ⟨_, H, he, by rw [hw]; exact Tr.refl hv, rfl, Hp.le_refl _⟩

theorem fdivP {z : Int} {k : Nat} (h0 : 0 ≤ z) (hk : k ≤ 64) : z.fdiv (2 ^ Min.min k IntKind.u64.bits) = z / 2 ^ k := by
  have : Min.min k IntKind.u64.bits = k := by show min k 64 = k; omega
  rw [this]
  exact Int.fdiv_eq_ediv_of_nonneg _ (Int.le_of_lt (Int.pow_pos (by omega)))
theorem toNatU {z : Int} (h0 : 0 ≤ z) (h1 : z < 18446744073709551616) : (BitVec.ofInt IntKind.u64.bits z).toNat = z.toNat := by
  rw [BitVec.toNat_ofInt]
  have : (((2 : Nat) ^ IntKind.u64.bits : Nat) : Int) = 18446744073709551616 := by decide
  rw [this]; omega
theorem orSum {x a : Int} {k : Nat} (hx : 0 ≤ x) (ha : 0 ≤ a) (ha' : a < 2 ^ k) (hs : x * 2 ^ k + a < 18446744073709551616) :
    IntKind.u64.wrap (↑(BitVec.ofInt IntKind.u64.bits (x * 2 ^ k) ||| BitVec.ofInt IntKind.u64.bits a).toNat : Int) = x * 2 ^ k + a := by
  obtain ⟨X, rfl⟩ := Int.eq_ofNat_of_zero_le hx
  obtain ⟨A, rfl⟩ := Int.eq_ofNat_of_zero_le ha
  have e : ((X : Int) * 2 ^ k) = ((2 ^ k * X : Nat) : Int) := by rw [Nat.mul_comm]; simp
  have hA : A < 2 ^ k := by
    have : ((2 : Int) ^ k) = ((2 ^ k : Nat) : Int) := by simp
    rw [this] at ha'; omega
  rw [e] at hs ⊢
  rw [BitVec.toNat_or, toNatU (by omega) (by omega), toNatU (by omega) (by omega), Int.toNat_natCast, Int.toNat_natCast, ← Nat.two_pow_add_eq_or_of_lt hA, wrap_u64, wrapU_id (by omega) (by omega)]
  omega

theorem lead64 {H : Hp} {y : Int} (y1 : 1 ≤ y) (y2 : y < 18446744073709551616) : ∃ k : Nat, k ≤ 63 ∧ Qf Tryz.prog F.math_bits_LeadingZeros64 #[.int .u64 y] H (.int .i64 (k : Int)) ∧ 9223372036854775808 ≤ y * 2 ^ k ∧ y * 2 ^ k < 18446744073709551616 := by
  obtain ⟨n, rfl⟩ := Int.eq_ofNat_of_zero_le (show 0 ≤ y by omega)
  have hp : (2 : Nat) ^ 64 = 18446744073709551616 := by decide
  obtain ⟨b1, b2, b3⟩ := Go.Lib.bitLenAux_bounds 64 n (by omega) (by omega)
  have b4 : Go.Lib.bitLenAux 64 n ≤ 64 := Go.Lib.bitLenAux_le 64 n 64 (by omega)
  have hq := len64 (H := H) (x := (n : Int)) (by omega) (by omega)
  rw [Int.toNat_natCast] at hq
  have hb : Go.Lib.bitLen n = Go.Lib.bitLenAux 64 n := rfl
  rw [hb] at hq
  generalize Go.Lib.bitLenAux 64 n = b at *
  refine ⟨64 - b, by omega, math_bits_LeadingZeros64_vc ⟨_, hq, by unfold inI; omega, ?_, Hp.le_refl _⟩, ?_, ?_⟩
  · congr 1; omega
  · have e : 2 ^ (b - 1) * 2 ^ (64 - b) = 9223372036854775808 := by rw [← Nat.pow_add, show b - 1 + (64 - b) = 63 by omega]; try decide
    have := Nat.mul_le_mul_right (2 ^ (64 - b)) b2
    rw [e] at this
    have e2 : (n : Int) * 2 ^ (64 - b) = ((n * 2 ^ (64 - b) : Nat) : Int) := by simp
    rw [e2]; omega
  · have e : 2 ^ b * 2 ^ (64 - b) = 18446744073709551616 := by rw [← Nat.pow_add, show b + (64 - b) = 64 by omega]; try decide
    have := Nat.mul_lt_mul_of_pos_right b3 (Nat.pow_pos (n := 64 - b) (show 0 < 2 by omega))
    rw [e] at this
    have e2 : (n : Int) * 2 ^ (64 - b) = ((n * 2 ^ (64 - b) : Nat) : Int) := by simp
    rw [e2]; omega

theorem div2 {post : Value → Hp → Prop} {H : Hp} {v q1 Y y1 y0 l0 s : Int} (hY : Y = y1 * 4294967296 + y0) (n : Nrm v l0 y1 y0) (hs : nn (wrapU s))
    (hp : ∀ q0 : Int, Digit v l0 Y q0 → post (Value.tuple #[Value.int .u64 (wrapU (wrapU (q1 * 4294967296) + q0)), Value.int .u64 ((wrapU (wrapU (wrapU (v * 4294967296) + l0) - wrapU (q0 * Y))).fdiv (2 ^ Min.min (wrapU s).toNat IntKind.u64.bits))]) H) :
    nz y1 ∧ ∃ (I : Int → Int → Hp → Prop), ∃ (m : Int → Int → Hp → Nat), I (wrapU (v - wrapU (wrapU (v.tdiv y1) * y1))) (wrapU (v.tdiv y1)) H ∧ ∀ (n9 n10 : Int) (H11 : Hp), I n9 n10 H11 →
      ((decide (n10 ≥ 4294967296) || decide (wrapU (n10 * y0) > wrapU (wrapU (4294967296 * n9) + l0))) = true →
        (decide (wrapU (n9 + y1) ≥ 4294967296) = true → nn (wrapU s) ∧ post (Value.tuple #[Value.int .u64 (wrapU (wrapU (q1 * 4294967296) + wrapU (n10 - 1))), Value.int .u64 ((wrapU (wrapU (wrapU (v * 4294967296) + l0) - wrapU (wrapU (n10 - 1) * Y))).fdiv (2 ^ Min.min (wrapU s).toNat IntKind.u64.bits))]) H11) ∧
        (decide (wrapU (n9 + y1) ≥ 4294967296) = false → I (wrapU (n9 + y1)) (wrapU (n10 - 1)) H11 ∧ m (wrapU (n9 + y1)) (wrapU (n10 - 1)) H11 < m n9 n10 H11)) ∧
      ((decide (n10 ≥ 4294967296) || decide (wrapU (n10 * y0) > wrapU (wrapU (4294967296 * n9) + l0))) = false → nn (wrapU s) ∧ post (Value.tuple #[Value.int .u64 (wrapU (wrapU (q1 * 4294967296) + n10)), Value.int .u64 ((wrapU (wrapU (wrapU (v * 4294967296) + l0) - wrapU (n10 * Y))).fdiv (2 ^ Min.min (wrapU s).toNat IntKind.u64.bits))]) H11) := by
  obtain ⟨w1, w2⟩ := Dg.startW n
  rw [w1, w2]
  refine ⟨by have := n.a; unfold nz; omega, fun r q H' => H' = H ∧ Dg v l0 y1 y0 q r, fun _ q _ => q.toNat, ⟨rfl, Dg.start n⟩, fun r q H' ⟨e, g⟩ => ?_⟩
  subst e
  have na := n.a; have nb := n.b
  have g1 := g.r0; have g2 := g.r1; have g3 := g.q0; have g4 := g.q1
  rw [wrapU_id (n := r + y1) (by omega) (by omega)]
  refine ⟨fun hc => ?_, fun hc => ⟨hs, hp q ?_⟩⟩
  · have hc := (g.cond n).1 hc
    have k2 := (g.lt_of n hc).2
    rw [wrapU_id (n := q - 1) (by omega) (by omega)]
    refine ⟨fun hb => ⟨hs, hp (q - 1) ?_⟩, fun hb => ⟨⟨rfl, g.next n hc ?_⟩, ?_⟩⟩
    · rw [hY]; exact g.done n hc (by simpa using hb)
    · have : ¬ r + y1 ≥ 4294967296 := by simpa using hb
      omega
    · show (q - 1).toNat < q.toNat; omega
  · rw [hY]; exact g.stop fun h => by rw [(g.cond n).2 h] at hc; cases hc

theorem div64 {H : Hp} {hi lo y : Int} (y1 : 1 ≤ y) (y2 : y < 18446744073709551616) (h0 : 0 ≤ hi) (h1 : hi < y) (l0 : 0 ≤ lo) (l1 : lo < 18446744073709551616) :
    Qf Tryz.prog F.math_bits_Div64 #[.int .u64 hi, .int .u64 lo, .int .u64 y] H (.tuple #[.int .u64 ((hi * 18446744073709551616 + lo) / y), .int .u64 ((hi * 18446744073709551616 + lo) % y)]) := by
  refine math_bits_Div64_vc ⟨fun h => ?_, fun _ => ⟨fun h => ?_, fun _ => ⟨fun hz => ?_, fun hz => ?_⟩⟩⟩
  · have h : y = 0 := by simpa using h
    omega
  · have h : y ≤ hi := by simpa using h
    omega
  · have hz : hi = 0 := by simpa using hz
    subst hz
    have q0 : 0 ≤ lo / y := Int.ediv_nonneg l0 (by omega)
    have q1 : lo / y ≤ lo := Int.ediv_le_self _ l0
    refine ⟨by unfold nz; omega, by unfold nz; omega, ?_, Hp.le_refl _⟩
    rw [Int.tdiv_eq_ediv_of_nonneg l0, Int.tmod_eq_emod_of_nonneg l0, wrapU_id q0 (by omega), show (0 : Int) * 18446744073709551616 + lo = lo by omega]
  · obtain ⟨k, k63, hlz, k1, k2⟩ := lead64 (H := H) y1 y2
    have pp : (0 : Int) < 2 ^ k := Int.pow_pos (by omega)
    have pr : (0 : Int) < 2 ^ (64 - k) := Int.pow_pos (by omega)
    have epr : (2 : Int) ^ k * 2 ^ (64 - k) = 18446744073709551616 := by rw [← Int.pow_add, show k + (64 - k) = 64 by omega]; try decide
    obtain ⟨s1, s2, s3, s4, s5, s6⟩ := norm_shift pp pr epr h0 h1 l0 l1
    have wk : wrapU (k : Int) = k := wrapU_id (by omega) (by omega)
    have wk2 : wrapU (64 - (k : Int)) = ((64 - k : Nat) : Int) := by rw [wrapU_id (by omega) (by omega)]; omega
    have ek : Min.min k IntKind.u64.bits = k := by show min k 64 = k; omega
    have eY : IntKind.u64.wrap (y * 2 ^ Min.min k IntKind.u64.bits) = y * 2 ^ k := by rw [ek, wrap_u64, wrapU_id (by omega) k2]
    have eH : IntKind.u64.wrap (hi * 2 ^ Min.min k IntKind.u64.bits) = hi * 2 ^ k := by rw [ek, wrap_u64, wrapU_id s4 (by omega)]
    have eA : lo.fdiv (2 ^ Min.min (64 - k) IntKind.u64.bits) = lo / 2 ^ (64 - k) := fdivP l0 (by omega)
    have eU := orSum (x := hi) (a := lo / 2 ^ (64 - k)) (k := k) h0 s1 s2 (by omega)
    have eL : IntKind.u64.wrap (lo * 2 ^ Min.min k IntKind.u64.bits) = lo * 2 ^ k % 18446744073709551616 := by rw [ek, wrap_u64]; rfl
    have L0 : 0 ≤ lo * 2 ^ k % 18446744073709551616 := Int.emod_nonneg _ (by omega)
    have L1 : lo * 2 ^ k % 18446744073709551616 < 18446744073709551616 := Int.emod_lt_of_pos _ (by omega)
    have U0 : 0 ≤ hi * 2 ^ k + lo / 2 ^ (64 - k) := by omega
    have eY1 := shr32 (z := y * 2 ^ k) (by omega)
    have eY0 := maskU (z := y * 2 ^ k) (by omega) k2
    have eL1 := shr32 (z := lo * 2 ^ k % 18446744073709551616) L0
    have eL0 := maskU (z := lo * 2 ^ k % 18446744073709551616) L0 L1
    have nk : nn (wrapU (k : Int)) := by rw [wk]; unfold nn; omega
    have n1 : Nrm (hi * 2 ^ k + lo / 2 ^ (64 - k)) (lo * 2 ^ k % 18446744073709551616 / 4294967296) (y * 2 ^ k / 4294967296) (y * 2 ^ k % 4294967296) := by
      generalize hi * 2 ^ k + lo / 2 ^ (64 - k) = u at *
      generalize lo * 2 ^ k % 18446744073709551616 = L at *
      generalize y * 2 ^ k = Y at *
      exact ⟨by omega, by omega, by omega, by omega, by omega, by omega, by omega, by omega⟩
    obtain ⟨w1, w2⟩ := Dg.startW n1
    have fin : ∀ {q1 q0 v l1' l0' : Int}, (hi * 2 ^ k + lo / 2 ^ (64 - k)) * 18446744073709551616 + lo * 2 ^ k % 18446744073709551616 = ((hi * 2 ^ k + lo / 2 ^ (64 - k)) * 4294967296 + l1') * 4294967296 + l0' →
        Digit (hi * 2 ^ k + lo / 2 ^ (64 - k)) l1' (y * 2 ^ k) q1 → v = (hi * 2 ^ k + lo / 2 ^ (64 - k)) * 4294967296 + l1' - q1 * (y * 2 ^ k) → Digit v l0' (y * 2 ^ k) q0 →
        wrapU (wrapU (q1 * 4294967296) + q0) = (hi * 18446744073709551616 + lo) / y ∧ (wrapU (wrapU (wrapU (v * 4294967296) + l0') - wrapU (q0 * (y * 2 ^ k)))).fdiv (2 ^ Min.min k IntKind.u64.bits) = (hi * 18446744073709551616 + lo) % y := by
      intro q1 q0 v a0 a1 e6 d1 ev d2
      rw [fdivP (by unfold wrapU; omega) (by omega)]
      exact digits pp (by omega) k2 (by rw [s6]; exact e6) d1 ev d2
    refine ⟨(k : Int), hlz, ?_⟩
    simp only [wk, wk2, Int.toNat_natCast, eY, eH, eA, eU, eL, eY1, eY0, eL1, eL0, w1, w2]
    generalize hi * 2 ^ k + lo / 2 ^ (64 - k) = u at *
    generalize lo * 2 ^ k % 18446744073709551616 = L at *
    generalize y * 2 ^ k = Y at *
    have hY : Y = Y / 4294967296 * 4294967296 + Y % 4294967296 := by omega
    have hL : u * 18446744073709551616 + L = (u * 4294967296 + L / 4294967296) * 4294967296 + L % 4294967296 := by omega
    have n2 : ∀ {v : Int}, 0 ≤ v → v < Y → Nrm v (L % 4294967296) (Y / 4294967296) (Y % 4294967296) := fun a b => ⟨by omega, by omega, by omega, by omega, a, by omega, by omega, by omega⟩
    have one : ∀ q1 : Int, Digit u (L / 4294967296) Y q1 → ∃ v, 0 ≤ v ∧ v < Y ∧ v = u * 4294967296 + L / 4294967296 - q1 * Y ∧ wrapU (wrapU (wrapU (u * 4294967296) + L / 4294967296) - wrapU (q1 * Y)) = v := fun q1 d => by
      obtain ⟨a, b, c, e⟩ := d
      rw [Int.add_mul, Int.one_mul] at b
      exact ⟨_, by omega, by omega, rfl, wrap_sub3 (by omega) (by omega)⟩
    refine ⟨by unfold nn; omega, by unfold nn; omega, by unfold nn; omega, by unfold nn; omega, by unfold nn; omega, by unfold nn; omega, by unfold nz; omega,
      fun q r H' => H' = H ∧ Dg u (L / 4294967296) (Y / 4294967296) (Y % 4294967296) q r, fun q _ _ => q.toNat, ⟨rfl, Dg.start n1⟩, fun q r H' ⟨e, g⟩ => ?_⟩
    subst e
    have na := n1.a; have nb := n1.b
    have g1 := g.r0; have g2 := g.r1; have g3 := g.q0; have g4 := g.q1
    rw [wrapU_id (n := r + Y / 4294967296) (by omega) (by omega)]
    refine ⟨fun hc => ?_, fun hc => ?_⟩
    · have hc := (g.cond n1).1 hc
      have c2 := (g.lt_of n1 hc).2
      rw [wrapU_id (n := q - 1) (by omega) (by omega)]
      refine ⟨fun hb => ?_, fun hb => ⟨⟨rfl, g.next n1 hc ?_⟩, ?_⟩⟩
      · have d := g.done n1 hc (by simpa using hb)
        rw [← hY] at d
        obtain ⟨v, v0, v1, ev, wv⟩ := one _ d
        rw [wv]
        have key := div2 (post := fun v H5 => v = .tuple #[.int .u64 ((hi * 18446744073709551616 + lo) / y), .int .u64 ((hi * 18446744073709551616 + lo) % y)] ∧ Hp.le H' H5) (H := H') (s := (k : Int)) (q1 := q - 1) hY (n2 v0 v1) nk fun q0 d0 => ⟨by rw [wk, Int.toNat_natCast]; obtain ⟨z1, z2⟩ := fin hL d ev d0; rw [z1, z2], Hp.le_refl _⟩
        rw [wk, Int.toNat_natCast] at key
        exact key
      · have : ¬ r + Y / 4294967296 ≥ 4294967296 := by simpa using hb
        omega
      · show (q - 1).toNat < q.toNat; omega
    · have d := g.stop fun h => by rw [(g.cond n1).2 h] at hc; cases hc
      rw [← hY] at d
      obtain ⟨v, v0, v1, ev, wv⟩ := one _ d
      rw [wv]
      have key := div2 (post := fun v H5 => v = .tuple #[.int .u64 ((hi * 18446744073709551616 + lo) / y), .int .u64 ((hi * 18446744073709551616 + lo) % y)] ∧ Hp.le H' H5) (H := H') (s := (k : Int)) (q1 := q) hY (n2 v0 v1) nk fun q0 d0 => ⟨by rw [wk, Int.toNat_natCast]; obtain ⟨z1, z2⟩ := fin hL d ev d0; rw [z1, z2], Hp.le_refl _⟩
      rw [wk, Int.toNat_natCast] at key
      exact key

theorem rem64 {H : Hp} {hi lo y : Int} (y1 : 1 ≤ y) (y2 : y < 18446744073709551616) (h0 : 0 ≤ hi) (l0 : 0 ≤ lo) (l1 : lo < 18446744073709551616) :
    Qf Tryz.prog F.math_bits_Rem64 #[.int .u64 hi, .int .u64 lo, .int .u64 y] H (.int .u64 ((hi * 18446744073709551616 + lo) % y)) := by
  refine math_bits_Rem64_vc ⟨by unfold nz; omega, _, _, div64 y1 y2 (hi := hi.tmod y) ?_ ?_ l0 l1, ?_, Hp.le_refl _⟩
  · rw [Int.tmod_eq_emod_of_nonneg h0]; exact Int.emod_nonneg _ (by omega)
  · rw [Int.tmod_eq_emod_of_nonneg h0]; exact Int.emod_lt_of_pos _ (by omega)
  · rw [Int.tmod_eq_emod_of_nonneg h0, Int.add_emod, Int.mul_emod, Int.emod_emod, ← Int.mul_emod, ← Int.add_emod]

def numP (p : Pt) (t : Int × Int) : Int := p.2.1 * t.2 + p.2.2 * t.1
def overM (N d : Int) : (Int × Int) × Int := buildM (decide (N < 0)) (absI N / gcdA N d) (d / gcdA N d)
def placeM (p : Pt) (t : Int × Int) : (Int × Int) × Int := if okP p ∧ okR t then overM (numP p t) t.2 else ((0, 0), 8)
theorem placeM_ok {p : Pt} {t : Int × Int} (h : okP p) (h2 : okR t) : placeM p t = overM (numP p t) t.2 := if_pos ⟨h, h2⟩
theorem placeM_bad {p : Pt} {t : Int × Int} (h : ¬ (okP p ∧ okR t)) : placeM p t = ((0, 0), 8) := if_neg h

theorem numP_lim {p : Pt} {t : Int × Int} (hp : okP p) (ht : okR t) : absI (p.2.1 * t.2) ≤ 19342813113834066795298816 ∧ absI (p.2.2 * t.1) ≤ 19342813113834066795298816 ∧ absI (numP p t) < 170141183460469231731687303715884105728 / 2 := by
  have h1 := hp.a0; have h1' := hp.a1; have h2 := hp.b0; have h2' := hp.b1
  have h3 := ht.d1; have h4 := ht.d2; have h5 := ht.n1; have h6 := ht.n2
  have q1 := absI_mul_le (x := p.2.1) (y := t.2) (m := 1048576) (n := 9223372036854775807) (absI_le (by omega) (by omega)) (absI_le (by omega) (by omega))
  have q2 := absI_mul_le (x := p.2.2) (y := t.1) (m := 1048576) (n := 9223372036854775807) (absI_le (by omega) (by omega)) (absI_le (by omega) (by omega))
  have q3 := absI_add_le (p.2.1 * t.2) (p.2.2 * t.1)
  unfold numP
  refine ⟨by omega, by omega, by omega⟩

theorem atTail {post : Value → Hp → Prop} {H : Hp} {hh l d n3 N : Int} (h0 : 0 ≤ hh) (h1 : hh < 9223372036854775808) (l0 : 0 ≤ l) (l1 : l < 18446744073709551616) (hN : hh * 18446744073709551616 + l = absI N) (d1 : 1 ≤ d) (d2 : d ≤ 9223372036854775807) (hs : n3 < 0 ↔ N < 0)
    (hp : post (.tuple #[sI2 (overM N d).1.1 (overM N d).1.2, .int .i64 (overM N d).2]) H) :
    ∃ n7 : Int, Qf Tryz.prog F.math_bits_Rem64 #[Value.int .u64 (wrapU hh), Value.int .u64 l, Value.int .u64 (wrapU d)] H (Value.int .u64 n7) ∧ ∃ (I : Int → Int → Hp → Prop), ∃ (m : Int → Int → Hp → Nat), I n7 (wrapU d) H ∧ ∀ (n10 n11 : Int) (H12 : Hp), I n10 n11 H12 →
      (decide (n10 > 0) = true → nz n10 ∧ I (n11.tmod n10) n10 H12 ∧ m (n11.tmod n10) n10 H12 < m n10 n11 H12) ∧
      (decide (n10 > 0) = false → nz n11 ∧ nz n11 ∧ ∃ n13 n14 : Int, Qf Tryz.prog F.math_bits_Div64 #[Value.int .u64 ((wrapU hh).tmod n11), Value.int .u64 l, Value.int .u64 n11] H12 (Value.tuple #[Value.int .u64 n13, Value.int .u64 n14]) ∧
        ((decide (wrapU ((wrapU hh).tdiv n11) > 0) || decide (n13 > 9223372036854775807)) = true → post (Value.tuple #[(sI2 0 0), Value.int .i64 16]) H12) ∧
        ((decide (wrapU ((wrapU hh).tdiv n11) > 0) || decide (n13 > 9223372036854775807)) = false → nz n11 ∧
          (decide (n3 < 0) = true → inI (0 - IntKind.i64.wrap n13) ∧ post (Value.tuple #[(sI2 (0 - IntKind.i64.wrap n13) (IntKind.i64.wrap (wrapU ((wrapU d).tdiv n11)))), Value.int .i64 0]) H12) ∧
          (decide (n3 < 0) = false → post (Value.tuple #[(sI2 (IntKind.i64.wrap n13) (IntKind.i64.wrap (wrapU ((wrapU d).tdiv n11)))), Value.int .i64 0]) H12))) := by
  rw [wrapU_id (n := hh) h0 (by omega), wrapU_id (n := d) (by omega) (by omega)]
  have hX : 0 ≤ absI N := absI_nonneg N
  have r0 : 0 ≤ absI N % d := Int.emod_nonneg _ (by omega)
  have rr := rem64 (H := H) (y := d) d1 (by omega) h0 l0 l1
  rw [hN] at rr
  have eg0 : Nat.gcd d.toNat (absI N % d).toNat = Nat.gcd (absI N).toNat (absI d).toNat := by
    have ed : absI d = d := by unfold absI; rw [if_neg (by omega)]
    rw [ed]
    obtain ⟨x, hx⟩ := Int.eq_ofNat_of_zero_le hX
    obtain ⟨y, hy⟩ := Int.eq_ofNat_of_zero_le (show 0 ≤ d by omega)
    rw [hx, hy]
    show Nat.gcd y (x % y) = Nat.gcd x y
    rw [Nat.gcd_comm y, ← Nat.gcd_rec, Nat.gcd_comm]
  refine ⟨_, rr, fun r g H' => H' = H ∧ 0 ≤ r ∧ 0 < g ∧ Nat.gcd g.toNat r.toNat = Nat.gcd (absI N).toNat (absI d).toNat, fun r _ _ => r.toNat, ⟨rfl, r0, by omega, eg0⟩, fun r g H' ⟨e, q1, q2, q3⟩ => ?_⟩
  subst e
  refine ⟨fun hc => ?_, fun hc => ?_⟩
  · have hc : 0 < r := by simpa using hc
    obtain ⟨g1, g2, g3⟩ := gcd_step hc (by omega) q3
    exact ⟨by unfold nz; omega, ⟨rfl, g1, hc, g3⟩, by show (g.tmod r).toNat < r.toNat; omega⟩
  · have hr : r = 0 := by have : ¬ r > 0 := by simpa using hc
                          omega
    subst hr
    have eg : g = gcdA N d := by
      unfold gcdA
      rw [← q3]; simp; omega
    have gle : g ≤ d := by
      have := Nat.gcd_le_right (absI N).toNat (show 0 < (absI d).toNat by unfold absI; split <;> omega)
      rw [← q3] at this
      have ed : absI d = d := by unfold absI; rw [if_neg (by omega)]
      rw [ed] at this
      simp at this; omega
    have t0 : 0 ≤ hh.tmod g := by rw [Int.tmod_eq_emod_of_nonneg h0]; exact Int.emod_nonneg _ (by omega)
    have t1 : hh.tmod g < g := by rw [Int.tmod_eq_emod_of_nonneg h0]; exact Int.emod_lt_of_pos _ (by omega)
    have dv := div64 (H := H') (hi := hh.tmod g) (lo := l) (y := g) (by omega) (by omega) t0 t1 l0 l1
    refine ⟨by unfold nz; omega, by unfold nz; omega, _, _, dv, ?_⟩
    have f0 : 0 ≤ hh / g := Int.ediv_nonneg h0 (by omega)
    have f1 : hh / g ≤ hh := Int.ediv_le_self _ h0
    have ex : absI N / g = hh / g * 18446744073709551616 + (hh.tmod g * 18446744073709551616 + l) / g := by
      rw [Int.tmod_eq_emod_of_nonneg h0, ← hN]
      have e := Int.mul_ediv_add_emod hh g
      have : hh * 18446744073709551616 + l = (hh % g * 18446744073709551616 + l) + g * (hh / g * 18446744073709551616) := by
        rw [← Int.mul_assoc]
        generalize g * (hh / g) = Z at *
        generalize hh % g = W at *
        omega
      rw [this, Int.add_mul_ediv_left _ _ (by omega : g ≠ 0)]; omega
    have z0 : 0 ≤ (hh.tmod g * 18446744073709551616 + l) / g := Int.ediv_nonneg (by omega) (by omega)
    have dg0 : 0 ≤ d / g := Int.ediv_nonneg (by omega) (by omega)
    have dg1 : d / g ≤ d := Int.ediv_le_self _ (by omega)
    rw [Int.tdiv_eq_ediv_of_nonneg h0, Int.tdiv_eq_ediv_of_nonneg (show 0 ≤ d by omega), wrapU_id f0 (by omega), wrapU_id dg0 (by omega), i64s dg0 (by omega)]
    unfold overM at hp
    rw [← eg, ex] at hp
    generalize (hh.tmod g * 18446744073709551616 + l) / g = Z at *
    generalize hh / g = W at *
    unfold buildM at hp
    refine ⟨fun hb => ?_, fun hb => ⟨by unfold nz; omega, fun hn => ?_, fun hn => ?_⟩⟩
    · simp only [Bool.or_eq_true, decide_eq_true_eq] at hb
      rw [if_pos (by omega)] at hp
      exact hp
    · simp only [Bool.or_eq_false_iff, decide_eq_false_iff_not] at hb
      have w0 : W = 0 := by omega
      subst w0
      have hn : n3 < 0 := by simpa using hn
      rw [if_neg (by omega), decide_eq_true (hs.1 hn), show (0 : Int) * 18446744073709551616 + Z = Z by omega] at hp
      rw [i64s z0 (by omega)]
      exact ⟨by unfold inI; omega, hp⟩
    · simp only [Bool.or_eq_false_iff, decide_eq_false_iff_not] at hb
      have w0 : W = 0 := by omega
      subst w0
      have hn : ¬ n3 < 0 := by simpa using hn
      rw [if_neg (by omega), decide_eq_false (fun h => hn (hs.2 h)), show (0 : Int) * 18446744073709551616 + Z = Z by omega] at hp
      rw [i64s z0 (by omega)]
      exact hp

theorem courseAt {H : Hp} {p : Pt} {t : Int × Int} (ht : fitR t) :
    Qf Tryz.prog F.course_At #[sI3 p.1 p.2.1 p.2.2, sI2 t.1 t.2] H (.tuple #[sI2 (placeM p t).1.1 (placeM p t).1.2, .int .i64 (placeM p t).2]) := by
  refine course_At_vc ⟨_, courseCheck, _, ratioCheck ht, fun hc => ?_, fun hc => ?_⟩
  · have hb : ¬ (okP p ∧ okR t) := fun ⟨a, b⟩ => by rw [chkP_ok a, chkR_ok b] at hc; simp at hc
    rw [placeM_bad hb]
    refine ⟨?_, Hp.le_refl _⟩
    by_cases h1 : okP p
    · have h2 : ¬ okR t := fun h => hb ⟨h1, h⟩
      rw [chkP_ok h1, chkR_bad h2]; rfl
    · rw [chkP_bad h1]
      by_cases h2 : okR t
      · rw [chkR_ok h2]; rfl
      · rw [chkR_bad h2]; rfl
  have ok : okP p ∧ okR t := by
    by_cases h1 : okP p
    · by_cases h2 : okR t
      · exact ⟨h1, h2⟩
      · rw [chkP_ok h1, chkR_bad h2] at hc; simp at hc
    · rw [chkP_bad h1] at hc
      by_cases h2 : okR t
      · rw [chkR_ok h2] at hc; simp at hc
      · rw [chkR_bad h2] at hc; simp at hc
  obtain ⟨op, or⟩ := ok
  rw [placeM_ok op or]
  obtain ⟨m1, m2, m3⟩ := numP_lim op or
  have h1 := op.a0; have h1' := op.a1; have h2 := op.b0; have h2' := op.b1
  have h3 := or.d1; have h4 := or.d2; have h5 := or.n1; have h6 := or.n2
  have iA : inI p.2.1 := by unfold inI; omega
  have iB : inI p.2.2 := by unfold inI; omega
  obtain ⟨hi, lo, hq, hv, v0, v1⟩ := courseSum (H := H) iA ht.2 iB ht.1 m1 m2
  have hv : hi * 18446744073709551616 + lo = numP p t := hv
  have av := absI_iff (numP p t)
  have key : ∀ (hh l : Int), 0 ≤ hh → hh < 9223372036854775808 → 0 ≤ l → l < 18446744073709551616 → hh * 18446744073709551616 + l = absI (numP p t) → (hi < 0 ↔ numP p t < 0) → _ :=
    fun hh l x1 x2 x3 x4 x5 x6 => atTail (post := fun v H5 => v = .tuple #[sI2 (overM (numP p t) t.2).1.1 (overM (numP p t) t.2).1.2, .int .i64 (overM (numP p t) t.2).2] ∧ Hp.le H H5) (H := H) (hh := hh) (l := l) (d := t.2) (n3 := hi) (N := numP p t) x1 x2 x3 x4 x5 h3 h4 x6 ⟨rfl, Hp.le_refl _⟩
  refine ⟨_, _, hq, fun hn => ?_, fun hn => ?_⟩
  · have hn : hi < 0 := by simpa using hn
    have hN : numP p t < 0 := by omega
    refine ⟨_, _, sub64c (x := 0) (y := lo) (b := 0) (by omega) v0 v1 (by omega) (by omega), ?_⟩
    have eb : IntKind.i64.wrap (if 0 < lo + 0 then 1 else 0) = (if 0 < lo + 0 then 1 else 0) := by split <;> decide
    rw [eb]
    by_cases hl : 0 < lo + 0
    · rw [if_pos hl]
      exact ⟨by unfold inI; omega, by unfold inI; omega, key (0 - hi - 1) ((0 - lo - 0) % 18446744073709551616) (by omega) (by omega) (by omega) (by omega) (by omega) ⟨fun _ => hN, fun _ => hn⟩⟩
    · rw [if_neg hl]
      exact ⟨by unfold inI; omega, by unfold inI; omega, key (0 - hi - 0) ((0 - lo - 0) % 18446744073709551616) (by omega) (by omega) (by omega) (by omega) (by omega) ⟨fun _ => hN, fun _ => hn⟩⟩
  · have hn : ¬ hi < 0 := by simpa using hn
    exact key hi lo (by omega) (by omega) v0 v1 (by omega) ⟨fun h => absurd h hn, fun h => by omega⟩

theorem bitHi {V W i : Nat} (hW : W < 18446744073709551616) (hi : 64 ≤ i) : (V * 18446744073709551616 + W) / 2 ^ i = V / 2 ^ (i - 64) := by
  have e : (2 : Nat) ^ i = 18446744073709551616 * 2 ^ (i - 64) := by
    have h : (2 : Nat) ^ 64 = 18446744073709551616 := by decide
    rw [← h, ← Nat.pow_add, show 64 + (i - 64) = i by omega]
  rw [e, ← Nat.div_div_eq_div_mul, show (V * 18446744073709551616 + W) / 18446744073709551616 = V by omega]
theorem bitLo {V W i : Nat} (hi : i < 64) : (V * 18446744073709551616 + W) / 2 ^ i % 2 = W / 2 ^ i % 2 := by
  have e : V * 18446744073709551616 = 2 ^ i * (2 * (2 ^ (63 - i) * V)) := by
    have h : (2 : Nat) ^ i * 2 * 2 ^ (63 - i) = 18446744073709551616 := by
      rw [← Nat.pow_succ, ← Nat.pow_add, show i.succ + (63 - i) = 64 by omega]; try decide
    rw [← Nat.mul_assoc, ← Nat.mul_assoc, h, Nat.mul_comm]
  rw [e, Nat.mul_add_div (Nat.pow_pos (by omega))]
  omega
theorem bitOf {X d i : Nat} (hd : 0 < d) : (X / d / 2 ^ i) % 2 = (if d ≤ 2 * ((X / 2 ^ (i + 1)) % d) + (X / 2 ^ i) % 2 then 1 else 0) := by
  have h := (divStep X d i hd).1
  have e : X / d / 2 ^ i = (X / 2 ^ i) / d := by rw [Nat.div_div_eq_div_mul, Nat.mul_comm, ← Nat.div_div_eq_div_mul]
  rw [e, h]
  split <;> omega
theorem restOf {X d i : Nat} (hd : 0 < d) : (X / 2 ^ i) % d = (if d ≤ 2 * ((X / 2 ^ (i + 1)) % d) + (X / 2 ^ i) % 2 then 2 * ((X / 2 ^ (i + 1)) % d) + (X / 2 ^ i) % 2 - d else 2 * ((X / 2 ^ (i + 1)) % d) + (X / 2 ^ i) % 2) := (divStep X d i hd).2

theorem divBits {V W d : Nat} (hV : V < 18446744073709551616) (hW : W < 18446744073709551616) (hd : 0 < d) :
    ∃ (Qh Ql : Nat) (rs : Nat → Nat), Qh < 18446744073709551616 ∧ Ql < 18446744073709551616 ∧ (V * 18446744073709551616 + W) / d / 18446744073709551616 = Qh ∧ (V * 18446744073709551616 + W) / d % 18446744073709551616 = Ql ∧ rs 128 = 0 ∧ (V * 18446744073709551616 + W) % d = rs 0 ∧
    (∀ i, rs (i + 1) < d ∧ ∃ xb, rs i = (if d ≤ 2 * rs (i + 1) + xb then 2 * rs (i + 1) + xb - d else 2 * rs (i + 1) + xb) ∧
      (64 ≤ i → Qh / 2 ^ (i - 64) % 2 = (if d ≤ 2 * rs (i + 1) + xb then 1 else 0) ∧ xb = V / 2 ^ (i - 64) % 2) ∧
      (i < 64 → Ql / 2 ^ i % 2 = (if d ≤ 2 * rs (i + 1) + xb then 1 else 0) ∧ xb = W / 2 ^ i % 2)) := by
  have h2 : (2 : Nat) ^ 64 = 18446744073709551616 := by decide
  have h3 : (2 : Nat) ^ 128 = 18446744073709551616 * 18446744073709551616 := by decide
  have hXl : V * 18446744073709551616 + W < 2 ^ 128 := by rw [h3]; omega
  refine ⟨_, _, fun j => (V * 18446744073709551616 + W) / 2 ^ j % d, ?_, Nat.mod_lt _ (by omega), rfl, rfl, ?_, ?_, fun i => ⟨Nat.mod_lt _ hd, (V * 18446744073709551616 + W) / 2 ^ i % 2, restOf hd, fun h => ⟨?_, ?_⟩, fun h => ⟨?_, ?_⟩⟩⟩
  · have : (V * 18446744073709551616 + W) / d ≤ V * 18446744073709551616 + W := Nat.div_le_self _ _
    omega
  · show (V * 18446744073709551616 + W) / 2 ^ 128 % d = 0
    rw [Nat.div_eq_of_lt hXl, Nat.zero_mod]
  · show _ = (V * 18446744073709551616 + W) / 2 ^ 0 % d
    rw [Nat.pow_zero, Nat.div_one]
  · rw [← bitOf hd, ← h2, Nat.div_div_eq_div_mul _ (2 ^ 64), ← Nat.pow_add, show 64 + (i - 64) = i by omega]
  · rw [bitHi hW h]
  · rw [← bitOf hd]
    generalize (V * 18446744073709551616 + W) / d = Q
    have := bitLo (V := Q / 18446744073709551616) (W := Q % 18446744073709551616) h
    rw [show Q / 18446744073709551616 * 18446744073709551616 + Q % 18446744073709551616 = Q by omega] at this
    exact this.symm
  · rw [bitLo h]

set_option maxHeartbeats 1000000 in
theorem refDivided {H : Hp} {c : Bool} {V W d : Nat} (hV : V < 18446744073709551616) (hW : W < 18446744073709551616) (hd : 0 < d) (hd' : d ≤ 9223372036854775808) :
    Qf Tryz.prog F.pelotonref01_divided #[.agg #[.bool c, .int .u64 (V : Int), .int .u64 (W : Int)], .int .u64 (d : Int)] H (.tuple #[.agg #[.bool false, .int .u64 (((V * 18446744073709551616 + W) / d / 18446744073709551616 : Nat) : Int), .int .u64 (((V * 18446744073709551616 + W) / d % 18446744073709551616 : Nat) : Int)], .int .u64 (((V * 18446744073709551616 + W) % d : Nat) : Int)]) := by
  have h2 : (2 : Nat) ^ 64 = 18446744073709551616 := by decide
  obtain ⟨Qh, Ql, rs, qh, ql, eQh, eQl, r128, r0, hr⟩ := divBits hV hW hd
  rw [eQh, eQl, r0]
  clear eQh eQl r0
  refine pelotonref01_divided_vc ⟨fun n3 n4 c5 n6 n7 H' => ∃ j : Nat, n4 = (j : Int) - 1 ∧ j ≤ 128 ∧ n3 = ((rs j : Nat) : Int) ∧ c5 = false ∧ n6 = ((topB (j - 64) Qh : Nat) : Int) ∧ n7 = ((topB (min j 64) Ql : Nat) : Int) ∧ H' = H, fun _ n4 _ _ _ _ => (n4 + 1).toNat,
    ⟨128, by omega, by omega, by rw [r128]; try rfl, rfl, by rw [show 128 - 64 = 64 from rfl, topB_big (by omega)]; try rfl, by rw [show min 128 64 = 64 from rfl, topB_big (by omega)]; try rfl, rfl⟩, fun n3 n4 c5 n6 n7 H8 ⟨j, e4, hj, e3, e5, e6, e7, eH⟩ => ?_⟩
  subst e4; subst e3; subst e5; subst e6; subst e7; subst eH
  refine ⟨fun hn => ?_, fun hn => ?_⟩
  · obtain ⟨k, rfl⟩ : ∃ k, j = k + 1 := ⟨j - 1, by have : (0 : Int) ≤ (j : Int) - 1 := (by simpa using hn); omega⟩
    rw [show ((k + 1 : Nat) : Int) - 1 = (k : Int) by omega]
    obtain ⟨rl, xb, rk, bk1, bk2⟩ := hr k
    generalize rs (k + 1) = R at *
    have z0 : wrapU (2 * (R : Int)) = ((2 * R : Nat) : Int) := by rw [wrapU_id (by omega) (by omega)]; omega
    rw [z0]
    refine ⟨by unfold nn; omega, fun hk => ?_, fun hk => ?_⟩
    · have hk : 64 ≤ k := by have : (64 : Int) ≤ k := (by simpa using hk); omega
      obtain ⟨m, rfl⟩ : ∃ m, k = m + 64 := ⟨k - 64, by omega⟩
      have q1 := (bk1 (by omega)).1
      have x1 := (bk1 (by omega)).2
      rw [show m + 64 - 64 = m by omega] at x1 q1
      rw [show (((m + 64 : Nat) : Int) - 64).toNat = m by omega, bit_val hV (by omega), show m + 64 + 1 - 64 = m + 1 by omega]
      have ts := topB_step m Qh
      rw [q1] at ts
      rw [x1] at rk ts
      have hbb : V / 2 ^ m % 2 < 2 := Nat.mod_lt _ (by omega)
      generalize V / 2 ^ m % 2 = b at *
      have zb : wrapU (((2 * R : Nat) : Int) + (b : Int)) = ((2 * R + b : Nat) : Int) := by rw [wrapU_id (by omega) (by omega)]; omega
      rw [zb]
      refine ⟨by unfold inI; omega, by unfold nn; omega, fun h1 => ⟨fun _ => ?_, fun hf => ?_⟩, fun h1 => ?_⟩
      · have h1 : d ≤ 2 * R + b := by have : (d : Int) ≤ ((2 * R + b : Nat) : Int) := (by simpa using h1); omega
        rw [if_pos h1] at rk ts
        rw [orU (by omega) (by omega), wrapU_id (n := ((2 * R + b : Nat) : Int) - (d : Int)) (by omega) (by omega)]
        refine ⟨by unfold inI; omega, by unfold nn; omega, by unfold inI; omega, ⟨m + 64, rfl, by omega, by rw [rk]; omega, rfl, ?_, ?_, rfl⟩, ?_⟩
        · rw [show m + 64 - 64 = m by omega, ts, Nat.mul_one]
        · rw [show min (m + 64 + 1) 64 = min (m + 64) 64 by omega]
        · show (((m + 64 : Nat) : Int) - 1 + 1).toNat < (((m + 64 : Nat) : Int) + 1).toNat; omega
      · exfalso; simp at hf; omega
      · have h1 : ¬ d ≤ 2 * R + b := by have : ¬ (d : Int) ≤ ((2 * R + b : Nat) : Int) := (by simpa using h1); omega
        rw [if_neg h1] at rk ts
        refine ⟨by unfold inI; omega, ⟨m + 64, rfl, by omega, by rw [rk], rfl, ?_, ?_, rfl⟩, ?_⟩
        · rw [show m + 64 - 64 = m by omega, ts, Nat.mul_zero]; try rfl
        · rw [show min (m + 64 + 1) 64 = min (m + 64) 64 by omega]
        · show (((m + 64 : Nat) : Int) - 1 + 1).toNat < (((m + 64 : Nat) : Int) + 1).toNat; omega
    · have hk' : k < 64 := by have : ¬ (64 : Int) ≤ k := (by simpa using hk); omega
      obtain ⟨q2, x2⟩ := bk2 hk'
      rw [Int.toNat_natCast, bit_val hW (by omega), show min (k + 1) 64 = k + 1 by omega]
      have ts := topB_step k Ql
      rw [q2] at ts
      rw [x2] at rk ts
      have hbb : W / 2 ^ k % 2 < 2 := Nat.mod_lt _ (by omega)
      generalize W / 2 ^ k % 2 = b at *
      have zb : wrapU (((2 * R : Nat) : Int) + (b : Int)) = ((2 * R + b : Nat) : Int) := by rw [wrapU_id (by omega) (by omega)]; omega
      rw [zb]
      refine ⟨fun h1 => ⟨fun hf => ?_, fun _ => ?_⟩, fun h1 => ?_⟩
      · exfalso; simp at hf; omega
      · have h1 : d ≤ 2 * R + b := by have : (d : Int) ≤ ((2 * R + b : Nat) : Int) := (by simpa using h1); omega
        rw [if_pos h1] at rk ts
        rw [orU hk' (by omega), wrapU_id (n := ((2 * R + b : Nat) : Int) - (d : Int)) (by omega) (by omega)]
        refine ⟨by unfold nn; omega, by unfold inI; omega, ⟨k, rfl, by omega, by rw [rk]; omega, rfl, ?_, ?_, rfl⟩, ?_⟩
        · rw [show k + 1 - 64 = k - 64 by omega]
        · rw [show min k 64 = k by omega, ts, Nat.mul_one]
        · show ((k : Int) - 1 + 1).toNat < ((k : Int) + 1).toNat; omega
      · have h1 : ¬ d ≤ 2 * R + b := by have : ¬ (d : Int) ≤ ((2 * R + b : Nat) : Int) := (by simpa using h1); omega
        rw [if_neg h1] at rk ts
        refine ⟨by unfold inI; omega, ⟨k, rfl, by omega, by rw [rk], rfl, ?_, ?_, rfl⟩, ?_⟩
        · rw [show k + 1 - 64 = k - 64 by omega]
        · rw [show min k 64 = k by omega, ts, Nat.mul_zero]; try rfl
        · show ((k : Int) - 1 + 1).toNat < ((k : Int) + 1).toNat; omega
  · have : j = 0 := by have : ¬ (0 : Int) ≤ (j : Int) - 1 := (by simpa using hn); omega
    subst this
    refine ⟨?_, Hp.le_refl _⟩
    rw [show 0 - 64 = 0 from rfl, show min 0 64 = 0 from rfl, topB_zero, topB_zero]

theorem refOver {H : Hp} {c : Bool} {h l N d : Int} (b : BigV c h l N) (hN : absI N < 85070591730234615865843651857942052864) (d1 : 1 ≤ d) (d2 : d ≤ 9223372036854775807) :
    Qf Tryz.prog F.pelotonref01_Over #[.agg #[.bool c, .int .u64 h, .int .u64 l], .int .i64 d] H (.tuple #[sI2 (overM N d).1.1 (overM N d).1.2, .int .i64 (overM N d).2]) := by
  obtain ⟨p0, p1, p2, p3, p4, p5⟩ := b
  have av := absI_iff N
  have hX : h * 18446744073709551616 + l = absI N := by
    cases c with
    | true => have := p4 rfl; omega
    | false => have := p5 rfl; omega
  obtain ⟨V, rfl⟩ := Int.eq_ofNat_of_zero_le p0
  obtain ⟨W, rfl⟩ := Int.eq_ofNat_of_zero_le p2
  obtain ⟨D, rfl⟩ := Int.eq_ofNat_of_zero_le (show 0 ≤ d by omega)
  have ed : absI (D : Int) = D := by unfold absI; rw [if_neg (by omega)]
  have eX : (absI N).toNat = V * 18446744073709551616 + W := by omega
  have v1 := refDivided (H := H) (c := c) (V := V) (W := W) (d := D) (by omega) (by omega) (by omega) (by omega)
  have cm := refCommon (H := H) (a := (D : Int)) (b := (((V * 18446744073709551616 + W) % D : Nat) : Int)) (by omega) (by omega)
  have eg : Nat.gcd (D : Int).toNat (((V * 18446744073709551616 + W) % D : Nat) : Int).toNat = Nat.gcd (V * 18446744073709551616 + W) D := by
    rw [Int.toNat_natCast, Int.toNat_natCast, Nat.gcd_comm D, ← Nat.gcd_rec, Nat.gcd_comm]
  rw [eg] at cm
  have hg : gcdA N (D : Int) = (Nat.gcd (V * 18446744073709551616 + W) D : Nat) := by unfold gcdA; rw [ed, eX, Int.toNat_natCast]
  have g0 : 0 < Nat.gcd (V * 18446744073709551616 + W) D := Nat.gcd_pos_of_pos_right _ (by omega)
  have g1 : Nat.gcd (V * 18446744073709551616 + W) D ≤ D := Nat.gcd_le_right _ (by omega)
  unfold overM
  rw [hg]
  generalize Nat.gcd (V * 18446744073709551616 + W) D = g at *
  have v2 := refDivided (H := H) (c := c) (V := V) (W := W) (d := g) (by omega) (by omega) g0 (by omega)
  have eN : absI N / (g : Int) = (((V * 18446744073709551616 + W) / g : Nat) : Int) := by
    rw [← hX]; simp
  have eD : (D : Int) / (g : Int) = ((D / g : Nat) : Int) := by simp
  have gd : D / g ≤ D := Nat.div_le_self _ _
  have dB : (D : Int) ≤ 9223372036854775807 := d2
  generalize D / g = Dg at *
  generalize (V * 18446744073709551616 + W) / g = Qg at *
  have md := refMade (H := H) (c := c) (c1 := false) (c2 := false) (N := (Qg : Int)) (D := (Dg : Int)) (by omega) (by omega)
  rw [show (Dg : Int) / 18446744073709551616 = 0 by omega, show (Dg : Int) % 18446744073709551616 = (Dg : Int) by omega, show (Qg : Int) / 18446744073709551616 = ((Qg / 18446744073709551616 : Nat) : Int) by omega, show (Qg : Int) % 18446744073709551616 = ((Qg % 18446744073709551616 : Nat) : Int) by omega] at md
  have es : buildM (decide (N < 0)) (absI N / (g : Int)) ((D : Int) / (g : Int)) = buildM c (Qg : Int) (Dg : Int) := by
    rw [eN, eD]
    refine buildM_sign fun hne => ?_
    cases c with
    | true => exact decide_eq_true (p4 rfl).1
    | false => exact decide_eq_false (by have := (p5 rfl).1; omega)
  rw [es]
  refine pelotonref01_Over_vc ⟨_, _, _, _, by rw [wrapU_id (n := (D : Int)) (by omega) (by omega)]; exact v1, _, by rw [wrapU_id (n := (D : Int)) (by omega) (by omega)]; exact cm, _, _, _, _, v2, by unfold nz; omega, _, _, _, ?_, rfl, Hp.le_refl _⟩
  rw [wrapU_id (n := (D : Int)) (by omega) (by omega), Int.tdiv_eq_ediv_of_nonneg (by omega), eD, wrapU_id (by omega) (by omega)]
  exact md

theorem gcd_addmul (a b k : Int) : gcdA (a + k * b) b = gcdA a b := by
  have e1 : ∀ z : Int, (absI z).toNat = z.natAbs := fun z => by rw [absI_nat]; simp
  unfold gcdA
  rw [e1, e1, e1]
  congr 1
  have := Int.gcd_add_mul_right_left (m := b) (n := a) (k := k)
  unfold Int.gcd at this
  exact this
theorem gcd_mulr (a b : Int) {g : Int} (hg : 0 < g) : gcdA (a * g) (b * g) = gcdA a b * g := by
  have e1 : ∀ z : Int, (absI z).toNat = z.natAbs := fun z => by rw [absI_nat]; simp
  unfold gcdA
  rw [e1, e1, e1, e1, Int.natAbs_mul, Int.natAbs_mul, Nat.gcd_mul_right]
  have : ((g.natAbs : Nat) : Int) = g := by omega
  rw [Int.natCast_mul, this]

theorem addW_place {A B : Int} {t : Int × Int} (ob : okR (B, 1)) (ot : okR t) (h0 : (mulM (B, 1) t).2 = 0) : addW A (mulM (B, 1) t).1 = overM (A * t.2 + B * t.1) t.2 := by
  have h3 := ot.d1
  obtain ⟨g1, g2⟩ := gA_pos (a := (B, 1)) (b := t) ot
  -- g: what B and the denominator have in common
  have eg : gA (B, 1) t = gcdA B t.2 := by
    unfold gA gcdA
    have ed : absI t.2 = t.2 := by unfold absI; rw [if_neg (by omega)]
    rw [ed, Nat.gcd_comm]
  have eh : gA t (B, 1) = 1 := by
    unfold gA
    show ((Nat.gcd (1 : Int).toNat _ : Nat) : Int) = 1
    rw [show (1 : Int).toNat = 1 from rfl, Nat.gcd_one_left]; rfl
  have e1 : ∀ z : Int, (absI z).toNat = z.natAbs := fun z => by rw [absI_nat]; simp
  generalize hg : gA (B, 1) t = g at *
  have dB : g ∣ B := by
    rw [eg]; unfold gcdA; rw [e1, e1]
    exact Int.gcd_dvd_left ..
  have dD : g ∣ t.2 := by
    rw [eg]; unfold gcdA; rw [e1, e1]
    exact Int.gcd_dvd_right ..
  obtain ⟨B', hB⟩ := dB
  obtain ⟨D', hD⟩ := dD
  have tB : B.tdiv g = B' := by rw [hB]; exact Int.mul_tdiv_cancel_left _ (by omega)
  have tD : t.2 / g = D' := by rw [hD]; exact Int.mul_ediv_cancel_left _ (by omega)
  have D0 : 0 < D' := by
    rcases Int.lt_or_le 0 D' with h | h
    · exact h
    · have := Int.mul_le_mul_of_nonneg_left h (show 0 ≤ g by omega)
      rw [Int.mul_zero, ← hD] at this
      omega
  have em : mulM (B, 1) t = buildM (!(decide (B < 0) == decide (t.1 < 0)) && B != 0 && t.1 != 0) (absI (B' * t.1)) D' := by
    unfold mulM
    rw [if_pos ⟨ob, ot⟩, hg, eh, tB, tD, show t.1.tdiv 1 = t.1 by simp, show (1 : Int) / 1 = 1 from rfl, Int.one_mul]
  rw [em] at h0 ⊢
  have eb : ∀ {c : Bool} {N D : Int}, (buildM c N D).2 = 0 → N ≤ 9223372036854775807 ∧ D ≤ 9223372036854775807 ∧ (buildM c N D).1 = (if c = true then 0 - N else N, D) := by
    intro c N D h
    unfold buildM at h ⊢
    split at h
    · cases h
    · rename_i hh; rw [if_neg hh]; exact ⟨by omega, by omega, rfl⟩
  obtain ⟨b1, b2, b3⟩ := eb h0
  have sg : (if (!(decide (B < 0) == decide (t.1 < 0)) && B != 0 && t.1 != 0) = true then 0 - absI (B' * t.1) else absI (B' * t.1)) = B' * t.1 := by
    have ai := absI_iff (B' * t.1)
    have mn := mul_neg_iff (a := B') (b := t.1)
    have sB : (B < 0 ↔ B' < 0) ∧ (B = 0 ↔ B' = 0) := by
      have p : B' < 0 → B < 0 := fun h => by rw [hB]; exact Int.mul_neg_of_pos_of_neg (by omega) h
      have q : 0 < B' → 0 < B := fun h => by rw [hB]; exact Int.mul_pos (by omega) h
      have r : B' = 0 → B = 0 := fun h => by rw [hB, h, Int.mul_zero]
      constructor
      · constructor
        · intro h; rcases Int.lt_trichotomy B' 0 with x | x | x
          · exact x
          · have := r x; omega
          · have := q x; omega
        · exact p
      · constructor
        · intro h; rcases Int.lt_trichotomy B' 0 with x | x | x
          · have := p x; omega
          · exact x
          · have := q x; omega
        · exact r
    have zz : B' * t.1 = 0 ↔ B' = 0 ∨ t.1 = 0 := Int.mul_eq_zero
    by_cases hc : (!(decide (B < 0) == decide (t.1 < 0)) && B != 0 && t.1 != 0) = true
    · rw [if_pos hc]
      have : B' * t.1 < 0 := by
        rw [mn]
        simp only [Bool.and_eq_true, Bool.not_eq_true', beq_eq_false_iff_ne, bne_iff_ne, ne_eq, decide_eq_decide] at hc
        omega
      have := ai.1 this; omega
    · rw [if_neg hc]
      have : ¬ B' * t.1 < 0 := by
        rw [mn]; intro h; apply hc
        simp only [Bool.and_eq_true, Bool.not_eq_true', beq_eq_false_iff_ne, bne_iff_ne, ne_eq, decide_eq_decide]
        omega
      exact ai.2 (by omega)
  have e3 : (buildM (!(decide (B < 0) == decide (t.1 < 0)) && B != 0 && t.1 != 0) (absI (B' * t.1)) D').1 = (B' * t.1, D') := by rw [b3, sg]
  rw [e3]
  -- in lowest terms
  have c1 : gcdA B' D' = 1 := by
    have := gcd_mulr B' D' g1
    rw [Int.mul_comm B' g, Int.mul_comm D' g, ← hB, ← hD, ← eg] at this
    have h' : gcdA B' D' * g = 1 * g := by rw [Int.one_mul]; exact this.symm
    exact Int.eq_of_mul_eq_mul_right (by omega) h'
  have ct : Nat.gcd t.1.natAbs t.2.natAbs = 1 := ot.g
  have n1 : Nat.gcd (B' * t.1).natAbs D'.natAbs = 1 := by
    unfold gcdA at c1
    rw [e1, e1] at c1
    have k1 : Nat.Coprime B'.natAbs D'.natAbs := by exact_mod_cast c1
    have k2 : Nat.Coprime t.1.natAbs D'.natAbs := by
      refine Nat.Coprime.coprime_dvd_right ?_ ct
      rw [hD, Int.natAbs_mul]; exact Nat.dvd_mul_left ..
    rw [Int.natAbs_mul]
    exact Nat.Coprime.mul_left k1 k2
  have ai := absI_iff (B' * t.1)
  have or' : okR (B' * t.1, D') := ⟨by show 1 ≤ D'; omega, b2, by show _ ≤ B' * t.1; omega, by show B' * t.1 ≤ _; omega, n1⟩
  have pv := plusM_val (c := !(decide (A < 0) == decide (D' < 0))) (d := !(decide (B' * t.1 < 0) == decide ((1 : Int) < 0))) (v := A * D') (w := B' * t.1 * 1) (fun hne => by
      rw [decide_eq_false (by omega : ¬ D' < 0)]
      have : A * D' < 0 ↔ A < 0 := by
        constructor
        · intro h; rcases Int.lt_or_le A 0 with h' | h'
          · exact h'
          · have := Int.mul_nonneg h' (by omega : 0 ≤ D'); omega
        · intro h; exact Int.mul_neg_of_neg_of_pos h D0
      rw [this]; simp) (fun hne => by
      rw [Int.mul_one, decide_eq_false (by omega : ¬ (1 : Int) < 0)]; simp)
  obtain ⟨r1, r2⟩ := pv
  have ew : addW A (B' * t.1, D') = buildM (plusM (!(decide (A < 0) == decide (D' < 0))) (!(decide (B' * t.1 < 0) == decide ((1 : Int) < 0))) (absI (A * D')) (absI (B' * t.1 * 1))).1 (absI (A * D' + B' * t.1 * 1)) D' := by
    unfold addW
    rw [if_pos or']
    show buildM _ _ _ = _
    rw [r1]
  rw [ew, Int.mul_one]
  -- the same over the time's denominator
  have eN : A * t.2 + B * t.1 = (A * D' + B' * t.1) * g := by
    rw [hD, Int.add_mul, Int.mul_comm g D', ← Int.mul_assoc, Int.mul_assoc B', Int.mul_comm t.1 g, ← Int.mul_assoc, Int.mul_comm B' g, ← hB]
  have gN : gcdA (A * D' + B' * t.1) D' = 1 := by
    rw [Int.add_comm, gcd_addmul]
    unfold gcdA
    rw [e1, e1, n1]; rfl
  unfold overM
  have hgN : gcdA (A * t.2 + B * t.1) t.2 = g := by
    have h' := gcd_mulr (A * D' + B' * t.1) D' g1
    rw [← eN, gN, Int.one_mul, Int.mul_comm D' g, ← hD] at h'
    exact h'
  rw [hgN, tD]
  have aN : absI (A * t.2 + B * t.1) / g = absI (A * D' + B' * t.1) := by
    rw [eN, ← absI_mul]
    have : absI g = g := by unfold absI; rw [if_neg (by omega)]
    rw [this]; exact Int.mul_ediv_cancel _ (by omega)
  rw [aN]
  refine buildM_sign fun hne => ?_
  have hz : A * D' + B' * t.1 * 1 ≠ 0 := fun h => hne (by rw [Int.mul_one] at h; rw [h]; rfl)
  have r3 := r2 hz
  rw [Int.mul_one] at r3
  rw [Bool.eq_iff_iff, r3, decide_eq_true_eq, eN]
  constructor
  · intro h; exact Int.mul_neg_of_neg_of_pos h g1
  · intro h; rcases Int.lt_or_le (A * D' + B' * t.1) 0 with h' | h'
    · exact h'
    · have := Int.mul_nonneg h' (by omega : 0 ≤ g); omega

theorem refPlace {H : Hp} {p : Pt} {t : Int × Int} (ht : fitR t) :
    Qf Tryz.prog F.pelotonref02_At #[sI3 p.1 p.2.1 p.2.2, sI2 t.1 t.2] H (.tuple #[sI2 (placeM p t).1.1 (placeM p t).1.2, .int .i64 (placeM p t).2]) := by
  refine pelotonref02_At_vc ⟨_, refPCheck, _, fun _ => refRCheck ht, fun hc => ?_, fun hc => ?_⟩
  · have hb : ¬ (okP p ∧ okR t) := fun ⟨a, b⟩ => by rw [chkP_ok a, chkR_ok b] at hc; simp at hc
    rw [placeM_bad hb]
    exact ⟨rfl, Hp.le_refl _⟩
  have ok : okP p ∧ okR t := by
    have hc : chkP p = 0 ∧ chkR t = 0 := by simpa using hc
    exact ⟨chkP_zero.1 hc.1, chkR_zero.1 hc.2⟩
  obtain ⟨op, or⟩ := ok
  rw [placeM_ok op or]
  obtain ⟨m1, m2, m3⟩ := numP_lim op or
  have h1 := op.a0; have h1' := op.a1; have h2 := op.b0; have h2' := op.b1
  have h3 := or.d1; have h4 := or.d2; have h5 := or.n1; have h6 := or.n2
  have iA : inI p.2.1 := by unfold inI; omega
  have iB : inI p.2.2 := by unfold inI; omega
  have ob : okR (p.2.2, 1) := okW (by omega) (by omega)
  refine ⟨_, _, _, refMul (a := (p.2.2, 1)) (b := t) ob.fit ht, fun hb => ?_, fun hb => ?_⟩
  · have hb : (mulM (p.2.2, 1) t).2 = 0 := by simpa using hb
    have ra := refAdd1 (H := H) (A := p.2.1) (b := (mulM (p.2.2, 1) t).1) (by omega) (by omega) mulM_fit
    rw [addW_place ob or hb] at ra
    exact ⟨_, _, _, ra, rfl, Hp.le_refl _⟩
  · obtain ⟨c1, x1, y1, q1, b1⟩ := refProduct (H := H) iA or.fit.2
    obtain ⟨c2, x2, y2, q2, b2⟩ := refProduct (H := H) iB or.fit.1
    obtain ⟨e, hh, ll, q3, b3⟩ := refPlus (H := H) b1 b2 (by omega) (by omega)
    have hv := absI_add_le (p.2.1 * t.2) (p.2.2 * t.1)
    exact ⟨_, _, _, q1, _, _, _, q2, _, _, _, q3, _, _, _, refOver b3 (by omega) h3 h4, rfl, Hp.le_refl _⟩
end Go.Proofs.YtkemdpobjaiolaaGreat
end
