/- The engine, parts QA, SB, CP, CD, put together. Conditions: none. -/
import Derived.Test.YtkemdpobjaiolaaGreatPD1
import Derived.Test.YtkemdpobjaiolaaGreatPK2
import Derived.Test.YtkemdpobjaiolaaGreatVgBase
import Derived.Test.YtkemdpobjaiolaaGreatFs
import Derived.Test.YtkemdpobjaiolaaGreatPA1
set_option linter.unusedVariables false
section
/- Adding two fractions. Conditions: none. -/
set_option maxRecDepth 100000
open Go Go.Eng Go.Proofs
namespace Go.Proofs.YtkemdpobjaiolaaGreat

def gD (a b : Int × Int) : Int := (Nat.gcd a.2.toNat b.2.toNat : Nat)
def addV (a b : Int × Int) : Int := a.1 * (b.2 / gD a b) + b.1 * (a.2 / gD a b)
def addH (a b : Int × Int) : Int := (Nat.gcd (gD a b).toNat (absI (addV a b) % gD a b).toNat : Nat)
def addM (a b : Int × Int) : (Int × Int) × Int := if okR a ∧ okR b then buildM (decide (addV a b < 0)) (absI (addV a b) / addH a b) (a.2 / gD a b * (b.2 / addH a b)) else ((0, 0), 8)

/-- The sizes of what is reckoned. -/
structure AddB (a b : Int × Int) : Prop where
  g0 : 1 ≤ gD a b
  g1 : gD a b ≤ 9223372036854775807
  x0 : 1 ≤ a.2 / gD a b
  x1 : a.2 / gD a b ≤ 9223372036854775807
  y0 : 1 ≤ b.2 / gD a b
  y1 : b.2 / gD a b ≤ 9223372036854775807
  s1 : absI (a.1 * (b.2 / gD a b)) < 85070591730234615865843651857942052864
  s2 : absI (b.1 * (a.2 / gD a b)) < 85070591730234615865843651857942052864
  h0 : 1 ≤ addH a b
  h1 : addH a b ≤ gD a b
  z0 : 0 ≤ b.2 / addH a b
  z1 : b.2 / addH a b ≤ 9223372036854775807
theorem addB {a b : Int × Int} (oa : okR a) (ob : okR b) : AddB a b := by
  have a1 := oa.d1; have a2 := oa.d2; have a3 := oa.n1; have a4 := oa.n2
  have b1 := ob.d1; have b2 := ob.d2; have b3 := ob.n1; have b4 := ob.n2
  have hg : 0 < Nat.gcd a.2.toNat b.2.toNat := Nat.gcd_pos_of_pos_left _ (by omega)
  have ga : Nat.gcd a.2.toNat b.2.toNat ≤ a.2.toNat := Nat.gcd_le_left _ (by omega)
  have gb : Nat.gcd a.2.toNat b.2.toNat ≤ b.2.toNat := Nat.gcd_le_right _ (by omega)
  have g0 : 1 ≤ gD a b := by unfold gD; omega
  have g1 : gD a b ≤ a.2 := by unfold gD; omega
  have g2 : gD a b ≤ b.2 := by unfold gD; omega
  have x0 : 1 ≤ a.2 / gD a b := Int.le_ediv_of_mul_le (by omega) (by omega)
  have x1 : a.2 / gD a b ≤ a.2 := Int.ediv_le_self _ (by omega)
  have y0 : 1 ≤ b.2 / gD a b := Int.le_ediv_of_mul_le (by omega) (by omega)
  have y1 : b.2 / gD a b ≤ b.2 := Int.ediv_le_self _ (by omega)
  have s1 := absI_mul_le (x := a.1) (y := b.2 / gD a b) (m := 9223372036854775807) (n := 9223372036854775807) (absI_le (by omega) (by omega)) (absI_le (by omega) (by omega))
  have s2 := absI_mul_le (x := b.1) (y := a.2 / gD a b) (m := 9223372036854775807) (n := 9223372036854775807) (absI_le (by omega) (by omega)) (absI_le (by omega) (by omega))
  have hh : 0 < Nat.gcd (gD a b).toNat (absI (addV a b) % gD a b).toNat := Nat.gcd_pos_of_pos_left _ (by omega)
  have hl : Nat.gcd (gD a b).toNat (absI (addV a b) % gD a b).toNat ≤ (gD a b).toNat := Nat.gcd_le_left _ (by omega)
  have h0 : 1 ≤ addH a b := by unfold addH; omega
  have h1 : addH a b ≤ gD a b := by unfold addH; omega
  have z0 : 0 ≤ b.2 / addH a b := Int.ediv_nonneg (by omega) (by omega)
  have z1 : b.2 / addH a b ≤ b.2 := Int.ediv_le_self _ (by omega)
  exact ⟨g0, by omega, x0, by omega, y0, by omega, by omega, by omega, h0, h1, z0, by omega⟩
set_option maxHeartbeats 1000000 in
theorem refAdd {H : Hp} {a b : Int × Int} (ha : fitR a) (hb : fitR b) :
    Qf Tryz.prog F.pelotonref01_Add #[sI2 a.1 a.2, sI2 b.1 b.2] H (.tuple #[sI2 (addM a b).1.1 (addM a b).1.2, .int .i64 (addM a b).2]) := by
  refine pelotonref01_Add_vc ⟨_, refBoth ha hb, fun hc => ⟨_, refBoth ha hb, ?_⟩, fun hc => ?_⟩
  · have h : ¬ (okR a ∧ okR b) := fun x => by rw [if_pos x] at hc; simp at hc
    unfold addM; rw [if_neg h, if_neg h]; exact ⟨rfl, Hp.le_refl _⟩
  have ok : okR a ∧ okR b := by
    by_cases x : okR a ∧ okR b
    · exact x
    · rw [if_neg x] at hc; simp at hc
  obtain ⟨oa, ob⟩ := ok
  obtain ⟨g0, g1, x0, x1, y0, y1, s1, s2, h0, h1, z0, z1⟩ := addB oa ob
  have a1 := oa.d1; have a2 := oa.d2
  have b1 := ob.d1; have b2 := ob.d2
  have hg := refCommon (H := H) (a := a.2) (b := b.2) (by omega) (by omega)
  have hg : Qf Tryz.prog F.pelotonref01_common #[.int .u64 a.2, .int .u64 b.2] H (.int .u64 (gD a b)) := hg
  obtain ⟨c1, u1, w1, t1, B1⟩ := refProduct (H := H) (a := a.1) (b := b.2 / gD a b) oa.fit.1 (by unfold inI; omega)
  obtain ⟨c2, u2, w2, t2, B2⟩ := refProduct (H := H) (a := b.1) (b := a.2 / gD a b) ob.fit.1 (by unfold inI; omega)
  obtain ⟨S, hh, ll, pl, B3⟩ := refPlus (H := H) B1 B2 s1 s2
  obtain ⟨k0, k1, k2, k3, k4, k5⟩ := B3
  have eV : a.1 * (b.2 / gD a b) + b.1 * (a.2 / gD a b) = addV a b := rfl
  rw [eV] at k4 k5
  have v0 := absI_nonneg (addV a b)
  have av := absI_iff (addV a b)
  have hX : hh * 18446744073709551616 + ll = absI (addV a b) := by
    cases S with
    | true => have := k4 rfl; omega
    | false => have := k5 rfl; omega
  have m0 : 0 ≤ absI (addV a b) % gD a b := Int.emod_nonneg _ (by omega)
  have hg2 := refCommon (H := H) (a := gD a b) (b := absI (addV a b) % gD a b) (by omega) m0
  have hg2 : Qf Tryz.prog F.pelotonref01_common #[.int .u64 (gD a b), .int .u64 (absI (addV a b) % gD a b)] H (.int .u64 (addH a b)) := hg2
  have es : addM a b = buildM S (absI (addV a b) / addH a b) (a.2 / gD a b * (b.2 / addH a b)) := by
    unfold addM; rw [if_pos ⟨oa, ob⟩]
    refine buildM_sign fun _ => ?_
    cases S with
    | true => exact decide_eq_true (k4 rfl).1
    | false => exact decide_eq_false (by have := (k5 rfl).1; omega)
  rw [es]
  have dv : ∀ {d : Int}, 1 ≤ d → d ≤ 9223372036854775807 → Qf Tryz.prog F.pelotonref01_divided #[.agg #[.bool S, .int .u64 hh, .int .u64 ll], .int .u64 d] H (.tuple #[.agg #[.bool false, .int .u64 (absI (addV a b) / d / 18446744073709551616), .int .u64 (absI (addV a b) / d % 18446744073709551616)], .int .u64 (absI (addV a b) % d)]) := fun {d} d0 d1 => by
    obtain ⟨V, rfl⟩ := Int.eq_ofNat_of_zero_le k0
    obtain ⟨W, rfl⟩ := Int.eq_ofNat_of_zero_le k2
    obtain ⟨D, rfl⟩ := Int.eq_ofNat_of_zero_le (show 0 ≤ d by omega)
    have := refDivided (H := H) (c := S) (V := V) (W := W) (d := D) (by omega) (by omega) (by omega) (by omega)
    have eX : absI (addV a b) = ((V * 18446744073709551616 + W : Nat) : Int) := by omega
    rw [eX]
    simpa using this
  have mu := refProd (H := H) (x := a.2 / gD a b) (y := b.2 / addH a b) (by omega) (by omega) z0 (by omega)
  have nq : 0 ≤ absI (addV a b) / addH a b := Int.ediv_nonneg v0 (by omega)
  have bd := refMade (H := H) (c := S) (c1 := false) (c2 := false) (N := absI (addV a b) / addH a b) (D := a.2 / gD a b * (b.2 / addH a b)) nq (Int.mul_nonneg (by omega) z0)
  have wg : IntKind.i64.wrap (gD a b) = gD a b := i64s (by omega) (by omega)
  have wa : wrapU a.2 = a.2 := wrapU_id (by omega) (by omega)
  have wb : wrapU b.2 = b.2 := wrapU_id (by omega) (by omega)
  have wgu : wrapU (gD a b) = gD a b := wrapU_id (by omega) (by omega)
  have da : a.2.tdiv (gD a b) = a.2 / gD a b := Int.tdiv_eq_ediv_of_nonneg (by omega)
  have db : b.2.tdiv (gD a b) = b.2 / gD a b := Int.tdiv_eq_ediv_of_nonneg (by omega)
  have dh : b.2.tdiv (addH a b) = b.2 / addH a b := Int.tdiv_eq_ediv_of_nonneg (by omega)
  have wx : wrapU (a.2 / gD a b) = a.2 / gD a b := wrapU_id (by omega) (by omega)
  have wy : wrapU (b.2 / addH a b) = b.2 / addH a b := wrapU_id z0 (by omega)
  rw [wa, wb]
  refine ⟨gD a b, hg, ?_⟩
  rw [wg, wgu, da, db, wx]
  refine ⟨⟨by unfold nz; omega, by unfold inI; omega⟩, _, _, _, t1, ⟨by unfold nz; omega, by unfold inI; omega⟩, _, _, _, t2, _, _, _, pl, _, _, _, _, dv g0 g1, addH a b, hg2, _, _, _, _, dv h0 (by omega), ⟨by unfold nz; omega, by unfold inI; omega⟩, by unfold nz; omega, ?_⟩
  rw [dh, wy]
  exact ⟨_, _, _, mu, _, _, _, bd, rfl, Hp.le_refl _⟩
end Go.Proofs.YtkemdpobjaiolaaGreat
end
section
/- Sums and differences of fractions, in plain Lean; a gap is never less than 0 up to the next event. Conditions: none. -/
set_option maxRecDepth 100000
open Go Go.Eng Go.Proofs
namespace Go.Proofs.YtkemdpobjaiolaaGreat

theorem absN (z : Int) : (absI z).toNat = z.natAbs := by rw [absI_nat]; simp
theorem copr_sum {a x y : Int} {b : Int} (h1 : Nat.gcd a.natAbs x.natAbs = 1) (h2 : Nat.gcd y.natAbs x.natAbs = 1) : Nat.gcd (a * y + b * x).natAbs x.natAbs = 1 := by
  have e := gcd_addmul (a * y) x b
  unfold gcdA at e
  rw [absN, absN, absN] at e
  have e : Nat.gcd (a * y + b * x).natAbs x.natAbs = Nat.gcd (a * y).natAbs x.natAbs := by exact_mod_cast e
  rw [e, Int.natAbs_mul]
  exact Nat.Coprime.mul_left h1 h2
/-- What adding reckons, with both denominators taken apart. -/
structure AddN (a b : Int × Int) (x y K H M : Nat) (N : Int) : Prop where
  ea : a.2 = ((x * (K * H) : Nat) : Int)
  eb : b.2 = ((y * (K * H) : Nat) : Int)
  eN : N * H = a.1 * y + b.1 * x
  eM : M = N.natAbs
  v : addV a b = a.1 * y + b.1 * x
  hp : 0 < H
  add : addM a b = buildM (decide (addV a b < 0)) M ((x * (y * K) : Nat) : Int)
  cop : Nat.gcd M (x * (y * K)) = 1
  pos : 0 < x * (y * K)
theorem addN {a b : Int × Int} (oa : okR a) (ob : okR b) : ∃ x y K H M N, AddN a b x y K H M N := by
  have a1 := oa.d1; have b1 := ob.d1; have ga := oa.g; have gb := ob.g
  have hadd : addM a b = buildM (decide (addV a b < 0)) (absI (addV a b) / addH a b) (a.2 / gD a b * (b.2 / addH a b)) := by unfold addM; rw [if_pos ⟨oa, ob⟩]
  have hh : addH a b = (Nat.gcd (gD a b).toNat (absI (addV a b) % gD a b).toNat : Nat) := rfl
  have hv : addV a b = a.1 * (b.2 / gD a b) + b.1 * (a.2 / gD a b) := rfl
  have hg : gD a b = (Nat.gcd a.2.toNat b.2.toNat : Nat) := rfl
  generalize addH a b = hI at *
  generalize hV : addV a b = V at *
  generalize gD a b = gI at *
  obtain ⟨an, ad⟩ := a
  obtain ⟨bn, bd⟩ := b
  simp only at *
  obtain ⟨A, rfl⟩ : ∃ A : Nat, ad = A := ⟨ad.toNat, by omega⟩
  obtain ⟨B, rfl⟩ : ∃ B : Nat, bd = B := ⟨bd.toNat, by omega⟩
  rw [Int.toNat_natCast, Int.toNat_natCast] at hg
  rw [Int.natAbs_natCast] at ga gb
  have hG : 0 < Nat.gcd A B := Nat.gcd_pos_of_pos_left _ (by omega)
  have cxy := Nat.coprime_div_gcd_div_gcd hG
  have xA := Nat.div_mul_cancel (Nat.gcd_dvd_left A B)
  have yB := Nat.div_mul_cancel (Nat.gcd_dvd_right A B)
  generalize Nat.gcd A B = G at *
  generalize A / G = x at *
  generalize B / G = y at *
  subst xA
  subst yB
  have q1 : ((x * G : Nat) : Int) / (G : Int) = x := by rw [Int.natCast_mul]; exact Int.mul_ediv_cancel _ (by omega)
  have q2 : ((y * G : Nat) : Int) / (G : Int) = y := by rw [Int.natCast_mul]; exact Int.mul_ediv_cancel _ (by omega)
  rw [hg, q1, q2] at hv
  rw [hg, Int.toNat_natCast, absI_nat] at hh
  have e1 : (((V.natAbs : Nat) : Int) % ((G : Nat) : Int)).toNat = V.natAbs % G := by rw [← Int.natCast_emod, Int.toNat_natCast]
  rw [e1, show Nat.gcd G (V.natAbs % G) = Nat.gcd G V.natAbs by rw [Nat.gcd_comm, ← Nat.gcd_rec]] at hh
  have hH : 0 < Nat.gcd G V.natAbs := Nat.gcd_pos_of_pos_left _ hG
  have cK := Nat.coprime_div_gcd_div_gcd hH
  have eK := Nat.div_mul_cancel (Nat.gcd_dvd_left G V.natAbs)
  have eM := Nat.div_mul_cancel (Nat.gcd_dvd_right G V.natAbs)
  rw [hg, hh, absI_nat, q1] at hadd
  generalize Nat.gcd G V.natAbs = H at *
  generalize G / H = K at *
  have m1 : ((V.natAbs : Nat) : Int) / ((H : Nat) : Int) = ((V.natAbs / H : Nat) : Int) := by simp
  rw [m1] at hadd
  generalize V.natAbs / H = M at *
  subst eK
  have q3 : ((y * (K * H) : Nat) : Int) / ((H : Nat) : Int) = ((y * K : Nat) : Int) := by
    rw [← Nat.mul_assoc, Int.natCast_mul]; exact Int.mul_ediv_cancel _ (by omega)
  rw [q3, ← Int.natCast_mul] at hadd
  have hx : 0 < x := Nat.pos_of_ne_zero fun e => by subst e; simp at a1
  have hy : 0 < y := Nat.pos_of_ne_zero fun e => by subst e; simp at b1
  have hK : 0 < K := Nat.pos_of_ne_zero fun e => by subst e; simp at hG
  have dM : M ∣ V.natAbs := ⟨H, eM.symm⟩
  have cax : Nat.gcd an.natAbs x = 1 := Nat.Coprime.coprime_dvd_right ⟨K * H, rfl⟩ ga
  have cby : Nat.gcd bn.natAbs y = 1 := Nat.Coprime.coprime_dvd_right ⟨K * H, rfl⟩ gb
  have cVx : Nat.gcd V.natAbs x = 1 := by
    have := copr_sum (a := an) (x := x) (y := y) (b := bn) (by rw [Int.natAbs_natCast]; exact cax) (by rw [Int.natAbs_natCast, Int.natAbs_natCast]; exact Nat.Coprime.symm cxy)
    rw [← hv, Int.natAbs_natCast] at this; exact this
  have cVy : Nat.gcd V.natAbs y = 1 := by
    have := copr_sum (a := bn) (x := y) (y := x) (b := an) (by rw [Int.natAbs_natCast]; exact cby) (by rw [Int.natAbs_natCast, Int.natAbs_natCast]; exact cxy)
    rw [Int.add_comm, ← hv, Int.natAbs_natCast] at this; exact this
  have cop : Nat.gcd M (x * (y * K)) = 1 := Nat.Coprime.mul_right (Nat.Coprime.coprime_dvd_left dM cVx) (Nat.Coprime.mul_right (Nat.Coprime.coprime_dvd_left dM cVy) (Nat.Coprime.symm cK))
  refine ⟨x, y, K, H, M, if V < 0 then -(M : Int) else M, rfl, rfl, ?_, ?_, by rw [hV]; exact hv, hH, by rw [hV]; exact hadd, cop, Nat.mul_pos hx (Nat.mul_pos hy hK)⟩
  · show (if V < 0 then -(M : Int) else M) * H = an * y + bn * x
    rw [← hv]
    have em : (M : Int) * H = V.natAbs := by exact_mod_cast eM
    split
    · rw [Int.neg_mul, em]; omega
    · rw [em]; omega
  · split <;> omega
theorem addM_ok {a b : Int × Int} (oa : okR a) (ob : okR b) (h : (addM a b).2 = 0) : okR (addM a b).1 ∧ (addM a b).1.1 * (a.2 * b.2) = (a.1 * b.2 + b.1 * a.2) * (addM a b).1.2 := by
  obtain ⟨x, y, K, H, M, N, w⟩ := addN oa ob
  have hN : (if decide (addV a b < 0) = true then 0 - (M : Int) else M) = N := by
    have e := w.eN; have m := w.eM; have hp := w.hp
    rw [← w.v] at e
    by_cases hv : addV a b < 0
    · rw [decide_eq_true hv, if_pos rfl]
      have : N < 0 := by
        rcases Int.lt_or_le N 0 with k | k
        · exact k
        · have := Int.mul_nonneg k (Int.natCast_nonneg H); omega
      omega
    · rw [decide_eq_false hv, if_neg (by simp)]
      have : 0 ≤ N := by
        rcases Int.lt_or_le N 0 with k | k
        · have := Int.mul_neg_of_neg_of_pos k (show (0 : Int) < H by omega); omega
        · exact k
      omega
  have hadd := w.add
  have cop := w.cop; have pos := w.pos
  rw [hadd] at h ⊢
  unfold buildM at h ⊢
  split at h
  · cases h
  · rename_i hc
    rw [if_neg hc, hN]
    have m := w.eM
    refine ⟨⟨by show (1 : Int) ≤ ((x * (y * K) : Nat) : Int); omega, by show ((x * (y * K) : Nat) : Int) ≤ _; omega, by show _ ≤ N; omega, by show N ≤ _; omega, ?_⟩, ?_⟩
    · show Nat.gcd N.natAbs ((x * (y * K) : Nat) : Int).natAbs = 1
      rw [Int.natAbs_natCast, ← m]; exact cop
    · show N * (a.2 * b.2) = (a.1 * b.2 + b.1 * a.2) * ((x * (y * K) : Nat) : Int)
      rw [w.ea, w.eb]
      have e := w.eN
      simp only [Int.natCast_mul]
      have e2 : (a.1 * ((y : Int) * ((K : Int) * H)) + b.1 * ((x : Int) * ((K : Int) * H))) = (a.1 * y + b.1 * x) * ((K : Int) * H) := by
        rw [Int.add_mul]; congr 1 <;> ac_rfl
      rw [e2, ← e]
      ac_rfl
theorem buildM_err (c : Bool) (N D : Int) : (buildM c N D).2 = 0 ∨ (buildM c N D).2 = 16 := by
  unfold buildM; split
  · exact .inr rfl
  · exact .inl rfl
def subM (a b : Int × Int) : (Int × Int) × Int := addM a (-b.1, b.2)
theorem okR_neg {b : Int × Int} (ob : okR b) : okR (-b.1, b.2) := ⟨ob.d1, ob.d2, by have := ob.n2; show _ ≤ -b.1; omega, by have := ob.n1; show -b.1 ≤ _; omega, by have := ob.g; simpa using this⟩
theorem subM_ok {a b : Int × Int} (oa : okR a) (ob : okR b) (h : (subM a b).2 = 0) : okR (subM a b).1 ∧ (subM a b).1.1 * (a.2 * b.2) = (a.1 * b.2 - b.1 * a.2) * (subM a b).1.2 := by
  obtain ⟨h1, h2⟩ := addM_ok oa (okR_neg ob) h
  refine ⟨h1, ?_⟩
  show (addM a (-b.1, b.2)).1.1 * (a.2 * b.2) = _
  rw [h2]
  show (a.1 * b.2 + -b.1 * a.2) * _ = _
  rw [Int.neg_mul]; rfl

/-! ### Places and gaps -/
theorem at_far {g : Gp} {t : Int × Int} (og : okGp g) (ot : okR t) (h : (atM g t).2 = 0) : ∃ k : Int, 0 < k ∧ (atM g t).1.1 * k = g.a * t.2 + g.b * t.1 ∧ (atM g t).1.2 * k = t.2 ∧ okR (atM g t).1 := by
  have ow : okR (g.b, 1) := by unfold okGp at og; exact okW (by omega) (by omega)
  unfold atM at h ⊢
  rw [if_pos ⟨og, ot⟩] at h ⊢
  split at h
  · rename_i hm
    rw [if_pos hm]
    rw [addW_place ow ot hm] at h ⊢
    exact overM_eq ot.d1 h
  · rename_i hm; exact absurd h hm
theorem at_err {g : Gp} {t : Int × Int} (og : okGp g) (ot : okR t) : (atM g t).2 = 0 ∨ (atM g t).2 = 16 := by
  have ow : okR (g.b, 1) := by unfold okGp at og; exact okW (by omega) (by omega)
  unfold atM
  rw [if_pos ⟨og, ot⟩]
  split
  · rename_i hm
    rw [addW_place ow ot hm]
    exact buildM_err _ _ _
  · rename_i hm
    have : (mulM (g.b, 1) t).2 = 0 ∨ (mulM (g.b, 1) t).2 = 16 := by
      unfold mulM; rw [if_pos ⟨ow, ot⟩]; exact buildM_err _ _ _
    exact this
/-- A gap that is told is the difference of the places, if that is told, too. -/
theorem sub_far {p q : Pt} {t y z d x : Int × Int} {k : Int} (op : okP p) (oq : okP q) (ot : okR t) (hy : placeM p t = (y, 0)) (hz : placeM q t = (z, 0)) (hd : subM y z = (d, 0)) (hk : 0 < k) (h1 : x.1 * k = farV p q t) (h2 : x.2 * k = t.2) (ox : okR x) : d = x ∧ okR y ∧ okR z := by
  rw [placeM_ok op ot] at hy
  rw [placeM_ok oq ot] at hz
  obtain ⟨k1, p1, y1, y2, oy⟩ := overM_eq ot.d1 (show (overM (numP p t) t.2).2 = 0 by rw [hy])
  obtain ⟨k2, p2, z1, z2, oz⟩ := overM_eq ot.d1 (show (overM (numP q t) t.2).2 = 0 by rw [hz])
  rw [hy] at y1 y2 oy
  rw [hz] at z1 z2 oz
  simp only at y1 y2 oy z1 z2 oz
  obtain ⟨od, e⟩ := subM_ok oy oz (by rw [hd])
  rw [hd] at od e
  simp only at od e
  refine ⟨?_, oy, oz⟩
  have fv : farV p q t = numP p t - numP q t := farV_val p q t
  have key : d.1 * x.2 = x.1 * d.2 := by
    have c : 0 < y.2 * k1 * (z.2 * k2) * k := Int.mul_pos (Int.mul_pos (by rw [y2]; exact ot.d1) (by rw [z2]; exact ot.d1)) hk
    refine Int.eq_of_mul_eq_mul_right (a := y.2 * k1 * (z.2 * k2) * k) (by omega) ?_
    have a1 : d.1 * x.2 * (y.2 * k1 * (z.2 * k2) * k) = (d.1 * (y.2 * z.2)) * (k1 * k2) * (x.2 * k) := by ac_rfl
    have a2 : x.1 * d.2 * (y.2 * k1 * (z.2 * k2) * k) = (x.1 * k) * d.2 * ((y.2 * k1) * (z.2 * k2)) := by ac_rfl
    have a3 : (y.1 * z.2 - z.1 * y.2) * d.2 * (k1 * k2) = ((y.1 * k1) * (z.2 * k2) - (z.1 * k2) * (y.2 * k1)) * d.2 := by
      have b1 : (y.1 * z.2 - z.1 * y.2) * d.2 * (k1 * k2) = ((y.1 * z.2 - z.1 * y.2) * (k1 * k2)) * d.2 := by ac_rfl
      have c1 : y.1 * z.2 * (k1 * k2) = (y.1 * k1) * (z.2 * k2) := by ac_rfl
      have c2 : z.1 * y.2 * (k1 * k2) = (z.1 * k2) * (y.2 * k1) := by ac_rfl
      rw [b1, Int.sub_mul, c1, c2]
    rw [a1, a2, e, a3, h1, h2, y1, y2, z1, z2, fv, ← Int.sub_mul]
    ac_rfl
  exact okR_eq od ox (show d.1 * x.2 ≤ x.1 * d.2 by omega) (show x.1 * d.2 ≤ d.1 * x.2 by omega)
theorem gap_never {l : Ls} (ok : okLs l) {t : Int × Int} (hu : untilK l.ck t = 0) (hb : 0 < l.ck.ag.heap.length → leR t (hp l.ck.ag.heap 0).at_) {i : Nat} (hi : i < l.num.length) : 0 ≤ farV (ptL l i) (ptL l (i + 1)) t := by
  have w := ok.weak
  have nl := w.nl
  obtain ⟨_, ot, hle⟩ := untilK_zero.1 hu
  have p1 := (w.pt (k := i) (by omega)).1
  have p2 := (w.pt (k := i + 1) (by omega)).1
  have hne := w.ptNe (i := i) (j := i + 1) (by omega) (by omega) (by omega)
  cases hF : failM (ptL l i) (ptL l (i + 1)) l.ck.now with
  | none =>
    have := leads_far.1 (fail_never hne w.ck.now ot hF hle).1
    omega
  | some s =>
    obtain ⟨x, hx, hat⟩ := w.meets (i := i) hi hF
    have l1 := leR_of_less (w.ck.top hx)
    rw [hat] at l1
    have h0 : 0 < l.ck.ag.heap.length := List.length_pos_of_mem hx
    have o1 : okR (hp l.ck.ag.heap 0).at_ := (w.ck.ag.each _ (hp_mem h0)).1
    have os := fail_okR p1 p2 w.ck.now hF
    have l2 := leR_trans ot o1 os (hb h0) l1
    by_cases h : leR s t
    · have : s = t := okR_eq os ot h l2
      have lv := (w.level hi hF).1
      rw [this] at lv; omega
    · have := leads_far.1 (fail_before p1 p2 hne w.ck.now hF hle h)
      omega
end Go.Proofs.YtkemdpobjaiolaaGreat
end
section
/- Pairs of points in order of their distances, in plain words. Conditions: none. -/
set_option maxRecDepth 100000
open Go Go.Eng Go.Proofs
namespace Go.Proofs.YtkemdpobjaiolaaGreat

/-! ### Sorting by insertion -/
def Srt {α : Type} (lt : α → α → Bool) (l : List α) : Prop := l.Pairwise fun a b => lt b a = false
theorem Srt.filter {α : Type} {lt : α → α → Bool} {l : List α} (h : Srt lt l) (p : α → Bool) : Srt lt (l.filter p) := List.Pairwise.sublist List.filter_sublist h

/-! ### Pairs -/
abbrev Pr := Int × Int × (Int × Int)
def clP (a b : Pr) : Bool := if cmpR a.2.2 b.2.2 ≠ 0 then decide (cmpR a.2.2 b.2.2 < 0) else if a.1 ≠ b.1 then decide (a.1 < b.1) else decide (a.2.1 < b.2.1)
def okPr (a : Pr) : Prop := okR a.2.2
theorem clP_iff {a b : Pr} : clP a b = true ↔ ¬ leR b.2.2 a.2.2 ∨ (leR a.2.2 b.2.2 ∧ leR b.2.2 a.2.2) ∧ (a.1 < b.1 ∨ a.1 = b.1 ∧ a.2.1 < b.2.1) := by
  unfold clP
  have l := cmpR_lt (a := a.2.2) (b := b.2.2)
  have e := cmpR_eq (a := a.2.2) (b := b.2.2)
  split
  · rename_i h1
    rw [decide_eq_true_iff, l]
    constructor
    · exact .inl
    · rintro (h | ⟨h, h9⟩)
      · exact h
      · exact absurd (e.2 h) h1
  · rename_i h0
    have h0 : cmpR a.2.2 b.2.2 = 0 := by omega
    have he := e.1 h0
    split
    · rw [decide_eq_true_iff]
      constructor
      · intro h; exact .inr ⟨he, .inl h⟩
      · rintro (h | ⟨_, h⟩)
        · exact absurd he.2 h
        · omega
    · rw [decide_eq_true_iff]
      constructor
      · intro h; exact .inr ⟨he, by omega⟩
      · rintro (h | ⟨_, h⟩)
        · exact absurd he.2 h
        · omega
theorem clP_no {a b : Pr} : clP a b = false ↔ leR b.2.2 a.2.2 ∧ (leR a.2.2 b.2.2 → b.1 < a.1 ∨ b.1 = a.1 ∧ b.2.1 ≤ a.2.1) := by
  rw [Bool.eq_false_iff, ne_eq, clP_iff]
  constructor
  · intro h
    have h1 : leR b.2.2 a.2.2 := Decidable.by_contra fun x => h (.inl x)
    exact ⟨h1, fun h2 => by
      have : ¬ (a.1 < b.1 ∨ a.1 = b.1 ∧ a.2.1 < b.2.1) := fun x => h (.inr ⟨⟨h2, h1⟩, x⟩)
      omega⟩
  · rintro ⟨h1, h2⟩ (h | ⟨⟨h, _⟩, h3⟩)
    · exact h h1
    · have := h2 h; omega
theorem clP_anti (a b : Pr) (ha : okPr a) (hb : okPr b) (h1 : clP a b = false) (h2 : clP b a = false) : a = b := by
  rw [clP_no] at h1 h2
  have e := okR_eq ha hb h2.1 h1.1
  have x := h1.2 h2.1; have y := h2.2 h1.1
  obtain ⟨a1, a2, a3⟩ := a; obtain ⟨b1, b2, b3⟩ := b
  simp only at *
  subst e
  rw [show a1 = b1 by omega, show a2 = b2 by omega]
/-- The first of all. -/
def IsLeast (S : List Pr) (b : Pr) : Prop := b ∈ S ∧ ∀ p ∈ S, clP p b = false
theorem IsLeast.eq {S : List Pr} (h : ∀ y ∈ S, okPr y) {a b : Pr} (ha : IsLeast S a) (hb : IsLeast S b) : a = b :=
  clP_anti a b (h _ ha.1) (h _ hb.1) (hb.2 _ ha.1) (ha.2 _ hb.1)
/-! ### All pairs of indices -/
def rowP {α : Type} (D : Nat → Nat → α) (i k : Nat) : List α := ((List.range k).filter fun b => decide (i < b)).map (D i)
def allP {α : Type} (D : Nat → Nat → α) (n i : Nat) : List α := (List.range i).flatMap fun a => rowP D a n
def nbrP {α : Type} (D : Nat → Nat → α) (n : Nat) : List α := (List.range n).map fun a => D a (a + 1)
theorem mem_rowP {α : Type} {D : Nat → Nat → α} {i k : Nat} {x : α} : x ∈ rowP D i k ↔ ∃ b, i < b ∧ b < k ∧ x = D i b := by
  unfold rowP
  rw [List.mem_map]
  constructor
  · rintro ⟨b, hb, rfl⟩
    obtain ⟨h1, h2⟩ := List.mem_filter.1 hb
    exact ⟨b, by simpa using h2, List.mem_range.1 h1, rfl⟩
  · rintro ⟨b, h1, h2, rfl⟩
    exact ⟨b, List.mem_filter.2 ⟨List.mem_range.2 h2, by simpa using h1⟩, rfl⟩
theorem mem_allP {α : Type} {D : Nat → Nat → α} {n i : Nat} {x : α} : x ∈ allP D n i ↔ ∃ a b, a < i ∧ a < b ∧ b < n ∧ x = D a b := by
  unfold allP
  rw [List.mem_flatMap]
  constructor
  · rintro ⟨a, ha, hx⟩
    obtain ⟨b, h1, h2, h3⟩ := mem_rowP.1 hx
    exact ⟨a, b, List.mem_range.1 ha, h1, h2, h3⟩
  · rintro ⟨a, b, h0, h1, h2, h3⟩
    exact ⟨a, List.mem_range.2 h0, mem_rowP.2 ⟨b, h1, h2, h3⟩⟩
theorem mem_nbrP {α : Type} {D : Nat → Nat → α} {n : Nat} {x : α} : x ∈ nbrP D n ↔ ∃ a, a < n ∧ x = D a (a + 1) := by
  unfold nbrP
  rw [List.mem_map]
  constructor
  · rintro ⟨a, h, rfl⟩; exact ⟨a, List.mem_range.1 h, rfl⟩
  · rintro ⟨a, h, rfl⟩; exact ⟨a, List.mem_range.2 h, rfl⟩
end Go.Proofs.YtkemdpobjaiolaaGreat
end
section
/- Distances of points in their order, in plain Lean: what close tells. Conditions: none. -/
set_option maxRecDepth 100000
open Go Go.Eng Go.Proofs
namespace Go.Proofs.YtkemdpobjaiolaaGreat

/-- The point with an index in the order of a time. -/
def sP (f : List Pt) (t : Int × Int) (k : Nat) : Pt := (sortM f t).getD k (0, 0, 0)
theorem sP_get {f : List Pt} {t : Int × Int} {k : Nat} (hk : k < f.length) : (sortM f t)[k]? = some (sP f t k) := by
  have h : k < (sortM f t).length := by rw [sortM_len]; exact hk
  unfold sP
  rw [List.getD_eq_getElem?_getD, List.getElem?_eq_getElem h]; rfl
theorem sP_mem {f : List Pt} {t : Int × Int} {k : Nat} (hk : k < f.length) : sP f t k ∈ f := (sortM_perm t f).mem_iff.1 (List.mem_of_getElem? (sP_get hk))
theorem sP_ok {f : List Pt} (of : okF f) {t : Int × Int} {k : Nat} (hk : k < f.length) : okP (sP f t k) := of.each _ (sP_mem hk)
theorem sP_leads {f : List Pt} (of : okF f) {t : Int × Int} {i k : Nat} (h : i < k) (hk : k < f.length) : leads (sP f t i) (sP f t k) t = true := by
  have ho := (sortM_sorted (okF_ids of) t).ord
  obtain ⟨a1, a2⟩ := List.getElem?_eq_some_iff.1 (sP_get (t := t) (show i < f.length by omega))
  obtain ⟨b1, b2⟩ := List.getElem?_eq_some_iff.1 (sP_get (t := t) hk)
  have := List.pairwise_iff_getElem.1 ho i k a1 b1 h
  rw [a2, b2] at this
  exact this
theorem sP_val {f : List Pt} (of : okF f) {t : Int × Int} {i k : Nat} (h : i < k) (hk : k < f.length) : valP (sP f t k) t ≤ valP (sP f t i) t := by
  have := leads_iff.1 (sP_leads of (t := t) h hk)
  omega
theorem okLs.sP {l : Ls} (ok : okLs l) {k : Nat} (hk : k < l.ord.length) : ptL l k = Go.Proofs.YtkemdpobjaiolaaGreat.sP l.ck.f l.ck.now k := by
  have := ok.sorted hk
  rw [sP_get (by rw [← ok.len]; exact hk)] at this
  exact (Option.some.inj this).symm

/-! ### Distances -/
def spot (f : List Pt) (t : Int × Int) (k : Nat) : (Int × Int) × Int := placeM (sP f t k) t
def toldF (f : List Pt) (t : Int × Int) (n : Nat) : Prop := ∀ k, k < n → (spot f t k).2 = 0
instance (f : List Pt) (t : Int × Int) (n : Nat) : Decidable (toldF f t n) := inferInstanceAs (Decidable (∀ k, k < n → _))
def gapD (f : List Pt) (t : Int × Int) (i k : Nat) : (Int × Int) × Int := subM (spot f t i).1 (spot f t k).1
def prM (f : List Pt) (t : Int × Int) (i k : Nat) : Pr := (min (sP f t i).1 (sP f t k).1, max (sP f t i).1 (sP f t k).1, (gapD f t i k).1)
theorem spot_ok {f : List Pt} (of : okF f) {t : Int × Int} (ot : okR t) {k : Nat} (hk : k < f.length) (h : (spot f t k).2 = 0) : ∃ g : Int, 0 < g ∧ (spot f t k).1.1 * g = valP (sP f t k) t ∧ (spot f t k).1.2 * g = t.2 ∧ okR (spot f t k).1 := by
  unfold spot at h ⊢
  rw [placeM_ok (sP_ok of hk) ot] at h ⊢
  exact overM_eq ot.d1 h
/-- What is told of a distance: its value. -/
theorem gapD_ok {f : List Pt} (of : okF f) {t : Int × Int} (ot : okR t) {i k : Nat} (hi : i < f.length) (hk : k < f.length) (h1 : (spot f t i).2 = 0) (h2 : (spot f t k).2 = 0) (h : (gapD f t i k).2 = 0) : okR (gapD f t i k).1 ∧ (gapD f t i k).1.1 * t.2 = (valP (sP f t i) t - valP (sP f t k) t) * (gapD f t i k).1.2 := by
  obtain ⟨g1, p1, y1, y2, oy⟩ := spot_ok of ot hi h1
  obtain ⟨g2, p2, z1, z2, oz⟩ := spot_ok of ot hk h2
  obtain ⟨od, e⟩ := subM_ok oy oz h
  refine ⟨od, ?_⟩
  show (subM (spot f t i).1 (spot f t k).1).1.1 * t.2 = _ * (subM (spot f t i).1 (spot f t k).1).1.2
  generalize (subM (spot f t i).1 (spot f t k).1).1 = d at *
  generalize (spot f t i).1 = y at *
  generalize (spot f t k).1 = z at *
  have c : 0 < t.2 := ot.d1
  refine Int.eq_of_mul_eq_mul_right (a := t.2) (by omega) ?_
  have a1 : d.1 * t.2 * t.2 = (d.1 * (y.2 * z.2)) * (g1 * g2) := by
    conv => lhs; rw [← y2]; arg 2; rw [y2, ← z2]
    ac_rfl
  have c1 : y.1 * z.2 * (g1 * g2) = (y.1 * g1) * (z.2 * g2) := by ac_rfl
  have c2 : z.1 * y.2 * (g1 * g2) = (z.1 * g2) * (y.2 * g1) := by ac_rfl
  have a3 : (y.1 * z.2 - z.1 * y.2) * d.2 * (g1 * g2) = ((y.1 * z.2 - z.1 * y.2) * (g1 * g2)) * d.2 := by ac_rfl
  rw [a1, e, a3, Int.sub_mul, c1, c2, y1, y2, z1, z2, ← Int.sub_mul]
  ac_rfl
theorem copr_eq {n d m e : Int} (hd : 0 < d) (he : 0 < e) (g1 : Nat.gcd n.natAbs d.natAbs = 1) (g2 : Nat.gcd m.natAbs e.natAbs = 1) (e0 : n * e = m * d) : n = m ∧ d = e := by
  have ea : n.natAbs * e.natAbs = m.natAbs * d.natAbs := by rw [← Int.natAbs_mul, ← Int.natAbs_mul, e0]
  have x1 : d.natAbs ∣ e.natAbs := by
    have : d.natAbs ∣ n.natAbs * e.natAbs := ⟨m.natAbs, by rw [ea, Nat.mul_comm]⟩
    exact (Nat.Coprime.symm g1 : Nat.Coprime d.natAbs n.natAbs).dvd_of_dvd_mul_left this
  have x2 : e.natAbs ∣ d.natAbs := by
    have : e.natAbs ∣ m.natAbs * d.natAbs := ⟨n.natAbs, by rw [← ea, Nat.mul_comm]⟩
    exact (Nat.Coprime.symm g2 : Nat.Coprime e.natAbs m.natAbs).dvd_of_dvd_mul_left this
  have x3 := Nat.dvd_antisymm x1 x2
  have hde : d = e := by omega
  subst hde
  exact ⟨Int.eq_of_mul_eq_mul_right (by omega) e0, rfl⟩
/-- A sum depends on its value alone. -/
theorem addM_same {a b c d : Int × Int} (oa : okR a) (ob : okR b) (oc : okR c) (od : okR d) (h : (a.1 * b.2 + b.1 * a.2) * (c.2 * d.2) = (c.1 * d.2 + d.1 * c.2) * (a.2 * b.2)) : addM a b = addM c d := by
  obtain ⟨x, y, K, H, M, N, w⟩ := addN oa ob
  obtain ⟨x', y', K', H', M', N', w'⟩ := addN oc od
  have val : ∀ {a b : Int × Int} {x y K H M : Nat} {N : Int}, AddN a b x y K H M N → N * (a.2 * b.2) = (a.1 * b.2 + b.1 * a.2) * ((x * (y * K) : Nat) : Int) := fun {a b x y K H M N} w => by
    rw [w.ea, w.eb]
    have e := w.eN
    simp only [Int.natCast_mul]
    have e2 : (a.1 * ((y : Int) * ((K : Int) * H)) + b.1 * ((x : Int) * ((K : Int) * H))) = (a.1 * y + b.1 * x) * ((K : Int) * H) := by
      rw [Int.add_mul]; congr 1 <;> ac_rfl
    rw [e2, ← e]
    ac_rfl
  have v := val w; have v' := val w'
  have p := w.pos; have p' := w'.pos
  have c1 := w.cop; have c2 := w'.cop
  rw [w.eM] at c1; rw [w'.eM] at c2
  have pa : 0 < a.2 * b.2 := Int.mul_pos oa.d1 ob.d1
  have pc : 0 < c.2 * d.2 := Int.mul_pos oc.d1 od.d1
  have hadd := w.add; have hadd' := w'.add
  have sv := w.v; have sv' := w'.v
  have en := w.eN; have en' := w'.eN
  have hp := w.hp; have hp' := w'.hp
  rw [← sv] at en; rw [← sv'] at en'
  have eM := w.eM; have eM' := w'.eM
  generalize x * (y * K) = D at *
  generalize x' * (y' * K') = D' at *
  have key : N * (D' : Int) = N' * (D : Int) := by
    refine Int.eq_of_mul_eq_mul_right (a := (a.2 * b.2) * (c.2 * d.2)) (by have := Int.mul_pos pa pc; omega) ?_
    have a1 : N * (D' : Int) * ((a.2 * b.2) * (c.2 * d.2)) = (N * (a.2 * b.2)) * (D' * (c.2 * d.2)) := by ac_rfl
    have a2 : N' * (D : Int) * ((a.2 * b.2) * (c.2 * d.2)) = (N' * (c.2 * d.2)) * (D * (a.2 * b.2)) := by ac_rfl
    rw [a1, a2, v, v']
    have a3 : (a.1 * b.2 + b.1 * a.2) * (D : Int) * (D' * (c.2 * d.2)) = ((a.1 * b.2 + b.1 * a.2) * (c.2 * d.2)) * (D * D') := by ac_rfl
    rw [a3, h]
    ac_rfl
  obtain ⟨r1, r2⟩ := copr_eq (n := N) (d := D) (m := N') (e := D') (by omega) (by omega) (by rw [Int.natAbs_natCast]; exact c1) (by rw [Int.natAbs_natCast]; exact c2) key
  have sg : ∀ {V N : Int} {H : Nat}, 0 < H → N * H = V → (V < 0 ↔ N < 0) := fun {V N H} hp e => by
    rw [← e]
    constructor
    · intro h
      rcases Int.lt_or_le N 0 with k | k
      · exact k
      · have := Int.mul_nonneg k (Int.natCast_nonneg H); omega
    · intro h; exact Int.mul_neg_of_neg_of_pos h (by omega)
  have s1 := sg hp en; have s2 := sg hp' en'
  have eD : D = D' := by omega
  have eMM : M = M' := by rw [eM, eM', r1]
  rw [hadd, hadd', eD, eMM]
  congr 1
  rw [decide_eq_decide]
  omega
theorem gapD_same {f : List Pt} (of : okF f) {t : Int × Int} (ot : okR t) {i k j m : Nat} (hi : i < f.length) (hk : k < f.length) (hj : j < f.length) (hm : m < f.length) (T : toldF f t f.length) (h : valP (sP f t i) t - valP (sP f t k) t = valP (sP f t j) t - valP (sP f t m) t) : gapD f t i k = gapD f t j m := by
  obtain ⟨g1, p1, a1, a2, oa⟩ := spot_ok of ot hi (T i hi)
  obtain ⟨g2, p2, b1, b2, ob⟩ := spot_ok of ot hk (T k hk)
  obtain ⟨g3, p3, c1, c2, oc⟩ := spot_ok of ot hj (T j hj)
  obtain ⟨g4, p4, d1, d2, od⟩ := spot_ok of ot hm (T m hm)
  unfold gapD subM
  refine addM_same oa (okR_neg ob) oc (okR_neg od) ?_
  show ((spot f t i).1.1 * (spot f t k).1.2 + -(spot f t k).1.1 * (spot f t i).1.2) * ((spot f t j).1.2 * (spot f t m).1.2) = ((spot f t j).1.1 * (spot f t m).1.2 + -(spot f t m).1.1 * (spot f t j).1.2) * ((spot f t i).1.2 * (spot f t k).1.2)
  generalize (spot f t i).1 = a at *
  generalize (spot f t k).1 = b at *
  generalize (spot f t j).1 = c at *
  generalize (spot f t m).1 = d at *
  have ht : 0 < t.2 := ot.d1
  rw [Int.neg_mul, Int.neg_mul, ← Int.sub_eq_add_neg, ← Int.sub_eq_add_neg]
  refine Int.eq_of_mul_eq_mul_right (a := (g1 * g2) * (g3 * g4)) (by have := Int.mul_pos (Int.mul_pos p1 p2) (Int.mul_pos p3 p4); omega) ?_
  have e1 : (a.1 * b.2 - b.1 * a.2) * (c.2 * d.2) * ((g1 * g2) * (g3 * g4)) = ((a.1 * b.2 - b.1 * a.2) * (g1 * g2)) * ((c.2 * g3) * (d.2 * g4)) := by ac_rfl
  have e2 : (c.1 * d.2 - d.1 * c.2) * (a.2 * b.2) * ((g1 * g2) * (g3 * g4)) = ((c.1 * d.2 - d.1 * c.2) * (g3 * g4)) * ((a.2 * g1) * (b.2 * g2)) := by ac_rfl
  have q1 : a.1 * b.2 * (g1 * g2) = (a.1 * g1) * (b.2 * g2) := by ac_rfl
  have q2 : b.1 * a.2 * (g1 * g2) = (b.1 * g2) * (a.2 * g1) := by ac_rfl
  have q3 : c.1 * d.2 * (g3 * g4) = (c.1 * g3) * (d.2 * g4) := by ac_rfl
  have q4 : d.1 * c.2 * (g3 * g4) = (d.1 * g4) * (c.2 * g3) := by ac_rfl
  rw [e1, e2, Int.sub_mul (a.1 * b.2), Int.sub_mul (c.1 * d.2), q1, q2, q3, q4, a1, a2, b1, b2, c1, c2, d1, d2, ← Int.sub_mul, ← Int.sub_mul, h]

/-! ### What is told -/
structure Told (f : List Pt) (t : Int × Int) : Prop where
  of : okF f
  ot : okR t
  T : toldF f t f.length
theorem Told.gap {f : List Pt} {t : Int × Int} (w : Told f t) {i k : Nat} (hi : i < f.length) (hk : k < f.length) (h : (gapD f t i k).2 = 0) : okR (gapD f t i k).1 ∧ (gapD f t i k).1.1 * t.2 = (valP (sP f t i) t - valP (sP f t k) t) * (gapD f t i k).1.2 := gapD_ok w.of w.ot hi hk (w.T i hi) (w.T k hk) h
/-- Distances are compared as what they are. -/
theorem Told.le {f : List Pt} {t : Int × Int} (w : Told f t) {i k j m : Nat} (hi : i < f.length) (hk : k < f.length) (hj : j < f.length) (hm : m < f.length) (h1 : (gapD f t i k).2 = 0) (h2 : (gapD f t j m).2 = 0) : leR (gapD f t i k).1 (gapD f t j m).1 ↔ valP (sP f t i) t - valP (sP f t k) t ≤ valP (sP f t j) t - valP (sP f t m) t := by
  obtain ⟨o1, e1⟩ := w.gap hi hk h1
  obtain ⟨o2, e2⟩ := w.gap hj hm h2
  generalize (gapD f t i k).1 = a at *
  generalize (gapD f t j m).1 = b at *
  generalize valP (sP f t i) t - valP (sP f t k) t = V at *
  generalize valP (sP f t j) t - valP (sP f t m) t = U at *
  have ht : 0 < t.2 := w.ot.d1
  have pa := o1.d1; have pb := o2.d1
  unfold leR
  have x1 : a.1 * b.2 * t.2 = V * (a.2 * b.2) := by rw [Int.mul_right_comm, e1]; ac_rfl
  have x2 : b.1 * a.2 * t.2 = U * (a.2 * b.2) := by rw [Int.mul_right_comm, e2]; ac_rfl
  have pp : 0 < a.2 * b.2 := Int.mul_pos pa pb
  constructor
  · intro h
    have := Int.mul_le_mul_of_nonneg_right h (show 0 ≤ t.2 by omega)
    rw [x1, x2] at this
    exact Int.le_of_mul_le_mul_right this pp
  · intro h
    have := Int.mul_le_mul_of_nonneg_right h (show 0 ≤ a.2 * b.2 by omega)
    rw [← x1, ← x2] at this
    exact Int.le_of_mul_le_mul_right this ht
/-- All pairs whose distance is told. -/
def toldAll (f : List Pt) (t : Int × Int) : List Pr := (allP (fun i k => (prM f t i k, (gapD f t i k).2)) f.length f.length).filterMap fun x => if x.2 = 0 then some x.1 else none
theorem mem_toldAll {f : List Pt} {t : Int × Int} {p : Pr} : p ∈ toldAll f t ↔ ∃ i k, i < k ∧ k < f.length ∧ (gapD f t i k).2 = 0 ∧ p = prM f t i k := by
  unfold toldAll
  rw [List.mem_filterMap]
  constructor
  · rintro ⟨x, hx, he⟩
    obtain ⟨a, b, h0, h1, h2, rfl⟩ := mem_allP.1 hx
    split at he
    · rename_i hz
      exact ⟨a, b, h1, h2, hz, (Option.some.inj he).symm⟩
    · cases he
  · rintro ⟨i, k, h1, h2, h3, rfl⟩
    exact ⟨(prM f t i k, (gapD f t i k).2), mem_allP.2 ⟨i, k, by omega, h1, h2, rfl⟩, if_pos h3⟩
theorem Told.okPr {f : List Pt} {t : Int × Int} (w : Told f t) : ∀ p ∈ toldAll f t, okPr p := fun p hp => by
  obtain ⟨i, k, h1, h2, h3, rfl⟩ := mem_toldAll.1 hp
  exact (w.gap (by omega) h2 h3).1
/-- Neighbours are told. -/
def nearT (f : List Pt) (t : Int × Int) : Prop := ∀ i, i < f.length - 1 → (gapD f t i (i + 1)).2 = 0
instance (f : List Pt) (t : Int × Int) : Decidable (nearT f t) := inferInstanceAs (Decidable (∀ i, i < _ → _))
def nearP (f : List Pt) (t : Int × Int) : List Pr := nbrP (prM f t) (f.length - 1)
/-- Behind a pair that is not told, or is farther than the best one, there is none closer. -/
theorem Told.rest {f : List Pt} {t : Int × Int} (w : Told f t) (hn : nearT f t) {B : Pr} (hB : B ∈ toldAll f t) (hb : ∀ p ∈ nearP f t, leR B.2.2 p.2.2) {i k m : Nat} (hik : i < k) (hkm : k ≤ m) (hm : m < f.length) (h : (gapD f t i k).2 ≠ 0 ∨ ¬ leR (gapD f t i k).1 B.2.2) (hz : (gapD f t i m).2 = 0) : clP (prM f t i m) B = false := by
  obtain ⟨a, b, h1, h2, h3, rfl⟩ := mem_toldAll.1 hB
  have mono : ∀ {x y : Nat}, x ≤ y → y < f.length → valP (sP f t y) t ≤ valP (sP f t x) t := fun {x y} hxy hy => by
    rcases Nat.lt_or_ge x y with q | q
    · exact sP_val w.of q hy
    · rw [show x = y by omega]; exact Int.le_refl _
  have v1 := mono hkm hm
  have v2 := mono (show i + 1 ≤ k by omega) (by omega)
  have zn := hn i (by omega)
  have l1 : leR (gapD f t a b).1 (gapD f t i (i + 1)).1 := hb _ (mem_nbrP.2 ⟨i, by omega, rfl⟩)
  rw [w.le (by omega) h2 (by omega) (by omega) h3 zn] at l1
  have far : ¬ leR (gapD f t i m).1 (gapD f t a b).1 := by
    rcases h with h | h
    · intro hle
      rw [w.le (by omega) hm (by omega) h2 hz h3] at hle
      apply h
      rw [gapD_same w.of w.ot (i := i) (k := k) (j := i) (m := i + 1) (by omega) (by omega) (by omega) (by omega) w.T (by omega)]
      exact zn
    · intro hle
      by_cases hk0 : (gapD f t i k).2 = 0
      · have h : ¬ leR (gapD f t i k).1 (gapD f t a b).1 := h
        rw [w.le (by omega) (by omega) (by omega) h2 hk0 h3] at h
        rw [w.le (by omega) hm (by omega) h2 hz h3] at hle
        omega
      · rw [w.le (by omega) hm (by omega) h2 hz h3] at hle
        apply hk0
        rw [gapD_same w.of w.ot (i := i) (k := k) (j := i) (m := i + 1) (by omega) (by omega) (by omega) (by omega) w.T (by omega)]
        exact zn
  rw [clP_no]
  exact ⟨(leR_total _ _).resolve_right far, fun x => absurd x far⟩
/-- All pairs. -/
def allT (f : List Pt) (t : Int × Int) : Prop := ∀ k, k < f.length → ∀ i, i < k → (gapD f t i k).2 = 0
instance (f : List Pt) (t : Int × Int) : Decidable (allT f t) := inferInstanceAs (Decidable (∀ k, k < _ → ∀ i, i < k → _))
end Go.Proofs.YtkemdpobjaiolaaGreat
end
