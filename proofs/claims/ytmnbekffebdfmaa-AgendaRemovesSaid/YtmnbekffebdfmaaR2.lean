/- Contracts of course and pelotonref01, 02. Conditions: none. -/
import Derived.Test.YtmnbekffebdfmaaR1
import Derived.Test.YtmnbekffebdfmaaFN
import Derived.Test.YtmnbekffebdfmaaVgBase
import Derived.Test.YtmnbekffebdfmaaFs
set_option linter.unusedVariables false
set_option maxRecDepth 100000
open Go Go.Eng Go.Proofs
namespace Go.Proofs.Ytmnbekffebdfmaa

theorem bneB {c d : Bool} (h : ¬ c = d) : (c = true → d = false) ∧ (c = false → d = true) := by
  revert h; cases c <;> cases d <;> simp

theorem refProd {H : Hp} {x y : Int} (hx : 0 ≤ x) (hx' : x < 18446744073709551616) (hy : 0 ≤ y) (hy' : y < 18446744073709551616) :
    Qf Try.prog F.pelotonref01_product #[.int .u64 x, .int .u64 y] H (.agg #[.bool false, .int .u64 (x * y / 18446744073709551616), .int .u64 (x * y % 18446744073709551616)]) := by
  refine pelotonref01_product_vc ⟨by unfold nz; omega, by unfold nz; omega, by unfold nz; omega, by unfold nz; omega, by unfold nz; omega, by unfold nz; omega, by unfold nz; omega, by unfold nz; omega, by unfold nz; omega, by unfold nz; omega, ?_, Hp.le_refl _⟩
  rw [tdH hx, tdH hy, tmH hx, tmH hy]
  simp only [twd, twm]
  rw [(prodHi hx hx' hy hy').1, (prodHi hx hx' hy hy').2]

theorem refProduct {H : Hp} {a b : Int} (ha : inI a) (hb : inI b) : ∃ c h l, Qf Try.prog F.pelotonref01_Product #[.int .i64 a, .int .i64 b] H (.agg #[.bool c, .int .u64 h, .int .u64 l]) ∧ BigV c h l (a * b) := by
  have h1 := absB ha; have h2 := absB hb
  have hm := mulB h1.1 h1.2 h2.1 h2.2
  refine ⟨_, _, _, pelotonref01_Product_vc ⟨_, refSize ha, _, refSize hb, _, _, _, refProd (by omega) (by omega) (by omega) (by omega), rfl, Hp.le_refl _⟩, ?_⟩
  rw [absI_mul] at hm ⊢
  have key : (!(decide (a < 0) == decide (b < 0)) && (a != 0 && b != 0)) = decide (a * b < 0) := by
    rw [Bool.eq_iff_iff, decide_eq_true_eq, mul_neg_iff]
    simp only [Bool.and_eq_true, Bool.not_eq_true', beq_eq_false_iff_ne, bne_iff_ne]
    by_cases x : a < 0 <;> by_cases y : b < 0 <;> simp [x, y] <;> omega
  rw [key]
  generalize a * b = v at *
  refine ⟨by omega, by omega, by omega, by omega, fun h => ?_, fun h => ?_⟩
  · have h : v < 0 := by simpa using h
    refine ⟨h, ?_⟩
    have : absI v = -v := by unfold absI; rw [if_pos h]
    omega
  · have h : ¬ v < 0 := by simpa using h
    have : absI v = v := by unfold absI; rw [if_neg h]
    omega

theorem refLess {H : Hp} {c d : Bool} {h1 l1 h2 l2 : Int} (a0 : 0 ≤ l1) (a1 : l1 < 18446744073709551616) (b0 : 0 ≤ l2) (b1 : l2 < 18446744073709551616) :
    Qf Try.prog F.pelotonref01_less #[.agg #[.bool c, .int .u64 h1, .int .u64 l1], .agg #[.bool d, .int .u64 h2, .int .u64 l2]] H (.int .i64 (cmpI (h1 * 18446744073709551616 + l1) (h2 * 18446744073709551616 + l2))) := by
  refine pelotonref01_less_vc ⟨fun hc => ⟨fun hl => ⟨?_, Hp.le_refl _⟩, fun hl => ⟨?_, Hp.le_refl _⟩⟩, fun hc => ⟨fun hl => ⟨fun hx => ⟨?_, Hp.le_refl _⟩, fun hx => ⟨?_, Hp.le_refl _⟩⟩, fun hl => ⟨?_, Hp.le_refl _⟩⟩⟩
  · simp at hc hl; unfold cmpI; rw [if_pos (by omega)]
  · simp at hc hl; unfold cmpI; rw [if_neg (by omega), if_pos (by omega)]
  · simp at hc hl hx; unfold cmpI; rw [if_pos (by omega)]
  · simp at hc hl hx; unfold cmpI; rw [if_neg (by omega), if_pos (by omega)]
  · simp at hc hl; unfold cmpI; rw [if_neg (by omega), if_neg (by omega)]

theorem refMinus {H : Hp} {c d : Bool} {h1 l1 h2 l2 : Int} (a0 : 0 ≤ l1) (a1 : l1 < 18446744073709551616) (b0 : 0 ≤ l2) (b1 : l2 < 18446744073709551616) (a2 : 0 ≤ h1) (a3 : h1 < 18446744073709551616) (b2 : 0 ≤ h2) (b3 : h2 < 18446744073709551616)
    (hv : h2 * 18446744073709551616 + l2 ≤ h1 * 18446744073709551616 + l1) :
    ∃ h l, Qf Try.prog F.pelotonref01_minus #[.agg #[.bool c, .int .u64 h1, .int .u64 l1], .agg #[.bool d, .int .u64 h2, .int .u64 l2]] H (.agg #[.bool false, .int .u64 h, .int .u64 l]) ∧
      0 ≤ h ∧ h < 18446744073709551616 ∧ 0 ≤ l ∧ l < 18446744073709551616 ∧ h * 18446744073709551616 + l = (h1 * 18446744073709551616 + l1) - (h2 * 18446744073709551616 + l2) := by
  by_cases hl : l1 < l2
  · refine ⟨_, _, pelotonref01_minus_vc ⟨fun _ => ⟨rfl, Hp.le_refl _⟩, fun hc => by simp at hc; omega⟩, ?_⟩
    unfold wrapU; omega
  · refine ⟨_, _, pelotonref01_minus_vc ⟨fun hc => by simp at hc; omega, fun _ => ⟨rfl, Hp.le_refl _⟩⟩, ?_⟩
    unfold wrapU; omega

theorem refPlus {H : Hp} {c d : Bool} {h1 l1 h2 l2 v1 v2 : Int} (b1 : BigV c h1 l1 v1) (b2 : BigV d h2 l2 v2) (r1 : absI v1 < 85070591730234615865843651857942052864) (r2 : absI v2 < 85070591730234615865843651857942052864) :
    ∃ e h l, Qf Try.prog F.pelotonref01_Plus #[.agg #[.bool c, .int .u64 h1, .int .u64 l1], .agg #[.bool d, .int .u64 h2, .int .u64 l2]] H (.agg #[.bool e, .int .u64 h, .int .u64 l]) ∧ BigV e h l (v1 + v2) := by
  by_cases hcd : c = d
  · subst hcd
    obtain ⟨k1, k2⟩ := b1.add b2 r1 r2
    by_cases hl : wrapU (l1 + l2) < l1
    · exact ⟨_, _, _, pelotonref01_Plus_vc ⟨fun _ => ⟨fun _ => ⟨rfl, Hp.le_refl _⟩, fun hx => by simp at hx; omega⟩, fun hx => by simp at hx⟩, k1 hl⟩
    · exact ⟨_, _, _, pelotonref01_Plus_vc ⟨fun _ => ⟨fun hx => by simp at hx; omega, fun _ => ⟨rfl, Hp.le_refl _⟩⟩, fun hx => by simp at hx⟩, k2 hl⟩
  · have b1' := b1; have b2' := b2
    obtain ⟨p0, p1, p2, p3, p4, p5⟩ := b1'
    obtain ⟨q0, q1, q2, q3, q4, q5⟩ := b2'
    have hle := refLess (H := H) (c := c) (d := d) (h1 := h1) (l1 := l1) (h2 := h2) (l2 := l2) p2 p3 q2 q3
    by_cases hv : h2 * 18446744073709551616 + l2 ≤ h1 * 18446744073709551616 + l1
    · obtain ⟨h, l, hq, g0, g1, g2, g3, g4⟩ := refMinus (H := H) (c := c) (d := d) p2 p3 q2 q3 p0 p1 q0 q1 hv
      refine ⟨_, _, _, pelotonref01_Plus_vc ⟨fun hx => by simp at hx; exact absurd hx hcd, fun _ => ⟨_, hle, fun _ => ⟨_, _, _, hq, rfl, Hp.le_refl _⟩, fun hx => ?_⟩⟩, ?_⟩
      · have : cmpI (h1 * 18446744073709551616 + l1) (h2 * 18446744073709551616 + l2) < 0 := by simpa using hx
        rw [cmpI_lt] at this; omega
      · refine ⟨g0, g1, g2, g3, fun hx => ?_, fun hx => ?_⟩
        · simp only [Bool.and_eq_true, Bool.or_eq_true, decide_eq_true_eq] at hx
          have hc := hx.1
          subst hc
          have hd : d = false := (bneB hcd).1 rfl
          subst hd
          have := p4 rfl; have := q5 rfl
          omega
        · cases c
          · have hd : d = true := (bneB hcd).2 rfl
            subst hd
            have := p5 rfl; have := q4 rfl
            omega
          · have hd : d = false := (bneB hcd).1 rfl
            subst hd
            have := p4 rfl; have := q5 rfl
            simp at hx
            omega
    · obtain ⟨h, l, hq, g0, g1, g2, g3, g4⟩ := refMinus (H := H) (c := d) (d := c) q2 q3 p2 p3 q0 q1 p0 p1 (by omega)
      refine ⟨_, _, _, pelotonref01_Plus_vc ⟨fun hx => by simp at hx; exact absurd hx hcd, fun _ => ⟨_, hle, fun hx => ?_, fun _ => ⟨_, _, _, hq, rfl, Hp.le_refl _⟩⟩⟩, ?_⟩
      · have : ¬ cmpI (h1 * 18446744073709551616 + l1) (h2 * 18446744073709551616 + l2) < 0 := by simpa using hx
        rw [cmpI_lt] at this; omega
      · refine ⟨g0, g1, g2, g3, fun hx => ?_, fun hx => ?_⟩
        · subst hx
          have hc : c = false := (bneB (fun e => hcd e.symm)).1 rfl
          subst hc
          have := p5 rfl; have := q4 rfl
          omega
        · subst hx
          have hc : c = true := (bneB (fun e => hcd e.symm)).2 rfl
          subst hc
          have := p4 rfl; have := q5 rfl
          omega

theorem refSign {H : Hp} {c : Bool} {h l v : Int} (b : BigV c h l v) : Qf Try.prog F.pelotonref01_Sign #[.agg #[.bool c, .int .u64 h, .int .u64 l]] H (.int .i64 (sgn v)) := by
  obtain ⟨p0, p1, p2, p3, p4, p5⟩ := b
  refine pelotonref01_Sign_vc ⟨fun hc => ⟨?_, Hp.le_refl _⟩, fun hc => ⟨fun hn => ⟨?_, Hp.le_refl _⟩, fun hn => ⟨?_, Hp.le_refl _⟩⟩⟩
  · simp at hc
    have : v = 0 := by
      cases c
      · have := p5 rfl; omega
      · have := p4 rfl; omega
    subst this; rfl
  · subst hn; have := p4 rfl; unfold sgn; rw [if_pos this.1]
  · subst hn; have := p5 rfl
    simp at hc
    unfold sgn; rw [if_neg (by omega), if_pos (by omega)]

theorem refCompareR {H : Hp} {a b : Int × Int} (ha : okR a) (hb : okR b) : Qf Try.prog F.pelotonref01_Compare #[.agg #[.int .i64 a.1, .int .i64 a.2], .agg #[.int .i64 b.1, .int .i64 b.2]] H (.int .i64 (cmpR a b)) := by
  obtain ⟨c, h, l, q1, b1⟩ := refProduct (H := H) ha.fit.1 hb.fit.2
  obtain ⟨c', h', l', q2, b2⟩ := refProduct (H := H) hb.fit.1 ha.fit.2
  have s1 := refSign (H := H) b1
  have s2 := refSign (H := H) b2
  have p := b1; have p' := b2
  obtain ⟨p0, p1, p2, p3, p4, p5⟩ := p
  obtain ⟨r0, r1, r2, r3, r4, r5⟩ := p'
  unfold cmpR
  refine pelotonref01_Compare_vc ⟨_, _, _, q1, _, _, _, q2, _, s1, _, s2, fun hc => ⟨_, s1, _, s2, fun hx => ⟨?_, Hp.le_refl _⟩, fun hx => ⟨?_, Hp.le_refl _⟩⟩, fun hc => ⟨_, s1, fun hx => ⟨_, refLess r2 r3 p2 p3, ?_, Hp.le_refl _⟩, fun hx => ⟨_, refLess p2 p3 r2 r3, ?_, Hp.le_refl _⟩⟩⟩
  · simp only [bne_iff_ne, decide_eq_true_eq] at hc hx
    unfold sgn at hx hc
    unfold cmpI
    rw [if_pos]
    split at hx <;> split at hx <;> omega
  · simp only [bne_iff_ne, decide_eq_false_iff_not] at hc hx
    unfold sgn at hx hc
    unfold cmpI
    rw [if_neg, if_pos]
    · split at hx <;> split at hx <;> omega
    · split at hx <;> split at hx <;> omega
  · simp only [bne_eq_false_iff_eq, decide_eq_true_eq] at hc hx
    have v1 : a.1 * b.2 < 0 := by unfold sgn at hx; split at hx <;> omega
    have v2 : b.1 * a.2 < 0 := by unfold sgn at hx hc; split at hc <;> split at hc <;> omega
    have e1 : c = true := by cases c; · have := p5 rfl; omega
                             · rfl
    have e2 : c' = true := by cases c'; · have := r5 rfl; omega
                              · rfl
    rw [(p4 e1).2, (r4 e2).2]
    congr 1
    unfold cmpI
    split
    · rw [if_pos (by omega)]
    · split
      · rw [if_neg (by omega), if_pos (by omega)]
      · rw [if_neg (by omega), if_neg (by omega)]
  · simp only [bne_eq_false_iff_eq, decide_eq_false_iff_not] at hc hx
    have v1 : ¬ a.1 * b.2 < 0 := by intro h; unfold sgn at hx; rw [if_pos h] at hx; omega
    have v2 : ¬ b.1 * a.2 < 0 := by
      intro h; unfold sgn at hx hc; rw [if_neg v1] at hc hx; rw [if_pos h] at hc; split at hc <;> omega
    have e1 : c = false := by cases c; · rfl
                              · have := p4 rfl; omega
    have e2 : c' = false := by cases c'; · rfl
                               · have := r4 rfl; omega
    rw [(p5 e1).2, (r5 e2).2]

/-- The range of what is reckoned with. -/
theorem farR {p q : Pt} {t : Int × Int} (hp : okP p) (hq : okP q) (ht : okR t) :
    absI ((p.2.1 - q.2.1) * t.2) ≤ 19342813113834066795298816 ∧ absI ((p.2.2 - q.2.2) * t.1) ≤ 19342813113834066795298816 ∧ inI (p.2.1 - q.2.1) ∧ inI (p.2.2 - q.2.2) := by
  obtain ⟨_, _, a0, a1, b0, b1⟩ := hp
  obtain ⟨_, _, c0, c1, d0, d1⟩ := hq
  obtain ⟨t1, t2, t3, t4, _⟩ := ht
  refine ⟨?_, ?_, by unfold inI; omega, by unfold inI; omega⟩
  · exact absI_mul_le (m := 2097152) (n := 9223372036854775808) (absI_le (by omega) (by omega)) (absI_le (by omega) (by omega))
  · exact absI_mul_le (m := 2097152) (n := 9223372036854775808) (absI_le (by omega) (by omega)) (absI_le (by omega) (by omega))

theorem refFar {H : Hp} {p q : Pt} {t : Int × Int} (hp : okP p) (hq : okP q) (ht : okR t) :
    Qf Try.prog F.pelotonref02_Far #[.agg #[.int .i64 p.1, .int .i64 p.2.1, .int .i64 p.2.2], .agg #[.int .i64 q.1, .int .i64 q.2.1, .int .i64 q.2.2], .agg #[.int .i64 t.1, .int .i64 t.2]] H (.int .i64 (sgn (farV p q t))) := by
  obtain ⟨r1, r2, i1, i2⟩ := farR hp hq ht
  obtain ⟨c, h, l, q1, b1⟩ := refProduct (H := H) i1 ht.fit.2
  obtain ⟨c', h', l', q2, b2⟩ := refProduct (H := H) i2 ht.fit.1
  obtain ⟨e, h3, l3, q3, b3⟩ := refPlus (H := H) b1 b2 (by omega) (by omega)
  exact pelotonref02_Far_vc ⟨i1, _, _, _, q1, i2, _, _, _, q2, _, _, _, q3, _, refSign b3, rfl, Hp.le_refl _⟩

theorem refLeads {H : Hp} {p q : Pt} {t : Int × Int} (hp : okP p) (hq : okP q) (ht : okR t) :
    Qf Try.prog F.pelotonref02_Leads #[.agg #[.int .i64 p.1, .int .i64 p.2.1, .int .i64 p.2.2], .agg #[.int .i64 q.1, .int .i64 q.2.1, .int .i64 q.2.2], .agg #[.int .i64 t.1, .int .i64 t.2]] H (.bool (leads p q t)) := by
  refine pelotonref02_Leads_vc ⟨_, refFar hp hq ht, fun hc => ⟨?_, Hp.le_refl _⟩, fun hc => ⟨fun hb => ⟨?_, Hp.le_refl _⟩, fun hb => ⟨?_, Hp.le_refl _⟩⟩⟩
  · have hc : sgn (farV p q t) ≠ 0 := by simpa using hc
    unfold leads
    have : farV p q t ≠ 0 := fun e => hc (by rw [e]; rfl)
    rw [if_pos this]
    congr 1
    rw [Bool.eq_iff_iff, decide_eq_true_eq, decide_eq_true_eq]
    unfold sgn
    split
    · omega
    · split <;> omega
  all_goals
    have hc : sgn (farV p q t) = 0 := by simpa using hc
    have e : farV p q t = 0 := by unfold sgn at hc; split at hc; · omega
                                  · split at hc <;> omega
    unfold leads
    rw [if_neg (by omega)]
  · rw [if_pos (by simpa using hb)]
  · rw [if_neg (by simpa using hb)]

theorem refPCheck {H : Hp} {p : Pt} : Qf Try.prog F.pelotonref02_Check #[.agg #[.int .i64 p.1, .int .i64 p.2.1, .int .i64 p.2.2]] H (.int .i64 (chkP p)) := by
  refine pelotonref02_Check_vc ⟨fun hc => ⟨?_, Hp.le_refl _⟩, fun hc => ⟨?_, Hp.le_refl _⟩⟩
  · rw [chkP_bad]
    intro h
    have := h.i0; have := h.i1; have := h.a0; have := h.a1; have := h.b0; have := h.b1
    simp at hc; omega
  · simp at hc
    rw [chkP_ok ⟨by omega, by omega, by omega, by omega, by omega, by omega⟩]
end Go.Proofs.Ytmnbekffebdfmaa
