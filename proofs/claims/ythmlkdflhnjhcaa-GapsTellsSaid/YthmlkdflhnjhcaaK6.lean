/- When a gap closes: both functions. Conditions: none. -/
import Derived.Test.YthmlkdflhnjhcaaK5
import Derived.Test.YthmlkdflhnjhcaaVgGaps
import Derived.Test.YthmlkdflhnjhcaaFs
set_option linter.unusedVariables false
set_option maxRecDepth 100000
open Go Go.Eng Go.Proofs
namespace Go.Proofs.Ythmlkdflhnjhcaa

def closesM (g : Gp) (t : Int × Int) : (Int × Int) × Int :=
  if okGp g ∧ okR t then (if 0 ≤ g.b ∨ g.a * t.2 + g.b * t.1 ≤ 0 then ((0, 0), 6) else makeM (-g.a) g.b) else ((0, 0), 8)

theorem askM_bad {g : Gp} {t : Int × Int} (h : ¬ (okGp g ∧ okR t)) : askM g t = 8 := by unfold askM; rw [if_neg h]
theorem cmpI_le {x y : Int} : cmpI x y ≤ 0 ↔ x ≤ y := by
  unfold cmpI
  split
  · simp; omega
  · split
    · simp; omega
    · simp; omega

theorem gapsCloses {H : Hp} {g : Gp} {t : Int × Int} (ht : fitR t) : Qf Try.prog F.gaps_Closes #[gpV g, .agg #[.int .i64 t.1, .int .i64 t.2]] H (.tuple #[.agg #[.int .i64 (closesM g t).1.1, .int .i64 (closesM g t).1.2], .int .i64 (closesM g t).2]) := by
  refine gaps_Closes_vc ⟨_, gapsAsk ht, fun hc => ?_, fun hc => ?_⟩
  · have h : ¬ (okGp g ∧ okR t) := fun x => by rw [askM_ok x.1 x.2] at hc; simp at hc
    unfold closesM
    rw [if_neg h, askM_bad h]; exact ⟨rfl, Hp.le_refl _⟩
  · have ok : okGp g ∧ okR t := askM_zero.1 (by simpa using hc)
    obtain ⟨o1, o2, o3, o4, o5, o6, o7, o8, o9⟩ := ok.1
    unfold closesM
    rw [if_pos ok]
    refine ⟨fun hb => ?_, fun hb => ?_⟩
    · have hb : 0 ≤ g.b := by simpa using hb
      rw [if_pos (.inl hb)]; exact ⟨rfl, Hp.le_refl _⟩
    · have hb : g.b < 0 := by have : ¬ 0 ≤ g.b := (by simpa using hb); omega
      obtain ⟨x, y, q, hq, hm, hx, hy, okxy⟩ := makeNeg o6 o7 o8 hb
      have rm := ratioMake (H := H) (n := -g.a) (d := g.b) (by unfold inI; omega) (by unfold inI; omega)
      rw [hm] at rm
      rw [show 0 - g.a = -g.a by omega]
      have hcl := close_sign (t := t) hq hx hy
      have rc := ratioCmp (H := H) (a := (x, y)) (b := t) okxy.fit ht
      have ec : cmpM (x, y) t = (cmpI (x * t.2) (t.1 * y), 0) := by unfold cmpM; rw [if_pos ⟨okxy, ok.2⟩]; rfl
      rw [ec] at rc
      refine ⟨by unfold inI; omega, _, _, _, rm, _, _, rc, fun hh => ?_, fun hh => ?_⟩
      · have hh : cmpI (x * t.2) (t.1 * y) ≤ 0 := by simpa using hh
        rw [if_pos (.inr (hcl.1 (cmpI_le.1 hh)))]; exact ⟨rfl, Hp.le_refl _⟩
      · have hh : ¬ cmpI (x * t.2) (t.1 * y) ≤ 0 := by simpa using hh
        rw [if_neg (by rintro (h | h); · omega
                       · exact hh (cmpI_le.2 (hcl.2 h))), hm]
        exact ⟨rfl, Hp.le_refl _⟩

theorem refGSign {H : Hp} {g : Gp} {t : Int × Int} (hg : okGp g) (ht : okR t) : Qf Try.prog F.pelotonref27_sign #[gpV g, .agg #[.int .i64 t.1, .int .i64 t.2]] H (.int .i64 (sgn (g.a * t.2 + g.b * t.1))) := by
  obtain ⟨o1, o2, o3, o4, o5, o6, o7, o8, o9⟩ := hg
  have f := ht.fit
  have small : ∀ {u v : Int}, -2097152 ≤ u → u ≤ 2097152 → inI v → absI (u * v) < 85070591730234615865843651857942052864 := fun {u v} h1 h2 hv => by
    have hu : absI u ≤ 2097152 := by unfold absI; split <;> omega
    have pu : 0 ≤ absI u := by unfold absI; split <;> omega
    have hb := absB hv
    rw [← absI_mul]
    have := Int.mul_le_mul hu hb.2 hb.1 (by omega)
    omega
  obtain ⟨c1, h1, l1, q1, b1⟩ := refProduct (H := H) (a := g.a) (b := t.2) (by unfold inI; omega) f.2
  obtain ⟨c2, h2, l2, q2, b2⟩ := refProduct (H := H) (a := g.b) (b := t.1) (by unfold inI; omega) f.1
  obtain ⟨c3, h3, l3, q3, b3⟩ := refPlus (H := H) b1 b2 (small o6 o7 f.2) (small o8 o9 f.1)
  exact pelotonref27_sign_vc ⟨_, _, _, q1, _, _, _, q2, _, _, _, q3, _, refSign b3, rfl, Hp.le_refl _⟩

theorem refCloses {H : Hp} {g : Gp} {t : Int × Int} (ht : fitR t) : Qf Try.prog F.pelotonref27_Closes #[gpV g, .agg #[.int .i64 t.1, .int .i64 t.2]] H (.tuple #[.agg #[.int .i64 (closesM g t).1.1, .int .i64 (closesM g t).1.2], .int .i64 (closesM g t).2]) := by
  refine pelotonref27_Closes_vc ⟨_, refAsk ht, fun hc => ?_, fun hc => ?_⟩
  · have h : ¬ (okGp g ∧ okR t) := fun x => by rw [askM_ok x.1 x.2] at hc; simp at hc
    unfold closesM
    rw [if_neg h, askM_bad h]; exact ⟨rfl, Hp.le_refl _⟩
  · have ok : okGp g ∧ okR t := askM_zero.1 (by simpa using hc)
    obtain ⟨o1, o2, o3, o4, o5, o6, o7, o8, o9⟩ := ok.1
    unfold closesM
    rw [if_pos ok]
    have sg : sgn (g.a * t.2 + g.b * t.1) ≤ 0 ↔ g.a * t.2 + g.b * t.1 ≤ 0 := by
      generalize g.a * t.2 + g.b * t.1 = v
      unfold sgn
      split
      · simp; omega
      · split
        · simp; omega
        · simp; omega
    refine ⟨_, fun _ => refGSign ok.1 ok.2, fun hb => ?_, fun hb => ?_⟩
    · simp only [Bool.or_eq_true, decide_eq_true_eq] at hb
      rw [if_pos (hb.imp (fun h => h) sg.1)]; exact ⟨rfl, Hp.le_refl _⟩
    · simp only [Bool.or_eq_false_iff, decide_eq_false_iff_not] at hb
      rw [if_neg (fun h => h.elim (fun h => hb.1 h) fun h => hb.2 (sg.2 h)), show 0 - g.a = -g.a by omega]
      exact ⟨by unfold inI; omega, _, _, _, refMake (by unfold inI; omega) (by unfold inI; omega), rfl, Hp.le_refl _⟩
end Go.Proofs.Ythmlkdflhnjhcaa
