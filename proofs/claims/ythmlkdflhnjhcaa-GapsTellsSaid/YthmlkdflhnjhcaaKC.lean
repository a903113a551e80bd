/- The law GapsTells. Conditions: none. -/
import Derived.Test.YthmlkdflhnjhcaaKB
import Derived.Test.YthmlkdflhnjhcaaVgGaps
import Derived.Test.YthmlkdflhnjhcaaVgLGapsTells
import Derived.Test.YthmlkdflhnjhcaaFs
set_option linter.unusedVariables false
set_option maxRecDepth 100000
open Go Go.Eng Go.Proofs
namespace Go.Proofs.Ythmlkdflhnjhcaa

theorem buildM_fit {c : Bool} {N D : Int} (hN : 0 ≤ N) (hD : 0 ≤ D) : fitR (buildM c N D).1 := by
  unfold buildM
  split
  · exact ⟨by show inI 0; unfold inI; omega, by show inI 0; unfold inI; omega⟩
  · refine ⟨?_, by show inI D; unfold inI; omega⟩
    show inI (if c = true then 0 - N else N)
    split <;> (unfold inI; omega)
theorem absI_nn (v : Int) : 0 ≤ absI v := by unfold absI; split <;> omega
theorem mulM_fit {a b : Int × Int} : fitR (mulM a b).1 := by
  unfold mulM
  split
  · rename_i h
    have d1 := h.1.d1; have d2 := h.1.d2; have d3 := h.2.d1; have d4 := h.2.d2
    have ga := gA_pos (a := a) h.2
    have gb := gA_pos (a := b) h.1
    exact buildM_fit (absI_nn _) (Int.mul_nonneg (Int.ediv_nonneg (by omega) (by omega)) (Int.ediv_nonneg (by omega) (by omega)))
  · exact ⟨by show inI 0; unfold inI; omega, by show inI 0; unfold inI; omega⟩

def atM (g : Gp) (t : Int × Int) : (Int × Int) × Int :=
  if okGp g ∧ okR t then (if (mulM (g.b, 1) t).2 = 0 then addW g.a (mulM (g.b, 1) t).1 else ((0, 0), (mulM (g.b, 1) t).2)) else ((0, 0), 8)

theorem gapsAt {H : Hp} {g : Gp} {t : Int × Int} (ht : fitR t) : Qf Try.prog F.gaps_At #[gpV g, .agg #[.int .i64 t.1, .int .i64 t.2]] H (.tuple #[.agg #[.int .i64 (atM g t).1.1, .int .i64 (atM g t).1.2], .int .i64 (atM g t).2]) := by
  refine gaps_At_vc ⟨_, gapsAsk ht, fun hc => ?_, fun hc => ?_⟩
  · have h : ¬ (okGp g ∧ okR t) := fun x => by rw [askM_ok x.1 x.2] at hc; simp at hc
    unfold atM
    rw [if_neg h, askM_bad h]; exact ⟨rfl, Hp.le_refl _⟩
  · have ok : okGp g ∧ okR t := askM_zero.1 (by simpa using hc)
    obtain ⟨o1, o2, o3, o4, o5, o6, o7, o8, o9⟩ := ok.1
    unfold atM
    rw [if_pos ok]
    refine ⟨_, _, _, ratioMul (a := (g.b, 1)) (okW o8 o9).fit ht, fun hb => ?_, fun hb => ?_⟩
    · have hb : (mulM (g.b, 1) t).2 ≠ 0 := by simpa using hb
      rw [if_neg hb]; exact ⟨rfl, Hp.le_refl _⟩
    · have hb : (mulM (g.b, 1) t).2 = 0 := by simpa using hb
      rw [if_pos hb]
      exact ⟨_, _, _, ratioAdd1 o6 o7 mulM_fit, rfl, Hp.le_refl _⟩
theorem refAt {H : Hp} {g : Gp} {t : Int × Int} (ht : fitR t) : Qf Try.prog F.pelotonref27_At #[gpV g, .agg #[.int .i64 t.1, .int .i64 t.2]] H (.tuple #[.agg #[.int .i64 (atM g t).1.1, .int .i64 (atM g t).1.2], .int .i64 (atM g t).2]) := by
  refine pelotonref27_At_vc ⟨_, refAsk ht, fun hc => ?_, fun hc => ?_⟩
  · have h : ¬ (okGp g ∧ okR t) := fun x => by rw [askM_ok x.1 x.2] at hc; simp at hc
    unfold atM
    rw [if_neg h, askM_bad h]; exact ⟨rfl, Hp.le_refl _⟩
  · have ok : okGp g ∧ okR t := askM_zero.1 (by simpa using hc)
    obtain ⟨o1, o2, o3, o4, o5, o6, o7, o8, o9⟩ := ok.1
    unfold atM
    rw [if_pos ok]
    refine ⟨_, _, _, refMul (a := (g.b, 1)) (okW o8 o9).fit ht, fun hb => ?_, fun hb => ?_⟩
    · have hb : (mulM (g.b, 1) t).2 ≠ 0 := by simpa using hb
      rw [if_neg hb]; exact ⟨rfl, Hp.le_refl _⟩
    · have hb : (mulM (g.b, 1) t).2 = 0 := by simpa using hb
      rw [if_pos hb]
      exact ⟨_, _, _, refAdd1 o6 o7 mulM_fit, rfl, Hp.le_refl _⟩

theorem gapsTells {H : Hp} {g : Gp} {t : Int × Int} (ht : fitR t) : Qf Try.prog F.pelotonlaw27_GapsTells #[gpV g, .agg #[.int .i64 t.1, .int .i64 t.2]] H (.bool true) := by
  refine pelotonlaw27_GapsTells_vc ⟨_, _, _, gapsAt ht, _, _, _, refAt ht, _, _, _, gapsCloses ht, _, _, _, refCloses ht, _, gapsCheck, _, refGapCheck, ?_, Hp.le_refl _⟩
  simp
end Go.Proofs.Ythmlkdflhnjhcaa
