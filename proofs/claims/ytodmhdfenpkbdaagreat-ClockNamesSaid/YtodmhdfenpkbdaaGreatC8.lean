/- The laws CertBack, CertOne. Conditions: none. -/
import Derived.Test.YtodmhdfenpkbdaaGreatC7
set_option linter.unusedVariables false
set_option maxRecDepth 100000
open Go Go.Eng Go.Proofs
namespace Go.Proofs.YtodmhdfenpkbdaaGreat

theorem okL.up {nx : Int} {l : List (Int × Int × Int)} (h : okL nx l) : okL (nx + 1) l := ⟨fun x hx => by have := h.each x hx; exact ⟨this.1, this.2.1, by omega⟩, h.inc, h.dist⟩

theorem okC_add {c : Ct} {x : Int × Int} (ok : okC c) (hx : validC x = true) (hh : hasC c x = false) (h1 : c.list.length < 200) (h2 : c.next < 1000000) : okC ⟨c.next + 1, c.list ++ [(c.next, x)]⟩ := by
  have := ok.n0
  refine ⟨by simp; omega, by show 0 ≤ c.next + 1; omega, by show c.next + 1 ≤ 1000000; omega, okL.snoc.2 ⟨okL.up ok.ok, hx, this, by show c.next < c.next + 1; omega, fun y hy => (ok.ok.each y hy).2.2, fun hm => ?_⟩⟩
  obtain ⟨y, hy, e⟩ := List.mem_map.1 hm
  have : hasC c x = true := List.any_eq_true.2 ⟨y, hy, by rw [beq_iff_eq]; exact e⟩
  rw [hh] at this; cases this

theorem okC_without {c : Ct} (ok : okC c) (n : Int) : okC (withoutC c n) := by
  have hs : (withoutC c n).list.Sublist c.list := List.filter_sublist
  have := hs.length_le
  have := ok.len
  exact ⟨by omega, ok.n0, ok.n1, fun x hx => ok.ok.each x (hs.subset hx), ok.ok.inc.sublist hs, ok.ok.dist.sublist (hs.map _)⟩

/-- What follows from a certificate's being added. -/
theorem addC_facts {c : Ct} {x : Int × Int} (h : (addC c x).2.2 = 0) : okC c ∧ validC x = true ∧ hasC c x = false ∧ c.list.length < 200 ∧ c.next < 1000000 ∧ addC c x = (⟨c.next + 1, c.list ++ [(c.next, x)]⟩, c.next, 0) := by
  unfold addC at *
  split at h
  · rename_i h1
    rw [if_pos h1]
    split at h
    · cases h
    · rename_i h2
      rw [if_neg h2]
      split at h
      · cases h
      · rename_i h3
        rw [if_neg h3]
        have := h1.1.len; have := h1.1.n1
        exact ⟨h1.1, h1.2, by simpa using h2, by omega, by omega, rfl⟩
  · cases h

theorem farV_swap (p q : Pt) (t : Int × Int) : farV q p t = - farV p q t := by
  unfold farV
  have e1 : (q.2.1 - p.2.1) * t.2 = -((p.2.1 - q.2.1) * t.2) := by rw [← Int.neg_mul]; congr 1; omega
  have e2 : (q.2.2 - p.2.2) * t.1 = -((p.2.2 - q.2.2) * t.1) := by rw [← Int.neg_mul]; congr 1; omega
  rw [e1, e2]; omega
theorem leads_swap {p q : Pt} (t : Int × Int) (h : p.1 ≠ q.1) : leads q p t = !leads p q t := by
  unfold leads
  rw [farV_swap p q t]
  by_cases h1 : farV p q t = 0
  · rw [if_neg (show ¬ (-farV p q t ≠ 0) by omega), if_neg (show ¬ (farV p q t ≠ 0) by omega)]
    by_cases h2 : p.2.2 = q.2.2
    · rw [if_neg (show ¬ (q.2.2 ≠ p.2.2) by omega), if_neg (show ¬ (p.2.2 ≠ q.2.2) by omega), Bool.eq_iff_iff, Bool.not_eq_true', decide_eq_true_eq, decide_eq_false_iff_not]; omega
    · rw [if_pos (show q.2.2 ≠ p.2.2 by omega), if_pos (show p.2.2 ≠ q.2.2 by omega), Bool.eq_iff_iff, Bool.not_eq_true', decide_eq_true_eq, decide_eq_false_iff_not]; omega
  · rw [if_pos (show -farV p q t ≠ 0 by omega), if_pos h1, Bool.eq_iff_iff, Bool.not_eq_true', decide_eq_true_eq, decide_eq_false_iff_not]; omega

end Go.Proofs.YtodmhdfenpkbdaaGreat
