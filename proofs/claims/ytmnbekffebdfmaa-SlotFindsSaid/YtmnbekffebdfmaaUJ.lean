/- Tables, once more. Conditions: none. -/
import Derived.Test.YtmnbekffebdfmaaUI
set_option linter.unusedVariables false
namespace Go.Eng

theorem newM_small (n : Int) : (newM n).1.small := by
  unfold newM
  split
  · simp [Tb.zero, Tb.small]
  · simp [beginT, Tb.small]; omega
theorem takeM_small {t : Tb} (h : t.small) : (takeM t).1.small := by
  obtain ⟨a, b, c⟩ := h
  unfold takeM
  split
  · split
    · simp [Tb.taken, Tb.small]; omega
    · simp [Tb.zero, Tb.small]
  · simp [Tb.zero, Tb.small]
theorem giveM_small {t : Tb} (i u : Int) : (giveM t i u).1.small := by
  unfold giveM
  split
  · rename_i ok
    have := ok.top; have := ok.len; have := ok.fl
    split
    · simp [Tb.given, Tb.small]; omega
    · simp [Tb.zero, Tb.small]
  · simp [Tb.zero, Tb.small]

theorem NewT.sep {H0 H' : Hp} {a b c u : Slc} {t : Tb} (h : NewT H0 H' a b c t) (ho : Old H0 u) : Sep a u ∧ Sep b u ∧ Sep c u :=
  ⟨(Sep.of ho h.uses.isNew).symm, (Sep.of ho h.used.isNew).symm, (Sep.of ho h.free.isNew).symm⟩
theorem RdT.chg {H H' : Hp} {a b c u : Slc} {t : Tb} (h : RdT H a b c t) (hc : Chg H H' u) (hs : Sep a u ∧ Sep b u ∧ Sep c u) : RdT H' a b c t :=
  ⟨h.uses.chg hc hs.1, h.used.chg hc hs.2.1, h.free.chg hc hs.2.2⟩
end Go.Eng
