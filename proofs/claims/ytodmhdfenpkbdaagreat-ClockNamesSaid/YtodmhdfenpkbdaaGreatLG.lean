/- Clocks: altering, by the reference; the law ClockGoes. Conditions: none. -/
import Derived.Test.YtodmhdfenpkbdaaGreatPL5
import Derived.Test.YtodmhdfenpkbdaaGreatVgClock
import Derived.Test.YtodmhdfenpkbdaaGreatVgLClockGoes
import Derived.Test.YtodmhdfenpkbdaaGreatFs
set_option linter.unusedVariables false
set_option maxRecDepth 100000
open Go Go.Eng Go.Proofs
namespace Go.Proofs.YtodmhdfenpkbdaaGreat

theorem alterK_fit (c : Ck) (f : List Pt) : fitK (alterK c f).1 := by
  unfold alterK
  split
  · rename_i ok
    split
    · rename_i h2
      split
      · rename_i kn
        obtain ⟨a1, a2⟩ := ok.altered (chkF_zero.1 h2) kn
        by_cases h : (alteredK c f).2 = 0
        · exact (a1 h).fit
        · rw [a2 h]; exact fitK.zero
      · exact fitK.zero
    · exact fitK.zero
  · exact fitK.zero

end Go.Proofs.YtodmhdfenpkbdaaGreat
