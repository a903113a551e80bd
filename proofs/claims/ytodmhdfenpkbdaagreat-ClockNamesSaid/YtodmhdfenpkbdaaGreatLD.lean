/- The law ClockKeeps. Conditions: none. -/
import Derived.Test.YtodmhdfenpkbdaaGreatPL4
import Derived.Test.YtodmhdfenpkbdaaGreatVgLClockKeeps
import Derived.Test.YtodmhdfenpkbdaaGreatFs
set_option linter.unusedVariables false
set_option maxRecDepth 100000
open Go Go.Eng Go.Proofs
namespace Go.Proofs.YtodmhdfenpkbdaaGreat

theorem fitK.zero : fitK .zero := ⟨⟨by show inI 0; unfold inI; omega, by show inI 0; unfold inI; omega⟩, by simp [Ck.zero], by simp [Ck.zero, Ct.zero], fitG.zero, by simp [Ck.zero]⟩
theorem okK.begin {f : List Pt} {t : Int × Int} (h : timedF f t = 0) : okK ⟨t, f, .zero, beginA 200, []⟩ := by
  obtain ⟨of, ot⟩ := timedF_zero.1 h
  have ob := okA.begin (n := 200) (by omega) (by omega)
  exact ⟨ot, of, (by decide : okC Ct.zero), rfl, ob, by simp [beginA], rfl, rfl⟩
theorem newK_fit (f : List Pt) (t : Int × Int) : fitK (newK f t).1 := by
  unfold newK
  split
  · rename_i h; exact (okK.begin h).fit
  · exact fitK.zero
theorem addK_err {c : Ck} {x : Int × Int} : (addK c x).2.2 ≠ 0 → (addK c x).1 = .zero := by
  unfold addK
  split
  · split
    · intro h; exact absurd rfl h
    · split
      · intro h; exact absurd rfl h
      · intro _; rfl
  · intro _; rfl
theorem certifyK_fit (c : Ck) (x : Int × Int) : fitK (certifyK c x).1 := by
  unfold certifyK
  split
  · rename_i h
    split
    · exact fitK.zero
    · rename_i h2
      by_cases he : (addK c x).2.2 = 0
      · exact (h.1.add (by omega) (by omega) he).1.fit
      · rw [addK_err he]; exact fitK.zero
  · exact fitK.zero
theorem failK_fit (c : Ck) (t : Int × Int) : fitK (failK c t).1 := by
  unfold failK
  split
  · rename_i hu
    split
    · rename_i hw
      obtain ⟨ok, _, _⟩ := untilK_zero.1 hu
      obtain ⟨ps, e⟩ := ok.evs
      exact (ok.failed (waitsK_len hw) e).1.fit
    · exact fitK.zero
  · exact fitK.zero
end Go.Proofs.YtodmhdfenpkbdaaGreat
