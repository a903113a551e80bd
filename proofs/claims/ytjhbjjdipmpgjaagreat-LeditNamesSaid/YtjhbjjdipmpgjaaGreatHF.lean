/- The laws LeditPuts, LeditTakes. Conditions: none. -/
import Derived.Test.YtjhbjjdipmpgjaaGreatPH3
import Derived.Test.YtjhbjjdipmpgjaaGreatVgLLeditPuts
import Derived.Test.YtjhbjjdipmpgjaaGreatVgLLeditTakes
import Derived.Test.YtjhbjjdipmpgjaaGreatFs
set_option linter.unusedVariables false
set_option maxRecDepth 100000
open Go Go.Eng Go.Proofs
namespace Go.Proofs.YtjhbjjdipmpgjaaGreat

theorem Sound.fitS {r:Ls × Int} (s:Sound r):fitL r.1:=by
 by_cases h:r.2=0
 ·exact s.fit h
 ·rw [s.2 h]; exact fitZl
theorem putM_sound (l:Ls) (p:Pt):Sound (putM l p):=⟨putM_okLs,putM_zero⟩
theorem allM_sound (l:Ls) (ps:List Pt) (ids:List Int):Sound (allM l ps ids):=by
 unfold allM
 split
 ·rename_i ok
  exact Sound.takes ids (Sound.puts ps ⟨fun _=>ok,fun h=>absurd rfl h⟩)
 ·exact ⟨fun h=>(by cases h),fun _=>rfl⟩

end Go.Proofs.YtjhbjjdipmpgjaaGreat
