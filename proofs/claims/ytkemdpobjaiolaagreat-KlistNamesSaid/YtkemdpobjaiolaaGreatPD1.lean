/- The engine, parts DX, DW, AT, RV, put together. Conditions: none. -/
import Derived.Test.YtkemdpobjaiolaaGreatPX1
import Derived.Test.YtkemdpobjaiolaaGreatE7
import Derived.Test.YtkemdpobjaiolaaGreatPK2
import Derived.Lib.ItoaNum
import Derived.Test.YtkemdpobjaiolaaGreatVgStd
import Derived.Test.YtkemdpobjaiolaaGreatFs
import Derived.Test.YtkemdpobjaiolaaGreatP4
import Derived.Test.YtkemdpobjaiolaaGreatVgBase
set_option linter.unusedVariables false
section
/- bits.Len64, as the library has it. Conditions: none. -/
set_option maxRecDepth 100000
open Go Go.Eng Go.Proofs
namespace Go.Proofs.YtkemdpobjaiolaaGreat
end Go.Proofs.YtkemdpobjaiolaaGreat
end
section
/- bits.Div64 and bits.Rem64. Conditions: none. -/
set_option maxRecDepth 100000
open Go Go.Eng Go.Proofs
namespace Go.Proofs.YtkemdpobjaiolaaGreat

end Go.Proofs.YtkemdpobjaiolaaGreat
end
section
/- A point's place at a time: course.At and the reference's. Conditions: none. -/
set_option maxRecDepth 100000
open Go Go.Eng Go.Proofs
namespace Go.Proofs.YtkemdpobjaiolaaGreat

def numP (p : Pt) (t : Int × Int) : Int := p.2.1 * t.2 + p.2.2 * t.1
/-- A whole number over a denominator, in lowest terms. -/
def overM (N d : Int) : (Int × Int) × Int := buildM (decide (N < 0)) (absI N / gcdA N d) (d / gcdA N d)
def placeM (p : Pt) (t : Int × Int) : (Int × Int) × Int := if okP p ∧ okR t then overM (numP p t) t.2 else ((0, 0), 8)
theorem placeM_ok {p : Pt} {t : Int × Int} (h : okP p) (h2 : okR t) : placeM p t = overM (numP p t) t.2 := if_pos ⟨h, h2⟩
end Go.Proofs.YtkemdpobjaiolaaGreat
end
section
/- The reference's division bit by bit; a place by the reference. Conditions: none. -/
set_option maxRecDepth 100000
open Go Go.Eng Go.Proofs
namespace Go.Proofs.YtkemdpobjaiolaaGreat

end Go.Proofs.YtkemdpobjaiolaaGreat
end
