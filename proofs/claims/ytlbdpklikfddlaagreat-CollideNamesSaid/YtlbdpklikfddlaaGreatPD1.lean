/- The engine, parts DX, DW, AT, RV, put together. Conditions: none. -/
import Derived.Test.YtlbdpklikfddlaaGreatPX1
import Derived.Test.YtlbdpklikfddlaaGreatE7
import Derived.Test.YtlbdpklikfddlaaGreatPK1
import Derived.Lib.ItoaNum
import Derived.Test.YtlbdpklikfddlaaGreatP4
set_option linter.unusedVariables false
section
/- bits.Len64, as the library has it. Conditions: none. -/
set_option maxRecDepth 100000
open Go Go.Eng Go.Proofs
namespace Go.Proofs.YtlbdpklikfddlaaGreat


def numP (p:Pt) (t:Int × Int):Int:=p.2.1 * t.2+p.2.2 * t.1
def overM (N d:Int):(Int × Int) × Int:=buildM (decide (N<0)) (absI N / gcdA N d) (d / gcdA N d)
def placeM (p:Pt) (t:Int × Int):(Int × Int) × Int:=if okP p∧okR t then overM (numP p t) t.2 else ((0,0),8)
theorem placeM_ok {p:Pt} {t:Int × Int} (h:okP p) (h2:okR t):placeM p t=overM (numP p t) t.2:=if_pos ⟨h,h2⟩

end Go.Proofs.YtlbdpklikfddlaaGreat
end
