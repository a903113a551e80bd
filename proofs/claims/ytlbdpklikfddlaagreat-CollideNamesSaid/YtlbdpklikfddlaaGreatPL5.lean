/- The engine, parts LD, LE, LF, LG, LH, LI, LK, put together. Conditions: none. -/
import Derived.Test.YtlbdpklikfddlaaGreatPL4
set_option linter.unusedVariables false
section
/- The law ClockKeeps. Conditions: none. -/
set_option maxRecDepth 100000
open Go Go.Eng Go.Proofs
namespace Go.Proofs.YtlbdpklikfddlaaGreat

theorem fitK.zero:fitK .zero:=⟨⟨by show inI 0; unfold inI; omega,by show inI 0; unfold inI; omega⟩,by simp [Ck.zero],by simp [Ck.zero,Ct.zero],fitG.zero,by simp [Ck.zero]⟩
theorem okK.begin {f:List Pt} {t:Int × Int} (h:timedF f t=0):okK ⟨t,f,.zero,beginA 200,[]⟩:=by
 obtain ⟨of,ot⟩:=timedF_zero.1 h
 have ob:=okA.begin (n:=200) (by omega) (by omega)
 exact ⟨ot,of,(by decide:okC Ct.zero),rfl,ob,by simp [beginA],rfl,rfl⟩

section
variable {c:Ck} {f:List Pt} {ps:List Ev}
end

section
variable {α:Type} {k:Nat} {f:α→List Value} {H H':Hp} {x d d':Slc} {xs:List α}
end
section
variable {H H':Hp} {v1 v2 v3 v4 v5 d d':Slc} {a:Ag}
end

section
variable {c:Ck} {f:List Pt} {ps:List Ev}
end




section
variable {c:Ck} {t:Int × Int}
end


end Go.Proofs.YtlbdpklikfddlaaGreat
end
