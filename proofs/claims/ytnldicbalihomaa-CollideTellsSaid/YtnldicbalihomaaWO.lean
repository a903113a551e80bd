/- Logs and orders that came in. Conditions: none. -/
import Derived.Test.YtnldicbalihomaaWC
import Derived.Test.YtnldicbalihomaaBri
import Derived.Test.YtnldicbalihomaaFs
set_option linter.unusedVariables false
set_option maxRecDepth 100000
open Go Go.Eng Go.Proofs
open Go.ChangeShapes Go.WideShapes Go.Deep Go.RowKit
namespace Go.Proofs.Ytnldicbalihomaa
theorem ft3:flatT Try.prog 9 T.int=[3]:=by kernel_rfl
theorem ftMg:flatT Try.prog 9 T.api_Meeting=[2,2,3,3]:=by kernel_rfl
section
variable {H:Type} {enc:TypeId × Value→H} {w:World} {base:Nat} {spare:Nat→Bool} {held:Bool} {r:Reach} {b0:Nat} {v c:Value} {d:DataW H} {p:List MemPlace}
theorem flatI {cs:List Value} (h:All2 (Lf enc Try.prog w base spare held) (flatT Try.prog 9 T.int) cs):∃ x,cs=fI x∧inI x:=by
 have a0:=h; rw [ft3] at a0
 obtain ⟨c1,cs1,rfl,h1,a1⟩:=a0.c
 obtain ⟨n,rfl,hn⟩:=h1.i64 Try.underlying3
 have e:=a1.n; subst e
 exact ⟨n,rfl,hn⟩
theorem flatMg {cs:List Value} (h:All2 (Lf enc Try.prog w base spare held) (flatT Try.prog 9 T.api_Meeting) cs):∃ x:Mg,cs=fG x∧fitR x.1:=by
 have a0:=h; rw [ftMg] at a0
 obtain ⟨c1,cs1,rfl,h1,a1⟩:=a0.c
 obtain ⟨n,rfl,hn⟩:=h1.i64 Try.underlying2
 obtain ⟨c2,cs2,rfl,h2,a2⟩:=a1.c
 obtain ⟨m,rfl,hm⟩:=h2.i64 Try.underlying2
 obtain ⟨c3,cs3,rfl,h3,a3⟩:=a2.c
 obtain ⟨k,rfl,hk⟩:=h3.i64 Try.underlying3
 obtain ⟨c4,cs4,rfl,h4,a4⟩:=a3.c
 obtain ⟨l,rfl,hl⟩:=h4.i64 Try.underlying3
 have e:=a4.n; subst e
 exact ⟨((n,m),k,l),rfl,hn,hm⟩
theorem openInt (hv:Value.okWide Try.prog w r b0 T.int v) (h:DataW.Trod enc Try.prog w base spare held T.int v d p):∃ n,v=.int .i64 n∧inI n:=by
 obtain ⟨n,rfl,_,_,hw⟩:=open_int Try.underlying3 hv h
 have hb:-9223372036854775808≤n∧n≤9223372036854775807:=bounds_i64 hw
 exact ⟨n,rfl,hb⟩
theorem openInts (hv:Value.okWide Try.prog w r b0 T.s_int v) (h:DataW.Trod enc Try.prog w base spare held T.s_int v d p):∃ (u:Slc) (xs:List Int),v=u.v∧RdI (HW w) u xs∧(∀ x∈xs,inI x)∧xs.length≤9223372036854775807:=by
 obtain ⟨a,n,c,rfl⟩:=okWide_slice Try.underlying23 hv
 obtain ⟨m,hm⟩:=h
 exact Lf.slice (k:=1) (f:=fI) Try.underlying23 (by kernel_rfl) (by kernel_rfl) (fun _=>flatI) (⟨m,(d,p),by simpa [Value.cells] using hm⟩:Lf enc Try.prog w base spare held T.s_int _)
theorem openLog (hv:Value.okWide Try.prog w r b0 T.s_api_Meeting v) (h:DataW.Trod enc Try.prog w base spare held T.s_api_Meeting v d p):∃ (u:Slc) (xs:List Mg),v=u.v∧Rd 4 fG (HW w) u xs∧(∀ x∈xs,fitR x.1)∧xs.length≤9223372036854775807:=by
 obtain ⟨a,n,c,rfl⟩:=okWide_slice Try.underlying22 hv
 obtain ⟨m,hm⟩:=h
 exact Lf.slice (k:=4) (f:=fG) Try.underlying22 (by kernel_rfl) (by kernel_rfl) (fun _=>flatMg) (⟨m,(d,p),by simpa [Value.cells] using hm⟩:Lf enc Try.prog w base spare held T.s_api_Meeting _)
end
end Go.Proofs.Ytnldicbalihomaa
