/- Contracts of functions out of their conditions. Conditions: none. -/
import Derived.Test.YtlbdpklikfddlaaGreatFs
set_option linter.unusedVariables false
set_option maxRecDepth 30000
open Go Go.Eng Go.Proofs
namespace Go.Proofs.YtlbdpklikfddlaaGreat
noncomputable def cfg24:Cfg:={ c0 26 with perm:=fun i=>pm i 1 (rg 5) <| pm i 4 (rg 4) <| pm i 5 [0,1,2] <| pm i 6 (rg 9) <| none,lp:=fun i=>bif Nat.beq i 4 then ([(5,.int .i64)],[]) else ([],[]) }
theorem pelotonref04_Same_vc {a0 a1:Slc} {post:Value→Hp→Prop} {H:Hp} (h :
 (((↑a0.n:Int) != (↑a1.n:Int))=true→post (vb false) H)∧(((↑a0.n:Int) != (↑a1.n:Int))=false→∃ (I1:Int→Hp→Prop),∃ (m2:Int→Hp→Nat),I1 0 H∧∀ (n3:Int) (H4:Hp),I1 n3 H4→(decide (n3<(↑a0.n:Int))=true→inSl a0.a a0.n n3∧∃ n5 n6 n7 n8:Int,(ld4 H4 (eaddr a0.a 4 n3) n5 n6 n7 n8)∧inSl a1.a a1.n n3∧∃ n9 n10 n11 n12:Int,(ld4 H4 (eaddr a1.a 4 n3) n9 n10 n11 n12)∧((!(n5==n9&&n6==n10&&n7==n11&&n8==n12))=true→post (vb false) H4)∧((!(n5==n9&&n6==n10&&n7==n11&&n8==n12))=false→inI (n3+1)∧I1 (n3+1) H4∧m2 (n3+1) H4<m2 n3 H4))∧(decide (n3<(↑a0.n:Int))=false→post (vb true) H4))):Go.Eng.Fn Tryz.prog F.pelotonref04_Same #[a0.v,a1.v] H post:=Eng.Fn.door (C:=cfg24) good Tryz.func24 (by kernel_rfl) (by kernel_rfl) h
end Go.Proofs.YtlbdpklikfddlaaGreat
