/- Contracts of functions out of their conditions. Conditions: none. -/
import Derived.Test.YtbbdplfkiioppaaGreatFs
set_option linter.unusedVariables false
set_option maxRecDepth 30000
open Go Go.Eng Go.Proofs
namespace Go.Proofs.YtbbdplfkiioppaaGreat
noncomputable def cfg3:Cfg:={ c0 70 with pv:=fun t=>memN t [5,7,9],perm:=fun i=>pm i 0 [3,0,1,2] <| pm i 1 (rg 7) <| pm i 3 (rg 9) <| pm i 4 (rg 9) <| pm i 5 (rg 8) <| pm i 6 (rg 8) <| pm i 7 (rg 19) <| none }
theorem pelotonlaw30_PickReigns_vc {a0 a1:Int} {a2:Slc} {a3:Int} {a4 a5 a6 a7 a8 a9 a10 a11 a12:Slc} {a13 a14 a15:Int} {a16:Slc} {a17 a18:Int} {post:Value→Hp→Prop} {H:Hp} (h :
 ∃ c1:Bool,qF F.pelotonref25_Great #[(vLs a0 a1 a2 a3 a4 a5 a6 a7 a8 a9 a10 a11 a12)] H (vb c1)∧((c1||decide ((↑a16.n:Int)>50))=true→post (vb true) H)∧((c1||decide ((↑a16.n:Int)>50))=false→fN F.pick_Reign #[(vLs a0 a1 a2 a3 a4 a5 a6 a7 a8 a9 a10 a11 a12),vi a13,(sI2 a14 a15)] H fun (v2:Value) (H3:Hp)=>∃ u4:Slc,∃ n5:Int,v2=vT #[u4.v,vi n5]∧fN F.pelotonref30_Reign #[(vLs a0 a1 a2 a3 a4 a5 a6 a7 a8 a9 a10 a11 a12),vi a13,(sI2 a14 a15)] H3 fun (v6:Value) (H7:Hp)=>∃ u8:Slc,∃ n9:Int,v6=vT #[u8.v,vi n9]∧∃ n10 n11:Int,qF F.pick_Who #[a16.v,(sI2 a17 a18)] H7 (vT #[vi n10,vi n11])∧∃ n12 n13:Int,qF F.pelotonref30_Who #[a16.v,(sI2 a17 a18)] H7 (vT #[vi n12,vi n13])∧∃ c14:Bool,qF F.pelotonref30_Same #[u4.v,u8.v] H7 (vb c14)∧post (vb (c14&&n5==n9&&n10==n12&&n11==n13)) H7)):Go.Eng.Fn Tryz.prog F.pelotonlaw30_PickReigns #[(vLs a0 a1 a2 a3 a4 a5 a6 a7 a8 a9 a10 a11 a12),.int .i64 a13,(sI2 a14 a15),a16.v,(sI2 a17 a18)] H post:=Eng.Fn.door (C:=cfg3) good Tryz.func3 (by kernel_rfl) (by kernel_rfl) h
end Go.Proofs.YtbbdplfkiioppaaGreat
