/- Contracts of functions out of their conditions. Conditions: none. -/
import Derived.Test.YtlbdpklikfddlaaGreatFs
set_option linter.unusedVariables false
set_option maxRecDepth 30000
open Go Go.Eng Go.Proofs
namespace Go.Proofs.YtlbdpklikfddlaaGreat
noncomputable def cfg5:Cfg:={ P:=Tryz.prog,n:=371,pv:=fun t=>memN t [1,4,7,10],perm:=fun i=>bif Nat.beq i 1 then some [0,1,2,3,4,5,6,7,8,9,10] else bif Nat.beq i 2 then some [0,1,2,3,4,5,6,7,8,9,10] else bif Nat.beq i 3 then some [1,0,2,3,4,5,6,7,8,9,10] else bif Nat.beq i 4 then some [0,1,2,3,4,5,6,7,8,9,10] else bif Nat.beq i 5 then some [0,1] else bif Nat.beq i 6 then some [0,1,3,4,6,7,9,10,12,13,14,15,16,2,5,8,11,17,18,19] else bif Nat.beq i 7 then some [0,1,2,3,4,5,7,8,9,10,11,12,14,15,16,17,18,20,21,22,23,6,13,19,24,25,26] else bif Nat.beq i 9 then some [0,1,2,3,4,5,6] else bif Nat.beq i 10 then some [0,1,2] else bif Nat.beq i 11 then some [0,1] else bif Nat.beq i 12 then some [0,1,2,3] else bif Nat.beq i 13 then some [0,1,2,3,4] else bif Nat.beq i 14 then some [0,1,2,3,4,5,6,7,8] else bif Nat.beq i 15 then some [0,1,2,3,4,5,6] else bif Nat.beq i 16 then some [0,1,2,3,4,5,6,7,8] else bif Nat.beq i 17 then some [0,1,2,3,4,5,6,7,8] else bif Nat.beq i 18 then some [1,0,2,3,4,5,6,7] else bif Nat.beq i 19 then some [0,1,2,3,4,5,6,7,8,9,10,11,12,13,14,15,16,17,18,19,20,21,22,23] else bif Nat.beq i 21 then some [0,1,2] else bif Nat.beq i 22 then some [0,1,2,3,4,5,6,7] else bif Nat.beq i 23 then some [1,0,2,3,4,5,6,7] else bif Nat.beq i 24 then some [1,0,2,3,4,5,6,7] else bif Nat.beq i 25 then some [0,1,2,3,4,5,6] else bif Nat.beq i 26 then some [1,2,0,3,4,5,6,7,8] else bif Nat.beq i 27 then some [1,0,2,3,4,5,6,7] else bif Nat.beq i 28 then some [0,1,2,3,4,5] else bif Nat.beq i 29 then some [0,1,2,3,4,5,6] else bif Nat.beq i 30 then some [0,1,2,3,4,5,6,7] else bif Nat.beq i 31 then some [1,0,2,3,4,5,6,7] else bif Nat.beq i 32 then some [2,0,1,3,4,5,6,7,8,9,10,11] else bif Nat.beq i 34 then some [0,1,2,3,4,5,6,7,8] else bif Nat.beq i 35 then some [0,1,2,3,4,5,6,7,8,9,10,11,12,13,14,15,16,17,18,19,20,21,22,23,24,25,26,27,28,29,30,31,32,33,34,35,36,37,38,39,40,41,42,43,44,45,46,47,48,49,50,51,52,53,54,55,56,57,58,59,60,61,62,63,64,65,66,67,68,69,70,71,72,73,74,75,76,77,78,79,80,81,82,83,84,85,86,87,88,89,90,91,92,93,94,95] else none,eff:=fun f=>memN f [],effv:=false,nm:=fun t=> t,lp:=fun i=>bif Nat.beq i 9 then ([(16,.int .i64)],[]) else ([],[]) }
theorem pelotonlaw29_CollideNames_vc  {post:Value→Hp→Prop} {H:Hp} (h :
 Go.Eng.Fn Tryz.prog F.collide_Log #[(vLs 0 0 zs 0 zs zs zs zs zs zs zs zs zs),(sI2 0 0)] H fun (v1:Value) (H2:Hp)=>∃ n3:Int,∃
 (n4:Int),∃ u5:Slc,∃ n6:Int,∃ u7 u8 u9 u10 u11 u12 u13:Slc,∃
 (u14:Slc),∃ u15 u16:Slc,∃ n17:Int,v1=Value.tuple #[Value.agg #[Value.int .i64 n3,Value.int .i64 n4,u5.v,Value.int
 IntKind.i64 n6,u7.v,u8.v,u9.v,u10.v,u11.v,u12.v,u13.v,u14.v,u15.v],u16.v,Value.int .i64 n17]∧Go.Eng.Fn Tryz.prog F.pelotonlaw29_example #[] H2 fun (v18:Value) (H19:Hp)=>∃ (n20 :
 Int),∃ n21:Int,∃ u22:Slc,∃ n23:Int,∃ u24 u25 u26 u27 u28 u29:Slc,∃ (u30 :
 Slc),∃ u31 u32:Slc,v18=(vLs n20 n21 u22 n23 u24 u25 u26 u27 u28 u29 u30 u31 u32)∧∃ n33 n34:Int,Qf Tryz.prog F.pelotonlaw29_whole #[Value.int .i64 (-2)] H19 (sI2 n33 n34)∧Go.Eng.Fn Tryz.prog F.collide_Log #[(vLs n20 n21 u22 n23 u24 u25 u26 u27 u28 u29 u30 u31 u32),(sI2 n33 n34)] H19 fun (v35:Value) (H36:Hp)=>∃ n37 n38:Int,∃ u39:Slc,∃ n40:Int,∃ u41 u42 u43 u44 u45 u46 u47:Slc,∃ (u48 :
 Slc),∃ u49 u50:Slc,∃ n51:Int,v35=Value.tuple #[Value.agg #[Value.int .i64 n37,Value.int .i64 n38,u39.v,Value.int
 IntKind.i64 n40,u41.v,u42.v,u43.v,u44.v,u45.v,u46.v,u47.v,u48.v,u49.v],u50.v,Value.int .i64 n51]∧Go.Eng.Fn Tryz.prog F.pelotonlaw29_example #[] H36 fun (v52:Value) (H53:Hp)=>∃
 (n54:Int),∃ n55:Int,∃ u56:Slc,∃ n57:Int,∃ u58 u59 u60 u61 u62 u63:Slc,∃
 (u64:Slc),∃ u65 u66:Slc,v52=(vLs n54 n55 u56 n57 u58 u59 u60 u61 u62 u63 u64 u65 u66)∧Go.Eng.Fn Tryz.prog F.collide_Log #[(vLs n54 n55 u56 n57 u58 u59 u60 u61 u62 u63 u64 u65 u66),(sI2 0 0)] H53 fun (v67:Value) (H68:Hp)=>∃ (n69 :
 Int),∃ n70:Int,∃ u71:Slc,∃ n72:Int,∃ u73 u74 u75 u76 u77 u78:Slc,∃ (u79 :
 Slc),∃ u80 u81 u82:Slc,∃ n83:Int,v67=Value.tuple #[(vLs n69 n70 u71 n72 u73 u74 u75 u76 u77 u78 u79 u80 u81),u82.v,Value.int .i64 n83]∧Go.Eng.Fn Tryz.prog F.pelotonlaw29_example #[] H68 fun (v84:Value) (H85
 : Hp)=>∃ n86 n87:Int,∃ u88:Slc,∃ n89:Int,∃ u90 u91 u92 u93 u94:Slc,∃ (u95
 : Slc),∃ u96 u97 u98:Slc,v84=Value.agg #[Value.int .i64 n86,Value.int .i64 n87,u88.v,Value.int
 IntKind.i64 n89,u90.v,u91.v,u92.v,u93.v,u94.v,u95.v,u96.v,u97.v,u98.v]∧∃ n99 n100:Int,Qf Tryz.prog F.pelotonlaw29_whole #[Value.int .i64 (-1)] H85 (sI2 n99 n100)∧Go.Eng.Fn Tryz.prog F.collide_Log #[Value.agg #[Value.int .i64 n86,Value.int .i64 n87,u88.v,Value.int
 IntKind.i64 n89,u90.v,u91.v,u92.v,u93.v,u94.v,u95.v,u96.v,u97.v,u98.v],(sI2 n99 n100)] H85 fun (v101:Value) (H102 :
 Hp)=>∃ n103 n104:Int,∃ u105:Slc,∃ n106:Int,∃ u107 u108 u109 u110 u111 u112 u113 u114 u115 u116:Slc,∃ n117:Int,v101=Value.tuple #[(vLs n103 n104 u105 n106 u107 u108 u109 u110 u111 u112 u113 u114 u115),u116.v,Value.int .i64 n117] ∧
 Go.Eng.Fn Tryz.prog F.pelotonlaw29_log #[] H102 fun (v118:Value) (H119:Hp)=>∃ u120:Slc,v118=u120.v∧∃ n121 n122:Int,Qf Tryz.prog F.pelotonlaw29_whole #[Value.int .i64 0]
 H119 (sI2 n121 n122)∧∃ n123 n124:Int,Qf Tryz.prog F.pelotonlaw29_whole #[Value.int .i64 0] H119 (sI2 n123 n124)∧∃ n125 n126:Int,Qf Tryz.prog F.pelotonlaw29_whole #[Value.int .i64 0] H119 (Value.agg #[Value.int
 IntKind.i64 n125,Value.int .i64 n126])∧inSl u120.a u120.n 1∧∃ n127 n128 n129 n130:Int,(H119.at (eaddr u120.a 4 1)=some
 (Value.int .i64 n127)∧H119.at ((eaddr u120.a 4 1).add 1)=some (Value.int .i64 n128)∧H119.at ((eaddr u120.a 4 1).add 2)=some (Value.int
 IntKind.i64 n129)∧H119.at ((eaddr u120.a 4 1).add 3)=some (Value.int .i64 n130))∧∃ n131 n132:Int,Qf Tryz.prog F.pelotonlaw29_whole #[Value.int .i64
 1] H119 (sI2 n131 n132)∧∀ (b133:Nat) (H134:Hp),H119 b133=none→H134=H119.put b133 (Obj.cells
 #[Value.int .i64 0,Value.int .i64 0,Value.int .i64 1,Value.int .i64 2] 74)→∀ (b135:Nat) (H136:Hp),H134 b135=none→H136 =
 H134.put b135 (Obj.cells #[Value.int .i64 n121,Value.int .i64 n122,Value.int .i64 (-1),Value.int .i64 2] 74)→∀ (b137:Nat) (H138 :
 Hp),H136 b137=none→H138=H136.put b137 (Obj.cells #[Value.int .i64 n123,Value.int .i64 n124,Value.int .i64 2,Value.int
 IntKind.i64 2] 74)→∀ (b139:Nat) (H140:Hp),H138 b139=none→H140=H138.put b139 (Obj.cells #[Value.int .i64 n125,Value.int .i64 n126,
 Value.int .i64 2,Value.int .i64 65536] 74)→∀ (b141:Nat) (H142:Hp),H140 b141=none→H142=H140.put b141 (Obj.cells #[Value.int .i64
 n127,Value.int .i64 n128,Value.int .i64 n129,Value.int .i64 n130,Value.int .i64 n131,Value.int .i64 n132,Value.int
 IntKind.i64 3,Value.int .i64 2] 74)→∀ (b143:Nat) (H144:Hp),H142 b143=none→H144=H142.put b143 (Obj.cells #[Value.slice (some (Addr.mk b133 0 none)) 1 1,Value.slice (some (Addr.mk b135 0 none)) 1 1,Value.slice (some (Addr.mk b137 0 none)) 1 1,Value.slice (some (Addr.mk b139 0 none)) 1
 1,Value.slice (some (Addr.mk b141 0 none)) 2 2] 62)→inSl u120.a u120.n 1∧∃ n145 n146 n147 n148:Int,(H144.at (eaddr u120.a 4 1)
 = some (Value.int .i64 n145)∧H144.at ((eaddr u120.a 4 1).add 1)=some (Value.int .i64 n146)∧H144.at ((eaddr u120.a 4 1).add 2)=some
 (Value.int .i64 n147)∧H144.at ((eaddr u120.a 4 1).add 3)=some (Value.int .i64 n148))∧inSl u120.a u120.n 0∧∃ n149 n150:Int,∃ (n151
 : Int),∃ n152:Int,(H144.at (eaddr u120.a 4 0)=some (Value.int .i64 n149)∧H144.at ((eaddr u120.a 4 0).add 1)=some (Value.int .i64 n150)
 ∧ H144.at ((eaddr u120.a 4 0).add 2)=some (Value.int .i64 n151)∧H144.at ((eaddr u120.a 4 0).add 3)=some (Value.int .i64 n152))∧inSl
 u120.a u120.n 0∧∃ n153 n154 n155 n156:Int,(H144.at (eaddr u120.a 4 0)=some (Value.int .i64 n153)∧H144.at ((eaddr u120.a 4
 0).add 1)=some (Value.int .i64 n154)∧H144.at ((eaddr u120.a 4 0).add 2)=some (Value.int .i64 n155)∧H144.at ((eaddr u120.a 4 0).add 3) =
 some (Value.int .i64 n156))∧inSl u120.a u120.n 0∧∃ n157 n158 n159 n160:Int,(H144.at (eaddr u120.a 4 0)=some
 (Value.int .i64 n157)∧H144.at ((eaddr u120.a 4 0).add 1)=some (Value.int .i64 n158)∧H144.at ((eaddr u120.a 4 0).add 2)=some (Value.int
 IntKind.i64 n159)∧H144.at ((eaddr u120.a 4 0).add 3)=some (Value.int .i64 n160))∧inSl u120.a u120.n 0∧∃ n161 n162 n163:Int,∃
 (n164:Int),(H144.at (eaddr u120.a 4 0)=some (Value.int .i64 n161)∧H144.at ((eaddr u120.a 4 0).add 1)=some (Value.int .i64 n162)∧H144.at
 ((eaddr u120.a 4 0).add 2)=some (Value.int .i64 n163)∧H144.at ((eaddr u120.a 4 0).add 3)=some (Value.int .i64 n164))∧∃ n165:Int,∃
 (n166:Int),Qf Tryz.prog F.pelotonlaw29_whole #[Value.int .i64 1] H144 (sI2 n165 n166)∧∃ n167 n168:Int,Qf
 Tryz.prog F.pelotonlaw29_whole #[Value.int .i64 1] H144 (sI2 n167 n168)∧∃ n169 n170:Int,Qf Tryz.prog F.pelotonlaw29_whole
 #[Value.int .i64 1] H144 (sI2 n169 n170)∧∀ (b171:Nat) (H172:Hp),H144 b171=none→H172 =
 H144.put b171 (Obj.cells #[Value.int .i64 n145,Value.int .i64 n146,Value.int .i64 n147,Value.int .i64 n148,Value.int .i64 n149,
 Value.int .i64 n150,Value.int .i64 n151,Value.int .i64 n152] 74)→∀ (b173:Nat) (H174:Hp),H172 b173=none→H174=H172.put b173
 (Obj.cells #[Value.int .i64 n153,Value.int .i64 n154,Value.int .i64 n155,Value.int .i64 n156,Value.int .i64 n157,Value.int
 IntKind.i64 n158,Value.int .i64 n159,Value.int .i64 n160] 74)→∀ (b175:Nat) (H176:Hp),H174 b175=none→H176=H174.put b175 (Obj.cells
 #[Value.int .i64 n161,Value.int .i64 n162,Value.int .i64 n163,Value.int .i64 n164,Value.int .i64 n165,Value.int .i64
 n166,Value.int .i64 1,Value.int .i64 5] 74)→∀ (b177:Nat) (H178:Hp),H176 b177=none→H178=H176.put b177 (Obj.cells #[Value.int .i64
 n167,Value.int .i64 n168,Value.int .i64 1,Value.int .i64 5,Value.int .i64 n169,Value.int .i64 n170,Value.int .i64 1,
 Value.int .i64 3] 74)→∀ (b179:Nat) (H180:Hp),H178 b179=none→H180=H178.put b179 (Obj.cells #[Value.slice (some (Addr.mk b171 0 none)) 2 2,
 Value.slice (some (Addr.mk b173 0 none)) 2 2,Value.slice (some (Addr.mk b175 0 none)) 2 2,Value.slice (some (Addr.mk b177 0 none)) 2 2] 62)→∃ (I181
 : Int→Hp→Prop),∃ (m182:Int→Hp→Nat),I181 0 H180∧∀ (n183:Int) (H184:Hp),I181 n183 H184→inI 9∧(decide (n183<(↑5:Int)+(↑4:Int)) =
 true→(decide (n183<(↑5:Int))=true→inSl (some (Addr.mk b143 0 none)) 5 n183∧∃ u185:Slc,H184.at (eaddr (some (Addr.mk b143 0 none)) 1 n183)=some u185.v∧Go.Eng.Fn Tryz.prog F.collide_Of #[u185.v,Value.int .i64 1] H184 fun (v186:Value) (H187:Hp)=>∃ u188:Slc,∃ n189:Int,v186=Value.tuple #[u188.v,Value.int .i64 n189]∧Go.Eng.Fn Tryz.prog F.collide_Times #[u185.v] H187 fun (v190:Value) (H191:Hp)=>∃ u192 u193:Slc,∃ (n194
 : Int),v190=Value.tuple #[u192.v,u193.v,Value.int .i64 n194]∧∃ n195 n196 n197:Int,Qf Tryz.prog F.collide_Most #[u185.v] H191 (Value.tuple #[Value.int
 IntKind.i64 n195,Value.int .i64 n196,Value.int .i64 n197])∧okMk 65 65 8∧∀ (b198:Nat) (H199:Hp),H191 b198=none→H199=H191.put b198
 (Obj.cells #[Value.int .i64 0,Value.int .i64 0,Value.int .i64 0,Value.int .i64 0,Value.int .i64 0,Value.int .i64
 0,Value.int .i64 0,Value.int .i64 0,Value.int .i64 0,Value.int .i64 0,Value.int .i64 0,Value.int .i64 0,
 Value.int .i64 0,Value.int .i64 0,Value.int .i64 0,Value.int .i64 0,Value.int .i64 0,Value.int .i64 0,Value.int
 IntKind.i64 0,Value.int .i64 0,Value.int .i64 0,Value.int .i64 0,Value.int .i64 0,Value.int .i64 0,Value.int .i64
 0,Value.int .i64 0,Value.int .i64 0,Value.int .i64 0,Value.int .i64 0,Value.int .i64 0,Value.int .i64 0,
 Value.int .i64 0,Value.int .i64 0,Value.int .i64 0,Value.int .i64 0,Value.int .i64 0,Value.int .i64 0,Value.int
 IntKind.i64 0,Value.int .i64 0,Value.int .i64 0,Value.int .i64 0,Value.int .i64 0,Value.int .i64 0,Value.int .i64
 0,Value.int .i64 0,Value.int .i64 0,Value.int .i64 0,Value.int .i64 0,Value.int .i64 0,Value.int .i64 0,
 Value.int .i64 0,Value.int .i64 0,Value.int .i64 0,Value.int .i64 0,Value.int .i64 0,Value.int .i64 0,Value.int
 IntKind.i64 0,Value.int .i64 0,Value.int .i64 0,Value.int .i64 0,Value.int .i64 0,Value.int .i64 0,Value.int .i64
 0,Value.int .i64 0,Value.int .i64 0] 3)→Go.Eng.Fn Tryz.prog F.collide_Play #[Value.slice (some (Addr.mk b198 0 none)) (Int.toNat 65) (Int.toNat 65),u185.v] H199 fun
 (v200:Value) (H201:Hp)=>∃ u202:Slc,∃ n203:Int,v200=Value.tuple #[u202.v,Value.int .i64 n203]∧∃ n204:Int,Qf Tryz.prog F.collide_Check #[u185.v] H201
 (Value.int .i64 n204)∧((n204 != 8||n189 != 8||n194 != 8||n197 != 8||n203 != 8)=true→post (Value.bool false) H201)∧((n204 != 8||n189 != 8||n194 != 8 ||
 n197 != 8||n203 != 8)=false→inI (n183+1)∧I181 (n183+1) H201∧m182 (n183+1) H201<m182 n183 H184))∧(decide (n183<(↑5:Int))=false→inI (n183 -
 (↑5:Int))∧inSl (some (Addr.mk b179 0 none)) 4 (n183-(↑5:Int))∧∃ u205:Slc,H184.at (eaddr (some (Addr.mk b179 0 none)) 1 (n183-(↑5 :
 Int)))=some u205.v∧Go.Eng.Fn Tryz.prog F.collide_Of #[u205.v,Value.int .i64 1] H184 fun (v206:Value) (H207:Hp)=>∃ u208:Slc,∃ n209:Int,v206=Value.tuple
 #[u208.v,Value.int .i64 n209]∧Go.Eng.Fn Tryz.prog F.collide_Times #[u205.v] H207 fun (v210:Value) (H211:Hp)=>∃ u212 u213:Slc,∃ n214:Int,v210 =
 Value.tuple #[u212.v,u213.v,Value.int .i64 n214]∧∃ n215 n216 n217:Int,Qf Tryz.prog F.collide_Most #[u205.v] H211 (Value.tuple #[Value.int .i64
 n215,Value.int .i64 n216,Value.int .i64 n217])∧okMk 65 65 8∧∀ (b218:Nat) (H219:Hp),H211 b218=none→H219=H211.put b218 (Obj.cells
 #[Value.int .i64 0,Value.int .i64 0,Value.int .i64 0,Value.int .i64 0,Value.int .i64 0,Value.int .i64 0,Value.int
 IntKind.i64 0,Value.int .i64 0,Value.int .i64 0,Value.int .i64 0,Value.int .i64 0,Value.int .i64 0,Value.int .i64
 0,Value.int .i64 0,Value.int .i64 0,Value.int .i64 0,Value.int .i64 0,Value.int .i64 0,Value.int .i64 0,
 Value.int .i64 0,Value.int .i64 0,Value.int .i64 0,Value.int .i64 0,Value.int .i64 0,Value.int .i64 0,Value.int
 IntKind.i64 0,Value.int .i64 0,Value.int .i64 0,Value.int .i64 0,Value.int .i64 0,Value.int .i64 0,Value.int .i64
 0,Value.int .i64 0,Value.int .i64 0,Value.int .i64 0,Value.int .i64 0,Value.int .i64 0,Value.int .i64 0,
 Value.int .i64 0,Value.int .i64 0,Value.int .i64 0,Value.int .i64 0,Value.int .i64 0,Value.int .i64 0,Value.int
 IntKind.i64 0,Value.int .i64 0,Value.int .i64 0,Value.int .i64 0,Value.int .i64 0,Value.int .i64 0,Value.int .i64
 0,Value.int .i64 0,Value.int .i64 0,Value.int .i64 0,Value.int .i64 0,Value.int .i64 0,Value.int .i64 0,
 Value.int .i64 0,Value.int .i64 0,Value.int .i64 0,Value.int .i64 0,Value.int .i64 0,Value.int .i64 0,Value.int
 IntKind.i64 0,Value.int .i64 0] 3)→Go.Eng.Fn Tryz.prog F.collide_Play #[Value.slice (some (Addr.mk b218 0 none)) (Int.toNat 65) (Int.toNat 65),u205.v] H219 fun (v220:Value)
 (H221:Hp)=>∃ u222:Slc,∃ n223:Int,v220=Value.tuple #[u222.v,Value.int .i64 n223]∧∃ n224:Int,Qf Tryz.prog F.collide_Check #[u205.v] H221 (Value.int
 IntKind.i64 n224)∧((n224 != 32||n209 != 32||n214 != 32||n217 != 32||n223 != 32)=true→post (Value.bool false) H221)∧((n224 != 32||n209 != 32||n214 != 32||n217 !=
 32||n223 != 32)=false→inI (n183+1)∧I181 (n183+1) H221∧m182 (n183+1) H221<m182 n183 H184)))∧(decide (n183<(↑5:Int)+(↑4:Int))=false→okMk
 5001 5001 32∧∀ (b225:Nat) (H226:Hp),H184 b225=none→H226=H184.put b225 (Obj.cells (List.replicate (Int.toNat 5001) [Value.int (.i64) 0,Value.int (.i64) 0,Value.int (.i64) 0,Value.int (.i64) 0]).flatten.toArray 74)→∃ n227:Int,Qf Tryz.prog F.collide_Check #[Value.slice (some (Addr.mk b225 0 none)) (Int.toNat 5001) (Int.toNat 5001)] H226 (Value.int .i64 n227)∧∃ n228 n229:Int,∃ (n230 :
 Int),Qf Tryz.prog F.collide_Most #[Value.slice none 0 0] H226 (Value.tuple #[Value.int .i64 n228,Value.int .i64 n229,Value.int .i64 n230])∧okMk
 65 65 8∧∀ (b231:Nat) (H232:Hp),H226 b231=none→H232=H226.put b231 (Obj.cells #[Value.int .i64 0,Value.int .i64 0,Value.int .i64 0,
 Value.int .i64 0,Value.int .i64 0,Value.int .i64 0,Value.int .i64 0,Value.int .i64 0,Value.int .i64 0,Value.int
 IntKind.i64 0,Value.int .i64 0,Value.int .i64 0,Value.int .i64 0,Value.int .i64 0,Value.int .i64 0,Value.int .i64
 0,Value.int .i64 0,Value.int .i64 0,Value.int .i64 0,Value.int .i64 0,Value.int .i64 0,Value.int .i64 0,
 Value.int .i64 0,Value.int .i64 0,Value.int .i64 0,Value.int .i64 0,Value.int .i64 0,Value.int .i64 0,Value.int
 IntKind.i64 0,Value.int .i64 0,Value.int .i64 0,Value.int .i64 0,Value.int .i64 0,Value.int .i64 0,Value.int .i64
 0,Value.int .i64 0,Value.int .i64 0,Value.int .i64 0,Value.int .i64 0,Value.int .i64 0,Value.int .i64 0,
 Value.int .i64 0,Value.int .i64 0,Value.int .i64 0,Value.int .i64 0,Value.int .i64 0,Value.int .i64 0,Value.int
 IntKind.i64 0,Value.int .i64 0,Value.int .i64 0,Value.int .i64 0,Value.int .i64 0,Value.int .i64 0,Value.int .i64
 0,Value.int .i64 0,Value.int .i64 0,Value.int .i64 0,Value.int .i64 0,Value.int .i64 0,Value.int .i64 0,
 Value.int .i64 0,Value.int .i64 0,Value.int .i64 0,Value.int .i64 0,Value.int .i64 0] 3)→Go.Eng.Fn Tryz.prog F.collide_Play #[Value.slice
 (some (Addr.mk b231 0 none)) (Int.toNat 65) (Int.toNat 65),u120.v] H232 fun (v233:Value) (H234:Hp)=>∃ u235:Slc,∃ n236:Int,v233=Value.tuple #[u235.v,
 Value.int .i64 n236]∧∀ (b237:Nat) (H238:Hp),H234 b237=none→H238=H234.put b237 (Obj.cells #[Value.int .i64 1,Value.int .i64 2,
 Value.int .i64 1] 3)→Go.Eng.Fn Tryz.prog F.collide_Play #[Value.slice (some (Addr.mk b237 0 none)) 3 3,u120.v] H238 fun (v239:Value) (H240:Hp)=>∃ u241:Slc,∃ n242:Int,v239=Value.tuple #[u241.v,Value.int .i64 n242]∧∀ (b243:Nat) (H244:Hp),H240 b243=none→H244=H240.put b243 (Obj.cells #[Value.int
 IntKind.i64 (-1)] 3)→Go.Eng.Fn Tryz.prog F.collide_Play #[Value.slice (some (Addr.mk b243 0 none)) 1 1,Value.slice none 0 0] H244 fun (v245:Value) (H246:Hp)=>∃ (u247 :
 Slc),∃ n248:Int,v245=Value.tuple #[u247.v,Value.int .i64 n248]∧∀ (b249:Nat) (H250:Hp),H246 b249=none→H250=H246.put b249 (Obj.cells
 #[Value.int .i64 2,Value.int .i64 5,Value.int .i64 1] 3)→okSl 1 (↑u120.n:Int) (↑u120.c:Int) (↑u120.c:Int)∧Go.Eng.Fn Tryz.prog F.collide_Play #[Value.slice
 (some (Addr.mk b249 0 none)) 3 3,Value.slice (subA u120.a (Tryz.prog.cellsOf 74) 1 (↑u120.c:Int)) ((↑u120.n:Int).toNat-Int.toNat 1) ((↑u120.c:Int).toNat-Int.toNat 1)]
 H250 fun (v251:Value) (H252:Hp)=>∃ u253:Slc,∃ n254:Int,v251=Value.tuple #[u253.v,Value.int .i64 n254]∧∀ (b255:Nat) (H256:Hp),H252 b255
 = none→H256=H252.put b255 (Obj.cells #[Value.int .i64 2,Value.int .i64 5] 3)→Go.Eng.Fn Tryz.prog F.collide_Play #[Value.slice (some (Addr.mk b255 0 none)) 2
 2,u120.v] H256 fun (v257:Value) (H258:Hp)=>∃ u259:Slc,∃ n260:Int,v257=Value.tuple #[u259.v,Value.int .i64 n260]∧Go.Eng.Fn Tryz.prog F.collide_Play
 #[Value.slice none 0 0,Value.slice none 0 0] H258 fun (v261:Value) (H262:Hp)=>∃ u263:Slc,∃ n264:Int,v261=Value.tuple #[u263.v,Value.int
 IntKind.i64 n264]∧∀ (b265:Nat) (H266:Hp),H262 b265=none→H266=H262.put b265 (Obj.cells #[Value.int .i64 65536] 3)→Go.Eng.Fn Tryz.prog F.collide_Play #[Value.slice
 (some (Addr.mk b265 0 none)) 1 1,Value.slice none 0 0] H266 fun (v267:Value) (H268:Hp)=>∃ u269:Slc,∃ n270:Int,v267=Value.tuple #[u269.v,
 Value.int .i64 n270]∧∃ n271 n272:Int,Qf Tryz.prog F.pelotonlaw29_whole #[Value.int .i64 3] H268 (Value.agg #[Value.int .i64 n271,Value.int
 IntKind.i64 n272])∧∃ n273 n274:Int,Qf Tryz.prog F.pelotonlaw29_whole #[Value.int .i64 3] H268 (sI2 n273 n274) ∧
 ∃ n275 n276:Int,Qf Tryz.prog F.pelotonlaw29_whole #[Value.int .i64 3] H268 (sI2 n275 n276)∧∀ (b277:Nat) (H278 :
 Hp),H268 b277=none→H278=H268.put b277 (Obj.cells #[Value.int .i64 n271,Value.int .i64 n272,Value.int .i64 1,Value.int
 IntKind.i64 2,Value.int .i64 n273,Value.int .i64 n274,Value.int .i64 1,Value.int .i64 9,Value.int .i64 n275,Value.int
 IntKind.i64 n276,Value.int .i64 2,Value.int .i64 9] 74)→∀ (b279:Nat) (H280:Hp),H278 b279=none→H280=H278.put b279 (Obj.cells #[Value.int
 IntKind.i64 9,Value.int .i64 1,Value.int .i64 2] 3)→Go.Eng.Fn Tryz.prog F.collide_Play #[Value.slice (some (Addr.mk b279 0 none)) 3 3,Value.slice (some (Addr.mk b277 0 none)) 3 3] H280 fun (v281:Value) (H282:Hp)=>∃ u283:Slc,∃ n284:Int,v281=Value.tuple #[u283.v,Value.int .i64 n284]∧Go.Eng.Fn
 Tryz.prog F.pelotonlaw29_log #[] H282 fun (v285:Value) (H286:Hp)=>∃ u287:Slc,v285=u287.v∧okSl 0 2 2 (↑u287.c:Int)∧OpSem Tryz.prog (bcall Builtin.append #[62,62]
 62 #[false,false] [Value.slice (subA u287.a (Tryz.prog.cellsOf 74) 0 2) (Int.toNat 2-Int.toNat 0) (Int.toNat 2-Int.toNat 0),Value.slice (some (Addr.mk b277 0 none)) 3 3]) H286 fun (v288:Value) (H289:Hp)=>∃ u290:Slc,v288=u290.v∧Go.Eng.Fn Tryz.prog F.collide_Times #[u290.v] H289 fun (v291:Value) (H292:Hp)=>∃ u293:Slc,∃
 (u294:Slc),∃ n295:Int,v291=Value.tuple #[u293.v,u294.v,Value.int .i64 n295]∧∃ n296 n297 n298:Int,Qf Tryz.prog F.collide_Most #[Value.slice
 (some (Addr.mk b277 0 none)) 3 3] H292 (Value.tuple #[Value.int .i64 n296,Value.int .i64 n297,Value.int .i64 n298])∧∃ c299:Bool,(true=true→Qf Tryz.prog F.pelotonlaw29_alive #[] H292 (Value.bool c299))∧((true&&c299&&n17==8&&n51==44&&n83==8&&n117==0&&(↑u116.n:Int)==0&&n227==4&&n230==6 &&
 n236==4&&n242==8&&n248==8&&n254==36&&n260==36&&n264==0&&(↑u263.n:Int)==0&&n270==8&&n284==0)=true→∀ (b300:Nat) (H301:Hp),H292 b300=none
 → H301=H292.put b300 (Obj.cells #[Value.int .i64 2,Value.int .i64 1,Value.int .i64 9] 3)→∃ c302:Bool,((true&&c299&&n17==8&&n51==44
 && n83==8&&n117==0&&(↑u116.n:Int)==0&&n227==4&&n230==6&&n236==4&&n242==8&&n248==8&&n254==36&&n260==36&&n264==0&&(↑u263.n:Int)==0&&n270==8&&n284
 == 0)=true→Qf Tryz.prog F.pelotonref03_SameIDs #[u283.v,Value.slice (some (Addr.mk b300 0 none)) 3 3] H301 (Value.bool c302))∧post (Value.bool (true&&c299&&n17==8&&n51
 == 44&&n83==8&&n117==0&&(↑u116.n:Int)==0&&n227==4&&n230==6&&n236==4&&n242==8&&n248==8&&n254==36&&n260==36&&n264==0&&(↑u263.n:Int)==0&&n270==8 &&
 n284==0&&c302&&n295==32&&(↑u294.n:Int)==0&&n298==0&&n296==1&&n297==2)) H301)∧((true&&c299&&n17==8&&n51==44&&n83==8&&n117==0&&(↑u116.n:Int)==0
 && n227==4&&n230==6&&n236==4&&n242==8&&n248==8&&n254==36&&n260==36&&n264==0&&(↑u263.n:Int)==0&&n270==8&&n284==0)=false→∃ c303:Bool,((true
 && c299&&n17==8&&n51==44&&n83==8&&n117==0&&(↑u116.n:Int)==0&&n227==4&&n230==6&&n236==4&&n242==8&&n248==8&&n254==36&&n260==36&&n264==0&&(↑u263.n
 : Int)==0&&n270==8&&n284==0)=true→Qf Tryz.prog F.pelotonref03_SameIDs #[u283.v,Value.slice (some (Addr.mk 0 0 none)) 3 3] H292 (Value.bool c303))∧post (Value.bool
 (true&&c299&&n17==8&&n51==44&&n83==8&&n117==0&&(↑u116.n:Int)==0&&n227==4&&n230==6&&n236==4&&n242==8&&n248==8&&n254==36&&n260==36&&n264==0
 && (↑u263.n:Int)==0&&n270==8&&n284==0&&c303&&n295==32&&(↑u294.n:Int)==0&&n298==0&&n296==1&&n297==2))
 H292))
 ):Go.Eng.Fn Tryz.prog F.pelotonlaw29_CollideNames #[] H post:=Eng.Fn.door (C:=cfg5) good Tryz.func5 (by kernel_rfl) (by kernel_rfl) h
end Go.Proofs.YtlbdpklikfddlaaGreat
