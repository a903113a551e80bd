/- The numbers of the functions. Conditions: none. -/
import Derived.Test.YtnldicbalihomaaE3
import Derived.Test.YtnldicbalihomaaE4
import Derived.Test.YtnldicbalihomaaProg
import Derived.KernelRfl
set_option linter.unusedVariables false
open Go Go.Proofs
namespace Go.Proofs.Ytnldicbalihomaa
open Go.Eng
abbrev sI2 (x0:Int) (x1:Int):Go.Value:=.agg #[.int .i64 x0,.int .i64 x1]
abbrev sI4 (x0:Int) (x1:Int) (x2:Int) (x3:Int):Go.Value:=.agg #[.int .i64 x0,.int .i64 x1,.int .i64 x2,.int .i64 x3]
namespace T
abbrev int:Nat:=3
abbrev bool:Nat:=4
abbrev s_api_Meeting:Nat:=22
abbrev s_int:Nat:=23
abbrev s_api_Ratio:Nat:=30
abbrev api_Ratio:Nat:=50
abbrev api_Meeting:Nat:=52
abbrev map_int_int:Nat:=53
abbrev map_a2_int_bool:Nat:=63
abbrev a2_int:Nat:=64
end T
namespace F
abbrev pelotonlaw29_CollideTells:Nat:=3
abbrev pelotonref29_Great:Nat:=4
abbrev collide_Of:Nat:=5
abbrev pelotonref29_Of:Nat:=6
abbrev collide_Times:Nat:=7
abbrev pelotonref29_Times:Nat:=8
abbrev collide_Most:Nat:=9
abbrev pelotonref29_Most:Nat:=10
abbrev collide_Play:Nat:=11
abbrev pelotonref29_Play:Nat:=12
abbrev collide_Check:Nat:=13
abbrev pelotonref29_Check:Nat:=14
abbrev pelotonref04_Same:Nat:=15
abbrev pelotonref25_SameTimes:Nat:=16
abbrev pelotonref03_SameIDs:Nat:=17
abbrev slices_Clone_int_int:Nat:=18
abbrev slices_Clone_api_Meeting_api_Meeting:Nat:=19
abbrev slices_IndexFunc_api_Meeting_api_Meeting:Nat:=20
abbrev collide_Play_1:Nat:=21
abbrev slices_Delete_api_Meeting_api_Meeting:Nat:=22
abbrev pelotonref29_at:Nat:=23
abbrev pelotonref29_ready:Nat:=24
abbrev ratio_Check:Nat:=25
abbrev collide_before:Nat:=26
abbrev pelotonref01_Check:Nat:=27
abbrev pelotonref04_Before:Nat:=28
abbrev ratio_gcd:Nat:=29
abbrev ratio_abs:Nat:=30
abbrev ratio_Cmp:Nat:=31
abbrev pelotonref01_common:Nat:=32
abbrev pelotonref01_size:Nat:=33
abbrev pelotonref01_Compare:Nat:=34
abbrev ratio_both:Nat:=35
abbrev cmp_Compare_int64:Nat:=36
abbrev ratio_compare:Nat:=37
abbrev ratio_times:Nat:=38
abbrev pelotonref01_Product:Nat:=39
abbrev pelotonref01_Sign:Nat:=40
abbrev pelotonref01_less:Nat:=41
abbrev cmp_isNaN_int64:Nat:=42
abbrev cmp_Compare_uint64:Nat:=43
abbrev math_bits_Mul64:Nat:=44
abbrev pelotonref01_product:Nat:=45
abbrev cmp_isNaN_uint64:Nat:=46
end F
theorem good:Go.Eng.GoodP Try.prog:=Go.Eng.goodP (by kernel_rfl) (by kernel_rfl)
abbrev vi (n:Int):Value:=Value.int IntKind.i64 n
abbrev vu (n:Int):Value:=Value.int IntKind.u64 n
abbrev pm (i k:Nat) (l:List Nat) (r:Option (List Nat)):Option (List Nat):=bif Nat.beq i k then some l else r
abbrev nx (t k v r:Nat):Nat:=bif Nat.beq t k then v else r
noncomputable def c0 (n:Nat):Cfg:={ P:=Try.prog,n:=n,pv:=fun t=>memN t [],perm:=fun i=>none,eff:=fun f=>memN f [],effv:=false,nm:=fun t=>t,lp:=fun i=>([],[]) }
abbrev rg (n:Nat):List Nat:=List.range n
abbrev vb (b:Bool):Value:=Value.bool b
abbrev vT (a:Array Value):Value:=Value.tuple a
abbrev vA (a:Array Value):Value:=Value.agg a
abbrev fN (f:FuncId) (a:Array Value) (H:Hp) (p:Value→Hp→Prop):Prop:=Go.Eng.Fn Try.prog f a H p
abbrev qF (f:FuncId) (a:Array Value) (H:Hp) (v:Value):Prop:=Qf Try.prog f a H v
abbrev ld4 (H:Hp) (p:Addr) (a b c d:Int):Prop:=H.at p=some (vi a)∧H.at (p.add 1)=some (vi b)∧H.at (p.add 2)=some (vi c)∧H.at (p.add 3)=some (vi d)
abbrev ld3 (H:Hp) (p:Addr) (a b c:Int):Prop:=H.at p=some (vi a)∧H.at (p.add 1)=some (vi b)∧H.at (p.add 2)=some (vi c)
abbrev ld2 (H:Hp) (p:Addr) (a b:Int):Prop:=H.at p=some (vi a)∧H.at (p.add 1)=some (vi b)
end Go.Proofs.Ytnldicbalihomaa
