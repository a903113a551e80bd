/- Products of 128 bits, by halves. Conditions: none. -/
import Derived.Test.YtnldicbalihomaaFM
set_option linter.unusedVariables false
namespace Go.Eng
theorem tdH {z:Int} (h:0≤z):z.tdiv 4294967296=z / 4294967296:=Int.tdiv_eq_ediv_of_nonneg h
theorem tmH {z:Int} (h:0≤z):z.tmod 4294967296=z % 4294967296:=Int.tmod_eq_emod_of_nonneg h
theorem wU0 (z:Int):0≤wrapU z:=by unfold wrapU; omega
theorem twd (z:Int):(wrapU z).tdiv 4294967296=wrapU z / 4294967296:=tdH (wU0 z)
theorem twm (z:Int):(wrapU z).tmod 4294967296=wrapU z % 4294967296:=tmH (wU0 z)

theorem prodHi {x y:Int} (hx:0≤x) (hx':x<18446744073709551616) (hy:0≤y) (hy':y<18446744073709551616) :
  wrapU (wrapU (wrapU (wrapU (x / 4294967296) * wrapU (y / 4294967296))+wrapU (wrapU (wrapU (wrapU (x / 4294967296) * (y % 4294967296))+wrapU (wrapU (x % 4294967296 * (y % 4294967296)) / 4294967296)) / 4294967296)) +
   wrapU (wrapU (wrapU (x % 4294967296 * wrapU (y / 4294967296))+wrapU (wrapU (wrapU (x / 4294967296) * (y % 4294967296))+wrapU (wrapU (x % 4294967296 * (y % 4294967296)) / 4294967296)) % 4294967296) / 4294967296))=x * y / 18446744073709551616 ∧
  wrapU (wrapU (wrapU (wrapU (x % 4294967296 * wrapU (y / 4294967296))+wrapU (wrapU (wrapU (x / 4294967296) * (y % 4294967296))+wrapU (wrapU (x % 4294967296 * (y % 4294967296)) / 4294967296)) % 4294967296) % 4294967296 * 4294967296)+wrapU (x % 4294967296 * (y % 4294967296)) % 4294967296)=x * y % 18446744073709551616:=by
 have hs:=mul_split x y
 have b11:=mulB (x:=x / 4294967296) (y:=y / 4294967296) (m:=4294967295) (n:=4294967295) (by omega) (by omega) (by omega) (by omega)
 have b10:=mulB (x:=x / 4294967296) (y:=y % 4294967296) (m:=4294967295) (n:=4294967295) (by omega) (by omega) (by omega) (by omega)
 have b01:=mulB (x:=x % 4294967296) (y:=y / 4294967296) (m:=4294967295) (n:=4294967295) (by omega) (by omega) (by omega) (by omega)
 have b00:=mulB (x:=x % 4294967296) (y:=y % 4294967296) (m:=4294967295) (n:=4294967295) (by omega) (by omega) (by omega) (by omega)
 have e1:wrapU (x / 4294967296)=x / 4294967296:=by unfold wrapU; omega
 have e2:wrapU (y / 4294967296)=y / 4294967296:=by unfold wrapU; omega
 rw [e1,e2]
 unfold wrapU
 generalize (x / 4294967296) * (y / 4294967296)=p11 at *
 generalize (x / 4294967296) * (y % 4294967296)=p10 at *
 generalize (x % 4294967296) * (y / 4294967296)=p01 at *
 generalize (x % 4294967296) * (y % 4294967296)=p00 at *
 generalize x * y=P at *
 constructor <;> omega

theorem BigV.add {c:Bool} {h1 l1 h2 l2 v1 v2:Int} (b1:BigV c h1 l1 v1) (b2:BigV c h2 l2 v2) (r1:absI v1<85070591730234615865843651857942052864) (r2:absI v2<85070591730234615865843651857942052864) :
  (wrapU (l1+l2)<l1→BigV c (wrapU (wrapU (h1+h2)+1)) (wrapU (l1+l2)) (v1+v2))∧(¬ wrapU (l1+l2)<l1→BigV c (wrapU (h1+h2)) (wrapU (l1+l2)) (v1+v2)):=by
 obtain ⟨a1,a2,a3,a4,a5,a6⟩:=b1
 obtain ⟨d1,d2,d3,d4,d5,d6⟩:=b2
 unfold absI at r1 r2
 unfold wrapU
 cases c
 ·have a6:=a6 rfl
  have d6:=d6 rfl
  constructor
  ·intro h
   refine ⟨by omega,by omega,by omega,by omega,fun h=>by (cases h),fun _=>?_⟩
   split at r1 <;> split at r2 <;> omega
  ·intro h
   refine ⟨by omega,by omega,by omega,by omega,fun h=>by (cases h),fun _=>?_⟩
   split at r1 <;> split at r2 <;> omega
 ·have a5:=a5 rfl
  have d5:=d5 rfl
  constructor
  ·intro h
   refine ⟨by omega,by omega,by omega,by omega,fun _=>?_,fun h=>by (cases h)⟩
   split at r1 <;> split at r2 <;> omega
  ·intro h
   refine ⟨by omega,by omega,by omega,by omega,fun _=>?_,fun h=>by (cases h)⟩
   split at r1 <;> split at r2 <;> omega

end Go.Eng
