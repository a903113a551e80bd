/- The engine, parts FM, FN, DV, DQ, put together. Conditions: none. -/
import Derived.Test.YtjhbjjdipmpgjaaGreatE5
set_option linter.unusedVariables false
section
/- Points, fields, numbers of 128 bits, in plain words. Conditions: none. -/
namespace Go.Eng

theorem zza (z:Int):IntKind.i64.wrap z=(z+9223372036854775808) % 18446744073709551616-9223372036854775808:=by
 unfold IntKind.wrap
 simp [IntKind.bits,IntKind.signed]
 omega

theorem y5j {z:Int} (h0:0≤z) (h1:z<18446744073709551616):IntKind.u64.wrap (↑(BitVec.ofInt IntKind.u64.bits z &&& BitVec.ofInt IntKind.u64.bits 4294967295).toNat:Int)=z % 4294967296:=by
 have e:(BitVec.ofInt IntKind.u64.bits z &&& BitVec.ofInt IntKind.u64.bits 4294967295).toNat=z.toNat % 4294967296:=by
  rw [BitVec.toNat_and,BitVec.toNat_ofInt,BitVec.toNat_ofInt]
  have e1:(z % ((2:Int) ^ IntKind.u64.bits)).toNat=z.toNat:=by
   have:(2:Int) ^ IntKind.u64.bits=18446744073709551616:=by decide
   rw [this]; omega
  have e2:((4294967295:Int) % ((2:Int) ^ IntKind.u64.bits)).toNat=2 ^ 32-1:=by decide
  have e1':(z % (((2:Nat) ^ IntKind.u64.bits:Nat):Int)).toNat=z.toNat:=by
   have:(((2:Nat) ^ IntKind.u64.bits:Nat):Int)=18446744073709551616:=by decide
   rw [this]; omega
  have e2':((4294967295:Int) % (((2:Nat) ^ IntKind.u64.bits:Nat):Int)).toNat=2 ^ 32-1:=by decide
  first
   | rw [e1,e2]; exact Nat.and_two_pow_sub_one_eq_mod _ 32
   | rw [e1',e2']; exact Nat.and_two_pow_sub_one_eq_mod _ 32
 rw [e,x0m]
 unfold x0h
 omega
theorem yrm {z:Int} (h0:0≤z):z.fdiv (2 ^ Min.min (Int.toNat 32) IntKind.u64.bits)=z / 4294967296:=by
 have e:(2:Int) ^ Min.min (Int.toNat 32) IntKind.u64.bits=4294967296:=by decide
 rw [e,Int.fdiv_eq_ediv_of_nonneg _ (by omega)]

theorem y7f {x y m n:Int} (hx:0≤x) (hx':x≤m) (hy:0≤y) (hy':y≤n):0≤x * y∧x * y≤m * n :=
 ⟨Int.mul_nonneg hx hy,Int.mul_le_mul hx' hy' hy (by omega)⟩

theorem y7j (x y:Int):x * y=(x / 4294967296) * (y / 4294967296) * 18446744073709551616+((x / 4294967296) * (y % 4294967296)+(x % 4294967296) * (y / 4294967296)) * 4294967296+(x % 4294967296) * (y % 4294967296):=by
 have hx:x=4294967296 * (x / 4294967296)+x % 4294967296:=(Int.mul_ediv_add_emod x 4294967296).symm
 have hy:y=4294967296 * (y / 4294967296)+y % 4294967296:=(Int.mul_ediv_add_emod y 4294967296).symm
 conv=>lhs; rw [hx,hy]
 generalize x / 4294967296=a
 generalize x % 4294967296=b
 generalize y / 4294967296=c
 generalize y % 4294967296=d
 rw [Int.add_mul,Int.mul_add,Int.mul_add]
 have e1:4294967296 * a * (4294967296 * c)=a * c * 18446744073709551616:=by
  rw [Int.mul_assoc,Int.mul_left_comm a,← Int.mul_assoc 4294967296,Int.mul_comm]
  rfl
 have e2:4294967296 * a * d=(a * d) * 4294967296:=by rw [Int.mul_assoc,Int.mul_comm]
 have e3:b * (4294967296 * c)=(b * c) * 4294967296:=by rw [Int.mul_left_comm,Int.mul_comm]
 rw [e1,e2,e3]
 omega

theorem zyi {x y:Int} (hx:0≤x) (hx':x<18446744073709551616) (hy:0≤y) (hy':y<18446744073709551616) :
  x0h (x0h (x0h ((x / 4294967296) * (y / 4294967296))+x0h (x0h ((x / 4294967296) * (y % 4294967296))+x0h ((x % 4294967296) * (y % 4294967296)) / 4294967296) / 4294967296) +
   x0h (x0h (x0h ((x / 4294967296) * (y % 4294967296))+x0h ((x % 4294967296) * (y % 4294967296)) / 4294967296) % 4294967296+x0h ((x % 4294967296) * (y / 4294967296))) / 4294967296)=x * y / 18446744073709551616:=by
 have hs:=y7j x y
 have b11:=y7f (x:=x / 4294967296) (y:=y / 4294967296) (m:=4294967295) (n:=4294967295) (by omega) (by omega) (by omega) (by omega)
 have b10:=y7f (x:=x / 4294967296) (y:=y % 4294967296) (m:=4294967295) (n:=4294967295) (by omega) (by omega) (by omega) (by omega)
 have b01:=y7f (x:=x % 4294967296) (y:=y / 4294967296) (m:=4294967295) (n:=4294967295) (by omega) (by omega) (by omega) (by omega)
 have b00:=y7f (x:=x % 4294967296) (y:=y % 4294967296) (m:=4294967295) (n:=4294967295) (by omega) (by omega) (by omega) (by omega)
 unfold x0h
 generalize (x / 4294967296) * (y / 4294967296)=p11 at *
 generalize (x / 4294967296) * (y % 4294967296)=p10 at *
 generalize (x % 4294967296) * (y / 4294967296)=p01 at *
 generalize (x % 4294967296) * (y % 4294967296)=p00 at *
 generalize x * y=P at *
 omega

def z2h (x:Int):Int:=if x<0 then -x else x
theorem z2n (x:Int):z2h x=x.natAbs:=by unfold z2h; split <;> omega
theorem z2p (x:Int):0≤z2h x:=by unfold z2h; split <;> omega
theorem z2l (x y:Int):z2h x * z2h y=z2h (x * y):=by
 rw [z2n,z2n,z2n,Int.natAbs_mul]; simp

structure z0c (neg:Bool) (hi lo:Int) (v:Int):Prop where
 h0:0≤hi
 h1:hi<18446744073709551616
 l0:0≤lo
 l1:lo<18446744073709551616
 ng:neg=true→v<0∧hi * 18446744073709551616+lo = -v
 ps:neg=false→0≤v∧hi * 18446744073709551616+lo=v

theorem y7i {a b:Int}:a * b<0↔(a<0∧0<b)∨(0<a∧b<0):=by
 rcases Int.lt_trichotomy a 0 with ha | ha | ha <;> rcases Int.lt_trichotomy b 0 with hb | hb | hb
 ·have:=Int.mul_pos_of_neg_of_neg ha hb; omega
 ·subst hb; simp;
 ·have:=Int.mul_neg_of_neg_of_pos ha hb; omega
 ·subst ha; simp
 ·subst ha; simp
 ·subst ha; simp
 ·have:=Int.mul_neg_of_pos_of_neg ha hb; omega
 ·subst hb; simp
 ·have:=Int.mul_pos ha hb; omega

abbrev Pt:=Int × Int × Int
def zsn (p q:Pt) (t:Int × Int):Int:=(p.2.1-q.2.1) * t.2+(p.2.2-q.2.2) * t.1
def sgn (v:Int):Int:=if v<0 then -1 else if v>0 then 1 else 0
def leads (p q:Pt) (t:Int × Int):Bool:=if zsn p q t≠0 then decide (zsn p q t>0) else if p.2.2≠q.2.2 then decide (p.2.2>q.2.2) else decide (p.1<q.1)
def zm4 (p q:Pt) (t:Int × Int):Int:=if zsn p q t≠0 then (if zsn p q t<0 then -1 else 1) else if zlr p.2.2 q.2.2≠0 then zlr p.2.2 q.2.2 else zlr q.1 p.1
theorem zm5 (p q:Pt) (t:Int × Int):decide (zm4 p q t>0)=leads p q t:=by
 unfold zm4 leads
 split
 ·split
  ·rw [Bool.eq_iff_iff,decide_eq_true_eq,decide_eq_true_eq]; omega
  ·rw [Bool.eq_iff_iff,decide_eq_true_eq,decide_eq_true_eq]; omega
 ·split
  ·rename_i h1 h2
   rw [if_pos (fun e=>h2 (zls.2 e)),Bool.eq_iff_iff,decide_eq_true_eq,decide_eq_true_eq,zlt]
  ·rename_i h1 h2
   have:p.2.2=q.2.2:=zls.1 (by omega)
   rw [if_neg (by omega),Bool.eq_iff_iff,decide_eq_true_eq,decide_eq_true_eq,zlt]

structure okP (p:Pt):Prop where
 i0:0≤p.1
 i1:p.1≤65535
 a0:-1048576≤p.2.1
 a1:p.2.1≤1048576
 b0:-1048576≤p.2.2
 b1:p.2.2≤1048576
instance (p:Pt):Decidable (okP p) :=
 decidable_of_iff (0≤p.1∧p.1≤65535∧-1048576≤p.2.1∧p.2.1≤1048576∧-1048576≤p.2.2∧p.2.2≤1048576) ⟨fun ⟨a,b,c,d,e,f⟩=>⟨a,b,c,d,e,f⟩,fun ⟨a,b,c,d,e,f⟩=>⟨a,b,c,d,e,f⟩⟩
def zjj (p:Pt):Int:=if okP p then 0 else 8
theorem zjm {p:Pt} (h:okP p):zjj p=0:=by unfold zjj; rw [if_pos h]
theorem zjk {p:Pt} (h:¬ okP p):zjj p=8:=by unfold zjj; rw [if_neg h]
theorem zjn {p:Pt}:zjj p=0↔okP p:=by
 by_cases h:okP p
 ·simp [zjm h,h]
 ·simp [zjk h,h]

structure okF (f:List Pt):Prop where
 len:f.length≤64
 each:∀ p∈f,okP p
 inc:(f.map (·.1)).Pairwise (·<·)
instance (f:List Pt):Decidable (okF f) :=
 decidable_of_iff (f.length≤64∧(∀ p∈f,okP p)∧(f.map (·.1)).Pairwise (·<·)) ⟨fun ⟨a,b,c⟩=>⟨a,b,c⟩,fun ⟨a,b,c⟩=>⟨a,b,c⟩⟩
def zj5 (f:List Pt):Int:=if 64<f.length then 4 else if ∀ p∈f,okP p then (if (f.map (·.1)).Pairwise (·<·) then 0 else 32) else 8
theorem zj6 {f:List Pt}:zj5 f=0↔okF f:=by
 unfold zj5
 constructor
 ·intro h
  split at h
  ·cases h
  ·split at h
   ·split at h
    ·exact ⟨by omega,by assumption,by assumption⟩
    ·cases h
   ·cases h
 ·intro h
  rw [if_neg (by have:=h.len; omega),if_pos h.each,if_pos h.inc]
def yxj (f:List Pt) (t:Int × Int):Int:=if zj5 f≠0 then zj5 f else zjo t
theorem yxk {f:List Pt} {t:Int × Int}:yxj f t=0↔okF f∧okR t:=by
 unfold yxj
 by_cases h:zj5 f=0
 ·rw [if_neg (by omega),zjr]; exact ⟨fun x=>⟨zj6.1 h,x⟩,fun x=>x.2⟩
 ·rw [if_pos h]; rw [zj6] at h; rw [zj6]; simp [h]

theorem zzr {l:List Int} {x:Int}:(l++[x]).Pairwise (·<·)↔l.Pairwise (·<·)∧∀ y∈l,y<x:=by
 rw [List.pairwise_append]
 simp

def yie (f:List Pt) (id:Int):Int:=idx (fun p:Pt=>p.1==id) f
def gP (f:List Pt) (i:Int):Pt:=f.getD i.toNat (0,0,0)
end Go.Eng
end
section
/- Products of 128 bits,by halves. Conditions: none. -/
namespace Go.Eng
theorem tdH {z:Int} (h:0≤z):z.tdiv 4294967296=z / 4294967296:=Int.tdiv_eq_ediv_of_nonneg h
theorem tmH {z:Int} (h:0≤z):z.tmod 4294967296=z % 4294967296:=Int.tmod_eq_emod_of_nonneg h
theorem wU0 (z:Int):0≤x0h z:=by unfold x0h; omega
theorem twd (z:Int):(x0h z).tdiv 4294967296=x0h z / 4294967296:=tdH (wU0 z)
theorem twm (z:Int):(x0h z).tmod 4294967296=x0h z % 4294967296:=tmH (wU0 z)

theorem yjc {x y:Int} (hx:0≤x) (hx':x<18446744073709551616) (hy:0≤y) (hy':y<18446744073709551616) :
  x0h (x0h (x0h (x0h (x / 4294967296) * x0h (y / 4294967296))+x0h (x0h (x0h (x0h (x / 4294967296) * (y % 4294967296))+x0h (x0h (x % 4294967296 * (y % 4294967296)) / 4294967296)) / 4294967296)) +
   x0h (x0h (x0h (x % 4294967296 * x0h (y / 4294967296))+x0h (x0h (x0h (x / 4294967296) * (y % 4294967296))+x0h (x0h (x % 4294967296 * (y % 4294967296)) / 4294967296)) % 4294967296) / 4294967296))=x * y / 18446744073709551616 ∧
  x0h (x0h (x0h (x0h (x % 4294967296 * x0h (y / 4294967296))+x0h (x0h (x0h (x / 4294967296) * (y % 4294967296))+x0h (x0h (x % 4294967296 * (y % 4294967296)) / 4294967296)) % 4294967296) % 4294967296 * 4294967296)+x0h (x % 4294967296 * (y % 4294967296)) % 4294967296)=x * y % 18446744073709551616:=by
 have hs:=y7j x y
 have b11:=y7f (x:=x / 4294967296) (y:=y / 4294967296) (m:=4294967295) (n:=4294967295) (by omega) (by omega) (by omega) (by omega)
 have b10:=y7f (x:=x / 4294967296) (y:=y % 4294967296) (m:=4294967295) (n:=4294967295) (by omega) (by omega) (by omega) (by omega)
 have b01:=y7f (x:=x % 4294967296) (y:=y / 4294967296) (m:=4294967295) (n:=4294967295) (by omega) (by omega) (by omega) (by omega)
 have b00:=y7f (x:=x % 4294967296) (y:=y % 4294967296) (m:=4294967295) (n:=4294967295) (by omega) (by omega) (by omega) (by omega)
 have e1:x0h (x / 4294967296)=x / 4294967296:=by unfold x0h; omega
 have e2:x0h (y / 4294967296)=y / 4294967296:=by unfold x0h; omega
 rw [e1,e2]
 unfold x0h
 generalize (x / 4294967296) * (y / 4294967296)=p11 at *
 generalize (x / 4294967296) * (y % 4294967296)=p10 at *
 generalize (x % 4294967296) * (y / 4294967296)=p01 at *
 generalize (x % 4294967296) * (y % 4294967296)=p00 at *
 generalize x * y=P at *
 constructor <;> omega

theorem z0c.add {c:Bool} {h1 l1 h2 l2 v1 v2:Int} (b1:z0c c h1 l1 v1) (b2:z0c c h2 l2 v2) (r1:z2h v1<85070591730234615865843651857942052864) (r2:z2h v2<85070591730234615865843651857942052864) :
  (x0h (l1+l2)<l1→z0c c (x0h (x0h (h1+h2)+1)) (x0h (l1+l2)) (v1+v2))∧(¬ x0h (l1+l2)<l1→z0c c (x0h (h1+h2)) (x0h (l1+l2)) (v1+v2)):=by
 obtain ⟨a1,a2,a3,a4,a5,a6⟩:=b1
 obtain ⟨d1,d2,d3,d4,d5,d6⟩:=b2
 unfold z2h at r1 r2
 unfold x0h
 cases c
 ·have a6:=a6 rfl
  have d6:=d6 rfl
  constructor
  ·intro h
   refine ⟨by omega,by omega,by omega,by omega,fun h=>by (cases h),fun _=>?_⟩
   split at r1 <;> split at r2 <;> omega
  ·intro h
   refine ⟨by omega,by omega,by omega,by omega,fun h=>by (cases h),fun _=>?_⟩
   split at r1 <;> split at r2 <;> omega
 ·have a5:=a5 rfl
  have d5:=d5 rfl
  constructor
  ·intro h
   refine ⟨by omega,by omega,by omega,by omega,fun _=>?_,fun h=>by (cases h)⟩
   split at r1 <;> split at r2 <;> omega
  ·intro h
   refine ⟨by omega,by omega,by omega,by omega,fun _=>?_,fun h=>by (cases h)⟩
   split at r1 <;> split at r2 <;> omega

theorem z2k {x m:Int} (h1:-m≤x) (h2:x≤m):z2h x≤m:=by unfold z2h; split <;> omega
theorem z2m {x y m n:Int} (hx:z2h x≤m) (hy:z2h y≤n):z2h (x * y)≤m * n:=by
 rw [← z2l]
 exact (y7f (z2p x) hx (z2p y) hy).2
end Go.Eng
end
section
/- Division bit by bit. Conditions: none. -/
namespace Go.Eng
end Go.Eng
end
section
/- Dividing by zox of 32 bits,in plain words. Conditions: none. -/
namespace Go.Eng
end Go.Eng
end
