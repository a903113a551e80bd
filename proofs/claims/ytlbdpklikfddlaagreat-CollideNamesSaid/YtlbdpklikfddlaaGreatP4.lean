/- The engine, parts R1, R2, R3, R4, put together. Conditions: none. -/
import Derived.Test.YtlbdpklikfddlaaGreatP3
import Derived.Test.YtlbdpklikfddlaaGreatE7
import Derived.Laws.Externs
import Derived.Test.YtlbdpklikfddlaaGreatVgBase
import Derived.Test.YtlbdpklikfddlaaGreatVgStd
import Derived.Test.YtlbdpklikfddlaaGreatFs
import Derived.Test.YtlbdpklikfddlaaGreatFx
set_option linter.unusedVariables false
section
/- Contracts of ratio, course and their references. Conditions: none. -/
set_option maxRecDepth 100000
open Go Go.Eng Go.Proofs
namespace Go.Proofs.YtlbdpklikfddlaaGreat

theorem isNaN_u64 {H:Hp} {x:Int}:Qf Tryz.prog F.cmp_isNaN_uint64 #[.int .u64 x] H (.bool false):=cmp_isNaN_uint64_vc ⟨by simp,Hp.le_refl _⟩
theorem isNaN_i64 {H:Hp} {x:Int}:Qf Tryz.prog F.cmp_isNaN_int64 #[.int .i64 x] H (.bool false):=cmp_isNaN_int64_vc ⟨by simp,Hp.le_refl _⟩
theorem compare_u64 {H:Hp} {x y:Int}:Qf Tryz.prog F.cmp_Compare_uint64 #[.int .u64 x,.int .u64 y] H (.int .i64 (cmpI x y)):=by
 refine cmp_Compare_uint64_vc ⟨_,isNaN_u64,_,isNaN_u64,fun h=>(by cases h),fun _=>⟨fun h=>(by cases h),fun _=>⟨fun h=>⟨?_,Hp.le_refl _⟩,fun h=>⟨fun h'=>⟨?_,Hp.le_refl _⟩,fun h'=>⟨?_,Hp.le_refl _⟩⟩⟩⟩⟩
 ·have:x<y:=by simpa using h
  unfold cmpI; rw [if_pos this]
 ·have h1:¬ x<y:=by simpa using h
  have h2:x>y:=by simpa using h'
  unfold cmpI; rw [if_neg h1,if_pos h2]
 ·have h1:¬ x<y:=by simpa using h
  have h2:¬ x>y:=by simpa using h'
  unfold cmpI; rw [if_neg h1,if_neg h2]
theorem compare_i64 {H:Hp} {x y:Int}:Qf Tryz.prog F.cmp_Compare_int64 #[.int .i64 x,.int .i64 y] H (.int .i64 (cmpI x y)):=by
 refine cmp_Compare_int64_vc ⟨_,isNaN_i64,_,isNaN_i64,fun h=>(by cases h),fun _=>⟨fun h=>(by cases h),fun _=>⟨fun h=>⟨?_,Hp.le_refl _⟩,fun h=>⟨fun h'=>⟨?_,Hp.le_refl _⟩,fun h'=>⟨?_,Hp.le_refl _⟩⟩⟩⟩⟩
 ·have:x<y:=by simpa using h
  unfold cmpI; rw [if_pos this]
 ·have h1:¬ x<y:=by simpa using h
  have h2:x>y:=by simpa using h'
  unfold cmpI; rw [if_neg h1,if_pos h2]
 ·have h1:¬ x<y:=by simpa using h
  have h2:¬ x>y:=by simpa using h'
  unfold cmpI; rw [if_neg h1,if_neg h2]

theorem ratioAbs {H:Hp} {n:Int} (h:inI n):Qf Tryz.prog F.ratio_abs #[.int .i64 n] H (.int .u64 (absI n)):=by
 obtain ⟨h1,h2⟩:=h
 refine ratio_abs_vc ⟨fun hc=>⟨?_,Hp.le_refl _⟩,fun hc=>⟨?_,Hp.le_refl _⟩⟩
 ·have hc:n<0:=by simpa using hc
  congr 1; unfold wrapU absI; rw [if_pos hc]; omega
 ·have hc:¬ n<0:=by simpa using hc
  congr 1; unfold wrapU absI; rw [if_neg hc]; omega
theorem refSize {H:Hp} {n:Int} (h:inI n):Qf Tryz.prog F.pelotonref01_size #[.int .i64 n] H (.int .u64 (absI n)):=by
 obtain ⟨h1,h2⟩:=h
 refine pelotonref01_size_vc ⟨fun hc=>?_,fun hc=>⟨?_,Hp.le_refl _⟩⟩
 ·have hc:n<0:=by simpa using hc
  refine ⟨by unfold inI; omega,by unfold inI; omega,?_,Hp.le_refl _⟩
  congr 1; unfold wrapU absI; rw [if_pos hc]; omega
 ·have hc:¬ n<0:=by simpa using hc
  congr 1; unfold wrapU absI; rw [if_neg hc]; omega

theorem gcd_step {a b n m:Int} (hm:0<m) (hn:0≤n) (h:Nat.gcd n.toNat m.toNat=Nat.gcd a.toNat b.toNat):0≤n.tmod m∧n.tmod m<m∧Nat.gcd m.toNat (n.tmod m).toNat=Nat.gcd a.toNat b.toNat:=by
 have e:n.tmod m=n % m:=Int.tmod_eq_emod_of_nonneg hn
 have e2:(n % m).toNat=n.toNat % m.toNat:=by
  obtain ⟨x,rfl⟩:=Int.eq_ofNat_of_zero_le hn
  obtain ⟨y,rfl⟩:=Int.eq_ofNat_of_zero_le (Int.le_of_lt hm)
  rfl
 refine ⟨by rw [e]; exact Int.emod_nonneg _ (by omega),by rw [e]; exact Int.emod_lt_of_pos _ hm,?_⟩
 rw [e,e2,← h]
 rw [Nat.gcd_comm m.toNat,← Nat.gcd_rec,Nat.gcd_comm]

theorem ratioGcd {H:Hp} {a b:Int} (ha:0≤a) (hb:0≤b):Qf Tryz.prog F.ratio_gcd #[.int .u64 a,.int .u64 b] H (.int .u64 (Nat.gcd a.toNat b.toNat:Nat)):=by
  refine ratio_gcd_vc ⟨fun n m H'=>H'=H∧0≤n∧0≤m∧Nat.gcd n.toNat m.toNat=Nat.gcd a.toNat b.toNat,fun _ m _=>m.toNat,⟨rfl,ha,hb,rfl⟩,fun n m H' ⟨e,h1,h2,h3⟩=>?_⟩
  subst e
  refine ⟨fun hc=>?_,fun hc=>⟨?_,Hp.le_refl _⟩⟩
  · have hc:0<m:=by simpa using hc
    obtain ⟨g1,g2,g3⟩:=gcd_step hc h1 h3
    exact ⟨by unfold nz; omega,⟨rfl,h2,g1,g3⟩,by show (n.tmod m).toNat<m.toNat; omega⟩
  · have:m=0:=by have:¬ m>0:=by simpa using hc
                 omega
    subst this
    rw [← h3]; simp; omega
theorem refCommon {H:Hp} {a b:Int} (ha:0≤a) (hb:0≤b):Qf Tryz.prog F.pelotonref01_common #[.int .u64 a,.int .u64 b] H (.int .u64 (Nat.gcd a.toNat b.toNat:Nat)):=by
 refine pelotonref01_common_vc ⟨fun n m H'=>H'=H∧0≤n∧0≤m∧Nat.gcd n.toNat m.toNat=Nat.gcd a.toNat b.toNat,fun _ m _=>m.toNat,⟨rfl,ha,hb,rfl⟩,fun n m H' ⟨e,h1,h2,h3⟩=>?_⟩
 subst e
 refine ⟨fun hc=>?_,fun hc=>⟨?_,Hp.le_refl _⟩⟩
 ·have hc:0<m:=by have:m≠0:=by simpa using hc
                  omega
  obtain ⟨g1,g2,g3⟩:=gcd_step hc h1 h3
  exact ⟨by unfold nz; omega,⟨rfl,h2,g1,g3⟩,by show (n.tmod m).toNat<m.toNat; omega⟩
 ·have:m=0:=by simpa using hc
  subst this
  rw [← h3]; simp; omega

theorem okR_iff {r:Int × Int} (h:fitR r):okR r↔1≤r.2∧r.1≠-9223372036854775808∧Nat.gcd r.1.natAbs r.2.natAbs=1:=by
 obtain ⟨⟨h1,h2⟩,h3,h4⟩:=h
 constructor
 ·intro o; have:=o.n1; exact ⟨o.d1,by omega,o.g⟩
 ·intro ⟨a,b,c⟩; exact ⟨a,by omega,by omega,by omega,c⟩

theorem ratioCheck {H:Hp} {r:Int × Int} (h:fitR r):Qf Tryz.prog F.ratio_Check #[.agg #[.int .i64 r.1,.int .i64 r.2]] H (.int .i64 (chkR r)):=by
 have hk:=okR_iff h
 obtain ⟨hn,hd⟩:=h
 have hd':=hd
 obtain ⟨d1,d2⟩:=hd'
 refine ratio_Check_vc ⟨_,fun _=>ratioAbs hn,(Nat.gcd r.2.toNat r.1.natAbs:Nat),fun hc=>?_,fun hc=>⟨?_,Hp.le_refl _⟩,fun hc=>⟨?_,Hp.le_refl _⟩⟩
 ·simp only [Bool.not_eq_true',Bool.or_eq_false_iff,decide_eq_false_iff_not] at hc
  have e:wrapU r.2=r.2:=by unfold wrapU; omega
  rw [e]
  have:=ratioGcd (H:=H) (a:=r.2) (b:=absI r.1) (by omega) (absI_nonneg _)
  rw [absI_nat,Int.toNat_natCast] at this
  rw [absI_nat]; exact this
 ·rw [chkR_bad]
  rw [hk]
  intro ⟨a,b,c⟩
  simp only [Bool.or_eq_true,decide_eq_true_eq,beq_iff_eq] at hc
  rcases hc with (hc | hc) | hc
  ·omega
  ·exact b hc
  ·have e:r.2.toNat=r.2.natAbs:=by omega
   rw [e,Nat.gcd_comm,c] at hc; omega
 ·rw [chkR_ok]
  rw [hk]
  simp only [Bool.or_eq_false_iff,decide_eq_false_iff_not,beq_eq_false_iff_ne] at hc
  obtain ⟨⟨a,b⟩,c⟩:=hc
  refine ⟨by omega,b,?_⟩
  have e:r.2.toNat=r.2.natAbs:=by omega
  rw [e,Nat.gcd_comm] at c
  have:0<Nat.gcd r.1.natAbs r.2.natAbs:=Nat.gcd_pos_of_pos_right _ (by omega)
  omega
theorem refRCheck {H:Hp} {r:Int × Int} (h:fitR r):Qf Tryz.prog F.pelotonref01_Check #[.agg #[.int .i64 r.1,.int .i64 r.2]] H (.int .i64 (chkR r)):=by
 have hk:=okR_iff h
 obtain ⟨hn,hd⟩:=h
 have hd':=hd
 obtain ⟨d1,d2⟩:=hd'
 refine pelotonref01_Check_vc ⟨_,fun _=>refSize hn,(Nat.gcd r.1.natAbs r.2.toNat:Nat),fun hc=>?_,fun hc=>⟨?_,Hp.le_refl _⟩,fun hc=>⟨?_,Hp.le_refl _⟩⟩
 ·simp only [Bool.not_eq_true',Bool.or_eq_false_iff,decide_eq_false_iff_not] at hc
  have e:wrapU r.2=r.2:=by unfold wrapU; omega
  rw [e]
  have:=refCommon (H:=H) (a:=absI r.1) (b:=r.2) (absI_nonneg _) (by omega)
  rw [absI_nat,Int.toNat_natCast] at this
  rw [absI_nat]; exact this
 ·rw [chkR_bad]
  rw [hk]
  intro ⟨a,b,c⟩
  simp only [Bool.or_eq_true,decide_eq_true_eq,beq_iff_eq,bne_iff_ne] at hc
  rcases hc with (hc | hc) | hc
  ·omega
  ·exact b hc
  ·have e:r.2.toNat=r.2.natAbs:=by omega
   rw [e,c] at hc; omega
 ·rw [chkR_ok]
  rw [hk]
  simp only [Bool.or_eq_false_iff,decide_eq_false_iff_not,beq_eq_false_iff_ne,bne_eq_false_iff_eq] at hc
  obtain ⟨⟨a,b⟩,c⟩:=hc
  refine ⟨by omega,b,?_⟩
  have e:r.2.toNat=r.2.natAbs:=by omega
  rw [e] at c
  omega

theorem ratioBoth {H:Hp} {a b:Int × Int} (ha:fitR a) (hb:fitR b):Qf Tryz.prog F.ratio_both #[.agg #[.int .i64 a.1,.int .i64 a.2],.agg #[.int .i64 b.1,.int .i64 b.2]] H (.int .i64 (if okR a∧okR b then 0 else 8)):=by
 refine ratio_both_vc ⟨_,ratioCheck ha,_,ratioCheck hb,?_,Hp.le_refl _⟩
 congr 1
 by_cases h1:okR a <;> by_cases h2:okR b
 ·rw [chkR_ok h1,chkR_ok h2]; simp [h1,h2]
 ·rw [chkR_ok h1,chkR_bad h2]; simp [h1,h2]
 ·rw [chkR_bad h1,chkR_ok h2]; simp [h1,h2]
 ·rw [chkR_bad h1,chkR_bad h2]; simp [h1,h2]

theorem mul64 {H:Hp} {x y:Int} (hx:0≤x) (hx':x<18446744073709551616) (hy:0≤y) (hy':y<18446744073709551616) :
  Qf Tryz.prog F.math_bits_Mul64 #[.int .u64 x,.int .u64 y] H (.tuple #[.int .u64 (x * y / 18446744073709551616),.int .u64 (x * y % 18446744073709551616)]):=by
 refine math_bits_Mul64_vc ⟨by unfold nn; omega,by unfold nn; omega,by unfold nn; omega,by unfold nn; omega,by unfold nn; omega,?_,Hp.le_refl _⟩
 have hW:∀ z:Int,0≤wrapU z∧wrapU z<18446744073709551616:=fun z=>by unfold wrapU; omega
 rw [maskU hx hx',maskU hy hy',shr32 hx,shr32 hy,shr32 (hW _).1,shr32 (hW _).1,maskU (hW _).1 (hW _).2,shr32 (hW _).1,hi64 hx hx' hy hy']
 rfl

theorem absB {n:Int} (h:inI n):0≤absI n∧absI n≤9223372036854775808:=by
 obtain ⟨h1,h2⟩:=h
 unfold absI; split <;> omega

theorem ratioTimes {H:Hp} {a b:Int} (ha:inI a) (hb:inI b) :
  Qf Tryz.prog F.ratio_times #[.int .i64 a,.int .i64 b] H (.agg #[.bool (!(decide (a<0)==decide (b<0))),.int .u64 (absI (a * b) / 18446744073709551616),.int .u64 (absI (a * b) % 18446744073709551616)]):=by
 have h1:=absB ha; have h2:=absB hb
 refine ratio_times_vc ⟨_,ratioAbs ha,_,ratioAbs hb,_,_,mul64 (by omega) (by omega) (by omega) (by omega),?_,Hp.le_refl _⟩
 rw [absI_mul]

theorem ratioCompare {H:Hp} {c d:Bool} {x y:Int} (hx:0≤x) (hy:0≤y) :
  Qf Tryz.prog F.ratio_compare #[.agg #[.bool c,.int .u64 (x / 18446744073709551616),.int .u64 (x % 18446744073709551616)],.agg #[.bool d,.int .u64 (y / 18446744073709551616),.int .u64 (y % 18446744073709551616)]] H (.int .i64 (cmpI x y)):=by
 refine ratio_compare_vc ⟨_,compare_u64,fun hc=>⟨?_,Hp.le_refl _⟩,fun hc=>⟨_,compare_u64,?_,Hp.le_refl _⟩⟩
 ·have hc:cmpI (x / 18446744073709551616) (y / 18446744073709551616)≠0:=by simpa using hc
  congr 1
  have h1:¬ x / 18446744073709551616=y / 18446744073709551616:=fun e=>hc (cmpI_eq.2 e)
  unfold cmpI
  split
  ·rw [if_pos (by omega)]
  ·rw [if_pos (by omega),if_neg (by omega),if_pos (by omega)]
 ·have hc:cmpI (x / 18446744073709551616) (y / 18446744073709551616)=0:=by simpa using hc
  have h1:=cmpI_eq.1 hc
  congr 1
  unfold cmpI
  split
  ·rw [if_pos (by omega)]
  ·split
   ·rw [if_neg (by omega),if_pos (by omega)]
   ·rw [if_neg (by omega),if_neg (by omega)]

theorem cmpR_abs {a b:Int × Int} (ha:okR a) (hb:okR b) (hs:a.1<0↔b.1<0):(if a.1<0 then 0-cmpI (absI (a.1 * b.2)) (absI (b.1 * a.2)) else cmpI (absI (a.1 * b.2)) (absI (b.1 * a.2)))=cmpR a b:=by
 have da:=ha.d1; have db:=hb.d1
 unfold cmpR
 split
 ·rename_i h
  have h':=hs.1 h
  have p:=Int.mul_neg_of_neg_of_pos h (show 0<b.2 by omega)
  have q:=Int.mul_neg_of_neg_of_pos h' (show 0<a.2 by omega)
  rw [cmpI_neg]
  unfold absI
  rw [if_pos p,if_pos q]
  unfold cmpI
  split
  ·rw [if_pos (by omega)]
  ·split
   ·rw [if_neg (by omega),if_pos (by omega)]
   ·rw [if_neg (by omega),if_neg (by omega)]
 ·rename_i h
  have h':¬ b.1<0:=fun x=>h (hs.2 x)
  have p:=Int.mul_nonneg (show 0≤a.1 by omega) (show 0≤b.2 by omega)
  have q:=Int.mul_nonneg (show 0≤b.1 by omega) (show 0≤a.2 by omega)
  unfold absI
  rw [if_neg (by omega),if_neg (by omega)]

theorem cmpR_sign {a b:Int × Int} (ha:okR a) (hb:okR b) (hs:¬ (a.1<0↔b.1<0)):cmpI a.1 b.1=cmpR a b:=by
 have da:=ha.d1; have db:=hb.d1
 unfold cmpR
 by_cases h:a.1<0
 ·have h':¬ b.1<0:=fun x=>hs (iff_of_true h x)
  have p:=Int.mul_neg_of_neg_of_pos h (show 0<b.2 by omega)
  have q:=Int.mul_nonneg (show 0≤b.1 by omega) (show 0≤a.2 by omega)
  unfold cmpI
  rw [if_pos (by omega),if_pos (by omega)]
 ·have h':b.1<0:=by
   rcases Int.lt_or_le b.1 0 with x | x
   ·exact x
   ·exact absurd (iff_of_false h (by omega)) hs
  have p:=Int.mul_nonneg (show 0≤a.1 by omega) (show 0≤b.2 by omega)
  have q:=Int.mul_neg_of_neg_of_pos h' (show 0<a.2 by omega)
  unfold cmpI
  rw [if_neg (by omega),if_pos (by omega),if_neg (by omega),if_pos (by omega)]

def cmpM (a b:Int × Int):Int × Int:=if okR a∧okR b then (cmpR a b,0) else (0,8)
theorem ratioCmp {H:Hp} {a b:Int × Int} (ha:fitR a) (hb:fitR b):Qf Tryz.prog F.ratio_Cmp #[.agg #[.int .i64 a.1,.int .i64 a.2],.agg #[.int .i64 b.1,.int .i64 b.2]] H (.tuple #[.int .i64 (cmpM a b).1,.int .i64 (cmpM a b).2]):=by
 refine ratio_Cmp_vc ⟨_,ratioBoth ha hb,fun hc=>⟨?_,Hp.le_refl _⟩,fun hc=>?_⟩
 ·have:¬ (okR a∧okR b):=fun h=>by rw [if_pos h] at hc; simp at hc
  unfold cmpM; rw [if_neg this,if_neg this]
 ·have hk:okR a∧okR b:=by
   by_cases h:okR a∧okR b
   ·exact h
   ·rw [if_neg h] at hc; simp at hc
  obtain ⟨oa,ob⟩:=hk
  have e:cmpM a b=(cmpR a b,0):=by unfold cmpM; rw [if_pos ⟨oa,ob⟩]
  rw [e]
  refine ⟨fun hs=>⟨_,compare_i64,?_,Hp.le_refl _⟩,fun hs=>⟨_,_,_,ratioTimes ha.1 hb.2,_,_,_,ratioTimes hb.1 ha.2,_,ratioCompare (absI_nonneg _) (absI_nonneg _),fun hn=>⟨?_,?_,Hp.le_refl _⟩,fun hn=>⟨?_,Hp.le_refl _⟩⟩⟩
  ·rw [cmpR_sign oa ob]
   intro h
   simp only [Bool.not_eq_true',beq_eq_false_iff_ne] at hs
   exact hs (by rw [Bool.eq_iff_iff,decide_eq_true_eq,decide_eq_true_eq]; exact h)
  ·have:=cmpI_range (absI (a.1 * b.2)) (absI (b.1 * a.2))
   unfold inI; omega
  ·have hs':a.1<0↔b.1<0:=by
    simp only [Bool.not_eq_false',beq_iff_eq] at hs
    rw [Bool.eq_iff_iff,decide_eq_true_eq,decide_eq_true_eq] at hs; exact hs
   have hn:a.1<0:=by simpa using hn
   rw [← cmpR_abs oa ob hs',if_pos hn]
  ·have hs':a.1<0↔b.1<0:=by
    simp only [Bool.not_eq_false',beq_iff_eq] at hs
    rw [Bool.eq_iff_iff,decide_eq_true_eq,decide_eq_true_eq] at hs; exact hs
   have hn:¬ a.1<0:=by simpa using hn
   rw [← cmpR_abs oa ob hs',if_neg hn]

theorem bneB {c d:Bool} (h:¬ c=d):(c=true→d=false)∧(c=false→d=true):=by
 revert h; cases c <;> cases d <;> simp

theorem refProd {H:Hp} {x y:Int} (hx:0≤x) (hx':x<18446744073709551616) (hy:0≤y) (hy':y<18446744073709551616) :
  Qf Tryz.prog F.pelotonref01_product #[.int .u64 x,.int .u64 y] H (.agg #[.bool false,.int .u64 (x * y / 18446744073709551616),.int .u64 (x * y % 18446744073709551616)]):=by
 refine pelotonref01_product_vc ⟨by unfold nz; omega,by unfold nz; omega,by unfold nz; omega,by unfold nz; omega,by unfold nz; omega,by unfold nz; omega,by unfold nz; omega,by unfold nz; omega,by unfold nz; omega,by unfold nz; omega,?_,Hp.le_refl _⟩
 rw [tdH hx,tdH hy,tmH hx,tmH hy]
 simp only [twd,twm]
 rw [(prodHi hx hx' hy hy').1,(prodHi hx hx' hy hy').2]

theorem refProduct {H:Hp} {a b:Int} (ha:inI a) (hb:inI b):∃ c h l,Qf Tryz.prog F.pelotonref01_Product #[.int .i64 a,.int .i64 b] H (.agg #[.bool c,.int .u64 h,.int .u64 l])∧BigV c h l (a * b):=by
 have h1:=absB ha; have h2:=absB hb
 have hm:=mulB h1.1 h1.2 h2.1 h2.2
 refine ⟨_,_,_,pelotonref01_Product_vc ⟨_,refSize ha,_,refSize hb,_,_,_,refProd (by omega) (by omega) (by omega) (by omega),rfl,Hp.le_refl _⟩,?_⟩
 rw [absI_mul] at hm ⊢
 have key:(!(decide (a<0)==decide (b<0))&&(a != 0&&b != 0))=decide (a * b<0):=by
  rw [Bool.eq_iff_iff,decide_eq_true_eq,mul_neg_iff]
  simp only [Bool.and_eq_true,Bool.not_eq_true',beq_eq_false_iff_ne,bne_iff_ne]
  by_cases x:a<0 <;> by_cases y:b<0 <;> simp [x,y] <;> omega
 rw [key]
 generalize a * b=v at *
 refine ⟨by omega,by omega,by omega,by omega,fun h=>?_,fun h=>?_⟩
 ·have h:v<0:=by simpa using h
  refine ⟨h,?_⟩
  have:absI v = -v:=by unfold absI; rw [if_pos h]
  omega
 ·have h:¬ v<0:=by simpa using h
  have:absI v=v:=by unfold absI; rw [if_neg h]
  omega

theorem refLess {H:Hp} {c d:Bool} {h1 l1 h2 l2:Int} (a0:0≤l1) (a1:l1<18446744073709551616) (b0:0≤l2) (b1:l2<18446744073709551616) :
  Qf Tryz.prog F.pelotonref01_less #[.agg #[.bool c,.int .u64 h1,.int .u64 l1],.agg #[.bool d,.int .u64 h2,.int .u64 l2]] H (.int .i64 (cmpI (h1 * 18446744073709551616+l1) (h2 * 18446744073709551616+l2))):=by
 refine pelotonref01_less_vc ⟨fun hc=>⟨fun hl=>⟨?_,Hp.le_refl _⟩,fun hl=>⟨?_,Hp.le_refl _⟩⟩,fun hc=>⟨fun hl=>⟨fun hx=>⟨?_,Hp.le_refl _⟩,fun hx=>⟨?_,Hp.le_refl _⟩⟩,fun hl=>⟨?_,Hp.le_refl _⟩⟩⟩
 ·simp at hc hl; unfold cmpI; rw [if_pos (by omega)]
 ·simp at hc hl; unfold cmpI; rw [if_neg (by omega),if_pos (by omega)]
 ·simp at hc hl hx; unfold cmpI; rw [if_pos (by omega)]
 ·simp at hc hl hx; unfold cmpI; rw [if_neg (by omega),if_pos (by omega)]
 ·simp at hc hl; unfold cmpI; rw [if_neg (by omega),if_neg (by omega)]

theorem refMinus {H:Hp} {c d:Bool} {h1 l1 h2 l2:Int} (a0:0≤l1) (a1:l1<18446744073709551616) (b0:0≤l2) (b1:l2<18446744073709551616) (a2:0≤h1) (a3:h1<18446744073709551616) (b2:0≤h2) (b3:h2<18446744073709551616)
  (hv:h2 * 18446744073709551616+l2≤h1 * 18446744073709551616+l1) :
  ∃ h l,Qf Tryz.prog F.pelotonref01_minus #[.agg #[.bool c,.int .u64 h1,.int .u64 l1],.agg #[.bool d,.int .u64 h2,.int .u64 l2]] H (.agg #[.bool false,.int .u64 h,.int .u64 l]) ∧
   0≤h∧h<18446744073709551616∧0≤l∧l<18446744073709551616∧h * 18446744073709551616+l=(h1 * 18446744073709551616+l1)-(h2 * 18446744073709551616+l2):=by
 by_cases hl:l1<l2
 ·refine ⟨_,_,pelotonref01_minus_vc ⟨fun _=>⟨rfl,Hp.le_refl _⟩,fun hc=>by simp at hc; omega⟩,?_⟩
  unfold wrapU; omega
 ·refine ⟨_,_,pelotonref01_minus_vc ⟨fun hc=>by simp at hc; omega,fun _=>⟨rfl,Hp.le_refl _⟩⟩,?_⟩
  unfold wrapU; omega

theorem refPlus {H:Hp} {c d:Bool} {h1 l1 h2 l2 v1 v2:Int} (b1:BigV c h1 l1 v1) (b2:BigV d h2 l2 v2) (r1:absI v1<85070591730234615865843651857942052864) (r2:absI v2<85070591730234615865843651857942052864) :
  ∃ e h l,Qf Tryz.prog F.pelotonref01_Plus #[.agg #[.bool c,.int .u64 h1,.int .u64 l1],.agg #[.bool d,.int .u64 h2,.int .u64 l2]] H (.agg #[.bool e,.int .u64 h,.int .u64 l])∧BigV e h l (v1+v2):=by
 by_cases hcd:c=d
 ·subst hcd
  obtain ⟨k1,k2⟩:=b1.add b2 r1 r2
  by_cases hl:wrapU (l1+l2)<l1
  ·exact ⟨_,_,_,pelotonref01_Plus_vc ⟨fun _=>⟨fun _=>⟨rfl,Hp.le_refl _⟩,fun hx=>by simp at hx; omega⟩,fun hx=>by simp at hx⟩,k1 hl⟩
  ·exact ⟨_,_,_,pelotonref01_Plus_vc ⟨fun _=>⟨fun hx=>by simp at hx; omega,fun _=>⟨rfl,Hp.le_refl _⟩⟩,fun hx=>by simp at hx⟩,k2 hl⟩
 ·have b1':=b1; have b2':=b2
  obtain ⟨p0,p1,p2,p3,p4,p5⟩:=b1'
  obtain ⟨q0,q1,q2,q3,q4,q5⟩:=b2'
  have hle:=refLess (H:=H) (c:=c) (d:=d) (h1:=h1) (l1:=l1) (h2:=h2) (l2:=l2) p2 p3 q2 q3
  by_cases hv:h2 * 18446744073709551616+l2≤h1 * 18446744073709551616+l1
  ·obtain ⟨h,l,hq,g0,g1,g2,g3,g4⟩:=refMinus (H:=H) (c:=c) (d:=d) p2 p3 q2 q3 p0 p1 q0 q1 hv
   refine ⟨_,_,_,pelotonref01_Plus_vc ⟨fun hx=>by simp at hx; exact absurd hx hcd,fun _=>⟨_,hle,fun _=>⟨_,_,_,hq,rfl,Hp.le_refl _⟩,fun hx=>?_⟩⟩,?_⟩
   ·have:cmpI (h1 * 18446744073709551616+l1) (h2 * 18446744073709551616+l2)<0:=by simpa using hx
    rw [cmpI_lt] at this; omega
   ·refine ⟨g0,g1,g2,g3,fun hx=>?_,fun hx=>?_⟩
    ·simp only [Bool.and_eq_true,Bool.or_eq_true,decide_eq_true_eq] at hx
     have hc:=hx.1
     subst hc
     have hd:d=false:=(bneB hcd).1 rfl
     subst hd
     have:=p4 rfl; have:=q5 rfl
     omega
    ·cases c
     ·have hd:d=true:=(bneB hcd).2 rfl
      subst hd
      have:=p5 rfl; have:=q4 rfl
      omega
     ·have hd:d=false:=(bneB hcd).1 rfl
      subst hd
      have:=p4 rfl; have:=q5 rfl
      simp at hx
      omega
  ·obtain ⟨h,l,hq,g0,g1,g2,g3,g4⟩:=refMinus (H:=H) (c:=d) (d:=c) q2 q3 p2 p3 q0 q1 p0 p1 (by omega)
   refine ⟨_,_,_,pelotonref01_Plus_vc ⟨fun hx=>by simp at hx; exact absurd hx hcd,fun _=>⟨_,hle,fun hx=>?_,fun _=>⟨_,_,_,hq,rfl,Hp.le_refl _⟩⟩⟩,?_⟩
   ·have:¬ cmpI (h1 * 18446744073709551616+l1) (h2 * 18446744073709551616+l2)<0:=by simpa using hx
    rw [cmpI_lt] at this; omega
   ·refine ⟨g0,g1,g2,g3,fun hx=>?_,fun hx=>?_⟩
    ·subst hx
     have hc:c=false:=(bneB (fun e=>hcd e.symm)).1 rfl
     subst hc
     have:=p5 rfl; have:=q4 rfl
     omega
    ·subst hx
     have hc:c=true:=(bneB (fun e=>hcd e.symm)).2 rfl
     subst hc
     have:=p4 rfl; have:=q5 rfl
     omega

theorem refSign {H:Hp} {c:Bool} {h l v:Int} (b:BigV c h l v):Qf Tryz.prog F.pelotonref01_Sign #[.agg #[.bool c,.int .u64 h,.int .u64 l]] H (.int .i64 (sgn v)):=by
 obtain ⟨p0,p1,p2,p3,p4,p5⟩:=b
 refine pelotonref01_Sign_vc ⟨fun hc=>⟨?_,Hp.le_refl _⟩,fun hc=>⟨fun hn=>⟨?_,Hp.le_refl _⟩,fun hn=>⟨?_,Hp.le_refl _⟩⟩⟩
 ·simp at hc
  have:v=0:=by
   cases c
   ·have:=p5 rfl; omega
   ·have:=p4 rfl; omega
  subst this; rfl
 ·subst hn; have:=p4 rfl; unfold sgn; rw [if_pos this.1]
 ·subst hn; have:=p5 rfl
  simp at hc
  unfold sgn; rw [if_neg (by omega),if_pos (by omega)]

theorem refCompareR {H:Hp} {a b:Int × Int} (ha:okR a) (hb:okR b):Qf Tryz.prog F.pelotonref01_Compare #[.agg #[.int .i64 a.1,.int .i64 a.2],.agg #[.int .i64 b.1,.int .i64 b.2]] H (.int .i64 (cmpR a b)):=by
  obtain ⟨c,h,l,q1,b1⟩:=refProduct (H:=H) ha.fit.1 hb.fit.2
  obtain ⟨c',h',l',q2,b2⟩:=refProduct (H:=H) hb.fit.1 ha.fit.2
  have s1:=refSign (H:=H) b1
  have s2:=refSign (H:=H) b2
  have p:=b1; have p':=b2
  obtain ⟨p0,p1,p2,p3,p4,p5⟩:=p
  obtain ⟨r0,r1,r2,r3,r4,r5⟩:=p'
  unfold cmpR
  refine pelotonref01_Compare_vc ⟨_,_,_,q1,_,_,_,q2,_,s1,_,s2,fun hc=>⟨_,s1,_,s2,fun hx=>⟨?_,Hp.le_refl _⟩,fun hx=>⟨?_,Hp.le_refl _⟩⟩,fun hc=>⟨_,s1,fun hx=>⟨_,refLess r2 r3 p2 p3,?_,Hp.le_refl _⟩,fun hx=>⟨_,refLess p2 p3 r2 r3,?_,Hp.le_refl _⟩⟩⟩
  · simp only [bne_iff_ne,decide_eq_true_eq] at hc hx
    unfold sgn at hx hc
    unfold cmpI
    rw [if_pos]
    split at hx <;> split at hx <;> omega
  · simp only [bne_iff_ne,decide_eq_false_iff_not] at hc hx
    unfold sgn at hx hc
    unfold cmpI
    rw [if_neg,if_pos]
    · split at hx <;> split at hx <;> omega
    · split at hx <;> split at hx <;> omega
  · simp only [bne_eq_false_iff_eq,decide_eq_true_eq] at hc hx
    have v1:a.1 * b.2<0:=by unfold sgn at hx; split at hx <;> omega
    have v2:b.1 * a.2<0:=by unfold sgn at hx hc; split at hc <;> split at hc <;> omega
    have e1:c=true:=by cases c; · have:=p5 rfl; omega
                       · rfl
    have e2:c'=true:=by cases c'; · have:=r5 rfl; omega
                        · rfl
    rw [(p4 e1).2,(r4 e2).2]
    congr 1
    unfold cmpI
    split
    · rw [if_pos (by omega)]
    · split
      · rw [if_neg (by omega),if_pos (by omega)]
      · rw [if_neg (by omega),if_neg (by omega)]
  · simp only [bne_eq_false_iff_eq,decide_eq_false_iff_not] at hc hx
    have v1:¬ a.1 * b.2<0:=by intro h; unfold sgn at hx; rw [if_pos h] at hx; omega
    have v2:¬ b.1 * a.2<0:=by
      intro h; unfold sgn at hx hc; rw [if_neg v1] at hc hx; rw [if_pos h] at hc; split at hc <;> omega
    have e1:c=false:=by cases c; · rfl
                        · have:=p4 rfl; omega
    have e2:c'=false:=by cases c'; · rfl
                         · have:=r4 rfl; omega
    rw [(p5 e1).2,(r5 e2).2]

theorem farR {p q:Pt} {t:Int × Int} (hp:okP p) (hq:okP q) (ht:okR t) :
  absI ((p.2.1-q.2.1) * t.2)≤19342813113834066795298816∧absI ((p.2.2-q.2.2) * t.1)≤19342813113834066795298816∧inI (p.2.1-q.2.1)∧inI (p.2.2-q.2.2):=by
 obtain ⟨_,_,a0,a1,b0,b1⟩:=hp
 obtain ⟨_,_,c0,c1,d0,d1⟩:=hq
 obtain ⟨t1,t2,t3,t4,_⟩:=ht
 refine ⟨?_,?_,by unfold inI; omega,by unfold inI; omega⟩
 ·exact absI_mul_le (m:=2097152) (n:=9223372036854775808) (absI_le (by omega) (by omega)) (absI_le (by omega) (by omega))
 ·exact absI_mul_le (m:=2097152) (n:=9223372036854775808) (absI_le (by omega) (by omega)) (absI_le (by omega) (by omega))

theorem refFar {H:Hp} {p q:Pt} {t:Int × Int} (hp:okP p) (hq:okP q) (ht:okR t) :
  Qf Tryz.prog F.pelotonref02_Far #[.agg #[.int .i64 p.1,.int .i64 p.2.1,.int .i64 p.2.2],.agg #[.int .i64 q.1,.int .i64 q.2.1,.int .i64 q.2.2],.agg #[.int .i64 t.1,.int .i64 t.2]] H (.int .i64 (sgn (farV p q t))):=by
 obtain ⟨r1,r2,i1,i2⟩:=farR hp hq ht
 obtain ⟨c,h,l,q1,b1⟩:=refProduct (H:=H) i1 ht.fit.2
 obtain ⟨c',h',l',q2,b2⟩:=refProduct (H:=H) i2 ht.fit.1
 obtain ⟨e,h3,l3,q3,b3⟩:=refPlus (H:=H) b1 b2 (by omega) (by omega)
 exact pelotonref02_Far_vc ⟨i1,_,_,_,q1,i2,_,_,_,q2,_,_,_,q3,_,refSign b3,rfl,Hp.le_refl _⟩

theorem refLeads {H:Hp} {p q:Pt} {t:Int × Int} (hp:okP p) (hq:okP q) (ht:okR t) :
  Qf Tryz.prog F.pelotonref02_Leads #[.agg #[.int .i64 p.1,.int .i64 p.2.1,.int .i64 p.2.2],.agg #[.int .i64 q.1,.int .i64 q.2.1,.int .i64 q.2.2],.agg #[.int .i64 t.1,.int .i64 t.2]] H (.bool (leads p q t)):=by
 refine pelotonref02_Leads_vc ⟨_,refFar hp hq ht,fun hc=>⟨?_,Hp.le_refl _⟩,fun hc=>⟨fun hb=>⟨?_,Hp.le_refl _⟩,fun hb=>⟨?_,Hp.le_refl _⟩⟩⟩
 ·have hc:sgn (farV p q t)≠0:=by simpa using hc
  unfold leads
  have:farV p q t≠0:=fun e=>hc (by rw [e]; try rfl)
  rw [if_pos this]
  congr 1
  rw [Bool.eq_iff_iff,decide_eq_true_eq,decide_eq_true_eq]
  unfold sgn
  split
  ·omega
  ·split <;> omega
 all_goals
  have hc:sgn (farV p q t)=0:=by simpa using hc
  have e:farV p q t=0:=by unfold sgn at hc; split at hc; · omega
                          ·split at hc <;> omega
  unfold leads
  rw [if_neg (by omega)]
 ·rw [if_pos (by simpa using hb)]
 ·rw [if_neg (by simpa using hb)]

theorem refPCheck {H:Hp} {p:Pt}:Qf Tryz.prog F.pelotonref02_Check #[.agg #[.int .i64 p.1,.int .i64 p.2.1,.int .i64 p.2.2]] H (.int .i64 (chkP p)):=by
 refine pelotonref02_Check_vc ⟨fun hc=>⟨?_,Hp.le_refl _⟩,fun hc=>⟨?_,Hp.le_refl _⟩⟩
 ·rw [chkP_bad]
  intro h
  have:=h.i0; have:=h.i1; have:=h.a0; have:=h.a1; have:=h.b0; have:=h.b1
  simp at hc; omega
 ·simp at hc
  rw [chkP_ok ⟨by omega,by omega,by omega,by omega,by omega,by omega⟩]

theorem add64 {H:Hp} {x y:Int} (hx:0≤x) (hy:0≤y):OpQ Tryz.prog (callFunc F.math_bits_Add64 #[.int .u64 x,.int .u64 y,.int .u64 0]) H (.tuple #[.int .u64 ((x+y) % 18446744073709551616),.int .u64 ((x+y) / 18446744073709551616)]):=by
 intro w _
 rw [run_callFunc_extern func_Add64 (by kernel_rfl) (by kernel_rfl) (by kernel_rfl) (e:=add64Entry) (by kernel_rfl),run_add64 x y 0 hx hy (by omega) (by omega)]
 simp only [Result.andThen,Int.add_zero]

theorem mul_wrap {a b:Int} (ha:inI a) (hb:inI b):wrapU a * wrapU b=a * b+18446744073709551616 * ((if a<0 then b else 0)+(if b<0 then a else 0)+(if a<0∧b<0 then 18446744073709551616 else 0)):=by
 obtain ⟨a1,a2⟩:=ha
 obtain ⟨b1,b2⟩:=hb
 have ea:wrapU a=a+(if a<0 then 18446744073709551616 else 0):=by unfold wrapU; split <;> omega
 have eb:wrapU b=b+(if b<0 then 18446744073709551616 else 0):=by unfold wrapU; split <;> omega
 rw [ea,eb,Int.add_mul,Int.mul_add,Int.mul_add]
 generalize a * b=P
 by_cases ha:a<0 <;> by_cases hb:b<0 <;> simp only [ha,hb,if_true,if_false,and_self,and_true,and_false] <;> omega

theorem sumStep {a b hi lo V:Int} (ha:inI a) (hb:inI b) (hab:absI (a * b)≤19342813113834066795298816) (hV:hi * 18446744073709551616+lo=V) (l0:0≤lo) (l1:lo<18446744073709551616) (hVa:absI V≤19342813113834066795298816) {k:Int}
  (hk:k=(wrapU a * wrapU b / 18446744073709551616)-(if a<0 then b else 0)-(if b<0 then a else 0)) :
  ∀ x:Int,x % 18446744073709551616=(hi+k+(lo+wrapU a * wrapU b % 18446744073709551616) / 18446744073709551616) % 18446744073709551616→-9223372036854775808≤x→x≤9223372036854775807 →
   x * 18446744073709551616+(lo+wrapU a * wrapU b % 18446744073709551616) % 18446744073709551616=V+a * b:=by
 intro x hx x0 x1
 rw [mul_wrap ha hb] at hk hx ⊢
 have b1:=absB ha; have b2:=absB hb
 unfold absI at hab hVa
 generalize a * b=P at *
 obtain ⟨a1,a2⟩:=ha
 obtain ⟨c1,c2⟩:=hb
 split at hab <;> split at hVa <;> (by_cases h1:a<0 <;> by_cases h2:b<0 <;> simp only [h1,h2,if_true,if_false,and_self,and_true,and_false] at hk hx ⊢ <;> omega)

theorem courseSum {H:Hp} {a b c d:Int} (ha:inI a) (hb:inI b) (hc:inI c) (hd:inI d) (hab:absI (a * b)≤19342813113834066795298816) (hcd:absI (c * d)≤19342813113834066795298816) :
    ∃ hi lo,Qf Tryz.prog F.course_sum #[.agg #[.int .i64 a,.int .i64 b,.int .i64 c,.int .i64 d]] H (.agg #[.int .i64 hi,.int .u64 lo])∧hi * 18446744073709551616+lo=a * b+c * d∧0≤lo∧lo<18446744073709551616:=by
  have hW:∀ z:Int,0≤wrapU z∧wrapU z<18446744073709551616:=fun z=>by unfold wrapU; omega
  -- the two rounds
  let H1:Int:=IntKind.i64.wrap (0+(wrapU a * wrapU b / 18446744073709551616-(if a<0 then b else 0)-(if b<0 then a else 0))+(0+wrapU a * wrapU b % 18446744073709551616) / 18446744073709551616)
  let L1:Int:=(0+wrapU a * wrapU b % 18446744073709551616) % 18446744073709551616
  let H2:Int:=IntKind.i64.wrap (H1+(wrapU c * wrapU d / 18446744073709551616-(if c<0 then d else 0)-(if d<0 then c else 0))+(L1+wrapU c * wrapU d % 18446744073709551616) / 18446744073709551616)
  let L2:Int:=(L1+wrapU c * wrapU d % 18446744073709551616) % 18446744073709551616
  have wr:∀ z:Int,IntKind.i64.wrap z % 18446744073709551616=z % 18446744073709551616∧-9223372036854775808≤IntKind.i64.wrap z∧IntKind.i64.wrap z≤9223372036854775807:=fun z=>by rw [i64w]; omega
  have wcong:∀ y z:Int,y % 18446744073709551616=z % 18446744073709551616→IntKind.i64.wrap y=IntKind.i64.wrap z:=fun y z h=>by rw [i64w,i64w]; omega
  have s1:H1 * 18446744073709551616+L1=a * b:=by
    have:=sumStep ha hb hab (hi:=0) (lo:=0) (V:=0) (by omega) (by omega) (by omega) (by unfold absI; simp) rfl H1 (wr _).1 (wr _).2.1 (wr _).2.2
    rw [Int.zero_add (a * b)] at this
    exact this
  have l1a:0≤L1∧L1<18446744073709551616:=by
    show 0≤(0+wrapU a * wrapU b % 18446744073709551616) % 18446744073709551616∧(0+wrapU a * wrapU b % 18446744073709551616) % 18446744073709551616<_
    generalize wrapU a * wrapU b=P
    omega
  have s2:H2 * 18446744073709551616+L2=a * b+c * d :=
    sumStep hc hd hcd s1 l1a.1 l1a.2 hab rfl H2 (wr _).1 (wr _).2.1 (wr _).2.2
  have l2a:0≤L2∧L2<18446744073709551616:=by
    show 0≤(L1+wrapU c * wrapU d % 18446744073709551616) % 18446744073709551616∧(L1+wrapU c * wrapU d % 18446744073709551616) % 18446744073709551616<_
    generalize wrapU c * wrapU d=P
    omega
  refine ⟨H2,L2,?_,s2,l2a.1,l2a.2⟩
  refine course_sum_vc ⟨fun i h l H'=>H'=H∧((i=0∧h=0∧l=0)∨(i=1∧h=H1∧l=L1)∨(i=2∧h=H2∧l=L2)),fun i _ _ _=>(2-i).toNat,⟨rfl,.inl ⟨rfl,rfl,rfl⟩⟩,fun i h l H' ⟨e,hi⟩=>⟨fun hn=>?_,fun hn=>?_⟩⟩
  · subst e
    have hn:i<2:=by simpa using hn
    have step:∀ (x y:Int),0≤l→(∀ h' l',h'=IntKind.i64.wrap (h+(wrapU x * wrapU y / 18446744073709551616-(if x<0 then y else 0)-(if y<0 then x else 0))+(l+wrapU x * wrapU y % 18446744073709551616) / 18446744073709551616) →
          l'=(l+wrapU x * wrapU y % 18446744073709551616) % 18446744073709551616→((H'=H'∧((IntKind.i64.wrap (i+1)=0∧h'=0∧l'=0)∨(IntKind.i64.wrap (i+1)=1∧h'=H1∧l'=L1)∨(IntKind.i64.wrap (i+1)=2∧h'=H2∧l'=L2)))∧(2-IntKind.i64.wrap (i+1)).toNat<(2-i).toNat)) →
        ∃ n9 n10,Qf Tryz.prog F.math_bits_Mul64 #[.int .u64 (wrapU x),.int .u64 (wrapU y)] H' (.tuple #[.int .u64 n9,.int .u64 n10]) ∧
         ((decide (x<0)=true→(decide (y<0)=true→∃ n11 n12,OpQ Tryz.prog (callFunc F.math_bits_Add64 #[.int .u64 l,.int .u64 n10,.int .u64 0]) H' (.tuple #[.int .u64 n11,.int .u64 n12]) ∧
            (H'=H'∧((IntKind.i64.wrap (i+1)=0∧IntKind.i64.wrap (IntKind.i64.wrap (h+IntKind.i64.wrap (IntKind.i64.wrap (IntKind.i64.wrap n9-y)-x))+IntKind.i64.wrap n12)=0∧n11=0)∨(IntKind.i64.wrap (i+1)=1∧IntKind.i64.wrap (IntKind.i64.wrap (h+IntKind.i64.wrap (IntKind.i64.wrap (IntKind.i64.wrap n9-y)-x))+IntKind.i64.wrap n12)=H1∧n11=L1)∨(IntKind.i64.wrap (i+1)=2∧IntKind.i64.wrap (IntKind.i64.wrap (h+IntKind.i64.wrap (IntKind.i64.wrap (IntKind.i64.wrap n9-y)-x))+IntKind.i64.wrap n12)=H2∧n11=L2)))∧(2-IntKind.i64.wrap (i+1)).toNat<(2-i).toNat) ∧
          (decide (y<0)=false→∃ n11 n12,OpQ Tryz.prog (callFunc F.math_bits_Add64 #[.int .u64 l,.int .u64 n10,.int .u64 0]) H' (.tuple #[.int .u64 n11,.int .u64 n12]) ∧
            (H'=H'∧((IntKind.i64.wrap (i+1)=0∧IntKind.i64.wrap (IntKind.i64.wrap (h+IntKind.i64.wrap (IntKind.i64.wrap n9-y))+IntKind.i64.wrap n12)=0∧n11=0)∨(IntKind.i64.wrap (i+1)=1∧IntKind.i64.wrap (IntKind.i64.wrap (h+IntKind.i64.wrap (IntKind.i64.wrap n9-y))+IntKind.i64.wrap n12)=H1∧n11=L1)∨(IntKind.i64.wrap (i+1)=2∧IntKind.i64.wrap (IntKind.i64.wrap (h+IntKind.i64.wrap (IntKind.i64.wrap n9-y))+IntKind.i64.wrap n12)=H2∧n11=L2)))∧(2-IntKind.i64.wrap (i+1)).toNat<(2-i).toNat)) ∧
         (decide (x<0)=false→(decide (y<0)=true→∃ n11 n12,OpQ Tryz.prog (callFunc F.math_bits_Add64 #[.int .u64 l,.int .u64 n10,.int .u64 0]) H' (.tuple #[.int .u64 n11,.int .u64 n12]) ∧
            (H'=H'∧((IntKind.i64.wrap (i+1)=0∧IntKind.i64.wrap (IntKind.i64.wrap (h+IntKind.i64.wrap (IntKind.i64.wrap n9-x))+IntKind.i64.wrap n12)=0∧n11=0)∨(IntKind.i64.wrap (i+1)=1∧IntKind.i64.wrap (IntKind.i64.wrap (h+IntKind.i64.wrap (IntKind.i64.wrap n9-x))+IntKind.i64.wrap n12)=H1∧n11=L1)∨(IntKind.i64.wrap (i+1)=2∧IntKind.i64.wrap (IntKind.i64.wrap (h+IntKind.i64.wrap (IntKind.i64.wrap n9-x))+IntKind.i64.wrap n12)=H2∧n11=L2)))∧(2-IntKind.i64.wrap (i+1)).toNat<(2-i).toNat) ∧
          (decide (y<0)=false→∃ n11 n12,OpQ Tryz.prog (callFunc F.math_bits_Add64 #[.int .u64 l,.int .u64 n10,.int .u64 0]) H' (.tuple #[.int .u64 n11,.int .u64 n12]) ∧
            (H'=H'∧((IntKind.i64.wrap (i+1)=0∧IntKind.i64.wrap (IntKind.i64.wrap (h+IntKind.i64.wrap n9)+IntKind.i64.wrap n12)=0∧n11=0)∨(IntKind.i64.wrap (i+1)=1∧IntKind.i64.wrap (IntKind.i64.wrap (h+IntKind.i64.wrap n9)+IntKind.i64.wrap n12)=H1∧n11=L1)∨(IntKind.i64.wrap (i+1)=2∧IntKind.i64.wrap (IntKind.i64.wrap (h+IntKind.i64.wrap n9)+IntKind.i64.wrap n12)=H2∧n11=L2)))∧(2-IntKind.i64.wrap (i+1)).toNat<(2-i).toNat))):=by
      intro x y hl0 hgo
      have hp:0≤wrapU x * wrapU y % 18446744073709551616:=by generalize wrapU x * wrapU y=P; omega
      refine ⟨_,_,mul64 (hW x).1 (hW x).2 (hW y).1 (hW y).2,fun hx=>⟨fun hy=>⟨_,_,add64 hl0 hp,hgo _ _ (wcong _ _ ?_) rfl⟩,fun hy=>⟨_,_,add64 hl0 hp,hgo _ _ (wcong _ _ ?_) rfl⟩⟩,fun hx=>⟨fun hy=>⟨_,_,add64 hl0 hp,hgo _ _ (wcong _ _ ?_) rfl⟩,fun hy=>⟨_,_,add64 hl0 hp,hgo _ _ (wcong _ _ ?_) rfl⟩⟩⟩
      all_goals
        simp only [decide_eq_true_eq,decide_eq_false_iff_not] at hx hy
        simp only [hx,hy,if_true,if_false,i64w]
        generalize wrapU x * wrapU y=P
        omega
    have e1:IntKind.i64.wrap (0+1)=1:=by decide
    have e2:IntKind.i64.wrap (1+1)=2:=by decide
    rcases hi with ⟨rfl,rfl,rfl⟩ | ⟨rfl,rfl,rfl⟩ | ⟨rfl,_,_⟩
    · refine ⟨a,b,⟨by omega,by omega,rfl,rfl⟩,?_⟩
      exact step a b (by omega) fun h' l' eh el=>⟨⟨rfl,.inr (.inl ⟨e1,eh,el⟩)⟩,by rw [e1]; decide⟩
    · refine ⟨c,d,⟨by omega,by omega,rfl,rfl⟩,?_⟩
      exact step c d l1a.1 fun h' l' eh el=>⟨⟨rfl,.inr (.inr ⟨e2,eh,el⟩)⟩,by rw [e2]; decide⟩
    · omega
  · subst e
    have hn:¬ i<2:=by simpa using hn
    rcases hi with ⟨rfl,_,_⟩ | ⟨rfl,_,_⟩ | ⟨_,rfl,rfl⟩
    · omega
    · omega
    · exact ⟨rfl,Hp.le_refl _⟩

theorem courseCheck1 {H:Hp} {n:Int}:QfV Tryz.prog (.func (.func F.course_Check_1) #[] #[]) [.int .i64 n] H (.bool (decide (n < -1048576)||decide (n>1048576))) :=
 ⟨F.course_Check_1,#[],_,rfl,course_Check_1_callable,course_Check_1_vc ⟨rfl,Hp.le_refl _⟩⟩
theorem courseCheck {H:Hp} {p:Pt}:Qf Tryz.prog F.course_Check #[.agg #[.int .i64 p.1,.int .i64 p.2.1,.int .i64 p.2.2]] H (.int .i64 (chkP p)):=by
 refine course_Check_vc ⟨_,fun _=>courseCheck1,_,fun _=>courseCheck1,fun hc=>⟨?_,Hp.le_refl _⟩,fun hc=>⟨?_,Hp.le_refl _⟩⟩
 ·rw [chkP_bad]
  intro h
  have:=h.i0; have:=h.i1; have:=h.a0; have:=h.a1; have:=h.b0; have:=h.b1
  simp at hc; omega
 ·simp at hc
  rw [chkP_ok ⟨by omega,by omega,by omega,by omega,by omega,by omega⟩]

def twoM (p q:Pt) (t:Int × Int):Int:=if okP p∧okP q∧okR t then (if p.1=q.1 then 2 else 0) else 8
theorem courseTwo {H:Hp} {p q:Pt} {t:Int × Int} (ht:fitR t) :
  Qf Tryz.prog F.course_two #[.agg #[.int .i64 p.1,.int .i64 p.2.1,.int .i64 p.2.2],.agg #[.int .i64 q.1,.int .i64 q.2.1,.int .i64 q.2.2],.agg #[.int .i64 t.1,.int .i64 t.2]] H (.int .i64 (twoM p q t)):=by
 have key:∀ z,z=(if chkR t>if chkP q>chkP p then chkP q else chkP p then chkR t else if chkP q>chkP p then chkP q else chkP p)→z=if okP p∧okP q∧okR t then 0 else 8:=fun z hz=>by
  rw [hz]
  by_cases h1:okP p <;> by_cases h2:okP q <;> by_cases h3:okR t
  ·rw [chkP_ok h1,chkP_ok h2,chkR_ok h3]; simp [h1,h2,h3]
  ·rw [chkP_ok h1,chkP_ok h2,chkR_bad h3]; simp [h3]
  ·rw [chkP_ok h1,chkP_bad h2,chkR_ok h3]; simp [h2]
  ·rw [chkP_ok h1,chkP_bad h2,chkR_bad h3]; simp [h2]
  ·rw [chkP_bad h1,chkP_ok h2,chkR_ok h3]; simp [h1]
  ·rw [chkP_bad h1,chkP_ok h2,chkR_bad h3]; simp [h1]
  ·rw [chkP_bad h1,chkP_bad h2,chkR_ok h3]; simp [h1]
  ·rw [chkP_bad h1,chkP_bad h2,chkR_bad h3]; simp [h1]
 have key:=key _ rfl
 refine course_two_vc ⟨_,courseCheck,_,courseCheck,_,ratioCheck ht,fun hc=>⟨?_,Hp.le_refl _⟩,fun hc=>⟨fun he=>⟨?_,Hp.le_refl _⟩,fun he=>⟨?_,Hp.le_refl _⟩⟩⟩
 ·rw [key] at hc ⊢
  unfold twoM
  by_cases h:okP p∧okP q∧okR t
  ·rw [if_pos h] at hc; simp at hc
  ·rw [if_neg h,if_neg h]
 all_goals
  rw [key] at hc
  have h:okP p∧okP q∧okR t:=by
   by_cases h:okP p∧okP q∧okR t
   ·exact h
   ·rw [if_neg h] at hc; simp at hc
  unfold twoM
  rw [if_pos h]
 ·rw [if_pos (by simpa using he)]
 ·rw [if_neg (by simpa using he)]

theorem orInt {H:Hp} {u:Slc} {x y:Int} (h:RdI H u [x,y]):Qf Tryz.prog F.cmp_Or_int #[u.v] H (.int .i64 (if x≠0 then x else y)):=by
  have lu:=h.len
  simp only [List.length_cons,List.length_nil] at lu
  refine cmp_Or_int_vc (upto (N:=2) (J:=fun n=>0<n→x=0∧(1<n→y=0)) (by omega) (fun h=>by omega) fun n h0 h1 hJ=>⟨fun hn=>?_,fun hn=>⟨?_,Hp.le_refl _⟩⟩)
  · have hn:n<2:=by have:n<u.n:=by simpa using hn
                    omega
    have hc:n=0∨n=1:=by omega
    rcases hc with rfl | rfl
    · refine h.ldI (by omega) (by simp) ⟨fun hb=>⟨?_,Hp.le_refl _⟩,fun hb=>upto.nx (by omega) (by omega) (by omega) fun _=>⟨?_,fun h=>by omega⟩⟩
      · have:x≠0:=by simpa using hb
        rw [if_pos this]; try rfl
      · simpa using hb
    · obtain ⟨hx,_⟩:=hJ (by omega)
      refine h.ldI (by omega) (by simp) ⟨fun hb=>⟨?_,Hp.le_refl _⟩,fun hb=>upto.nx (by omega) (by omega) (by omega) fun _=>⟨hx,fun _=>?_⟩⟩
      · rw [if_neg (by omega)]; try rfl
      · simpa using hb
  · have:n=2:=by have:¬ n<u.n:=by simpa using hn
                 omega
    subst this
    obtain ⟨hx,hy⟩:=hJ (by omega)
    have hy:=hy (by omega)
    rw [hx,hy]; try rfl

theorem rdI2 {H H':Hp} {b:Nat} {x y:Int} {T:TypeId} (h:H'=H.put b (.cells #[.int .i64 x,.int .i64 y] T (0,0))):RdI H' ⟨some ⟨b,0,none⟩,2,2⟩ [x,y] :=
 rdConst (k:=1) (f:=fI) (fun _=>rfl) h rfl rfl

theorem courseCompare {H:Hp} {p q:Pt} {t:Int × Int} (hp:okP p) (hq:okP q) (ht:okR t) :
  Qf Tryz.prog F.course_compare #[.agg #[.int .i64 p.1,.int .i64 p.2.1,.int .i64 p.2.2],.agg #[.int .i64 q.1,.int .i64 q.2.1,.int .i64 q.2.2],.agg #[.int .i64 t.1,.int .i64 t.2]] H (.int .i64 (cmpP p q t)):=by
 obtain ⟨r1,r2,i1,i2⟩:=farR hp hq ht
 obtain ⟨hi,lo,hq',hv,l0,l1⟩:=courseSum (H:=H) i1 ht.fit.2 i2 ht.fit.1 r1 r2
 have hv:hi * 18446744073709551616+lo=farV p q t:=hv
 refine course_compare_vc ⟨i1,i2,_,_,hq',fun hc=>⟨fun hn=>⟨?_,Hp.le_refl _⟩,fun hn=>⟨?_,Hp.le_refl _⟩⟩,fun hc=>⟨_,compare_i64,_,compare_int,fun b5 H6 hb5 hH6=>⟨_,orInt (u:=⟨some ⟨b5,0,none⟩,2,2⟩) (rdI2 hH6),?_,Hp.le_new (Hp.le_refl _) hb5 hH6⟩⟩⟩
 ·have hn:hi<0:=by simpa using hn
  unfold cmpP
  rw [if_pos (by omega),if_pos (by omega)]
 ·have hn:¬ hi<0:=by simpa using hn
  simp at hc
  have hne:farV p q t≠0:=by
   intro e
   rw [e] at hv
   rcases hc with hc | hc <;> omega
  unfold cmpP
  rw [if_pos hne,if_neg (by omega)]
 ·simp at hc
  have:farV p q t=0:=by omega
  unfold cmpP
  rw [if_neg (show ¬ farV p q t≠0 by omega)]

def aheadM (p q:Pt) (t:Int × Int):Bool × Int:=if twoM p q t=0 then (leads p q t,0) else (false,twoM p q t)
theorem twoM_zero {p q:Pt} {t:Int × Int}:twoM p q t=0↔okP p∧okP q∧okR t∧p.1≠q.1:=by
 unfold twoM
 constructor
 ·intro h
  split at h
  ·rename_i k
   split at h
   ·cases h
   ·exact ⟨k.1,k.2.1,k.2.2,by assumption⟩
  ·cases h
 ·intro ⟨a,b,c,d⟩
  rw [if_pos ⟨a,b,c⟩,if_neg d]
theorem courseAhead {H:Hp} {p q:Pt} {t:Int × Int} (ht:fitR t) :
  Qf Tryz.prog F.course_Ahead #[.agg #[.int .i64 p.1,.int .i64 p.2.1,.int .i64 p.2.2],.agg #[.int .i64 q.1,.int .i64 q.2.1,.int .i64 q.2.2],.agg #[.int .i64 t.1,.int .i64 t.2]] H (.tuple #[.bool (aheadM p q t).1,.int .i64 (aheadM p q t).2]):=by
 refine course_Ahead_vc ⟨_,courseTwo ht,fun hc=>⟨?_,Hp.le_refl _⟩,fun hc=>?_⟩
 ·have hc:twoM p q t≠0:=by simpa using hc
  unfold aheadM; rw [if_neg hc]
 ·have hc:twoM p q t=0:=by simpa using hc
  obtain ⟨h1,h2,h3,_⟩:=twoM_zero.1 hc
  refine ⟨_,courseCompare h1 h2 h3,?_,Hp.le_refl _⟩
  unfold aheadM; rw [if_pos hc,← cmpP_leads]

theorem fieldCheck {H:Hp} {u:Slc} {f:List Pt} (h:Rd 3 fD H u f):Qf Tryz.prog F.field_Check #[.agg #[u.v]] H (.int .i64 (chkF f)):=by
  have lu:=h.len
  refine field_Check_vc ⟨fun hc=>⟨?_,Hp.le_refl _⟩,fun hc=>?_⟩
  · unfold chkF; rw [if_pos (by simp at hc; omega)]
  have hl:f.length≤64:=by simp at hc; omega
  refine upto (N:=f.length) (J:=fun n=>∀ y∈f.take n.toNat,okP y) (by omega) (by simp) fun n h0 h1 hJ=>⟨fun hn=>?_,fun hn=>?_⟩
  · have hn:n<f.length:=by have:n<u.n:=by simpa using hn
                           omega
    have hg:=getX (d:=((0:Int),(0:Int),(0:Int))) h0 hn
    refine h.ldD h0 hn ⟨_,courseCheck (p:=f.getD n.toNat (0,0,0)),?_⟩
    generalize f.getD n.toNat (0,0,0)=x at hg ⊢
    refine ⟨fun hb=>⟨?_,Hp.le_refl _⟩,fun hb=>upto.nx h0 hn (by omega) ?_⟩
    · have hb:chkP x≠0:=by simpa using hb
      have hx:¬ okP x:=fun h=>hb (chkP_ok h)
      rw [chkP_bad hx]
      unfold chkF; rw [if_neg (by omega),if_neg fun h=>hx (h x (List.mem_of_getElem? hg))]
    · rw [show (n+1).toNat=n.toNat+1 by omega,take_succ hg]
      intro y hy
      rcases List.mem_append.1 hy with hy | hy
      · exact hJ y hy
      · simp only [List.mem_singleton] at hy; subst hy; exact chkP_zero.1 (by simpa using hb)
  · have:n=f.length:=by have:¬ n<u.n:=by simpa using hn
                        omega
    subst this
    rw [Int.toNat_natCast,List.take_length] at hJ
    refine upto (N:=f.length) (J:=fun n=>((f.take n.toNat).map (·.1)).Pairwise (·<·)) (by omega) (by simp) fun n h0 h1 hS=>⟨fun hn=>?_,fun hn=>⟨?_,Hp.le_refl _⟩⟩
    · have hn:n<f.length:=by have:n<u.n:=by simpa using hn
                             omega
      have hg:=getX (d:=((0:Int),(0:Int),(0:Int))) h0 hn
      refine h.ldD h0 hn ?_
      generalize f.getD n.toNat (0,0,0)=x at hg ⊢
      have e1:(n+1).toNat=n.toNat+1:=by omega
      have hts:=take_succ hg
      refine ⟨fun hp=>by unfold inI; omega,fun hp=>h.inS (by simp at hp; omega) (by omega),(f.getD (n-1).toNat (0,0,0)).1,fun hp=>(h.gD (by simp at hp; omega) (by omega)).1,fun hb=>⟨?_,Hp.le_refl _⟩,fun hb=>upto.nx h0 hn (by omega) ?_⟩
      · simp at hb
        obtain ⟨hp,hb⟩:=hb
        unfold chkF
        rw [if_neg (by omega),if_pos hJ,if_neg]
        intro hpw
        have hg':=getX (d:=((0:Int),(0:Int),(0:Int))) (i:=n-1) (by omega) (by omega:n-1<f.length)
        have hm:(f.map (·.1))[n.toNat]?=some x.1:=by rw [List.getElem?_map,hg]; try rfl
        have hm':(f.map (·.1))[(n-1).toNat]?=some (f.getD (n-1).toNat (0,0,0)).1:=by rw [List.getElem?_map,hg']; try rfl
        have:=List.pairwise_iff_getElem.1 hpw (n-1).toNat n.toNat (List.getElem?_eq_some_iff.1 hm').1 (List.getElem?_eq_some_iff.1 hm).1 (by omega)
        rw [(List.getElem?_eq_some_iff.1 hm').2,(List.getElem?_eq_some_iff.1 hm).2] at this
        have en:(n-1).toNat=n.toNat-1:=by omega
        simp only [List.getD_eq_getElem?_getD,en] at this hb
        omega
      · rw [e1,hts,List.map_append]
        show (_++[x.1]).Pairwise (·<·)
        rw [inc_snoc]
        refine ⟨hS,fun y hy=>?_⟩
        simp at hb
        have hp:0<n:=by
          rcases Int.lt_or_le 0 n with h' | h'
          · exact h'
          · have:n.toNat=0:=by omega
            rw [this] at hy; simp at hy
        have hb:=hb hp
        have hg':=getX (d:=((0:Int),(0:Int),(0:Int))) (i:=n-1) (by omega) (by omega:n-1<f.length)
        have hts':=take_succ hg'
        rw [show (n-1).toNat+1=n.toNat by omega] at hts'
        rw [hts',List.map_append] at hS hy
        have hS:(_++[(f.getD (n-1).toNat (0,0,0)).1]).Pairwise (·<·):=hS
        rw [inc_snoc] at hS
        have hx:(f.getD (n-1).toNat (0,0,0)).1<x.1:=by
          have en:(n-1).toNat=n.toNat-1:=by omega
          simp only [List.getD_eq_getElem?_getD,en] at hb ⊢
          omega
        rcases List.mem_append.1 hy with hy | hy
        · have:=hS.2 y hy; omega
        · simp only [List.map_cons,List.map_nil,List.mem_singleton] at hy; rw [hy]; exact hx
    · have:n=f.length:=by have:¬ n<u.n:=by simpa using hn
                          omega
      subst this
      rw [Int.toNat_natCast,List.take_length] at hS
      unfold chkF; rw [if_neg (by omega),if_pos hJ,if_pos hS]

theorem refFCheck {H:Hp} {u:Slc} {f:List Pt} (h:Rd 3 fD H u f):Qf Tryz.prog F.pelotonref03_Check #[.agg #[u.v]] H (.int .i64 (chkF f)):=by
  have lu:=h.len
  refine pelotonref03_Check_vc ⟨fun hc=>⟨?_,Hp.le_refl _⟩,fun hc=>?_⟩
  · unfold chkF; rw [if_pos (by simp at hc; omega)]
  have hl:f.length≤64:=by simp at hc; omega
  refine upto (N:=f.length) (J:=fun n=>∀ y∈f.take n.toNat,okP y) (by omega) (by simp) fun n h0 h1 hJ=>⟨fun hn=>?_,fun hn=>?_⟩
  · have hn:n<f.length:=by have:n<u.n:=by simpa using hn
                           omega
    have hg:=getX (d:=((0:Int),(0:Int),(0:Int))) h0 hn
    refine h.ldD h0 hn ⟨_,refPCheck (p:=f.getD n.toNat (0,0,0)),?_⟩
    generalize f.getD n.toNat (0,0,0)=x at hg ⊢
    refine ⟨fun hb=>⟨?_,Hp.le_refl _⟩,fun hb=>upto.nx h0 hn (by omega) ?_⟩
    · have hb:chkP x≠0:=by simpa using hb
      have hx:¬ okP x:=fun h=>hb (chkP_ok h)
      unfold chkF; rw [if_neg (by omega),if_neg fun h=>hx (h x (List.mem_of_getElem? hg))]
    · rw [show (n+1).toNat=n.toNat+1 by omega,take_succ hg]
      intro y hy
      rcases List.mem_append.1 hy with hy | hy
      · exact hJ y hy
      · simp only [List.mem_singleton] at hy; subst hy; exact chkP_zero.1 (by simpa using hb)
  · have:n=f.length:=by have:¬ n<u.n:=by simpa using hn
                        omega
    subst this
    rw [Int.toNat_natCast,List.take_length] at hJ
    refine ⟨fun n H'=>H'=H∧1≤n∧(n≤f.length∨n=1)∧((f.take n.toNat).map (·.1)).Pairwise (·<·),fun n _=>(f.length-n).toNat,⟨rfl,Int.le_refl _,.inr rfl,?_⟩,fun n H' ⟨e,h0,h1,hS⟩=>?_⟩
    · cases f with
      | nil=>simp
      | cons x l=>simp
    subst e
    refine ⟨fun hn=>?_,fun hn=>⟨?_,Hp.le_refl _⟩⟩
    · have hn:n<f.length:=by have:n<u.n:=by simpa using hn
                             omega
      have hg:=getX (d:=((0:Int),(0:Int),(0:Int))) (by omega:0≤n) hn
      have hg':=getX (d:=((0:Int),(0:Int),(0:Int))) (i:=n-1) (by omega) (by omega:n-1<f.length)
      refine ⟨by unfold inI; omega,h.inS (by omega) (by omega),_,(h.gD (by omega) (by omega)).1,h.inS (by omega) hn,_,(h.gD (by omega) hn).1,?_⟩
      generalize f.getD n.toNat (0,0,0)=x at hg ⊢
      generalize f.getD (n-1).toNat (0,0,0)=y at hg' ⊢
      have e1:(n+1).toNat=n.toNat+1:=by omega
      refine ⟨fun hb=>⟨?_,Hp.le_refl _⟩,fun hb=>⟨by unfold inI; omega,⟨rfl,by omega,by omega,?_⟩,?_⟩⟩
      · have hb:y.1≥x.1:=by simpa using hb
        unfold chkF
        rw [if_neg (by omega),if_pos hJ,if_neg]
        intro hpw
        have hm:(f.map (·.1))[n.toNat]?=some x.1:=by rw [List.getElem?_map,hg]; try rfl
        have hm':(f.map (·.1))[(n-1).toNat]?=some y.1:=by rw [List.getElem?_map,hg']; try rfl
        have:=List.pairwise_iff_getElem.1 hpw (n-1).toNat n.toNat (List.getElem?_eq_some_iff.1 hm').1 (List.getElem?_eq_some_iff.1 hm).1 (by omega)
        rw [(List.getElem?_eq_some_iff.1 hm').2,(List.getElem?_eq_some_iff.1 hm).2] at this
        omega
      · have hb:¬ y.1≥x.1:=by simpa using hb
        rw [e1,take_succ hg,List.map_append]
        show (_++[x.1]).Pairwise (·<·)
        rw [inc_snoc]
        refine ⟨hS,fun z hz=>?_⟩
        have hts':=take_succ hg'
        rw [show (n-1).toNat+1=n.toNat by omega] at hts'
        rw [hts',List.map_append] at hS hz
        have hS:(_++[y.1]).Pairwise (·<·):=hS
        rw [inc_snoc] at hS
        rcases List.mem_append.1 hz with hz | hz
        · have:=hS.2 z hz; omega
        · simp only [List.map_cons,List.map_nil,List.mem_singleton] at hz; omega
      · show ((f.length:Int)-(n+1)).toNat<((f.length:Int)-n).toNat; omega
    · have hn:¬ n<f.length:=by have:¬ n<u.n:=by simpa using hn
                               omega
      rw [List.take_of_length_le (by omega)] at hS
      unfold chkF; rw [if_neg (by omega),if_pos hJ,if_pos hS]

theorem refTimed {H:Hp} {u:Slc} {f:List Pt} {t:Int × Int} (h:Rd 3 fD H u f) (ht:fitR t):Qf Tryz.prog F.pelotonref03_Timed #[.agg #[u.v],.agg #[.int .i64 t.1,.int .i64 t.2]] H (.int .i64 (timedF f t)):=by
 refine pelotonref03_Timed_vc ⟨_,refFCheck h,fun hc=>⟨?_,Hp.le_refl _⟩,fun hc=>⟨_,refRCheck ht,?_,Hp.le_refl _⟩⟩
 ·have hc:chkF f≠0:=by simpa using hc
  unfold timedF; rw [if_pos hc]
 ·have hc:¬ chkF f≠0:=by simpa using hc
  unfold timedF; rw [if_neg hc]

theorem refFAt {H:Hp} {u:Slc} {f:List Pt} {id:Int} (h:Rd 3 fD H u f) (hl:f.length≤1000000000):Qf Tryz.prog F.pelotonref03_At #[.agg #[u.v],.int .i64 id] H (.int .i64 (posF f id)):=by
  have lu:=h.len
  refine pelotonref03_At_vc (upto (N:=f.length) (J:=fun i=>∀ y∈f.take i.toNat,(y.1==id)=false) (by omega) (by simp) fun i i0 i1 i2=>⟨fun hn=>?_,fun hn=>⟨?_,Hp.le_refl _⟩⟩)
  · have hn:i<f.length:=by have:i<u.n:=by simpa using hn
                           omega
    have hg:=getX (d:=((0:Int),(0:Int),(0:Int))) i0 hn
    have h2:=(h.gD i0 hn).1
    generalize f.getD i.toNat (0,0,0)=x at hg h2
    refine ⟨h.inS i0 hn,_,h2,fun hb=>⟨?_,Hp.le_refl _⟩,fun hb=>upto.nx i0 hn (by omega) ?_⟩
    · unfold posF; rw [idx_hit hg hb i2,Int.toNat_of_nonneg i0]
    · rw [show (i+1).toNat=i.toNat+1 by omega,take_succ hg]
      intro y hy
      rcases List.mem_append.1 hy with hy | hy
      · exact i2 y hy
      · simp only [List.mem_singleton] at hy; subst hy; exact hb
  · have:i=f.length:=by have:¬ i<u.n:=by simpa using hn
                        omega
    subst this
    rw [Int.toNat_natCast,List.take_length] at i2
    unfold posF; rw [idx_miss i2]

theorem refFTwin {H:Hp} {u:Slc} {f:List Pt} (h:Rd 3 fD H u f) (hl:f.length≤1000000000) :
  Go.Eng.Fn Tryz.prog F.pelotonref03_Twin #[.agg #[u.v]] H fun v H'=>∃ a:Slc,v=.agg #[a.v]∧Hp.le H H'∧Mine 3 fD T.api_Point H H' a f:=by
 refine pelotonref03_Twin_vc fun b1 H2 hb1 hH2=>?_
 exact (copy_ok (k:=3) (f:=fD) (bytes:=24) (e:=T.api_Point) (by kernel_rfl) (by decide) (fun _=>rfl) (fun x v hv=>by simp [fD] at hv; rcases hv with rfl | rfl | rfl <;> rfl) hb1 hH2 h (by omega) (by omega)).mono
  fun v H1 ⟨a,hv,hl,hm⟩=>⟨a,hv,a,rfl,hl,hm⟩

end Go.Proofs.YtlbdpklikfddlaaGreat
end
