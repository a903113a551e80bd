/- Contracts of ratio, course and their references. Conditions: none. -/
import Derived.Test.YtnldicbalihomaaC4
import Derived.Test.YtnldicbalihomaaFM
import Derived.Laws.Externs
import Derived.Test.YtnldicbalihomaaVgBase
import Derived.Test.YtnldicbalihomaaVgStd
import Derived.Test.YtnldicbalihomaaFs
set_option linter.unusedVariables false
set_option maxRecDepth 100000
open Go Go.Eng Go.Proofs
namespace Go.Proofs.Ytnldicbalihomaa

theorem isNaN_u64 {H:Hp} {x:Int}:Qf Try.prog F.cmp_isNaN_uint64 #[.int .u64 x] H (.bool false):=cmp_isNaN_uint64_vc ⟨by simp,Hp.le_refl _⟩
theorem isNaN_i64 {H:Hp} {x:Int}:Qf Try.prog F.cmp_isNaN_int64 #[.int .i64 x] H (.bool false):=cmp_isNaN_int64_vc ⟨by simp,Hp.le_refl _⟩
theorem compare_u64 {H:Hp} {x y:Int}:Qf Try.prog F.cmp_Compare_uint64 #[.int .u64 x,.int .u64 y] H (.int .i64 (cmpI x y)):=by
 refine cmp_Compare_uint64_vc ⟨_,isNaN_u64,_,isNaN_u64,fun h=>(by cases h),fun _=>⟨fun h=>(by cases h),fun _=>⟨fun h=>⟨?_,Hp.le_refl _⟩,fun h=>⟨fun h'=>⟨?_,Hp.le_refl _⟩,fun h'=>⟨?_,Hp.le_refl _⟩⟩⟩⟩⟩
 ·have:x<y:=by simpa using h
  unfold cmpI; rw [if_pos this]
 ·have h1:¬ x<y:=by simpa using h
  have h2:x>y:=by simpa using h'
  unfold cmpI; rw [if_neg h1,if_pos h2]
 ·have h1:¬ x<y:=by simpa using h
  have h2:¬ x>y:=by simpa using h'
  unfold cmpI; rw [if_neg h1,if_neg h2]
theorem compare_i64 {H:Hp} {x y:Int}:Qf Try.prog F.cmp_Compare_int64 #[.int .i64 x,.int .i64 y] H (.int .i64 (cmpI x y)):=by
 refine cmp_Compare_int64_vc ⟨_,isNaN_i64,_,isNaN_i64,fun h=>(by cases h),fun _=>⟨fun h=>(by cases h),fun _=>⟨fun h=>⟨?_,Hp.le_refl _⟩,fun h=>⟨fun h'=>⟨?_,Hp.le_refl _⟩,fun h'=>⟨?_,Hp.le_refl _⟩⟩⟩⟩⟩
 ·have:x<y:=by simpa using h
  unfold cmpI; rw [if_pos this]
 ·have h1:¬ x<y:=by simpa using h
  have h2:x>y:=by simpa using h'
  unfold cmpI; rw [if_neg h1,if_pos h2]
 ·have h1:¬ x<y:=by simpa using h
  have h2:¬ x>y:=by simpa using h'
  unfold cmpI; rw [if_neg h1,if_neg h2]

theorem ratioAbs {H:Hp} {n:Int} (h:inI n):Qf Try.prog F.ratio_abs #[.int .i64 n] H (.int .u64 (absI n)):=by
 obtain ⟨h1,h2⟩:=h
 refine ratio_abs_vc ⟨fun hc=>⟨?_,Hp.le_refl _⟩,fun hc=>⟨?_,Hp.le_refl _⟩⟩
 ·have hc:n<0:=by simpa using hc
  congr 1; unfold wrapU absI; rw [if_pos hc]; omega
 ·have hc:¬ n<0:=by simpa using hc
  congr 1; unfold wrapU absI; rw [if_neg hc]; omega
theorem refSize {H:Hp} {n:Int} (h:inI n):Qf Try.prog F.pelotonref01_size #[.int .i64 n] H (.int .u64 (absI n)):=by
 obtain ⟨h1,h2⟩:=h
 refine pelotonref01_size_vc ⟨fun hc=>?_,fun hc=>⟨?_,Hp.le_refl _⟩⟩
 ·have hc:n<0:=by simpa using hc
  refine ⟨by unfold inI; omega,by unfold inI; omega,?_,Hp.le_refl _⟩
  congr 1; unfold wrapU absI; rw [if_pos hc]; omega
 ·have hc:¬ n<0:=by simpa using hc
  congr 1; unfold wrapU absI; rw [if_neg hc]; omega

theorem gcd_step {a b n m:Int} (hm:0<m) (hn:0≤n) (h:Nat.gcd n.toNat m.toNat=Nat.gcd a.toNat b.toNat):0≤n.tmod m∧n.tmod m<m∧Nat.gcd m.toNat (n.tmod m).toNat=Nat.gcd a.toNat b.toNat:=by
 have e:n.tmod m=n % m:=Int.tmod_eq_emod_of_nonneg hn
 have e2:(n % m).toNat=n.toNat % m.toNat:=by
  obtain ⟨x,rfl⟩:=Int.eq_ofNat_of_zero_le hn
  obtain ⟨y,rfl⟩:=Int.eq_ofNat_of_zero_le (Int.le_of_lt hm)
  rfl
 refine ⟨by rw [e]; exact Int.emod_nonneg _ (by omega),by rw [e]; exact Int.emod_lt_of_pos _ hm,?_⟩
 rw [e,e2,← h]
 rw [Nat.gcd_comm m.toNat,← Nat.gcd_rec,Nat.gcd_comm]

theorem ratioGcd {H:Hp} {a b:Int} (ha:0≤a) (hb:0≤b):Qf Try.prog F.ratio_gcd #[.int .u64 a,.int .u64 b] H (.int .u64 (Nat.gcd a.toNat b.toNat:Nat)):=by
  refine ratio_gcd_vc ⟨fun n m H'=>H'=H∧0≤n∧0≤m∧Nat.gcd n.toNat m.toNat=Nat.gcd a.toNat b.toNat,fun _ m _=>m.toNat,⟨rfl,ha,hb,rfl⟩,fun n m H' ⟨e,h1,h2,h3⟩=>?_⟩
  subst e
  refine ⟨fun hc=>?_,fun hc=>⟨?_,Hp.le_refl _⟩⟩
  · have hc:0<m:=by simpa using hc
    obtain ⟨g1,g2,g3⟩:=gcd_step hc h1 h3
    exact ⟨by unfold nz; omega,⟨rfl,h2,g1,g3⟩,by show (n.tmod m).toNat<m.toNat; omega⟩
  · have:m=0:=by have:¬ m>0:=by simpa using hc
                 omega
    subst this
    rw [← h3]; simp; omega
theorem refCommon {H:Hp} {a b:Int} (ha:0≤a) (hb:0≤b):Qf Try.prog F.pelotonref01_common #[.int .u64 a,.int .u64 b] H (.int .u64 (Nat.gcd a.toNat b.toNat:Nat)):=by
 refine pelotonref01_common_vc ⟨fun n m H'=>H'=H∧0≤n∧0≤m∧Nat.gcd n.toNat m.toNat=Nat.gcd a.toNat b.toNat,fun _ m _=>m.toNat,⟨rfl,ha,hb,rfl⟩,fun n m H' ⟨e,h1,h2,h3⟩=>?_⟩
 subst e
 refine ⟨fun hc=>?_,fun hc=>⟨?_,Hp.le_refl _⟩⟩
 ·have hc:0<m:=by have:m≠0:=by simpa using hc
                  omega
  obtain ⟨g1,g2,g3⟩:=gcd_step hc h1 h3
  exact ⟨by unfold nz; omega,⟨rfl,h2,g1,g3⟩,by show (n.tmod m).toNat<m.toNat; omega⟩
 ·have:m=0:=by simpa using hc
  subst this
  rw [← h3]; simp; omega

theorem okR_iff {r:Int × Int} (h:fitR r):okR r↔1≤r.2∧r.1≠-9223372036854775808∧Nat.gcd r.1.natAbs r.2.natAbs=1:=by
 obtain ⟨⟨h1,h2⟩,h3,h4⟩:=h
 constructor
 ·intro o; have:=o.n1; exact ⟨o.d1,by omega,o.g⟩
 ·intro ⟨a,b,c⟩; exact ⟨a,by omega,by omega,by omega,c⟩

theorem ratioCheck {H:Hp} {r:Int × Int} (h:fitR r):Qf Try.prog F.ratio_Check #[.agg #[.int .i64 r.1,.int .i64 r.2]] H (.int .i64 (chkR r)):=by
 have hk:=okR_iff h
 obtain ⟨hn,hd⟩:=h
 have hd':=hd
 obtain ⟨d1,d2⟩:=hd'
 refine ratio_Check_vc ⟨_,fun _=>ratioAbs hn,(Nat.gcd r.2.toNat r.1.natAbs:Nat),fun hc=>?_,fun hc=>⟨?_,Hp.le_refl _⟩,fun hc=>⟨?_,Hp.le_refl _⟩⟩
 ·simp only [Bool.not_eq_true',Bool.or_eq_false_iff,decide_eq_false_iff_not] at hc
  have e:wrapU r.2=r.2:=by unfold wrapU; omega
  rw [e]
  have:=ratioGcd (H:=H) (a:=r.2) (b:=absI r.1) (by omega) (absI_nonneg _)
  rw [absI_nat,Int.toNat_natCast] at this
  rw [absI_nat]; exact this
 ·rw [chkR_bad]
  rw [hk]
  intro ⟨a,b,c⟩
  simp only [Bool.or_eq_true,decide_eq_true_eq,beq_iff_eq] at hc
  rcases hc with (hc | hc) | hc
  ·omega
  ·exact b hc
  ·have e:r.2.toNat=r.2.natAbs:=by omega
   rw [e,Nat.gcd_comm,c] at hc; omega
 ·rw [chkR_ok]
  rw [hk]
  simp only [Bool.or_eq_false_iff,decide_eq_false_iff_not,beq_eq_false_iff_ne] at hc
  obtain ⟨⟨a,b⟩,c⟩:=hc
  refine ⟨by omega,b,?_⟩
  have e:r.2.toNat=r.2.natAbs:=by omega
  rw [e,Nat.gcd_comm] at c
  have:0<Nat.gcd r.1.natAbs r.2.natAbs:=Nat.gcd_pos_of_pos_right _ (by omega)
  omega
theorem refRCheck {H:Hp} {r:Int × Int} (h:fitR r):Qf Try.prog F.pelotonref01_Check #[.agg #[.int .i64 r.1,.int .i64 r.2]] H (.int .i64 (chkR r)):=by
 have hk:=okR_iff h
 obtain ⟨hn,hd⟩:=h
 have hd':=hd
 obtain ⟨d1,d2⟩:=hd'
 refine pelotonref01_Check_vc ⟨_,fun _=>refSize hn,(Nat.gcd r.1.natAbs r.2.toNat:Nat),fun hc=>?_,fun hc=>⟨?_,Hp.le_refl _⟩,fun hc=>⟨?_,Hp.le_refl _⟩⟩
 ·simp only [Bool.not_eq_true',Bool.or_eq_false_iff,decide_eq_false_iff_not] at hc
  have e:wrapU r.2=r.2:=by unfold wrapU; omega
  rw [e]
  have:=refCommon (H:=H) (a:=absI r.1) (b:=r.2) (absI_nonneg _) (by omega)
  rw [absI_nat,Int.toNat_natCast] at this
  rw [absI_nat]; exact this
 ·rw [chkR_bad]
  rw [hk]
  intro ⟨a,b,c⟩
  simp only [Bool.or_eq_true,decide_eq_true_eq,beq_iff_eq,bne_iff_ne] at hc
  rcases hc with (hc | hc) | hc
  ·omega
  ·exact b hc
  ·have e:r.2.toNat=r.2.natAbs:=by omega
   rw [e,c] at hc; omega
 ·rw [chkR_ok]
  rw [hk]
  simp only [Bool.or_eq_false_iff,decide_eq_false_iff_not,beq_eq_false_iff_ne,bne_eq_false_iff_eq] at hc
  obtain ⟨⟨a,b⟩,c⟩:=hc
  refine ⟨by omega,b,?_⟩
  have e:r.2.toNat=r.2.natAbs:=by omega
  rw [e] at c
  omega

theorem ratioBoth {H:Hp} {a b:Int × Int} (ha:fitR a) (hb:fitR b):Qf Try.prog F.ratio_both #[.agg #[.int .i64 a.1,.int .i64 a.2],.agg #[.int .i64 b.1,.int .i64 b.2]] H (.int .i64 (if okR a∧okR b then 0 else 8)):=by
 refine ratio_both_vc ⟨_,ratioCheck ha,_,ratioCheck hb,?_,Hp.le_refl _⟩
 congr 1
 by_cases h1:okR a <;> by_cases h2:okR b
 ·rw [chkR_ok h1,chkR_ok h2]; simp [h1,h2]
 ·rw [chkR_ok h1,chkR_bad h2]; simp [h1,h2]
 ·rw [chkR_bad h1,chkR_ok h2]; simp [h1,h2]
 ·rw [chkR_bad h1,chkR_bad h2]; simp [h1,h2]

theorem mul64 {H:Hp} {x y:Int} (hx:0≤x) (hx':x<18446744073709551616) (hy:0≤y) (hy':y<18446744073709551616) :
  Qf Try.prog F.math_bits_Mul64 #[.int .u64 x,.int .u64 y] H (.tuple #[.int .u64 (x * y / 18446744073709551616),.int .u64 (x * y % 18446744073709551616)]):=by
 refine math_bits_Mul64_vc ⟨by unfold nn; omega,by unfold nn; omega,by unfold nn; omega,by unfold nn; omega,by unfold nn; omega,?_,Hp.le_refl _⟩
 have hW:∀ z:Int,0≤wrapU z∧wrapU z<18446744073709551616:=fun z=>by unfold wrapU; omega
 rw [maskU hx hx',maskU hy hy',shr32 hx,shr32 hy,shr32 (hW _).1,shr32 (hW _).1,maskU (hW _).1 (hW _).2,shr32 (hW _).1,hi64 hx hx' hy hy']
 rfl

theorem absB {n:Int} (h:inI n):0≤absI n∧absI n≤9223372036854775808:=by
 obtain ⟨h1,h2⟩:=h
 unfold absI; split <;> omega

theorem ratioTimes {H:Hp} {a b:Int} (ha:inI a) (hb:inI b) :
  Qf Try.prog F.ratio_times #[.int .i64 a,.int .i64 b] H (.agg #[.bool (!(decide (a<0)==decide (b<0))),.int .u64 (absI (a * b) / 18446744073709551616),.int .u64 (absI (a * b) % 18446744073709551616)]):=by
 have h1:=absB ha; have h2:=absB hb
 refine ratio_times_vc ⟨_,ratioAbs ha,_,ratioAbs hb,_,_,mul64 (by omega) (by omega) (by omega) (by omega),?_,Hp.le_refl _⟩
 rw [absI_mul]

theorem ratioCompare {H:Hp} {c d:Bool} {x y:Int} (hx:0≤x) (hy:0≤y) :
  Qf Try.prog F.ratio_compare #[.agg #[.bool c,.int .u64 (x / 18446744073709551616),.int .u64 (x % 18446744073709551616)],.agg #[.bool d,.int .u64 (y / 18446744073709551616),.int .u64 (y % 18446744073709551616)]] H (.int .i64 (cmpI x y)):=by
 refine ratio_compare_vc ⟨_,compare_u64,fun hc=>⟨?_,Hp.le_refl _⟩,fun hc=>⟨_,compare_u64,?_,Hp.le_refl _⟩⟩
 ·have hc:cmpI (x / 18446744073709551616) (y / 18446744073709551616)≠0:=by simpa using hc
  congr 1
  have h1:¬ x / 18446744073709551616=y / 18446744073709551616:=fun e=>hc (cmpI_eq.2 e)
  unfold cmpI
  split
  ·rw [if_pos (by omega)]
  ·rw [if_pos (by omega),if_neg (by omega),if_pos (by omega)]
 ·have hc:cmpI (x / 18446744073709551616) (y / 18446744073709551616)=0:=by simpa using hc
  have h1:=cmpI_eq.1 hc
  congr 1
  unfold cmpI
  split
  ·rw [if_pos (by omega)]
  ·split
   ·rw [if_neg (by omega),if_pos (by omega)]
   ·rw [if_neg (by omega),if_neg (by omega)]

theorem cmpR_abs {a b:Int × Int} (ha:okR a) (hb:okR b) (hs:a.1<0↔b.1<0):(if a.1<0 then 0-cmpI (absI (a.1 * b.2)) (absI (b.1 * a.2)) else cmpI (absI (a.1 * b.2)) (absI (b.1 * a.2)))=cmpR a b:=by
 have da:=ha.d1; have db:=hb.d1
 unfold cmpR
 split
 ·rename_i h
  have h':=hs.1 h
  have p:=Int.mul_neg_of_neg_of_pos h (show 0<b.2 by omega)
  have q:=Int.mul_neg_of_neg_of_pos h' (show 0<a.2 by omega)
  rw [cmpI_neg]
  unfold absI
  rw [if_pos p,if_pos q]
  unfold cmpI
  split
  ·rw [if_pos (by omega)]
  ·split
   ·rw [if_neg (by omega),if_pos (by omega)]
   ·rw [if_neg (by omega),if_neg (by omega)]
 ·rename_i h
  have h':¬ b.1<0:=fun x=>h (hs.2 x)
  have p:=Int.mul_nonneg (show 0≤a.1 by omega) (show 0≤b.2 by omega)
  have q:=Int.mul_nonneg (show 0≤b.1 by omega) (show 0≤a.2 by omega)
  unfold absI
  rw [if_neg (by omega),if_neg (by omega)]

theorem cmpR_sign {a b:Int × Int} (ha:okR a) (hb:okR b) (hs:¬ (a.1<0↔b.1<0)):cmpI a.1 b.1=cmpR a b:=by
 have da:=ha.d1; have db:=hb.d1
 unfold cmpR
 by_cases h:a.1<0
 ·have h':¬ b.1<0:=fun x=>hs (iff_of_true h x)
  have p:=Int.mul_neg_of_neg_of_pos h (show 0<b.2 by omega)
  have q:=Int.mul_nonneg (show 0≤b.1 by omega) (show 0≤a.2 by omega)
  unfold cmpI
  rw [if_pos (by omega),if_pos (by omega)]
 ·have h':b.1<0:=by
   rcases Int.lt_or_le b.1 0 with x | x
   ·exact x
   ·exact absurd (iff_of_false h (by omega)) hs
  have p:=Int.mul_nonneg (show 0≤a.1 by omega) (show 0≤b.2 by omega)
  have q:=Int.mul_neg_of_neg_of_pos h' (show 0<a.2 by omega)
  unfold cmpI
  rw [if_neg (by omega),if_pos (by omega),if_neg (by omega),if_pos (by omega)]

def cmpM (a b:Int × Int):Int × Int:=if okR a∧okR b then (cmpR a b,0) else (0,8)
theorem ratioCmp {H:Hp} {a b:Int × Int} (ha:fitR a) (hb:fitR b):Qf Try.prog F.ratio_Cmp #[.agg #[.int .i64 a.1,.int .i64 a.2],.agg #[.int .i64 b.1,.int .i64 b.2]] H (.tuple #[.int .i64 (cmpM a b).1,.int .i64 (cmpM a b).2]):=by
 refine ratio_Cmp_vc ⟨_,ratioBoth ha hb,fun hc=>⟨?_,Hp.le_refl _⟩,fun hc=>?_⟩
 ·have:¬ (okR a∧okR b):=fun h=>by rw [if_pos h] at hc; simp at hc
  unfold cmpM; rw [if_neg this,if_neg this]
 ·have hk:okR a∧okR b:=by
   by_cases h:okR a∧okR b
   ·exact h
   ·rw [if_neg h] at hc; simp at hc
  obtain ⟨oa,ob⟩:=hk
  have e:cmpM a b=(cmpR a b,0):=by unfold cmpM; rw [if_pos ⟨oa,ob⟩]
  rw [e]
  refine ⟨fun hs=>⟨_,compare_i64,?_,Hp.le_refl _⟩,fun hs=>⟨_,_,_,ratioTimes ha.1 hb.2,_,_,_,ratioTimes hb.1 ha.2,_,ratioCompare (absI_nonneg _) (absI_nonneg _),fun hn=>⟨?_,?_,Hp.le_refl _⟩,fun hn=>⟨?_,Hp.le_refl _⟩⟩⟩
  ·rw [cmpR_sign oa ob]
   intro h
   simp only [Bool.not_eq_true',beq_eq_false_iff_ne] at hs
   exact hs (by rw [Bool.eq_iff_iff,decide_eq_true_eq,decide_eq_true_eq]; exact h)
  ·have:=cmpI_range (absI (a.1 * b.2)) (absI (b.1 * a.2))
   unfold inI; omega
  ·have hs':a.1<0↔b.1<0:=by
    simp only [Bool.not_eq_false',beq_iff_eq] at hs
    rw [Bool.eq_iff_iff,decide_eq_true_eq,decide_eq_true_eq] at hs; exact hs
   have hn:a.1<0:=by simpa using hn
   rw [← cmpR_abs oa ob hs',if_pos hn]
  ·have hs':a.1<0↔b.1<0:=by
    simp only [Bool.not_eq_false',beq_iff_eq] at hs
    rw [Bool.eq_iff_iff,decide_eq_true_eq,decide_eq_true_eq] at hs; exact hs
   have hn:¬ a.1<0:=by simpa using hn
   rw [← cmpR_abs oa ob hs',if_neg hn]
end Go.Proofs.Ytnldicbalihomaa
