/- The engine, parts K1, K2, K3, K4, K5, K6, K7, K8, K9, KA, KB, KC, put together. Conditions: none. -/
import Derived.Test.YtbbdplfkiioppaaGreatP4
import Derived.Test.YtbbdplfkiioppaaGreatVgBase
import Derived.Test.YtbbdplfkiioppaaGreatFs
import Derived.Test.YtbbdplfkiioppaaGreatFx
import Derived.Laws.Externs
import Derived.Shelf.Spec.BitsCarry
import Derived.Test.YtbbdplfkiioppaaGreatVgStd
import Derived.Test.YtbbdplfkiioppaaGreatE7
set_option linter.unusedVariables false
section
/- Gaps and fractions: building, making. Conditions: none. -/
set_option maxRecDepth 100000
open Go Go.Eng Go.Proofs
namespace Go.Proofs.YtbbdplfkiioppaaGreat

def buildM (c:Bool) (N D:Int):(Int × Int) × Int:=if 9223372036854775807<N∨9223372036854775807<D then ((0,0),16) else ((if c=true then 0-N else N,D),0)
theorem buildM_sign {c d:Bool} {N D:Int} (h:N≠0→c=d):buildM c N D=buildM d N D:=by
 unfold buildM
 split
 ·rfl
 ·by_cases e:N=0
  ·subst e; cases c <;> cases d <;> rfl
  ·rw [h e]
theorem i64s {n:Int} (h0:0≤n) (h1:n≤9223372036854775807):IntKind.i64.wrap n=n:=by rw [i64w]; omega

theorem ratioBuild {H:Hp} {c:Bool} {N D:Int} (hN:0≤N) (hD:0≤D) :
  Qf Tryz.prog F.ratio_build #[.agg #[.bool c,.int .u64 (N / 18446744073709551616),.int .u64 (N % 18446744073709551616)],.int .u64 (D / 18446744073709551616),.int .u64 (D % 18446744073709551616)] H
   (.tuple #[.agg #[.int .i64 (buildM c N D).1.1,.int .i64 (buildM c N D).1.2],.int .i64 (buildM c N D).2]):=by
 refine ratio_build_vc ⟨fun hc=>?_,fun hc=>?_⟩
 ·simp only [Bool.or_eq_true,decide_eq_true_eq] at hc
  unfold buildM
  rw [if_pos (by omega)]
  exact ⟨rfl,Hp.le_refl _⟩
 ·simp only [Bool.or_eq_false_iff,decide_eq_false_iff_not] at hc
  unfold buildM
  rw [if_neg (by omega),i64s (by omega) (by omega),i64s (by omega) (by omega),show N % 18446744073709551616=N by omega,show D % 18446744073709551616=D by omega]
  exact ⟨fun h=>⟨by unfold inI; omega,by subst h; exact ⟨rfl,Hp.le_refl _⟩⟩,fun h=>by subst h; exact ⟨rfl,Hp.le_refl _⟩⟩
theorem refMade {H:Hp} {c c1 c2:Bool} {N D:Int} (hN:0≤N) (hD:0≤D) :
  Qf Tryz.prog F.pelotonref01_made #[.bool c,.agg #[.bool c1,.int .u64 (N / 18446744073709551616),.int .u64 (N % 18446744073709551616)],.agg #[.bool c2,.int .u64 (D / 18446744073709551616),.int .u64 (D % 18446744073709551616)]] H
   (.tuple #[.agg #[.int .i64 (buildM c N D).1.1,.int .i64 (buildM c N D).1.2],.int .i64 (buildM c N D).2]):=by
 refine pelotonref01_made_vc ⟨fun hc=>?_,fun hc=>?_⟩
 ·simp only [Bool.or_eq_true,decide_eq_true_eq] at hc
  unfold buildM
  rw [if_pos (by omega)]
  exact ⟨rfl,Hp.le_refl _⟩
 ·simp only [Bool.or_eq_false_iff,decide_eq_false_iff_not] at hc
  unfold buildM
  rw [if_neg (by omega),i64s (by omega) (by omega),i64s (by omega) (by omega),show N % 18446744073709551616=N by omega,show D % 18446744073709551616=D by omega]
  exact ⟨fun h=>⟨by unfold inI; omega,by subst h; exact ⟨rfl,Hp.le_refl _⟩⟩,fun h=>by subst h; exact ⟨rfl,Hp.le_refl _⟩⟩

structure Gp where
 hi:Int
 lo:Int
 a:Int
 b:Int
def okGp (g:Gp):Prop:=0≤g.hi∧g.hi≤65535∧0≤g.lo∧g.lo≤65535∧g.hi≠g.lo∧-2097152≤g.a∧g.a≤2097152∧-2097152≤g.b∧g.b≤2097152
instance (g:Gp):Decidable (okGp g):=by unfold okGp; infer_instance

def gcdA (a b:Int):Int:=(Nat.gcd (absI a).toNat (absI b).toNat:Nat)
def makeM (n d:Int):(Int × Int) × Int:=if d=0 then ((0,0),26) else buildM (!(decide (n<0)==decide (d<0))) (absI n / gcdA n d) (absI d / gcdA n d)

theorem abs_pos {d:Int} (h:d≠0):0<absI d:=by unfold absI; split <;> omega
theorem gcdA_pos {n d:Int} (h:d≠0):0<gcdA n d:=by
 unfold gcdA
 have:=abs_pos h
 have:0<Nat.gcd (absI n).toNat (absI d).toNat:=Nat.gcd_pos_of_pos_right _ (by omega)
 omega
theorem divU {x g:Int} (h0:0≤x) (h1:x≤9223372036854775808) (hg:0<g):wrapU (x.tdiv g)=x / g∧0≤x / g∧x / g≤9223372036854775808:=by
 have e:x.tdiv g=x / g:=Int.tdiv_eq_ediv_of_nonneg h0
 have p:0≤x / g:=Int.ediv_nonneg h0 (by omega)
 have q:x / g≤x:=Int.ediv_le_self _ h0
 refine ⟨?_,p,by omega⟩
 rw [e]; unfold wrapU; omega

theorem ratioMake {H:Hp} {n d:Int} (hn:inI n) (hd:inI d):Qf Tryz.prog F.ratio_Make #[.int .i64 n,.int .i64 d] H (.tuple #[.agg #[.int .i64 (makeM n d).1.1,.int .i64 (makeM n d).1.2],.int .i64 (makeM n d).2]):=by
 have an:=absB hn; have ad:=absB hd
 refine ratio_Make_vc ⟨fun h=>?_,fun h=>?_⟩
 ·have h:d=0:=by simpa using h
  unfold makeM; rw [if_pos h]; exact ⟨rfl,Hp.le_refl _⟩
 ·have h:d≠0:=by simpa using h
  have gp:=gcdA_pos (n:=n) h
  obtain ⟨u1,u2,u3⟩:=divU an.1 an.2 gp
  obtain ⟨w1,w2,w3⟩:=divU ad.1 ad.2 gp
  have rb:=ratioBuild (H:=H) (c:=!(decide (n<0)==decide (d<0))) (N:=absI n / gcdA n d) (D:=absI d / gcdA n d) u2 w2
  rw [show absI n / gcdA n d / 18446744073709551616=0 by omega,show absI n / gcdA n d % 18446744073709551616=absI n / gcdA n d by omega,show absI d / gcdA n d / 18446744073709551616=0 by omega,show absI d / gcdA n d % 18446744073709551616=absI d / gcdA n d by omega] at rb
  refine ⟨_,ratioAbs hn,_,ratioAbs hd,gcdA n d,ratioGcd an.1 ad.1,_,ratioAbs hn,by unfold nz; omega,_,ratioAbs hd,by unfold nz; omega,?_⟩
  rw [u1,w1]
  refine ⟨_,_,_,rb,?_,Hp.le_refl _⟩
  unfold makeM; rw [if_neg h]
theorem refMake {H:Hp} {n d:Int} (hn:inI n) (hd:inI d):Qf Tryz.prog F.pelotonref01_Make #[.int .i64 n,.int .i64 d] H (.tuple #[.agg #[.int .i64 (makeM n d).1.1,.int .i64 (makeM n d).1.2],.int .i64 (makeM n d).2]):=by
 have an:=absB hn; have ad:=absB hd
 refine pelotonref01_Make_vc ⟨fun h=>?_,fun h=>?_⟩
 ·have h:d=0:=by simpa using h
  unfold makeM; rw [if_pos h]; exact ⟨rfl,Hp.le_refl _⟩
 ·have h:d≠0:=by simpa using h
  have gp:=gcdA_pos (n:=n) h
  obtain ⟨u1,u2,u3⟩:=divU an.1 an.2 gp
  obtain ⟨w1,w2,w3⟩:=divU ad.1 ad.2 gp
  have rb:=refMade (H:=H) (c:=(!(decide (n<0)==decide (d<0))&&n != 0)) (c1:=false) (c2:=false) (N:=absI n / gcdA n d) (D:=absI d / gcdA n d) u2 w2
  rw [show absI n / gcdA n d / 18446744073709551616=0 by omega,show absI n / gcdA n d % 18446744073709551616=absI n / gcdA n d by omega,show absI d / gcdA n d / 18446744073709551616=0 by omega,show absI d / gcdA n d % 18446744073709551616=absI d / gcdA n d by omega] at rb
  have es:makeM n d=buildM (!(decide (n<0)==decide (d<0))&&n != 0) (absI n / gcdA n d) (absI d / gcdA n d):=by
   unfold makeM; rw [if_neg h]
   refine buildM_sign fun hN=>?_
   have:n≠0:=fun e=>by
    apply hN; rw [e]; rw [show absI 0=0 from rfl]; exact Int.zero_ediv _
   simp [this]
  rw [es]
  refine ⟨_,refSize hn,_,refSize hd,gcdA n d,refCommon an.1 ad.1,_,refSize hn,by unfold nz; omega,_,refSize hd,by unfold nz; omega,?_⟩
  rw [u1,w1]
  exact ⟨_,_,_,rb,rfl,Hp.le_refl _⟩

theorem absI_tdiv {a g:Int} (hg:0<g):absI (a.tdiv g)=absI a / g:=by
 unfold absI
 by_cases h:a<0
 ·have e:a.tdiv g = -((-a) / g):=by
   have:a = -(-a):=by omega
   rw [this,Int.neg_tdiv,Int.tdiv_eq_ediv_of_nonneg (by omega:(0:Int)≤-a)]; simp
  have p:0≤(-a) / g:=Int.ediv_nonneg (by omega) (by omega)
  rw [if_pos h,e]
  split <;> omega
 ·have e:a.tdiv g=a / g:=Int.tdiv_eq_ediv_of_nonneg (by omega)
  have p:0≤a / g:=Int.ediv_nonneg (by omega) (by omega)
  rw [if_neg h,e,if_neg (by omega)]
theorem tdiv_sign {a g:Int} (hg:0<g) (hz:a.tdiv g≠0):(a.tdiv g<0↔a<0)∧a≠0:=by
 by_cases h:a<0
 ·have e:a.tdiv g = -((-a) / g):=by
   have:a = -(-a):=by omega
   rw [this,Int.neg_tdiv,Int.tdiv_eq_ediv_of_nonneg (by omega:(0:Int)≤-a)]; simp
  have p:0≤(-a) / g:=Int.ediv_nonneg (by omega) (by omega)
  rw [e] at hz ⊢
  exact ⟨⟨fun _=>h,fun _=>by omega⟩,by omega⟩
 ·have e:a.tdiv g=a / g:=Int.tdiv_eq_ediv_of_nonneg (by omega)
  have p:0≤a / g:=Int.ediv_nonneg (by omega) (by omega)
  rw [e] at hz ⊢
  exact ⟨⟨fun x=>by omega,fun x=>by omega⟩,fun e0=>hz (by rw [e0]; exact Int.zero_ediv _)⟩
theorem tdiv_in {a g:Int} (h1:-9223372036854775807≤a) (h2:a≤9223372036854775807) (hg:0<g):inI (a.tdiv g):=by
 have:=absI_tdiv (a:=a) hg
 have p:0≤absI a:=by unfold absI; split <;> omega
 have q:absI a / g≤absI a:=Int.ediv_le_self _ p
 rw [← this] at q
 have r:absI a≤9223372036854775807:=by unfold absI; split <;> omega
 unfold inI
 unfold absI at q r
 split at q <;> split at r <;> omega

def gA (a b:Int × Int):Int:=(Nat.gcd b.2.toNat (absI a.1).toNat:Nat)
def mulM (a b:Int × Int):(Int × Int) × Int :=
 if okR a∧okR b then buildM (!(decide (a.1<0)==decide (b.1<0))&&a.1 != 0&&b.1 != 0) (absI (a.1.tdiv (gA a b) * b.1.tdiv (gA b a))) (a.2 / gA b a * (b.2 / gA a b)) else ((0,0),8)

theorem gA_pos {a b:Int × Int} (hb:okR b):0<gA a b∧gA a b≤b.2:=by
 have:=hb.d1
 unfold gA
 have h1:0<Nat.gcd b.2.toNat (absI a.1).toNat:=Nat.gcd_pos_of_pos_left _ (by omega)
 have h2:Nat.gcd b.2.toNat (absI a.1).toNat≤b.2.toNat:=Nat.gcd_le_left _ (by omega)
 omega
theorem pos_divU {d g:Int} (h1:1≤d) (h2:d≤9223372036854775807) (hg:0<g):d.tdiv g=d / g∧0≤d / g∧d / g≤9223372036854775807:=by
 have q:d / g≤d:=Int.ediv_le_self _ (by omega)
 exact ⟨Int.tdiv_eq_ediv_of_nonneg (by omega),Int.ediv_nonneg (by omega) (by omega),by omega⟩
theorem wrapUs {n:Int} (h0:0≤n) (h1:n<18446744073709551616):wrapU n=n:=by unfold wrapU; omega

theorem ratioMul {H:Hp} {a b:Int × Int} (ha:fitR a) (hb:fitR b):Qf Tryz.prog F.ratio_Mul #[.agg #[.int .i64 a.1,.int .i64 a.2],.agg #[.int .i64 b.1,.int .i64 b.2]] H (.tuple #[.agg #[.int .i64 (mulM a b).1.1,.int .i64 (mulM a b).1.2],.int .i64 (mulM a b).2]):=by
 refine ratio_Mul_vc ⟨_,ratioBoth ha hb,fun hc=>?_,fun hc=>?_⟩
 ·have h:¬ (okR a∧okR b):=fun x=>by rw [if_pos x] at hc; simp at hc
  unfold mulM; rw [if_neg h,if_neg h]; exact ⟨rfl,Hp.le_refl _⟩
 ·have h:okR a∧okR b:=by
   by_cases x:okR a∧okR b
   ·exact x
   ·rw [if_neg x] at hc; simp at hc
  obtain ⟨oa,ob⟩:=h
  have ga:=gA_pos (a:=a) ob
  have gb:=gA_pos (a:=b) oa
  have an:=absB ha.1; have bn:=absB hb.1
  have d1:=oa.d1; have d2:=oa.d2; have d3:=ob.d1; have d4:=ob.d2
  rw [wrapUs (n:=b.2) (by omega) (by omega),wrapUs (n:=a.2) (by omega) (by omega)]
  refine ⟨_,ratioAbs ha.1,gA a b,ratioGcd (by omega) an.1,_,ratioAbs hb.1,gA b a,ratioGcd (by omega) bn.1,?_⟩
  rw [i64s (n:=gA a b) (by omega) (by omega),i64s (n:=gA b a) (by omega) (by omega)]
  obtain ⟨e1,e2,e3⟩:=pos_divU d1 d2 gb.1
  obtain ⟨f1,f2,f3⟩:=pos_divU d3 d4 ga.1
  have i1:=tdiv_in oa.n1 oa.n2 ga.1
  have i2:=tdiv_in ob.n1 ob.n2 gb.1
  rw [e1,f1,wrapUs (n:=a.2 / gA b a) e2 (by omega),wrapUs (n:=b.2 / gA a b) f2 (by omega)]
  refine ⟨⟨by unfold nz; omega,by unfold inI; omega⟩,⟨by unfold nz; omega,by unfold inI; omega⟩,_,_,mul64 e2 (by omega) f2 (by omega),⟨by unfold nz; omega,i1⟩,⟨by unfold nz; omega,i2⟩,_,_,_,ratioTimes i1 i2,_,_,_,ratioBuild (by rw [← absI_mul]; exact Int.mul_nonneg (absB i1).1 (absB i2).1) (Int.mul_nonneg e2 f2),?_,Hp.le_refl _⟩
  have es:mulM a b=buildM (!(decide (a.1.tdiv (gA a b)<0)==decide (b.1.tdiv (gA b a)<0))) (absI (a.1.tdiv (gA a b) * b.1.tdiv (gA b a))) (a.2 / gA b a * (b.2 / gA a b)):=by
   unfold mulM; rw [if_pos ⟨oa,ob⟩]
   refine buildM_sign fun hN=>?_
   have hz:a.1.tdiv (gA a b)≠0∧b.1.tdiv (gA b a)≠0:=by
    constructor
    ·intro e; apply hN; rw [e,Int.zero_mul]; try rfl
    ·intro e; apply hN; rw [e,Int.mul_zero]; try rfl
   obtain ⟨s1,s2⟩:=tdiv_sign ga.1 hz.1
   obtain ⟨s3,s4⟩:=tdiv_sign gb.1 hz.2
   have t1:(a.1 != 0)=true:=by simpa using s2
   have t2:(b.1 != 0)=true:=by simpa using s4
   rw [t1,t2,Bool.and_true,Bool.and_true]
   simp only [s1,s3]
  rw [es]



theorem makeNeg {A B:Int} (h1:-2097152≤A) (h2:A≤2097152) (h3:-2097152≤B) (h4:B<0) :
  ∃ x y g:Int,0<g∧makeM (-A) B=((x,y),0)∧x * g=A∧y * g = -B∧okR (x,y):=by
 obtain ⟨a,ha⟩:∃ a:Nat,(a:Int)=absI (-A):=⟨(absI (-A)).toNat,by unfold absI; split <;> omega⟩
 obtain ⟨b,hb⟩:∃ b:Nat,(b:Int)=absI B:=⟨(absI B).toNat,by unfold absI; split <;> omega⟩
 have a1:a≤2097152:=by unfold absI at ha; split at ha <;> omega
 have b1:0<b∧b≤2097152:=by unfold absI at hb; split at hb <;> omega
 have hG:0<Nat.gcd a b:=Nat.gcd_pos_of_pos_right _ b1.1
 have da:=Nat.gcd_dvd_left a b
 have db:=Nat.gcd_dvd_right a b
 have ea:=Nat.div_mul_cancel da
 have eb:=Nat.div_mul_cancel db
 have cop:=Nat.gcd_div_gcd_div_gcd_of_pos_right (n:=a) (m:=b) b1.1
 have la:a / Nat.gcd a b≤a:=Nat.div_le_self _ _
 have lb:b / Nat.gcd a b≤b:=Nat.div_le_self _ _
 have pb:0<b / Nat.gcd a b:=Nat.div_pos (Nat.le_of_dvd b1.1 db) hG
 have hgc:gcdA (-A) B=(Nat.gcd a b:Nat):=by unfold gcdA; rw [← ha,← hb,Int.toNat_natCast,Int.toNat_natCast]
 have hm:makeM (-A) B=buildM (!(decide (-A<0)==decide (B<0))) ((a / Nat.gcd a b:Nat):Int) ((b / Nat.gcd a b:Nat):Int):=by
  unfold makeM
  rw [if_neg (by omega),hgc,← ha,← hb]; try rfl
 generalize Nat.gcd a b=G at *
 generalize a / G=N at *
 generalize b / G=D at *
 have eaz:(N:Int) * G=a:=by exact_mod_cast ea
 have ebz:(D:Int) * G=b:=by exact_mod_cast eb
 have hB:(b:Int) = -B:=by unfold absI at hb; rw [if_pos h4] at hb; omega
 rw [hm]
 unfold buildM
 rw [if_neg (by omega)]
 by_cases hA:0<A
 ·have e:(!(decide (-A<0)==decide (B<0)))=false:=by rw [decide_eq_true (by omega:-A<0),decide_eq_true h4]; try rfl
  have hAa:(a:Int)=A:=by unfold absI at ha; rw [if_pos (by omega)] at ha; omega
  rw [e]
  exact ⟨N,D,G,by omega,rfl,by rw [eaz]; exact hAa,by rw [ebz]; exact hB,⟨by show (1:Int)≤D; omega,by show (D:Int)≤_; omega,by show _≤(N:Int); omega,by show (N:Int)≤_; omega,by show Nat.gcd (N:Int).natAbs (D:Int).natAbs=1; simpa using cop⟩⟩
 ·have e:(!(decide (-A<0)==decide (B<0)))=true:=by rw [decide_eq_false (by omega:¬ -A<0),decide_eq_true h4]; try rfl
  have hAa:(a:Int) = -A:=by unfold absI at ha; rw [if_neg (by omega)] at ha; omega
  rw [e]
  exact ⟨0-N,D,G,by omega,rfl,by rw [Int.sub_mul,eaz]; omega,by rw [ebz]; exact hB,⟨by show (1:Int)≤D; omega,by show (D:Int)≤_; omega,by show _≤(0-(N:Int)); omega,by show (0-(N:Int))≤_; omega,by show Nat.gcd (0-(N:Int)).natAbs (D:Int).natAbs=1; rw [show (0-(N:Int)).natAbs=N by omega]; simpa using cop⟩⟩



theorem add64c {H:Hp} {x y c:Int} (hx:0≤x) (hy:0≤y) (hc:0≤c) (hc':c≤1):OpQ Tryz.prog (callFunc F.math_bits_Add64 #[.int .u64 x,.int .u64 y,.int .u64 c]) H (.tuple #[.int .u64 ((x+y+c) % 18446744073709551616),.int .u64 ((x+y+c) / 18446744073709551616)]):=by
 intro w _
 rw [run_callFunc_extern func_Add64 (by kernel_rfl) (by kernel_rfl) (by kernel_rfl) (e:=add64Entry) (by kernel_rfl),run_add64 x y c hx hy hc hc']
 simp only [Result.andThen]

theorem sub64c {H:Hp} {x y b:Int} (hx:0≤x) (hy:0≤y) (hy':y<18446744073709551616) (hb:0≤b) (hb':b≤1):OpQ Tryz.prog (callFunc F.math_bits_Sub64 #[.int .u64 x,.int .u64 y,.int .u64 b]) H (.tuple #[.int .u64 ((x-y-b) % 18446744073709551616),.int .u64 (if x<y+b then 1 else 0)]):=by
 intro w _
 obtain ⟨x,rfl⟩:=Int.eq_ofNat_of_zero_le hx
 obtain ⟨y,rfl⟩:=Int.eq_ofNat_of_zero_le hy
 obtain ⟨b,rfl⟩:=Int.eq_ofNat_of_zero_le hb
 rw [run_callFunc_extern func_Sub64 (by kernel_rfl) (by kernel_rfl) (by kernel_rfl) (e:=sub64Entry) (by kernel_rfl),run_sub64 x y b (by omega)]
 simp only [Result.andThen]
 have e1:(((x+18446744073709551616-y-b) % 18446744073709551616:Nat):Int)=((x:Int)-y-b) % 18446744073709551616:=by omega
 have e2:((if x<y+b then 1 else 0:Nat):Int)=if (x:Int)<(y:Int)+b then 1 else 0:=by
  by_cases h:x<y+b
  ·rw [if_pos h,if_pos (by omega)]; try rfl
  ·rw [if_neg h,if_neg (by omega)]; try rfl
 rw [e1,e2]

def plusM (c d:Bool) (N M:Int):Bool × Int:=if c=d then (c,N+M) else if N<M then (d,M-N) else (c,N-M)
theorem ratioPlus {H:Hp} {c d:Bool} {N M:Int} (hN:0≤N) (hN':N<170141183460469231731687303715884105728) (hM:0≤M) (hM':M<170141183460469231731687303715884105728) :
  Qf Tryz.prog F.ratio_plus #[.agg #[.bool c,.int .u64 (N / 18446744073709551616),.int .u64 (N % 18446744073709551616)],.agg #[.bool d,.int .u64 (M / 18446744073709551616),.int .u64 (M % 18446744073709551616)]] H
   (.agg #[.bool (plusM c d N M).1,.int .u64 ((plusM c d N M).2 / 18446744073709551616),.int .u64 ((plusM c d N M).2 % 18446744073709551616)]):=by
 have n0:0≤N / 18446744073709551616:=by omega
 have m0:0≤M / 18446744073709551616:=by omega
 have n1:0≤N % 18446744073709551616:=by omega
 have m1:0≤M % 18446744073709551616:=by omega
 refine ratio_plus_vc ⟨fun h=>?_,fun h=>?_⟩
 ·have h:c=d:=by simpa using h
  refine ⟨_,_,add64c n1 m1 (by omega) (by omega),_,_,add64c n0 m0 (by omega) (by omega),?_,Hp.le_refl _⟩
  unfold plusM; rw [if_pos h]
  have e1:(N / 18446744073709551616+M / 18446744073709551616+(N % 18446744073709551616+M % 18446744073709551616+0) / 18446744073709551616) % 18446744073709551616=(N+M) / 18446744073709551616:=by omega
  have e2:(N % 18446744073709551616+M % 18446744073709551616+0) % 18446744073709551616=(N+M) % 18446744073709551616:=by omega
  rw [e1,e2]
 ·have h:¬ c=d:=by simpa using h
  refine ⟨_,ratioCompare hN hM,fun hc=>?_,fun hc=>?_⟩
  ·have hc:N<M:=cmpI_lt.1 (by simpa using hc)
   refine ⟨_,_,sub64c m1 n1 (by omega) (by omega) (by omega),_,_,sub64c m0 n0 (by omega) (by split <;> omega) (by split <;> omega),?_,Hp.le_refl _⟩
   unfold plusM; rw [if_neg h,if_pos hc]
   have e1:(M / 18446744073709551616-N / 18446744073709551616-(if M % 18446744073709551616<N % 18446744073709551616+0 then 1 else 0)) % 18446744073709551616=(M-N) / 18446744073709551616:=by split <;> omega
   have e2:(M % 18446744073709551616-N % 18446744073709551616-0) % 18446744073709551616=(M-N) % 18446744073709551616:=by omega
   rw [e1,e2]
  ·have hc:¬ N<M:=fun x=>by have:=cmpI_lt.2 x; simp at hc; omega
   refine ⟨_,_,sub64c n1 m1 (by omega) (by omega) (by omega),_,_,sub64c n0 m0 (by omega) (by split <;> omega) (by split <;> omega),?_,Hp.le_refl _⟩
   unfold plusM; rw [if_neg h,if_neg hc]
   have e1:(N / 18446744073709551616-M / 18446744073709551616-(if N % 18446744073709551616<M % 18446744073709551616+0 then 1 else 0)) % 18446744073709551616=(N-M) / 18446744073709551616:=by split <;> omega
   have e2:(N % 18446744073709551616-M % 18446744073709551616-0) % 18446744073709551616=(N-M) % 18446744073709551616:=by omega
   rw [e1,e2]




theorem absI_iff (v:Int):(v<0→absI v = -v)∧(0≤v→absI v=v):=by
 unfold absI
 constructor
 ·intro h; rw [if_pos h]
 ·intro h; rw [if_neg (by omega)]
theorem plusM_val {c d:Bool} {v w:Int} (hc:v≠0→(c=true↔v<0)) (hd:w≠0→(d=true↔w<0)) :
  (plusM c d (absI v) (absI w)).2=absI (v+w)∧(v+w≠0→((plusM c d (absI v) (absI w)).1=true↔v+w<0)):=by
 have av:=absI_iff v
 have aw:=absI_iff w
 have avw:=absI_iff (v+w)
 unfold plusM
 generalize absI v=x at *
 generalize absI w=y at *
 generalize absI (v+w)=z at *
 cases c <;> cases d <;> simp only [Bool.false_eq_true,false_iff,true_iff,if_true,if_false,reduceCtorEq] at hc hd ⊢
 ·exact ⟨by omega,fun h=>by omega⟩
 ·by_cases h:x<y
  ·rw [if_pos h]; exact ⟨by show y-x=z; omega,fun h=>by simp only [true_iff]; omega⟩
  ·rw [if_neg h]; exact ⟨by show x-y=z; omega,fun h=>by simp only [Bool.false_eq_true,false_iff]; omega⟩
 ·by_cases h:x<y
  ·rw [if_pos h]; exact ⟨by show y-x=z; omega,fun h=>by simp only [Bool.false_eq_true,false_iff]; omega⟩
  ·rw [if_neg h]; exact ⟨by show x-y=z; omega,fun h=>by simp only [true_iff]; omega⟩
 ·exact ⟨by omega,fun h=>by omega⟩

theorem buildM_fit {c:Bool} {N D:Int} (hN:0≤N) (hD:0≤D):fitR (buildM c N D).1:=by
 unfold buildM
 split
 ·exact ⟨by show inI 0; unfold inI; omega,by show inI 0; unfold inI; omega⟩
 ·refine ⟨?_,by show inI D; unfold inI; omega⟩
  show inI (if c=true then 0-N else N)
  split <;> (unfold inI; omega)
end Go.Proofs.YtbbdplfkiioppaaGreat
end
