/- The engine, parts K1, K2, K3, K4, K5, K6, K7, K8, K9, KA, KB, KC, put together. Conditions: none. -/
import Derived.Test.YtlbdpklikfddlaaGreatP4
import Derived.Test.YtlbdpklikfddlaaGreatVgBase
import Derived.Test.YtlbdpklikfddlaaGreatFs
import Derived.Test.YtlbdpklikfddlaaGreatFx
import Derived.Laws.Externs
import Derived.Shelf.Spec.BitsCarry
import Derived.Test.YtlbdpklikfddlaaGreatE7
set_option linter.unusedVariables false
section
/- Gaps and fractions: building, making. Conditions: none. -/
set_option maxRecDepth 100000
open Go Go.Eng Go.Proofs
namespace Go.Proofs.YtlbdpklikfddlaaGreat

def buildM (c:Bool) (N D:Int):(Int × Int) × Int:=if 9223372036854775807<N∨9223372036854775807<D then ((0,0),16) else ((if c=true then 0-N else N,D),0)
theorem buildM_sign {c d:Bool} {N D:Int} (h:N≠0→c=d):buildM c N D=buildM d N D:=by
 unfold buildM
 split
 ·rfl
 ·by_cases e:N=0
  ·subst e; cases c <;> cases d <;> rfl
  ·rw [h e]
theorem i64s {n:Int} (h0:0≤n) (h1:n≤9223372036854775807):IntKind.i64.wrap n=n:=by rw [i64w]; omega

theorem ratioBuild {H:Hp} {c:Bool} {N D:Int} (hN:0≤N) (hD:0≤D) :
  Qf Tryz.prog F.ratio_build #[.agg #[.bool c,.int .u64 (N / 18446744073709551616),.int .u64 (N % 18446744073709551616)],.int .u64 (D / 18446744073709551616),.int .u64 (D % 18446744073709551616)] H
   (.tuple #[.agg #[.int .i64 (buildM c N D).1.1,.int .i64 (buildM c N D).1.2],.int .i64 (buildM c N D).2]):=by
 refine ratio_build_vc ⟨fun hc=>?_,fun hc=>?_⟩
 ·simp only [Bool.or_eq_true,decide_eq_true_eq] at hc
  unfold buildM
  rw [if_pos (by omega)]
  exact ⟨rfl,Hp.le_refl _⟩
 ·simp only [Bool.or_eq_false_iff,decide_eq_false_iff_not] at hc
  unfold buildM
  rw [if_neg (by omega),i64s (by omega) (by omega),i64s (by omega) (by omega),show N % 18446744073709551616=N by omega,show D % 18446744073709551616=D by omega]
  exact ⟨fun h=>⟨by unfold inI; omega,by subst h; exact ⟨rfl,Hp.le_refl _⟩⟩,fun h=>by subst h; exact ⟨rfl,Hp.le_refl _⟩⟩
theorem refMade {H:Hp} {c c1 c2:Bool} {N D:Int} (hN:0≤N) (hD:0≤D) :
  Qf Tryz.prog F.pelotonref01_made #[.bool c,.agg #[.bool c1,.int .u64 (N / 18446744073709551616),.int .u64 (N % 18446744073709551616)],.agg #[.bool c2,.int .u64 (D / 18446744073709551616),.int .u64 (D % 18446744073709551616)]] H
   (.tuple #[.agg #[.int .i64 (buildM c N D).1.1,.int .i64 (buildM c N D).1.2],.int .i64 (buildM c N D).2]):=by
 refine pelotonref01_made_vc ⟨fun hc=>?_,fun hc=>?_⟩
 ·simp only [Bool.or_eq_true,decide_eq_true_eq] at hc
  unfold buildM
  rw [if_pos (by omega)]
  exact ⟨rfl,Hp.le_refl _⟩
 ·simp only [Bool.or_eq_false_iff,decide_eq_false_iff_not] at hc
  unfold buildM
  rw [if_neg (by omega),i64s (by omega) (by omega),i64s (by omega) (by omega),show N % 18446744073709551616=N by omega,show D % 18446744073709551616=D by omega]
  exact ⟨fun h=>⟨by unfold inI; omega,by subst h; exact ⟨rfl,Hp.le_refl _⟩⟩,fun h=>by subst h; exact ⟨rfl,Hp.le_refl _⟩⟩

structure Gp where
 hi:Int
 lo:Int
 a:Int
 b:Int
def okGp (g:Gp):Prop:=0≤g.hi∧g.hi≤65535∧0≤g.lo∧g.lo≤65535∧g.hi≠g.lo∧-2097152≤g.a∧g.a≤2097152∧-2097152≤g.b∧g.b≤2097152
instance (g:Gp):Decidable (okGp g):=by unfold okGp; infer_instance

def gcdA (a b:Int):Int:=(Nat.gcd (absI a).toNat (absI b).toNat:Nat)
def makeM (n d:Int):(Int × Int) × Int:=if d=0 then ((0,0),26) else buildM (!(decide (n<0)==decide (d<0))) (absI n / gcdA n d) (absI d / gcdA n d)

theorem abs_pos {d:Int} (h:d≠0):0<absI d:=by unfold absI; split <;> omega
theorem gcdA_pos {n d:Int} (h:d≠0):0<gcdA n d:=by
 unfold gcdA
 have:=abs_pos h
 have:0<Nat.gcd (absI n).toNat (absI d).toNat:=Nat.gcd_pos_of_pos_right _ (by omega)
 omega
theorem divU {x g:Int} (h0:0≤x) (h1:x≤9223372036854775808) (hg:0<g):wrapU (x.tdiv g)=x / g∧0≤x / g∧x / g≤9223372036854775808:=by
 have e:x.tdiv g=x / g:=Int.tdiv_eq_ediv_of_nonneg h0
 have p:0≤x / g:=Int.ediv_nonneg h0 (by omega)
 have q:x / g≤x:=Int.ediv_le_self _ h0
 refine ⟨?_,p,by omega⟩
 rw [e]; unfold wrapU; omega

theorem ratioMake {H:Hp} {n d:Int} (hn:inI n) (hd:inI d):Qf Tryz.prog F.ratio_Make #[.int .i64 n,.int .i64 d] H (.tuple #[.agg #[.int .i64 (makeM n d).1.1,.int .i64 (makeM n d).1.2],.int .i64 (makeM n d).2]):=by
 have an:=absB hn; have ad:=absB hd
 refine ratio_Make_vc ⟨fun h=>?_,fun h=>?_⟩
 ·have h:d=0:=by simpa using h
  unfold makeM; rw [if_pos h]; exact ⟨rfl,Hp.le_refl _⟩
 ·have h:d≠0:=by simpa using h
  have gp:=gcdA_pos (n:=n) h
  obtain ⟨u1,u2,u3⟩:=divU an.1 an.2 gp
  obtain ⟨w1,w2,w3⟩:=divU ad.1 ad.2 gp
  have rb:=ratioBuild (H:=H) (c:=!(decide (n<0)==decide (d<0))) (N:=absI n / gcdA n d) (D:=absI d / gcdA n d) u2 w2
  rw [show absI n / gcdA n d / 18446744073709551616=0 by omega,show absI n / gcdA n d % 18446744073709551616=absI n / gcdA n d by omega,show absI d / gcdA n d / 18446744073709551616=0 by omega,show absI d / gcdA n d % 18446744073709551616=absI d / gcdA n d by omega] at rb
  refine ⟨_,ratioAbs hn,_,ratioAbs hd,gcdA n d,ratioGcd an.1 ad.1,_,ratioAbs hn,by unfold nz; omega,_,ratioAbs hd,by unfold nz; omega,?_⟩
  rw [u1,w1]
  refine ⟨_,_,_,rb,?_,Hp.le_refl _⟩
  unfold makeM; rw [if_neg h]
theorem refMake {H:Hp} {n d:Int} (hn:inI n) (hd:inI d):Qf Tryz.prog F.pelotonref01_Make #[.int .i64 n,.int .i64 d] H (.tuple #[.agg #[.int .i64 (makeM n d).1.1,.int .i64 (makeM n d).1.2],.int .i64 (makeM n d).2]):=by
 have an:=absB hn; have ad:=absB hd
 refine pelotonref01_Make_vc ⟨fun h=>?_,fun h=>?_⟩
 ·have h:d=0:=by simpa using h
  unfold makeM; rw [if_pos h]; exact ⟨rfl,Hp.le_refl _⟩
 ·have h:d≠0:=by simpa using h
  have gp:=gcdA_pos (n:=n) h
  obtain ⟨u1,u2,u3⟩:=divU an.1 an.2 gp
  obtain ⟨w1,w2,w3⟩:=divU ad.1 ad.2 gp
  have rb:=refMade (H:=H) (c:=(!(decide (n<0)==decide (d<0))&&n != 0)) (c1:=false) (c2:=false) (N:=absI n / gcdA n d) (D:=absI d / gcdA n d) u2 w2
  rw [show absI n / gcdA n d / 18446744073709551616=0 by omega,show absI n / gcdA n d % 18446744073709551616=absI n / gcdA n d by omega,show absI d / gcdA n d / 18446744073709551616=0 by omega,show absI d / gcdA n d % 18446744073709551616=absI d / gcdA n d by omega] at rb
  have es:makeM n d=buildM (!(decide (n<0)==decide (d<0))&&n != 0) (absI n / gcdA n d) (absI d / gcdA n d):=by
   unfold makeM; rw [if_neg h]
   refine buildM_sign fun hN=>?_
   have:n≠0:=fun e=>by
    apply hN; rw [e]; rw [show absI 0=0 from rfl]; exact Int.zero_ediv _
   simp [this]
  rw [es]
  refine ⟨_,refSize hn,_,refSize hd,gcdA n d,refCommon an.1 ad.1,_,refSize hn,by unfold nz; omega,_,refSize hd,by unfold nz; omega,?_⟩
  rw [u1,w1]
  exact ⟨_,_,_,rb,rfl,Hp.le_refl _⟩

def gA (a b:Int × Int):Int:=(Nat.gcd b.2.toNat (absI a.1).toNat:Nat)


theorem makeNeg {A B:Int} (h1:-2097152≤A) (h2:A≤2097152) (h3:-2097152≤B) (h4:B<0) :
  ∃ x y g:Int,0<g∧makeM (-A) B=((x,y),0)∧x * g=A∧y * g = -B∧okR (x,y):=by
 obtain ⟨a,ha⟩:∃ a:Nat,(a:Int)=absI (-A):=⟨(absI (-A)).toNat,by unfold absI; split <;> omega⟩
 obtain ⟨b,hb⟩:∃ b:Nat,(b:Int)=absI B:=⟨(absI B).toNat,by unfold absI; split <;> omega⟩
 have a1:a≤2097152:=by unfold absI at ha; split at ha <;> omega
 have b1:0<b∧b≤2097152:=by unfold absI at hb; split at hb <;> omega
 have hG:0<Nat.gcd a b:=Nat.gcd_pos_of_pos_right _ b1.1
 have da:=Nat.gcd_dvd_left a b
 have db:=Nat.gcd_dvd_right a b
 have ea:=Nat.div_mul_cancel da
 have eb:=Nat.div_mul_cancel db
 have cop:=Nat.gcd_div_gcd_div_gcd_of_pos_right (n:=a) (m:=b) b1.1
 have la:a / Nat.gcd a b≤a:=Nat.div_le_self _ _
 have lb:b / Nat.gcd a b≤b:=Nat.div_le_self _ _
 have pb:0<b / Nat.gcd a b:=Nat.div_pos (Nat.le_of_dvd b1.1 db) hG
 have hgc:gcdA (-A) B=(Nat.gcd a b:Nat):=by unfold gcdA; rw [← ha,← hb,Int.toNat_natCast,Int.toNat_natCast]
 have hm:makeM (-A) B=buildM (!(decide (-A<0)==decide (B<0))) ((a / Nat.gcd a b:Nat):Int) ((b / Nat.gcd a b:Nat):Int):=by
  unfold makeM
  rw [if_neg (by omega),hgc,← ha,← hb]; try rfl
 generalize Nat.gcd a b=G at *
 generalize a / G=N at *
 generalize b / G=D at *
 have eaz:(N:Int) * G=a:=by exact_mod_cast ea
 have ebz:(D:Int) * G=b:=by exact_mod_cast eb
 have hB:(b:Int) = -B:=by unfold absI at hb; rw [if_pos h4] at hb; omega
 rw [hm]
 unfold buildM
 rw [if_neg (by omega)]
 by_cases hA:0<A
 ·have e:(!(decide (-A<0)==decide (B<0)))=false:=by rw [decide_eq_true (by omega:-A<0),decide_eq_true h4]; try rfl
  have hAa:(a:Int)=A:=by unfold absI at ha; rw [if_pos (by omega)] at ha; omega
  rw [e]
  exact ⟨N,D,G,by omega,rfl,by rw [eaz]; exact hAa,by rw [ebz]; exact hB,⟨by show (1:Int)≤D; omega,by show (D:Int)≤_; omega,by show _≤(N:Int); omega,by show (N:Int)≤_; omega,by show Nat.gcd (N:Int).natAbs (D:Int).natAbs=1; simpa using cop⟩⟩
 ·have e:(!(decide (-A<0)==decide (B<0)))=true:=by rw [decide_eq_false (by omega:¬ -A<0),decide_eq_true h4]; try rfl
  have hAa:(a:Int) = -A:=by unfold absI at ha; rw [if_neg (by omega)] at ha; omega
  rw [e]
  exact ⟨0-N,D,G,by omega,rfl,by rw [Int.sub_mul,eaz]; omega,by rw [ebz]; exact hB,⟨by show (1:Int)≤D; omega,by show (D:Int)≤_; omega,by show _≤(0-(N:Int)); omega,by show (0-(N:Int))≤_; omega,by show Nat.gcd (0-(N:Int)).natAbs (D:Int).natAbs=1; rw [show (0-(N:Int)).natAbs=N by omega]; simpa using cop⟩⟩








end Go.Proofs.YtlbdpklikfddlaaGreat
end
