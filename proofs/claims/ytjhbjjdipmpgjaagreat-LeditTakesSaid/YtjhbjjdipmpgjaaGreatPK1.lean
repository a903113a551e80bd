/- The engine, parts K1, K2, K3, K4, K5, K6, K7, K8, K9, KA, KB, KC, put together. Conditions: none. -/
import Derived.Test.YtjhbjjdipmpgjaaGreatP4
import Derived.Test.YtjhbjjdipmpgjaaGreatVgBase
import Derived.Test.YtjhbjjdipmpgjaaGreatFs
import Derived.Test.YtjhbjjdipmpgjaaGreatFx
import Derived.Laws.Externs
import Derived.Shelf.Spec.BitsCarry
import Derived.Test.YtjhbjjdipmpgjaaGreatE7
set_option linter.unusedVariables false
section
/- Gaps and fractions: building, making. Conditions: none. -/
set_option maxRecDepth 100000
open Go Go.Eng Go.Proofs
namespace Go.Proofs.YtjhbjjdipmpgjaaGreat

def z9u (c:Bool) (N D:Int):(Int × Int) × Int:=if 9223372036854775807<N∨9223372036854775807<D then ((0,0),16) else ((if c=true then 0-N else N,D),0)
theorem z9x {c d:Bool} {N D:Int} (h:N≠0→c=d):z9u c N D=z9u d N D:=by
 unfold z9u
 split
 ·rfl
 ·by_cases e:N=0
  ·subst e; cases c <;> cases d <;> rfl
  ·rw [h e]
theorem zz9 {n:Int} (h0:0≤n) (h1:n≤9223372036854775807):IntKind.i64.wrap n=n:=by rw [zza]; omega

theorem ylb {H:Hp} {c:Bool} {N D:Int} (hN:0≤N) (hD:0≤D) :
  Qf Tryz.prog F.f266 #[.agg #[.bool c,.int .u64 (N / 18446744073709551616),.int .u64 (N % 18446744073709551616)],.int .u64 (D / 18446744073709551616),.int .u64 (D % 18446744073709551616)] H
   (.tuple #[.agg #[.int .i64 (z9u c N D).1.1,.int .i64 (z9u c N D).1.2],.int .i64 (z9u c N D).2]):=by
 refine vc266 ⟨fun hc=>?_,fun hc=>?_⟩
 ·simp only [Bool.or_eq_true,decide_eq_true_eq] at hc
  unfold z9u
  rw [if_pos (by omega)]
  exact ⟨rfl,Hp.le_refl _⟩
 ·simp only [Bool.or_eq_false_iff,decide_eq_false_iff_not] at hc
  unfold z9u
  rw [if_neg (by omega),zz9 (by omega) (by omega),zz9 (by omega) (by omega),show N % 18446744073709551616=N by omega,show D % 18446744073709551616=D by omega]
  exact ⟨fun h=>⟨by unfold inI; omega,by subst h; exact ⟨rfl,Hp.le_refl _⟩⟩,fun h=>by subst h; exact ⟨rfl,Hp.le_refl _⟩⟩
theorem ynp {H:Hp} {c c1 c2:Bool} {N D:Int} (hN:0≤N) (hD:0≤D) :
  Qf Tryz.prog F.f264 #[.bool c,.agg #[.bool c1,.int .u64 (N / 18446744073709551616),.int .u64 (N % 18446744073709551616)],.agg #[.bool c2,.int .u64 (D / 18446744073709551616),.int .u64 (D % 18446744073709551616)]] H
   (.tuple #[.agg #[.int .i64 (z9u c N D).1.1,.int .i64 (z9u c N D).1.2],.int .i64 (z9u c N D).2]):=by
 refine vc264 ⟨fun hc=>?_,fun hc=>?_⟩
 ·simp only [Bool.or_eq_true,decide_eq_true_eq] at hc
  unfold z9u
  rw [if_pos (by omega)]
  exact ⟨rfl,Hp.le_refl _⟩
 ·simp only [Bool.or_eq_false_iff,decide_eq_false_iff_not] at hc
  unfold z9u
  rw [if_neg (by omega),zz9 (by omega) (by omega),zz9 (by omega) (by omega),show N % 18446744073709551616=N by omega,show D % 18446744073709551616=D by omega]
  exact ⟨fun h=>⟨by unfold inI; omega,by subst h; exact ⟨rfl,Hp.le_refl _⟩⟩,fun h=>by subst h; exact ⟨rfl,Hp.le_refl _⟩⟩

structure Gp where
 hi:Int
 lo:Int
 a:Int
 b:Int
def ybd (g:Gp):Prop:=0≤g.hi∧g.hi≤65535∧0≤g.lo∧g.lo≤65535∧g.hi≠g.lo∧-2097152≤g.a∧g.a≤2097152∧-2097152≤g.b∧g.b≤2097152
instance (g:Gp):Decidable (ybd g):=by unfold ybd; infer_instance

def zwm (a b:Int):Int:=(Nat.gcd (z2h a).toNat (z2h b).toNat:Nat)
def y5a (n d:Int):(Int × Int) × Int:=if d=0 then ((0,0),26) else z9u (!(decide (n<0)==decide (d<0))) (z2h n / zwm n d) (z2h d / zwm n d)

theorem z2u {d:Int} (h:d≠0):0<z2h d:=by unfold z2h; split <;> omega
theorem zwn {n d:Int} (h:d≠0):0<zwm n d:=by
 unfold zwm
 have:=z2u h
 have:0<Nat.gcd (z2h n).toNat (z2h d).toNat:=Nat.gcd_pos_of_pos_right _ (by omega)
 omega
theorem zp1 {x g:Int} (h0:0≤x) (h1:x≤9223372036854775808) (hg:0<g):x0h (x.tdiv g)=x / g∧0≤x / g∧x / g≤9223372036854775808:=by
 have e:x.tdiv g=x / g:=Int.tdiv_eq_ediv_of_nonneg h0
 have p:0≤x / g:=Int.ediv_nonneg h0 (by omega)
 have q:x / g≤x:=Int.ediv_le_self _ h0
 refine ⟨?_,p,by omega⟩
 rw [e]; unfold x0h; omega

theorem ylg {H:Hp} {n d:Int} (hn:inI n) (hd:inI d):Qf Tryz.prog F.f251 #[.int .i64 n,.int .i64 d] H (.tuple #[.agg #[.int .i64 (y5a n d).1.1,.int .i64 (y5a n d).1.2],.int .i64 (y5a n d).2]):=by
 have an:=z2g hn; have ad:=z2g hd
 refine vc251 ⟨fun h=>?_,fun h=>?_⟩
 ·have h:d=0:=by simpa using h
  unfold y5a; rw [if_pos h]; exact ⟨rfl,Hp.le_refl _⟩
 ·have h:d≠0:=by simpa using h
  have gp:=zwn (n:=n) h
  obtain ⟨u1,u2,u3⟩:=zp1 an.1 an.2 gp
  obtain ⟨w1,w2,w3⟩:=zp1 ad.1 ad.2 gp
  have rb:=ylb (H:=H) (c:=!(decide (n<0)==decide (d<0))) (N:=z2h n / zwm n d) (D:=z2h d / zwm n d) u2 w2
  rw [show z2h n / zwm n d / 18446744073709551616=0 by omega,show z2h n / zwm n d % 18446744073709551616=z2h n / zwm n d by omega,show z2h d / zwm n d / 18446744073709551616=0 by omega,show z2h d / zwm n d % 18446744073709551616=z2h d / zwm n d by omega] at rb
  refine ⟨_,yl9 hn,_,yl9 hd,zwm n d,ylf an.1 ad.1,_,yl9 hn,by unfold nz; omega,_,yl9 hd,by unfold nz; omega,?_⟩
  rw [u1,w1]
  refine ⟨_,_,_,rb,?_,Hp.le_refl _⟩
  unfold y5a; rw [if_neg h]
theorem ynr {H:Hp} {n d:Int} (hn:inI n) (hd:inI d):Qf Tryz.prog F.f247 #[.int .i64 n,.int .i64 d] H (.tuple #[.agg #[.int .i64 (y5a n d).1.1,.int .i64 (y5a n d).1.2],.int .i64 (y5a n d).2]):=by
 have an:=z2g hn; have ad:=z2g hd
 refine vc247 ⟨fun h=>?_,fun h=>?_⟩
 ·have h:d=0:=by simpa using h
  unfold y5a; rw [if_pos h]; exact ⟨rfl,Hp.le_refl _⟩
 ·have h:d≠0:=by simpa using h
  have gp:=zwn (n:=n) h
  obtain ⟨u1,u2,u3⟩:=zp1 an.1 an.2 gp
  obtain ⟨w1,w2,w3⟩:=zp1 ad.1 ad.2 gp
  have rb:=ynp (H:=H) (c:=(!(decide (n<0)==decide (d<0))&&n != 0)) (c1:=false) (c2:=false) (N:=z2h n / zwm n d) (D:=z2h d / zwm n d) u2 w2
  rw [show z2h n / zwm n d / 18446744073709551616=0 by omega,show z2h n / zwm n d % 18446744073709551616=z2h n / zwm n d by omega,show z2h d / zwm n d / 18446744073709551616=0 by omega,show z2h d / zwm n d % 18446744073709551616=z2h d / zwm n d by omega] at rb
  have es:y5a n d=z9u (!(decide (n<0)==decide (d<0))&&n != 0) (z2h n / zwm n d) (z2h d / zwm n d):=by
   unfold y5a; rw [if_neg h]
   refine z9x fun hN=>?_
   have:n≠0:=fun e=>by
    apply hN; rw [e]; rw [show z2h 0=0 from rfl]; exact Int.zero_ediv _
   simp [this]
  rw [es]
  refine ⟨_,yod hn,_,yod hd,zwm n d,ymp an.1 ad.1,_,yod hn,by unfold nz; omega,_,yod hd,by unfold nz; omega,?_⟩
  rw [u1,w1]
  exact ⟨_,_,_,rb,rfl,Hp.le_refl _⟩



theorem y5c {A B:Int} (h1:-2097152≤A) (h2:A≤2097152) (h3:-2097152≤B) (h4:B<0) :
  ∃ x y g:Int,0<g∧y5a (-A) B=((x,y),0)∧x * g=A∧y * g = -B∧okR (x,y):=by
 obtain ⟨a,ha⟩:∃ a:Nat,(a:Int)=z2h (-A):=⟨(z2h (-A)).toNat,by unfold z2h; split <;> omega⟩
 obtain ⟨b,hb⟩:∃ b:Nat,(b:Int)=z2h B:=⟨(z2h B).toNat,by unfold z2h; split <;> omega⟩
 have a1:a≤2097152:=by unfold z2h at ha; split at ha <;> omega
 have b1:0<b∧b≤2097152:=by unfold z2h at hb; split at hb <;> omega
 have hG:0<Nat.gcd a b:=Nat.gcd_pos_of_pos_right _ b1.1
 have da:=Nat.gcd_dvd_left a b
 have db:=Nat.gcd_dvd_right a b
 have ea:=Nat.div_mul_cancel da
 have eb:=Nat.div_mul_cancel db
 have cop:=Nat.gcd_div_gcd_div_gcd_of_pos_right (n:=a) (m:=b) b1.1
 have la:a / Nat.gcd a b≤a:=Nat.div_le_self _ _
 have lb:b / Nat.gcd a b≤b:=Nat.div_le_self _ _
 have pb:0<b / Nat.gcd a b:=Nat.div_pos (Nat.le_of_dvd b1.1 db) hG
 have hgc:zwm (-A) B=(Nat.gcd a b:Nat):=by unfold zwm; rw [← ha,← hb,Int.toNat_natCast,Int.toNat_natCast]
 have hm:y5a (-A) B=z9u (!(decide (-A<0)==decide (B<0))) ((a / Nat.gcd a b:Nat):Int) ((b / Nat.gcd a b:Nat):Int):=by
  unfold y5a
  rw [if_neg (by omega),hgc,← ha,← hb]; try rfl
 generalize Nat.gcd a b=G at *
 generalize a / G=N at *
 generalize b / G=D at *
 have eaz:(N:Int) * G=a:=by exact_mod_cast ea
 have ebz:(D:Int) * G=b:=by exact_mod_cast eb
 have hB:(b:Int) = -B:=by unfold z2h at hb; rw [if_pos h4] at hb; omega
 rw [hm]
 unfold z9u
 rw [if_neg (by omega)]
 by_cases hA:0<A
 ·have e:(!(decide (-A<0)==decide (B<0)))=false:=by rw [decide_eq_true (by omega:-A<0),decide_eq_true h4]; try rfl
  have hAa:(a:Int)=A:=by unfold z2h at ha; rw [if_pos (by omega)] at ha; omega
  rw [e]
  exact ⟨N,D,G,by omega,rfl,by rw [eaz]; exact hAa,by rw [ebz]; exact hB,⟨by show (1:Int)≤D; omega,by show (D:Int)≤_; omega,by show _≤(N:Int); omega,by show (N:Int)≤_; omega,by show Nat.gcd (N:Int).natAbs (D:Int).natAbs=1; simpa using cop⟩⟩
 ·have e:(!(decide (-A<0)==decide (B<0)))=true:=by rw [decide_eq_false (by omega:¬ -A<0),decide_eq_true h4]; try rfl
  have hAa:(a:Int) = -A:=by unfold z2h at ha; rw [if_neg (by omega)] at ha; omega
  rw [e]
  exact ⟨0-N,D,G,by omega,rfl,by rw [Int.sub_mul,eaz]; omega,by rw [ebz]; exact hB,⟨by show (1:Int)≤D; omega,by show (D:Int)≤_; omega,by show _≤(0-(N:Int)); omega,by show (0-(N:Int))≤_; omega,by show Nat.gcd (0-(N:Int)).natAbs (D:Int).natAbs=1; rw [show (0-(N:Int)).natAbs=N by omega]; simpa using cop⟩⟩








end Go.Proofs.YtjhbjjdipmpgjaaGreat
end
