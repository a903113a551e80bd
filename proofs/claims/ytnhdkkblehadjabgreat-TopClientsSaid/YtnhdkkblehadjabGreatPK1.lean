/- The engine, parts K1, K2, K3, K4, K5, K6, K7, K8, K9, KA, KB, KC, put together. Conditions: none. -/
import Derived.Test.YtnhdkkblehadjabGreatP4
import Derived.Test.YtnhdkkblehadjabGreatVgBase
import Derived.Test.YtnhdkkblehadjabGreatFs
import Derived.Test.YtnhdkkblehadjabGreatFx
import Derived.Laws.Externs
import Derived.Shelf.Spec.BitsCarry
import Derived.Test.YtnhdkkblehadjabGreatVgStd
import Derived.Test.YtnhdkkblehadjabGreatE7
set_option linter.unusedVariables false
section
/- Gaps and fractions: building, making. Conditions: none. -/
set_option maxRecDepth 100000
open Go Go.Eng Go.Proofs
namespace Go.Proofs.YtnhdkkblehadjabGreat

def zbt(c:Bool)(N D:Int):(Int×Int)×Int:=if 9223372036854775807<N\/9223372036854775807<D then ((0,0),16) else ((if c=true then 0-N else N,D),0)
theorem zbw{c d:Bool}{N D:Int}(h:N≠0->c=d):zbt c N D=zbt d N D:=by
 unfold zbt
 split
 ·rfl
 ·by_cases e:N=0
  ·subst e;cases c <;> cases d <;> rfl
  ·rw[h e]
theorem y3b{n:Int}(h0:0<=n)(h1:n<=9223372036854775807):IntKind.i64.wrap n=n:=by rw[y3c];omega

theorem yqu{H:Hp}{c:Bool}{N D:Int}(hN:0<=N)(hD:0<=D) :
  Qf Tryz.prog F.f163 #[.agg #[.bool c,.int .u64 (N/18446744073709551616),.int .u64 (N%18446744073709551616)],.int .u64 (D/18446744073709551616),.int .u64 (D%18446744073709551616)] H
   (.tuple #[.agg #[.int .i64 (zbt c N D).1.1,.int .i64 (zbt c N D).1.2],.int .i64 (zbt c N D).2]):=by
 refine vc163 ⟨λhc=>?_,λhc=>?_⟩
 ·simp only[Bool.or_eq_true,decide_eq_true_eq] at hc
  unfold zbt
  rw[if_pos (by omega)]
  exact⟨rfl,Hp.le_refl _⟩
 ·simp only[Bool.or_eq_false_iff,decide_eq_false_iff_not] at hc
  unfold zbt
  rw[if_neg (by omega),y3b (by omega) (by omega),y3b (by omega) (by omega),show N%18446744073709551616=N by omega,show D%18446744073709551616=D by omega]
  exact⟨λh=>⟨by unfold inI;omega,by subst h;exact⟨rfl,Hp.le_refl _⟩⟩,λh=>by subst h;exact⟨rfl,Hp.le_refl _⟩⟩
theorem ys8{H:Hp}{c c1 c2:Bool}{N D:Int}(hN:0<=N)(hD:0<=D) :
  Qf Tryz.prog F.f129 #[.bool c,.agg #[.bool c1,.int .u64 (N/18446744073709551616),.int .u64 (N%18446744073709551616)],.agg #[.bool c2,.int .u64 (D/18446744073709551616),.int .u64 (D%18446744073709551616)]] H
   (.tuple #[.agg #[.int .i64 (zbt c N D).1.1,.int .i64 (zbt c N D).1.2],.int .i64 (zbt c N D).2]):=by
 refine vc129 ⟨λhc=>?_,λhc=>?_⟩
 ·simp only[Bool.or_eq_true,decide_eq_true_eq] at hc
  unfold zbt
  rw[if_pos (by omega)]
  exact⟨rfl,Hp.le_refl _⟩
 ·simp only[Bool.or_eq_false_iff,decide_eq_false_iff_not] at hc
  unfold zbt
  rw[if_neg (by omega),y3b (by omega) (by omega),y3b (by omega) (by omega),show N%18446744073709551616=N by omega,show D%18446744073709551616=D by omega]
  exact⟨λh=>⟨by unfold inI;omega,by subst h;exact⟨rfl,Hp.le_refl _⟩⟩,λh=>by subst h;exact⟨rfl,Hp.le_refl _⟩⟩

structure Gp where
 hi:Int
 lo:Int
 a:Int
 b:Int
def yh3(g:Gp):Prop:=0<=g.hi/\g.hi<=65535/\0<=g.lo/\g.lo<=65535/\g.hi≠g.lo/\-2097152<=g.a/\g.a<=2097152/\-2097152<=g.b/\g.b<=2097152
instance (g:Gp):Decidable (yh3 g):=by unfold yh3;infer_instance

def zzo(a b:Int):Int:=(Nat.gcd (z2w a).toNat (z2w b).toNat:Nat)
def y8z(n d:Int):(Int×Int)×Int:=if d=0 then ((0,0),26) else zbt (!(decide (n<0)==decide (d<0))) (z2w n/zzo n d) (z2w d/zzo n d)

theorem z3a{d:Int}(h:d≠0):0<z2w d:=by unfold z2w;split <;> omega
theorem zzp{n d:Int}(h:d≠0):0<zzo n d:=by
 unfold zzo
 have:=z3a h
 have:0<Nat.gcd (z2w n).toNat (z2w d).toNat:=Nat.gcd_pos_of_pos_right _ (by omega)
 omega
theorem zqw{x g:Int}(h0:0<=x)(h1:x<=9223372036854775808)(hg:0<g):x8o (x.tdiv g)=x/g/\0<=x/g/\x/g<=9223372036854775808:=by
 have e:x.tdiv g=x/g:=Int.tdiv_eq_ediv_of_nonneg h0
 have p:0<=x/g:=Int.ediv_nonneg h0 (by omega)
 have q:x/g<=x:=Int.ediv_le_self _ h0
 refine⟨?_,p,by omega⟩
 rw[e];unfold x8o;omega

theorem yqz{H:Hp}{n d:Int}(hn:inI n)(hd:inI d):Qf Tryz.prog F.f147 #[.int .i64 n,.int .i64 d] H (.tuple #[.agg #[.int .i64 (y8z n d).1.1,.int .i64 (y8z n d).1.2],.int .i64 (y8z n d).2]):=by
 have an:=z2v hn;have ad:=z2v hd
 refine vc147 ⟨λh=>?_,λh=>?_⟩
 ·have h:d=0:=by simpa using h
  unfold y8z;rw[if_pos h];exact⟨rfl,Hp.le_refl _⟩
 ·have h:d≠0:=by simpa using h
  have gp:=zzp (n:=n) h
  obtain⟨u1,u2,u3⟩:=zqw an.1 an.2 gp
  obtain⟨w1,w2,w3⟩:=zqw ad.1 ad.2 gp
  have rb:=yqu (H:=H) (c:=!(decide (n<0)==decide (d<0))) (N:=z2w n/zzo n d) (D:=z2w d/zzo n d) u2 w2
  rw[show z2w n/zzo n d/18446744073709551616=0 by omega,show z2w n/zzo n d%18446744073709551616=z2w n/zzo n d by omega,show z2w d/zzo n d/18446744073709551616=0 by omega,show z2w d/zzo n d%18446744073709551616=z2w d/zzo n d by omega] at rb
  refine⟨_,yqp hn,_,yqp hd,zzo n d,yqy an.1 ad.1,_,yqp hn,by unfold nz;omega,_,yqp hd,by unfold nz;omega,?_⟩
  rw[u1,w1]
  refine⟨_,_,_,rb,?_,Hp.le_refl _⟩
  unfold y8z;rw[if_neg h]

theorem yrw{H:Hp}{a b:Int×Int}(ha:zxh a)(hb:zxh b):Qf Tryz.prog F.f19 #[.agg #[.int .i64 a.1,.int .i64 a.2],.agg #[.int .i64 b.1,.int .i64 b.2]] H (.int .i64 (if okR a/\okR b then 0 else 8)):=by
 refine vc19 ⟨_,ysj ha,λhc=>?_,λhc=>?_⟩
 ·have h:¬ okR a:=λok=>by rw[zl4 ok] at hc;simp at hc
  refine⟨_,ysj ha,?_,Hp.le_refl _⟩
  rw[zl3 h,if_neg λx=>h x.1]
 ·have h:okR a:=zl5.1 (by simpa using hc)
  refine⟨_,ysj hb,?_,Hp.le_refl _⟩
  by_cases h2:okR b
  ·rw[zl4 h2,if_pos ⟨h,h2⟩]
  ·rw[zl3 h2,if_neg λx=>h2 x.2]



theorem y91{A B:Int}(h1:-2097152<=A)(h2:A<=2097152)(h3:-2097152<=B)(h4:B<0) :
  ∃x y g:Int,0<g/\y8z (-A) B=((x,y),0)/\x*g=A/\y*g = -B/\okR (x,y):=by
 obtain⟨a,ha⟩:∃a:Nat,(a:Int)=z2w (-A):=⟨(z2w (-A)).toNat,by unfold z2w;split <;> omega⟩
 obtain⟨b,hb⟩:∃b:Nat,(b:Int)=z2w B:=⟨(z2w B).toNat,by unfold z2w;split <;> omega⟩
 have a1:a<=2097152:=by unfold z2w at ha;split at ha <;> omega
 have b1:0<b/\b<=2097152:=by unfold z2w at hb;split at hb <;> omega
 have hG:0<Nat.gcd a b:=Nat.gcd_pos_of_pos_right _ b1.1
 have da:=Nat.gcd_dvd_left a b
 have db:=Nat.gcd_dvd_right a b
 have ea:=Nat.div_mul_cancel da
 have eb:=Nat.div_mul_cancel db
 have cop:=Nat.gcd_div_gcd_div_gcd_of_pos_right (n:=a) (m:=b) b1.1
 have la:a/Nat.gcd a b<=a:=Nat.div_le_self _ _
 have lb:b/Nat.gcd a b<=b:=Nat.div_le_self _ _
 have pb:0<b/Nat.gcd a b:=Nat.div_pos (Nat.le_of_dvd b1.1 db) hG
 have hgc:zzo (-A) B=(Nat.gcd a b:Nat):=by unfold zzo;rw[← ha,← hb,Int.toNat_natCast,Int.toNat_natCast]
 have hm:y8z (-A) B=zbt (!(decide (-A<0)==decide (B<0))) ((a/Nat.gcd a b:Nat):Int) ((b/Nat.gcd a b:Nat):Int):=by
  unfold y8z
  rw[if_neg (by omega),hgc,← ha,← hb];try rfl
 generalize Nat.gcd a b=G at *
 generalize a/G=N at *
 generalize b/G=D at *
 have eaz:(N:Int)*G=a:=by exact_mod_cast ea
 have ebz:(D:Int)*G=b:=by exact_mod_cast eb
 have hB:(b:Int) = -B:=by unfold z2w at hb;rw[if_pos h4] at hb;omega
 rw[hm]
 unfold zbt
 rw[if_neg (by omega)]
 by_cases hA:0<A
 ·have e:(!(decide (-A<0)==decide (B<0)))=false:=by rw[decide_eq_true (by omega:-A<0),decide_eq_true h4];try rfl
  have hAa:(a:Int)=A:=by unfold z2w at ha;rw[if_pos (by omega)] at ha;omega
  rw[e]
  exact⟨N,D,G,by omega,rfl,by rw[eaz];exact hAa,by rw[ebz];exact hB,⟨by show (1:Int)<=D;omega,by show (D:Int)<=_;omega,by show _<=(N:Int);omega,by show (N:Int)<=_;omega,by show Nat.gcd (N:Int).natAbs (D:Int).natAbs=1;simpa using cop⟩⟩
 ·have e:(!(decide (-A<0)==decide (B<0)))=true:=by rw[decide_eq_false (by omega:¬ -A<0),decide_eq_true h4];try rfl
  have hAa:(a:Int) = -A:=by unfold z2w at ha;rw[if_neg (by omega)] at ha;omega
  rw[e]
  exact⟨0-N,D,G,by omega,rfl,by rw[Int.sub_mul,eaz];omega,by rw[ebz];exact hB,⟨by show (1:Int)<=D;omega,by show (D:Int)<=_;omega,by show _<=(0-(N:Int));omega,by show (0-(N:Int))<=_;omega,by show Nat.gcd (0-(N:Int)).natAbs (D:Int).natAbs=1;rw[show (0-(N:Int)).natAbs=N by omega];simpa using cop⟩⟩



theorem z3d{H:Hp}{x y c:Int}(hx:0<=x)(hy:0<=y)(hc:0<=c)(hc':c<=1):OpQ Tryz.prog (callFunc F.f159 #[.int .u64 x,.int .u64 y,.int .u64 c]) H (.tuple #[.int .u64 ((x+y+c)%18446744073709551616),.int .u64 ((x+y+c)/18446744073709551616)]):=by
 intro w _
 rw[run_callFunc_extern zyv (by kernel_rfl) (by kernel_rfl) (by kernel_rfl) (e:=add64Entry) (by kernel_rfl),run_add64 x y c hx hy hc hc']
 simp only[Result.andThen]

theorem x22{H:Hp}{x y b:Int}(hx:0<=x)(hy:0<=y)(hy':y<18446744073709551616)(hb:0<=b)(hb':b<=1):OpQ Tryz.prog (callFunc F.f101 #[.int .u64 x,.int .u64 y,.int .u64 b]) H (.tuple #[.int .u64 ((x-y-b)%18446744073709551616),.int .u64 (if x<y+b then 1 else 0)]):=by
 intro w _
 obtain⟨x,rfl⟩:=Int.eq_ofNat_of_zero_le hx
 obtain⟨y,rfl⟩:=Int.eq_ofNat_of_zero_le hy
 obtain⟨b,rfl⟩:=Int.eq_ofNat_of_zero_le hb
 rw[run_callFunc_extern zyw (by kernel_rfl) (by kernel_rfl) (by kernel_rfl) (e:=sub64Entry) (by kernel_rfl),run_sub64 x y b (by omega)]
 simp only[Result.andThen]
 have e1:(((x+18446744073709551616-y-b)%18446744073709551616:Nat):Int)=((x:Int)-y-b)%18446744073709551616:=by omega
 have e2:((if x<y+b then 1 else 0:Nat):Int)=if (x:Int)<(y:Int)+b then 1 else 0:=by
  by_cases h:x<y+b
  ·rw[if_pos h,if_pos (by omega)];try rfl
  ·rw[if_neg h,if_neg (by omega)];try rfl
 rw[e1,e2]

def yn9(c d:Bool)(N M:Int):Bool×Int:=if c=d then (c,N+M) else if N<M then (d,M-N) else (c,N-M)
theorem yr2{H:Hp}{c d:Bool}{N M:Int}(hN:0<=N)(hN':N<170141183460469231731687303715884105728)(hM:0<=M)(hM':M<170141183460469231731687303715884105728) :
  Qf Tryz.prog F.f161 #[.agg #[.bool c,.int .u64 (N/18446744073709551616),.int .u64 (N%18446744073709551616)],.agg #[.bool d,.int .u64 (M/18446744073709551616),.int .u64 (M%18446744073709551616)]] H
   (.agg #[.bool (yn9 c d N M).1,.int .u64 ((yn9 c d N M).2/18446744073709551616),.int .u64 ((yn9 c d N M).2%18446744073709551616)]):=by
 have n0:0<=N/18446744073709551616:=by omega
 have m0:0<=M/18446744073709551616:=by omega
 have n1:0<=N%18446744073709551616:=by omega
 have m1:0<=M%18446744073709551616:=by omega
 refine vc161 ⟨λh=>?_,λh=>?_⟩
 ·have h:c=d:=by simpa using h
  refine⟨_,_,z3d n1 m1 (by omega) (by omega),_,_,z3d n0 m0 (by omega) (by omega),?_,Hp.le_refl _⟩
  unfold yn9;rw[if_pos h]
  have e1:(N/18446744073709551616+M/18446744073709551616+(N%18446744073709551616+M%18446744073709551616+0)/18446744073709551616)%18446744073709551616=(N+M)/18446744073709551616:=by omega
  have e2:(N%18446744073709551616+M%18446744073709551616+0)%18446744073709551616=(N+M)%18446744073709551616:=by omega
  rw[e1,e2]
 ·have h:¬ c=d:=by simpa using h
  refine⟨_,yqx hN hM,λhc=>?_,λhc=>?_⟩
  ·have hc:N<M:=zn8.1 (by simpa using hc)
   refine⟨_,_,x22 m1 n1 (by omega) (by omega) (by omega),_,_,x22 m0 n0 (by omega) (by split <;> omega) (by split <;> omega),?_,Hp.le_refl _⟩
   unfold yn9;rw[if_neg h,if_pos hc]
   have e1:(M/18446744073709551616-N/18446744073709551616-(if M%18446744073709551616<N%18446744073709551616+0 then 1 else 0))%18446744073709551616=(M-N)/18446744073709551616:=by split <;> omega
   have e2:(M%18446744073709551616-N%18446744073709551616-0)%18446744073709551616=(M-N)%18446744073709551616:=by omega
   rw[e1,e2]
  ·have hc:¬ N<M:=λx=>by have:=zn8.2 x;simp at hc;omega
   refine⟨_,_,x22 n1 m1 (by omega) (by omega) (by omega),_,_,x22 n0 m0 (by omega) (by split <;> omega) (by split <;> omega),?_,Hp.le_refl _⟩
   unfold yn9;rw[if_neg h,if_neg hc]
   have e1:(N/18446744073709551616-M/18446744073709551616-(if N%18446744073709551616<M%18446744073709551616+0 then 1 else 0))%18446744073709551616=(N-M)/18446744073709551616:=by split <;> omega
   have e2:(N%18446744073709551616-M%18446744073709551616-0)%18446744073709551616=(N-M)%18446744073709551616:=by omega
   rw[e1,e2]


theorem ofU{z:Int}(h0:0<=z)(h1:z<18446744073709551616):(BitVec.ofInt IntKind.u64.bits z).toNat=z.toNat:=by
 rw[BitVec.toNat_ofInt]
 have:(((2:Nat) ^ IntKind.u64.bits:Nat):Int)=18446744073709551616:=by decide
 rw[this];omega
theorem zat{z:Int}(h0:0<=z)(h1:z<18446744073709551616):IntKind.u64.wrap (↑(BitVec.ofInt IntKind.u64.bits z &&& BitVec.ofInt IntKind.u64.bits 1).toNat:Int)=z%2:=by
 have e:(BitVec.ofInt IntKind.u64.bits z &&& BitVec.ofInt IntKind.u64.bits 1).toNat=z.toNat%2:=by
  rw[BitVec.toNat_and,ofU h0 h1,ofU (by omega) (by omega)]
  exact Nat.and_two_pow_sub_one_eq_mod _ 1
 rw[e,x8t]
 unfold x8o;omega
theorem ywd{z:Int}{k:Nat}(h0:0<=z)(hk:k<=64):z.fdiv (2 ^ Min.min k IntKind.u64.bits)=z/2 ^ k:=by
 have:Min.min k IntKind.u64.bits=k:=by show min k 64=k;omega
 rw[this]
 exact Int.fdiv_eq_ediv_of_nonneg _ (Int.le_of_lt (Int.pow_pos (by omega)))
def x5n(k V:Nat):Nat:=2 ^ k*(V/2 ^ k)
theorem x5q(k V:Nat):x5n k V=x5n (k+1) V+2 ^ k*((V/2 ^ k)%2):=by
 unfold x5n
 rw[y1v]
 generalize V/2 ^ k=W
 have:W=2*(W/2)+W%2:=by omega
 conv=>lhs;rw[this,Nat.mul_add,← Nat.mul_assoc,← Nat.pow_succ]
theorem x5r(V:Nat):x5n 0 V=V:=by simp[x5n]
theorem x5p(k V:Nat):x5n k V<=V:=by unfold x5n;exact Nat.mul_div_le _ _
theorem x5o{V:Nat}(h:V<2 ^ 64):x5n 64 V=0:=by unfold x5n;rw[Nat.div_eq_of_lt h,Nat.mul_zero]
theorem orU{k V:Nat}(hk:k<64)(hV:V<2 ^ 64):IntKind.u64.wrap (↑(BitVec.ofInt IntKind.u64.bits ((x5n (k+1) V:Nat):Int) ||| BitVec.ofInt IntKind.u64.bits (IntKind.u64.wrap (1*2 ^ Min.min k IntKind.u64.bits))).toNat:Int)=((x5n (k+1) V+2 ^ k:Nat):Int):=by
 have h2:(2:Nat) ^ 64=18446744073709551616:=by decide
 have p1:2 ^ k<2 ^ 64:=Nat.pow_lt_pow_right (by omega) hk
 have p2:2 ^ k<2 ^ (k+1):=Nat.pow_lt_pow_right (by omega) (by omega)
 have tl:=x5p (k+1) V
 have em:Min.min k IntKind.u64.bits=k:=by show min k 64=k;omega
 have ep:IntKind.u64.wrap (1*2 ^ Min.min k IntKind.u64.bits)=((2 ^ k:Nat):Int):=by
  rw[em,Int.one_mul,x8t]
  have:((2:Int) ^ k)=((2 ^ k:Nat):Int):=by simp
  rw[this];unfold x8o;omega
 rw[ep]
 have eo:(BitVec.ofInt IntKind.u64.bits ((x5n (k+1) V:Nat):Int) ||| BitVec.ofInt IntKind.u64.bits ((2 ^ k:Nat):Int)).toNat=x5n (k+1) V+2 ^ k:=by
  rw[BitVec.toNat_or,ofU (by omega) (by omega),ofU (by omega) (by omega),Int.toNat_natCast,Int.toNat_natCast]
  unfold x5n
  exact(Nat.two_pow_add_eq_or_of_lt p2 _).symm
 rw[eo,x8t]
 have ts:=x5q k V
 have tk:=x5p k V
 have:x5n (k+1) V+2 ^ k<2 ^ 64:=by
  unfold x5n at *
  generalize V/2 ^ (k+1)=q at *
  have hq:2 ^ (k+1)*q<=V:=tl
  have hd:2 ^ 64=2 ^ (k+1)*2 ^ (63-k):=by rw[← Nat.pow_add];congr 1;omega
  have hlt:q<2 ^ (63-k):=by
   rcases Nat.lt_or_ge q (2 ^ (63-k)) with h|h
   ·exact h
   ·have:=Nat.mul_le_mul_left (2 ^ (k+1)) h
    omega
  have:=Nat.mul_le_mul_left (2 ^ (k+1)) (show q+1<=2 ^ (63-k) from hlt)
  rw[Nat.mul_add,Nat.mul_one] at this
  omega
 unfold x8o;omega

theorem zau{V m:Nat}(hV:V<18446744073709551616)(hm:m<=64):IntKind.u64.wrap (↑(BitVec.ofInt IntKind.u64.bits ((V:Int).fdiv (2 ^ Min.min m IntKind.u64.bits)) &&& BitVec.ofInt IntKind.u64.bits 1).toNat:Int)=((V/2 ^ m%2:Nat):Int):=by
 have e:((V:Int)/2 ^ m)=((V/2 ^ m:Nat):Int):=by simp
 have hl:V/2 ^ m<=V:=Nat.div_le_self _ _
 rw[ywd (by omega) hm,e]
 generalize V/2 ^ m=q at *
 rw[zat (by omega) (by omega)]
 omega


theorem z2y(v:Int):(v<0->z2w v = -v)/\(0<=v->z2w v=v):=by
 unfold z2w
 constructor
 ·intro h;rw[if_pos h]
 ·intro h;rw[if_neg (by omega)]
theorem yna{c d:Bool}{v w:Int}(hc:v≠0->(c=true↔v<0))(hd:w≠0->(d=true↔w<0)) :
  (yn9 c d (z2w v) (z2w w)).2=z2w (v+w)/\(v+w≠0->((yn9 c d (z2w v) (z2w w)).1=true↔v+w<0)):=by
 have av:=z2y v
 have aw:=z2y w
 have avw:=z2y (v+w)
 unfold yn9
 generalize z2w v=x at *
 generalize z2w w=y at *
 generalize z2w (v+w)=z at *
 cases c <;> cases d <;> simp only[Bool.false_eq_true,false_iff,true_iff,if_true,if_false,reduceCtorEq] at hc hd ⊢
 ·exact⟨by omega,λh=>by omega⟩
 ·by_cases h:x<y
  ·rw[if_pos h];exact⟨by show y-x=z;omega,λh=>by simp only[true_iff];omega⟩
  ·rw[if_neg h];exact⟨by show x-y=z;omega,λh=>by simp only[Bool.false_eq_true,false_iff];omega⟩
 ·by_cases h:x<y
  ·rw[if_pos h];exact⟨by show y-x=z;omega,λh=>by simp only[Bool.false_eq_true,false_iff];omega⟩
  ·rw[if_neg h];exact⟨by show x-y=z;omega,λh=>by simp only[true_iff];omega⟩
 ·exact⟨by omega,λh=>by omega⟩

end Go.Proofs.YtnhdkkblehadjabGreat
end
