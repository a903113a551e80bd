/- The engine, parts QA, SB, CP, CD, put together. Conditions: none. -/
import Derived.Test.YtnhdkkblehadjabGreatPD1
import Derived.Test.YtnhdkkblehadjabGreatPK1
import Derived.Test.YtnhdkkblehadjabGreatVgBase
import Derived.Test.YtnhdkkblehadjabGreatFs
import Derived.Test.YtnhdkkblehadjabGreatPA1
set_option linter.unusedVariables false
section
/- Adding two fractions. Conditions: none. -/
set_option maxRecDepth 100000
open Go Go.Eng Go.Proofs
namespace Go.Proofs.YtnhdkkblehadjabGreat

def gD(a b:Int×Int):Int:=(Nat.gcd a.2.toNat b.2.toNat:Nat)
def z3x(a b:Int×Int):Int:=a.1*(b.2/gD a b)+b.1*(a.2/gD a b)
def z3k(a b:Int×Int):Int:=(Nat.gcd (gD a b).toNat (z2w (z3x a b)%gD a b).toNat:Nat)
def z3o(a b:Int×Int):(Int×Int)×Int:=if okR a/\okR b then zbt (decide (z3x a b<0)) (z2w (z3x a b)/z3k a b) (a.2/gD a b*(b.2/z3k a b)) else ((0,0),8)

theorem yr0{H:Hp}{c:Bool}{V d:Int}(v0:0<=V)(v1:V<340282366920938463463374607431768211456)(d0:1<=d)(d1:d<18446744073709551616) :
  Qf Tryz.prog F.f162 #[.agg #[.bool c,.int .u64 (V/18446744073709551616),.int .u64 (V%18446744073709551616)],.int .u64 d] H (.tuple #[.agg #[.bool c,.int .u64 (V/d/18446744073709551616),.int .u64 (V/d%18446744073709551616)],.int .u64 (V%d)]):=by
 have h0:0<=V/18446744073709551616:=by omega
 have h1:V/18446744073709551616<18446744073709551616:=by omega
 have t0:0<=V/18446744073709551616%d:=Int.emod_nonneg _ (by omega)
 have t1:V/18446744073709551616%d<d:=Int.emod_lt_of_pos _ (by omega)
 have q0:0<=V/18446744073709551616/d:=Int.ediv_nonneg h0 (by omega)
 have q1:V/18446744073709551616/d<=V/18446744073709551616:=Int.ediv_le_self _ h0
 have dv:=zqt (H:=H) (hi:=V/18446744073709551616%d) (lo:=V%18446744073709551616) (y:=d) d0 d1 t0 t1 (by omega) (by omega)
 have e:=Int.mul_ediv_add_emod (V/18446744073709551616) d
 have eV:V=(V/18446744073709551616%d*18446744073709551616+V%18446744073709551616)+d*(V/18446744073709551616/d*18446744073709551616):=by
  rw[← Int.mul_assoc]
  generalize d*(V/18446744073709551616/d)=Z at *
  omega
 have eq:V/d=(V/18446744073709551616%d*18446744073709551616+V%18446744073709551616)/d+V/18446744073709551616/d*18446744073709551616:=by
  have this:V/d=((V/18446744073709551616%d*18446744073709551616+V%18446744073709551616)+d*(V/18446744073709551616/d*18446744073709551616))/d:=congrArg (·/d) eV
  rw[this,Int.add_mul_ediv_left _ _ (by omega:d≠0)]
 have er:V%d=(V/18446744073709551616%d*18446744073709551616+V%18446744073709551616)%d:=by
  have this:V%d=((V/18446744073709551616%d*18446744073709551616+V%18446744073709551616)+d*(V/18446744073709551616/d*18446744073709551616))%d:=congrArg (·%d) eV
  rw[this,Int.add_mul_emod_self_left]
 have z0:0<=(V/18446744073709551616%d*18446744073709551616+V%18446744073709551616)/d:=Int.ediv_nonneg (by omega) (by omega)
 have z1:(V/18446744073709551616%d*18446744073709551616+V%18446744073709551616)/d<18446744073709551616:=Int.ediv_lt_of_lt_mul (by omega) (by omega)
 refine vc162 ⟨by unfold nz;omega,by unfold nz;omega,_,_,by rw[Int.tmod_eq_emod_of_nonneg h0];exact dv,?_,Hp.le_refl _⟩
 rw[Int.tdiv_eq_ediv_of_nonneg h0,x8p q0 (by omega),er,eq]
 generalize (V/18446744073709551616%d*18446744073709551616+V%18446744073709551616)/d=z at *
 generalize V/18446744073709551616/d=q at *
 rw[show (z+q*18446744073709551616)/18446744073709551616=q by omega,show (z+q*18446744073709551616)%18446744073709551616=z by omega]

structure z00(a b:Int×Int):Prop where
 g0:1<=gD a b
 g1:gD a b<=9223372036854775807
 x0:1<=a.2/gD a b
 x1:a.2/gD a b<=9223372036854775807
 y0:1<=b.2/gD a b
 y1:b.2/gD a b<=9223372036854775807
 s1:z2w (a.1*(b.2/gD a b))<85070591730234615865843651857942052864
 s2:z2w (b.1*(a.2/gD a b))<85070591730234615865843651857942052864
 h0:1<=z3k a b
 h1:z3k a b<=gD a b
 z0:0<=b.2/z3k a b
 z1:b.2/z3k a b<=9223372036854775807
theorem z3e{a b:Int×Int}(oa:okR a)(ob:okR b):z00 a b:=by
 have a1:=oa.d1;have a2:=oa.d2;have a3:=oa.n1;have a4:=oa.n2
 have b1:=ob.d1;have b2:=ob.d2;have b3:=ob.n1;have b4:=ob.n2
 have hg:0<Nat.gcd a.2.toNat b.2.toNat:=Nat.gcd_pos_of_pos_left _ (by omega)
 have ga:Nat.gcd a.2.toNat b.2.toNat<=a.2.toNat:=Nat.gcd_le_left _ (by omega)
 have gb:Nat.gcd a.2.toNat b.2.toNat<=b.2.toNat:=Nat.gcd_le_right _ (by omega)
 have g0:1<=gD a b:=by unfold gD;omega
 have g1:gD a b<=a.2:=by unfold gD;omega
 have g2:gD a b<=b.2:=by unfold gD;omega
 have x0:1<=a.2/gD a b:=Int.le_ediv_of_mul_le (by omega) (by omega)
 have x1:a.2/gD a b<=a.2:=Int.ediv_le_self _ (by omega)
 have y0:1<=b.2/gD a b:=Int.le_ediv_of_mul_le (by omega) (by omega)
 have y1:b.2/gD a b<=b.2:=Int.ediv_le_self _ (by omega)
 have s1:=z31 (x:=a.1) (y:=b.2/gD a b) (m:=9223372036854775807) (n:=9223372036854775807) (z2z (by omega) (by omega)) (z2z (by omega) (by omega))
 have s2:=z31 (x:=b.1) (y:=a.2/gD a b) (m:=9223372036854775807) (n:=9223372036854775807) (z2z (by omega) (by omega)) (z2z (by omega) (by omega))
 have hh:0<Nat.gcd (gD a b).toNat (z2w (z3x a b)%gD a b).toNat:=Nat.gcd_pos_of_pos_left _ (by omega)
 have hl:Nat.gcd (gD a b).toNat (z2w (z3x a b)%gD a b).toNat<=(gD a b).toNat:=Nat.gcd_le_left _ (by omega)
 have h0:1<=z3k a b:=by unfold z3k;omega
 have h1:z3k a b<=gD a b:=by unfold z3k;omega
 have z0:0<=b.2/z3k a b:=Int.ediv_nonneg (by omega) (by omega)
 have z1:b.2/z3k a b<=b.2:=Int.ediv_le_self _ (by omega)
 exact⟨g0,by omega,x0,by omega,y0,by omega,by omega,by omega,h0,h1,z0,by omega⟩
theorem yw8{n d:Int}(hd:1<=d):n*d≠0->((!(decide (n<0)==decide (d<0)))=true↔n*d<0):=λhne=>by
 rw[decide_eq_false (by omega:¬ d<0)]
 have:n*d<0↔n<0:=by
  constructor
  ·intro h;rcases Int.lt_or_le n 0 with h'|h'
   ·exact h'
   ·have:=Int.mul_nonneg h' (by omega:0<=d);omega
  ·intro h;exact Int.mul_neg_of_neg_of_pos h (by omega)
 rw[this];simp

set_option maxHeartbeats 1000000 in
theorem yqq{H:Hp}{a b:Int×Int}(ha:zxh a)(hb:zxh b) :
  Qf Tryz.prog F.f104 #[sI2 a.1 a.2,sI2 b.1 b.2] H (.tuple #[sI2 (z3o a b).1.1 (z3o a b).1.2,.int .i64 (z3o a b).2]):=by
 refine vc104 ⟨_,yqt ha hb,λhc=>?_,λhc=>?_⟩
 ·have h:¬ (okR a/\okR b):=λx=>by rw[if_pos x] at hc;simp at hc
  unfold z3o;rw[if_neg h,if_neg h];exact⟨rfl,Hp.le_refl _⟩
 have ok:okR a/\okR b:=by
  by_cases x:okR a/\okR b
  ·exact x
  ·rw[if_neg x] at hc;simp at hc
 obtain⟨oa,ob⟩:=ok
 obtain⟨g0,g1,x0,x1,y0,y1,s1,s2,h0,h1,z0,z1⟩:=z3e oa ob
 have a1:=oa.d1;have a2:=oa.d2
 have b1:=ob.d1;have b2:=ob.d2
 have q1:=z34 (a.1*(b.2/gD a b));have q2:=z34 (b.1*(a.2/gD a b))
 have hg:=yqy (H:=H) (a:=a.2) (b:=b.2) (by omega) (by omega)
 have hg:Qf Tryz.prog F.f106 #[.int .u64 a.2,.int .u64 b.2] H (.int .u64 (gD a b)):=hg
 have t1:=yr4 (H:=H) (a:=a.1) (b:=b.2/gD a b) oa.fit.1 (by unfold inI;omega)
 have t2:=yr4 (H:=H) (a:=b.1) (b:=a.2/gD a b) ob.fit.1 (by unfold inI;omega)
 have pl:=yr2 (H:=H) (c:=!(decide (a.1<0)==decide (b.2/gD a b<0))) (d:=!(decide (b.1<0)==decide (a.2/gD a b<0))) q1 (by omega) q2 (by omega)
 obtain⟨p1,p2⟩:=yna (c:=!(decide (a.1<0)==decide (b.2/gD a b<0))) (d:=!(decide (b.1<0)==decide (a.2/gD a b<0))) (v:=a.1*(b.2/gD a b)) (w:=b.1*(a.2/gD a b)) (yw8 y0) (yw8 x0)
 rw[p1] at pl
 have eV:a.1*(b.2/gD a b)+b.1*(a.2/gD a b)=z3x a b:=rfl
 have av:z2w (z3x a b)<=z2w (a.1*(b.2/gD a b))+z2w (b.1*(a.2/gD a b)):=z2x _ _
 have v0:=z34 (z3x a b)
 rw[eV] at pl p2
 have m0:0<=z2w (z3x a b)%gD a b:=Int.emod_nonneg _ (by omega)
 have hg2:=yqy (H:=H) (a:=gD a b) (b:=z2w (z3x a b)%gD a b) (by omega) m0
 have hg2:Qf Tryz.prog F.f106 #[.int .u64 (gD a b),.int .u64 (z2w (z3x a b)%gD a b)] H (.int .u64 (z3k a b)):=hg2
 have es:z3o a b=zbt (yn9 (!(decide (a.1<0)==decide (b.2/gD a b<0))) (!(decide (b.1<0)==decide (a.2/gD a b<0))) (z2w (a.1*(b.2/gD a b))) (z2w (b.1*(a.2/gD a b)))).1 (z2w (z3x a b)/z3k a b) (a.2/gD a b*(b.2/z3k a b)):=by
  unfold z3o;rw[if_pos ⟨oa,ob⟩]
  refine zbw λhne=>?_
  have hz:z3x a b≠0:=λh=>hne (by rw[h];simp[z2w])
  rw[Bool.eq_iff_iff,p2 hz,decide_eq_true_eq]
 rw[es]
 generalize (yn9 (!(decide (a.1<0)==decide (b.2/gD a b<0))) (!(decide (b.1<0)==decide (a.2/gD a b<0))) (z2w (a.1*(b.2/gD a b))) (z2w (b.1*(a.2/gD a b)))).1=S at *
 have o1:=yr0 (H:=H) (c:=S) (V:=z2w (z3x a b)) (d:=gD a b) v0 (by omega) g0 (by omega)
 have o2:=yr0 (H:=H) (c:=S) (V:=z2w (z3x a b)) (d:=z3k a b) v0 (by omega) h0 (by omega)
 have mu:=yco (H:=H) (x:=a.2/gD a b) (y:=b.2/z3k a b) (by omega) (by omega) z0 (by omega)
 have nq:0<=z2w (z3x a b)/z3k a b:=Int.ediv_nonneg v0 (by omega)
 have bd:=yqu (H:=H) (c:=S) (N:=z2w (z3x a b)/z3k a b) (D:=a.2/gD a b*(b.2/z3k a b)) nq (Int.mul_nonneg (by omega) z0)
 have wg:IntKind.i64.wrap (gD a b)=gD a b:=y3b (by omega) (by omega)
 have wa:x8o a.2=a.2:=x8p (by omega) (by omega)
 have wb:x8o b.2=b.2:=x8p (by omega) (by omega)
 have wgu:x8o (gD a b)=gD a b:=x8p (by omega) (by omega)
 have da:a.2.tdiv (gD a b)=a.2/gD a b:=Int.tdiv_eq_ediv_of_nonneg (by omega)
 have db:b.2.tdiv (gD a b)=b.2/gD a b:=Int.tdiv_eq_ediv_of_nonneg (by omega)
 have dh:b.2.tdiv (z3k a b)=b.2/z3k a b:=Int.tdiv_eq_ediv_of_nonneg (by omega)
 have wx:x8o (a.2/gD a b)=a.2/gD a b:=x8p (by omega) (by omega)
 have wy:x8o (b.2/z3k a b)=b.2/z3k a b:=x8p z0 (by omega)
 rw[wa,wb]
 refine⟨gD a b,hg,?_⟩
 rw[wg,wgu,da,db,wx]
 refine⟨⟨by unfold nz;omega,by unfold inI;omega⟩,_,_,_,t1,⟨by unfold nz;omega,by unfold inI;omega⟩,_,_,_,t2,_,_,_,pl,_,_,_,_,o1,z3k a b,hg2,_,_,_,_,o2,⟨by unfold nz;omega,by unfold inI;omega⟩,by unfold nz;omega,?_⟩
 rw[dh,wy]
 exact⟨_,_,mu,_,_,_,bd,rfl,Hp.le_refl _⟩

set_option maxHeartbeats 1000000 in
theorem yrt{H:Hp}{a b:Int×Int}(ha:zxh a)(hb:zxh b) :
  Qf Tryz.prog F.f72 #[sI2 a.1 a.2,sI2 b.1 b.2] H (.tuple #[sI2 (z3o a b).1.1 (z3o a b).1.2,.int .i64 (z3o a b).2]):=by
 refine vc72 ⟨_,yrw ha hb,λhc=>⟨_,yrw ha hb,?_⟩,λhc=>?_⟩
 ·have h:¬ (okR a/\okR b):=λx=>by rw[if_pos x] at hc;simp at hc
  unfold z3o;rw[if_neg h,if_neg h];exact⟨rfl,Hp.le_refl _⟩
 have ok:okR a/\okR b:=by
  by_cases x:okR a/\okR b
  ·exact x
  ·rw[if_neg x] at hc;simp at hc
 obtain⟨oa,ob⟩:=ok
 obtain⟨g0,g1,x0,x1,y0,y1,s1,s2,h0,h1,z0,z1⟩:=z3e oa ob
 have a1:=oa.d1;have a2:=oa.d2
 have b1:=ob.d1;have b2:=ob.d2
 have hg:=yrx (H:=H) (a:=a.2) (b:=b.2) (by omega) (by omega)
 have hg:Qf Tryz.prog F.f55 #[.int .u64 a.2,.int .u64 b.2] H (.int .u64 (gD a b)):=hg
 obtain⟨c1,u1,w1,t1,B1⟩:=ysi (H:=H) (a:=a.1) (b:=b.2/gD a b) oa.fit.1 (by unfold inI;omega)
 obtain⟨c2,u2,w2,t2,B2⟩:=ysi (H:=H) (a:=b.1) (b:=a.2/gD a b) ob.fit.1 (by unfold inI;omega)
 obtain⟨S,hh,ll,pl,B3⟩:=ysg (H:=H) B1 B2 s1 s2
 obtain⟨k0,k1,k2,k3,k4,k5⟩:=B3
 have eV:a.1*(b.2/gD a b)+b.1*(a.2/gD a b)=z3x a b:=rfl
 rw[eV] at k4 k5
 have v0:=z34 (z3x a b)
 have av:=z2y (z3x a b)
 have hX:hh*18446744073709551616+ll=z2w (z3x a b):=by
  cases S with
  | true=>have:=k4 rfl;omega
  | false=>have:=k5 rfl;omega
 have m0:0<=z2w (z3x a b)%gD a b:=Int.emod_nonneg _ (by omega)
 have hg2:=yrx (H:=H) (a:=gD a b) (b:=z2w (z3x a b)%gD a b) (by omega) m0
 have hg2:Qf Tryz.prog F.f55 #[.int .u64 (gD a b),.int .u64 (z2w (z3x a b)%gD a b)] H (.int .u64 (z3k a b)):=hg2
 have es:z3o a b=zbt S (z2w (z3x a b)/z3k a b) (a.2/gD a b*(b.2/z3k a b)):=by
  unfold z3o;rw[if_pos ⟨oa,ob⟩]
  refine zbw λ_=>?_
  cases S with
  | true=>exact decide_eq_true (k4 rfl).1
  | false=>exact decide_eq_false (by have:=(k5 rfl).1;omega)
 rw[es]
 have dv:∀{d:Int},1<=d->d<=9223372036854775807->Qf Tryz.prog F.f128 #[.agg #[.bool S,.int .u64 hh,.int .u64 ll],.int .u64 d] H (.tuple #[.agg #[.bool false,.int .u64 (z2w (z3x a b)/d/18446744073709551616),.int .u64 (z2w (z3x a b)/d%18446744073709551616)],.int .u64 (z2w (z3x a b)%d)]):=λ{d} d0 d1=>by
  obtain⟨V,rfl⟩:=Int.eq_ofNat_of_zero_le k0
  obtain⟨W,rfl⟩:=Int.eq_ofNat_of_zero_le k2
  obtain⟨D,rfl⟩:=Int.eq_ofNat_of_zero_le (show 0<=d by omega)
  have:=yrz (H:=H) (c:=S) (V:=V) (W:=W) (d:=D) (by omega) (by omega) (by omega) (by omega)
  have eX:z2w (z3x a b)=((V*18446744073709551616+W:Nat):Int):=by omega
  rw[eX]
  simpa using this
 have mu:=ysh (H:=H) (x:=a.2/gD a b) (y:=b.2/z3k a b) (by omega) (by omega) z0 (by omega)
 have nq:0<=z2w (z3x a b)/z3k a b:=Int.ediv_nonneg v0 (by omega)
 have bd:=ys8 (H:=H) (c:=S) (c1:=false) (c2:=false) (N:=z2w (z3x a b)/z3k a b) (D:=a.2/gD a b*(b.2/z3k a b)) nq (Int.mul_nonneg (by omega) z0)
 have wg:IntKind.i64.wrap (gD a b)=gD a b:=y3b (by omega) (by omega)
 have wa:x8o a.2=a.2:=x8p (by omega) (by omega)
 have wb:x8o b.2=b.2:=x8p (by omega) (by omega)
 have wgu:x8o (gD a b)=gD a b:=x8p (by omega) (by omega)
 have da:a.2.tdiv (gD a b)=a.2/gD a b:=Int.tdiv_eq_ediv_of_nonneg (by omega)
 have db:b.2.tdiv (gD a b)=b.2/gD a b:=Int.tdiv_eq_ediv_of_nonneg (by omega)
 have dh:b.2.tdiv (z3k a b)=b.2/z3k a b:=Int.tdiv_eq_ediv_of_nonneg (by omega)
 have wx:x8o (a.2/gD a b)=a.2/gD a b:=x8p (by omega) (by omega)
 have wy:x8o (b.2/z3k a b)=b.2/z3k a b:=x8p z0 (by omega)
 rw[wa,wb]
 refine⟨gD a b,hg,?_⟩
 rw[wg,wgu,da,db,wx]
 refine⟨⟨by unfold nz;omega,by unfold inI;omega⟩,_,_,_,t1,⟨by unfold nz;omega,by unfold inI;omega⟩,_,_,_,t2,_,_,_,pl,_,_,_,_,dv g0 g1,z3k a b,hg2,_,_,_,_,dv h0 (by omega),⟨by unfold nz;omega,by unfold inI;omega⟩,by unfold nz;omega,?_⟩
 rw[dh,wy]
 exact⟨_,_,_,mu,_,_,_,bd,rfl,Hp.le_refl _⟩

theorem z36(z:Int):(z2w z).toNat=z.natAbs:=by rw[z32];simp
theorem zpi{a x y:Int}{b:Int}(h1:Nat.gcd a.natAbs x.natAbs=1)(h2:Nat.gcd y.natAbs x.natAbs=1):Nat.gcd (a*y+b*x).natAbs x.natAbs=1:=by
 have e:=zzq (a*y) x b
 unfold zzo at e
 rw[z36,z36,z36] at e
 have e:Nat.gcd (a*y+b*x).natAbs x.natAbs=Nat.gcd (a*y).natAbs x.natAbs:=by exact_mod_cast e
 rw[e,Int.natAbs_mul]
 exact Nat.Coprime.mul_left h1 h2
structure z01(a b:Int×Int)(x y K H M:Nat)(N:Int):Prop where
 ea:a.2=((x*(K*H):Nat):Int)
 eb:b.2=((y*(K*H):Nat):Int)
 eN:N*H=a.1*y+b.1*x
 eM:M=N.natAbs
 v:z3x a b=a.1*y+b.1*x
 hp:0<H
 add:z3o a b=zbt (decide (z3x a b<0)) M ((x*(y*K):Nat):Int)
 cop:Nat.gcd M (x*(y*K))=1
 pos:0<x*(y*K)
theorem z3u{a b:Int×Int}(oa:okR a)(ob:okR b):∃x y K H M N,z01 a b x y K H M N:=by
 have a1:=oa.d1;have b1:=ob.d1;have ga:=oa.g;have gb:=ob.g
 have hadd:z3o a b=zbt (decide (z3x a b<0)) (z2w (z3x a b)/z3k a b) (a.2/gD a b*(b.2/z3k a b)):=by unfold z3o;rw[if_pos ⟨oa,ob⟩]
 have hh:z3k a b=(Nat.gcd (gD a b).toNat (z2w (z3x a b)%gD a b).toNat:Nat):=rfl
 have hv:z3x a b=a.1*(b.2/gD a b)+b.1*(a.2/gD a b):=rfl
 have hg:gD a b=(Nat.gcd a.2.toNat b.2.toNat:Nat):=rfl
 generalize z3k a b=hI at *
 generalize hV:z3x a b=V at *
 generalize gD a b=gI at *
 obtain⟨an,ad⟩:=a
 obtain⟨bn,bd⟩:=b
 simp only at *
 obtain⟨A,rfl⟩:∃A:Nat,ad=A:=⟨ad.toNat,by omega⟩
 obtain⟨B,rfl⟩:∃B:Nat,bd=B:=⟨bd.toNat,by omega⟩
 rw[Int.toNat_natCast,Int.toNat_natCast] at hg
 rw[Int.natAbs_natCast] at ga gb
 have hG:0<Nat.gcd A B:=Nat.gcd_pos_of_pos_left _ (by omega)
 have cxy:=Nat.coprime_div_gcd_div_gcd hG
 have xA:=Nat.div_mul_cancel (Nat.gcd_dvd_left A B)
 have yB:=Nat.div_mul_cancel (Nat.gcd_dvd_right A B)
 generalize Nat.gcd A B=G at *
 generalize A/G=x at *
 generalize B/G=y at *
 subst xA
 subst yB
 have q1:((x*G:Nat):Int)/(G:Int)=x:=by rw[Int.natCast_mul];exact Int.mul_ediv_cancel _ (by omega)
 have q2:((y*G:Nat):Int)/(G:Int)=y:=by rw[Int.natCast_mul];exact Int.mul_ediv_cancel _ (by omega)
 rw[hg,q1,q2] at hv
 rw[hg,Int.toNat_natCast,z32] at hh
 have e1:(((V.natAbs:Nat):Int)%((G:Nat):Int)).toNat=V.natAbs%G:=by rw[← Int.natCast_emod,Int.toNat_natCast]
 rw[e1,show Nat.gcd G (V.natAbs%G)=Nat.gcd G V.natAbs by rw[Nat.gcd_comm,← Nat.gcd_rec]] at hh
 have hH:0<Nat.gcd G V.natAbs:=Nat.gcd_pos_of_pos_left _ hG
 have cK:=Nat.coprime_div_gcd_div_gcd hH
 have eK:=Nat.div_mul_cancel (Nat.gcd_dvd_left G V.natAbs)
 have eM:=Nat.div_mul_cancel (Nat.gcd_dvd_right G V.natAbs)
 rw[hg,hh,z32,q1] at hadd
 generalize Nat.gcd G V.natAbs=H at *
 generalize G/H=K at *
 have m1:((V.natAbs:Nat):Int)/((H:Nat):Int)=((V.natAbs/H:Nat):Int):=by simp
 rw[m1] at hadd
 generalize V.natAbs/H=M at *
 subst eK
 have q3:((y*(K*H):Nat):Int)/((H:Nat):Int)=((y*K:Nat):Int):=by
  rw[← Nat.mul_assoc,Int.natCast_mul];exact Int.mul_ediv_cancel _ (by omega)
 rw[q3,← Int.natCast_mul] at hadd
 have hx:0<x:=Nat.pos_of_ne_zero λe=>by subst e;simp at a1
 have hy:0<y:=Nat.pos_of_ne_zero λe=>by subst e;simp at b1
 have hK:0<K:=Nat.pos_of_ne_zero λe=>by subst e;simp at hG
 have dM:M ∣ V.natAbs:=⟨H,eM.symm⟩
 have cax:Nat.gcd an.natAbs x=1:=Nat.Coprime.coprime_dvd_right ⟨K*H,rfl⟩ ga
 have cby:Nat.gcd bn.natAbs y=1:=Nat.Coprime.coprime_dvd_right ⟨K*H,rfl⟩ gb
 have cVx:Nat.gcd V.natAbs x=1:=by
  have:=zpi (a:=an) (x:=x) (y:=y) (b:=bn) (by rw[Int.natAbs_natCast];exact cax) (by rw[Int.natAbs_natCast,Int.natAbs_natCast];exact Nat.Coprime.symm cxy)
  rw[← hv,Int.natAbs_natCast] at this;exact this
 have cVy:Nat.gcd V.natAbs y=1:=by
  have:=zpi (a:=bn) (x:=y) (y:=x) (b:=an) (by rw[Int.natAbs_natCast];exact cby) (by rw[Int.natAbs_natCast,Int.natAbs_natCast];exact cxy)
  rw[Int.add_comm,← hv,Int.natAbs_natCast] at this;exact this
 have cop:Nat.gcd M (x*(y*K))=1:=Nat.Coprime.mul_right (Nat.Coprime.coprime_dvd_left dM cVx) (Nat.Coprime.mul_right (Nat.Coprime.coprime_dvd_left dM cVy) (Nat.Coprime.symm cK))
 refine⟨x,y,K,H,M,if V<0 then -(M:Int) else M,rfl,rfl,?_,?_,by rw[hV];exact hv,hH,by rw[hV];exact hadd,cop,Nat.mul_pos hx (Nat.mul_pos hy hK)⟩
 ·show (if V<0 then -(M:Int) else M)*H=an*y+bn*x
  rw[← hv]
  have em:(M:Int)*H=V.natAbs:=by exact_mod_cast eM
  split
  ·rw[Int.neg_mul,em];omega
  ·rw[em];omega
 ·split <;> omega
theorem z3r{a b:Int×Int}(oa:okR a)(ob:okR b)(h:(z3o a b).2=0):okR (z3o a b).1/\(z3o a b).1.1*(a.2*b.2)=(a.1*b.2+b.1*a.2)*(z3o a b).1.2:=by
 obtain⟨x,y,K,H,M,N,w⟩:=z3u oa ob
 have hN:(if decide (z3x a b<0)=true then 0-(M:Int) else M)=N:=by
  have e:=w.eN;have m:=w.eM;have hp:=w.hp
  rw[← w.v] at e
  by_cases hv:z3x a b<0
  ·rw[decide_eq_true hv,if_pos rfl]
   have:N<0:=by
    rcases Int.lt_or_le N 0 with k|k
    ·exact k
    ·have:=Int.mul_nonneg k (Int.natCast_nonneg H);omega
   omega
  ·rw[decide_eq_false hv,if_neg (by simp)]
   have:0<=N:=by
    rcases Int.lt_or_le N 0 with k|k
    ·have:=Int.mul_neg_of_neg_of_pos k (show (0:Int)<H by omega);omega
    ·exact k
   omega
 have hadd:=w.add
 have cop:=w.cop;have pos:=w.pos
 rw[hadd] at h ⊢
 unfold zbt at h ⊢
 split at h
 ·cases h
 ·rename_i hc
  rw[if_neg hc,hN]
  have m:=w.eM
  refine⟨⟨by show (1:Int)<=((x*(y*K):Nat):Int);omega,by show ((x*(y*K):Nat):Int)<=_;omega,by show _<=N;omega,by show N<=_;omega,?_⟩,?_⟩
  ·show Nat.gcd N.natAbs ((x*(y*K):Nat):Int).natAbs=1
   rw[Int.natAbs_natCast,← m];exact cop
  ·show N*(a.2*b.2)=(a.1*b.2+b.1*a.2)*((x*(y*K):Nat):Int)
   rw[w.ea,w.eb]
   have e:=w.eN
   simp only[Int.natCast_mul]
   have e2:(a.1*((y:Int)*((K:Int)*H))+b.1*((x:Int)*((K:Int)*H)))=(a.1*y+b.1*x)*((K:Int)*H):=by
    rw[Int.add_mul];congr 1 <;> ac_rfl
   rw[e2,← e]
   ac_rfl
theorem z3t{a b:Int×Int}(oa:okR a)(ob:okR b){P Q:Int}(h1:z2w a.1<=P)(h2:z2w b.1<=P)(h3:a.2<=Q)(h4:b.2<=Q)(hP:P*Q+P*Q<=9223372036854775807)(hQ:Q*Q<=9223372036854775807):(z3o a b).2=0:=by
 obtain⟨x,y,K,H,M,N,w⟩:=z3u oa ob
 have e:=w.eN
 have hadd:=w.add;have pos:=w.pos;have m:=w.eM;have hp:=w.hp
 have ka:0<K*H:=Nat.pos_of_ne_zero λz=>by
  have:=w.ea;have:=oa.d1
  rw[z] at *;simp at *;omega
 have x1:(x:Int)<=Q:=by
  have:=Nat.le_mul_of_pos_right x ka
  have:=w.ea;omega
 have y1:(y:Int)<=Q:=by
  have:=Nat.le_mul_of_pos_right y ka
  have:=w.eb;omega
 have P0:0<=P:=by have:=z34 a.1;omega
 have Q0:0<=Q:=by omega
 have s1:=z31 (x:=a.1) (y:=(y:Int)) h1 (z2z (by omega) y1)
 have s2:=z31 (x:=b.1) (y:=(x:Int)) h2 (z2z (by omega) x1)
 have hN:z2w N<=z2w (N*H):=by
  rw[z32,z32,Int.natAbs_mul,Int.natAbs_natCast]
  have:=Nat.le_mul_of_pos_right N.natAbs hp
  omega
 have hs:z2w (N*H)<=P*Q+P*Q:=by
  rw[e]
  have:z2w (a.1*y+b.1*x)<=z2w (a.1*y)+z2w (b.1*x):=by unfold z2w;split <;> split <;> split <;> omega
  omega
 have hM:(M:Int)<=9223372036854775807:=by
  rw[z32] at hN
  omega
 have hD:((x*(y*K):Nat):Int)<=9223372036854775807:=by
  have h5:((y*K:Nat):Int)<=Q:=by
   have:y*K<=y*(K*H):=Nat.mul_le_mul (Nat.le_refl _) (Nat.le_mul_of_pos_right K hp)
   have:=w.eb;omega
  have h6:((x:Int))*((y*K:Nat):Int)<=Q*Q:=Int.mul_le_mul x1 h5 (by omega) Q0
  rw[Int.natCast_mul];omega
 rw[hadd]
 unfold zbt
 rw[if_neg (by omega)]
def x27(a b:Int×Int):(Int×Int)×Int:=z3o a (-b.1,b.2)
theorem yhc{b:Int×Int}(ob:okR b):okR (-b.1,b.2):=⟨ob.d1,ob.d2,by have:=ob.n2;show _<=-b.1;omega,by have:=ob.n1;show -b.1<=_;omega,by have:=ob.g;simpa using this⟩
theorem x29{a b:Int×Int}(oa:okR a)(ob:okR b)(h:(x27 a b).2=0):okR (x27 a b).1/\(x27 a b).1.1*(a.2*b.2)=(a.1*b.2-b.1*a.2)*(x27 a b).1.2:=by
 obtain⟨h1,h2⟩:=z3r oa (yhc ob) h
 refine⟨h1,?_⟩
 show (z3o a (-b.1,b.2)).1.1*(a.2*b.2)=_
 rw[h2]
 show (a.1*b.2 + -b.1*a.2)*_=_
 rw[Int.neg_mul];rfl

/-! ### Places and gaps -/

/-! ### Sorting by insertion -/
def y48{α:Type}(lt:α->α->Bool)(x:α):List α->List α
 | []=>[x]
 | y :: ys=>if lt x y=true then x :: y :: ys else y :: y48 lt x ys
def sortG{α:Type}(lt:α->α->Bool)(l:List α):List α:=l.foldr (y48 lt) []
def Srt{α:Type}(lt:α->α->Bool)(l:List α):Prop:=l.Pairwise λa b=>lt b a=false
theorem y49{α:Type}(lt:α->α->Bool)(x:α):∀l:List α,(y48 lt x l).Perm (x :: l)
 | []=>List.Perm.refl _
 | y :: ys=>by
  unfold y48;split
  ·exact List.Perm.refl _
  ·exact(List.Perm.cons y (y49 lt x ys)).trans (List.Perm.swap x y ys)
theorem yzq{α:Type}(lt:α->α->Bool):∀l:List α,(sortG lt l).Perm l
 | []=>List.Perm.refl _
 | x :: xs=>(y49 lt x _).trans (List.Perm.cons x (yzq lt xs))
theorem y4a{α:Type}{lt:α->α->Bool}{S:α->Prop}(tr:∀a b c,S a->S b->S c->lt b a=false->lt c b=false->lt c a=false)(asy:∀a b,S a->S b->lt a b=true->lt b a=false)(x:α):∀l:List α,S x->(∀y∈l,S y)->Srt lt l->Srt lt (y48 lt x l)
 | [],_,_,_=>List.pairwise_singleton _ _
 | y :: ys,hx,hl,hs=>by
  obtain⟨h1,h2⟩:=List.pairwise_cons.1 hs
  have sy:=hl y List.mem_cons_self
  unfold y48;split
  ·rename_i hlt
   refine List.pairwise_cons.2 ⟨λz hz=>?_,hs⟩
   rcases List.mem_cons.1 hz with rfl|hz
   ·exact asy _ _ hx sy hlt
   ·exact tr x y z hx sy (hl z (List.mem_cons_of_mem _ hz)) (asy _ _ hx sy hlt) (h1 z hz)
  ·rename_i hlt
   refine List.pairwise_cons.2 ⟨λz hz=>?_,y4a tr asy x ys hx (λz hz=>hl z (List.mem_cons_of_mem _ hz)) h2⟩
   rcases List.mem_cons.1 ((y49 lt x ys).mem_iff.1 hz) with rfl|hz
   ·simpa using hlt
   ·exact h1 z hz
theorem yzr{α:Type}{lt:α->α->Bool}{S:α->Prop}(tr:∀a b c,S a->S b->S c->lt b a=false->lt c b=false->lt c a=false)(asy:∀a b,S a->S b->lt a b=true->lt b a=false):∀l:List α,(∀y∈l,S y)->Srt lt (sortG lt l)
 | [],_=>List.Pairwise.nil
 | x :: xs,h=>y4a tr asy x _ (h x List.mem_cons_self) (λy hy=>h y (List.mem_cons_of_mem _ ((yzq lt xs).mem_iff.1 hy))) (yzr tr asy xs λy hy=>h y (List.mem_cons_of_mem _ hy))
theorem x1e{α:Type}{lt:α->α->Bool}{S:α->Prop}(an:∀a b,S a->S b->lt a b=false->lt b a=false->a=b):∀(xs ys:List α),xs.Perm ys->(∀x∈xs,S x)->Srt lt xs->Srt lt ys->xs=ys
 | [],ys,hp,_,_,_=>(List.Perm.eq_nil hp.symm).symm
 | x :: xs,[],hp,_,_,_=>by have:=hp.length_eq;simp at this
 | x :: xs,y :: ys,hp,hS,h1,h2=>by
  obtain⟨a1,a2⟩:=List.pairwise_cons.1 h1
  obtain⟨b1,b2⟩:=List.pairwise_cons.1 h2
  have e:x=y:=by
   have hx:=hp.mem_iff.1 (List.mem_cons_self (a:=x) (l:=xs))
   have hy:=hp.mem_iff.2 (List.mem_cons_self (a:=y) (l:=ys))
   rcases List.mem_cons.1 hx with rfl|hx
   ·rfl
   ·rcases List.mem_cons.1 hy with rfl|hy'
    ·rfl
    ·exact an _ _ (hS _ List.mem_cons_self) (hS _ hy) (b1 _ hx) (a1 _ hy')
  subst e
  rw[x1e an xs ys (List.Perm.cons_inv hp) (λz hz=>hS z (List.mem_cons_of_mem _ hz)) a2 b2]
theorem Srt.filter{α:Type}{lt:α->α->Bool}{l:List α}(h:Srt lt l)(p:α->Bool):Srt lt (l.filter p):=List.Pairwise.sublist List.filter_sublist h

/-! ### Pairs -/
abbrev Pr:=Int×Int×(Int×Int)
def clP(a b:Pr):Bool:=if znm a.2.2 b.2.2≠0 then decide (znm a.2.2 b.2.2<0) else if a.1≠b.1 then decide (a.1<b.1) else decide (a.2.1<b.2.1)
def okPr(a:Pr):Prop:=okR a.2.2
theorem zlc{a b:Pr}:clP a b=true↔¬ leR b.2.2 a.2.2\/(leR a.2.2 b.2.2/\leR b.2.2 a.2.2)/\(a.1<b.1\/a.1=b.1/\a.2.1<b.2.1):=by
 unfold clP
 have l:=znv (a:=a.2.2) (b:=b.2.2)
 have e:=zno (a:=a.2.2) (b:=b.2.2)
 split
 ·rename_i h1
  rw[decide_eq_true_iff,l]
  constructor
  ·exact .inl
  ·rintro(h|⟨h,h9⟩)
   ·exact h
   ·exact absurd (e.2 h) h1
 ·rename_i h0
  have h0:znm a.2.2 b.2.2=0:=by omega
  have he:=e.1 h0
  split
  ·rw[decide_eq_true_iff]
   constructor
   ·intro h;exact .inr ⟨he,.inl h⟩
   ·rintro(h|⟨_,h⟩)
    ·exact absurd he.2 h
    ·omega
  ·rw[decide_eq_true_iff]
   constructor
   ·intro h;exact .inr ⟨he,by omega⟩
   ·rintro(h|⟨_,h⟩)
    ·exact absurd he.2 h
    ·omega
theorem zlf{a b:Pr}:clP a b=false↔leR b.2.2 a.2.2/\(leR a.2.2 b.2.2->b.1<a.1\/b.1=a.1/\b.2.1<=a.2.1):=by
 rw[Bool.eq_false_iff,ne_eq,zlc]
 constructor
 ·intro h
  have h1:leR b.2.2 a.2.2:=Decidable.by_contra λx=>h (.inl x)
  exact⟨h1,λh2=>by
   have:¬ (a.1<b.1\/a.1=b.1/\a.2.1<b.2.1):=λx=>h (.inr ⟨⟨h2,h1⟩,x⟩)
   omega⟩
 ·rintro⟨h1,h2⟩ (h|⟨⟨h,_⟩,h3⟩)
  ·exact h h1
  ·have:=h2 h;omega
theorem zld(a:Pr):clP a a=false:=zlf.2 ⟨y6t _,λ_=>.inr ⟨rfl,Int.le_refl _⟩⟩
theorem zlg(a b c:Pr)(ha:okPr a)(hb:okPr b)(hc:okPr c)(h1:clP b a=false)(h2:clP c b=false):clP c a=false:=by
 rw[zlf] at *
 refine⟨y6v ha hb hc h1.1 h2.1,λh=>?_⟩
 have x1:=h1.2 (y6v hb hc ha h2.1 h)
 have x2:=h2.2 (y6v hc ha hb h h1.1)
 omega
theorem zlb(a b:Pr)(_:okPr a)(_:okPr b)(h:clP a b=true):clP b a=false:=by
 rw[zlc] at h
 rw[zlf]
 rcases h with h|⟨h,h1⟩
 ·exact⟨(y6u _ _).resolve_right h,λx=>absurd x h⟩
 ·exact⟨h.1,λ_=>by omega⟩
theorem zla(a b:Pr)(ha:okPr a)(hb:okPr b)(h1:clP a b=false)(h2:clP b a=false):a=b:=by
 rw[zlf] at h1 h2
 have e:=yha ha hb h2.1 h1.1
 have x:=h1.2 h2.1;have y:=h2.2 h1.1
 obtain⟨a1,a2,a3⟩:=a;obtain⟨b1,b2,b3⟩:=b
 simp only at *
 subst e
 rw[show a1=b1 by omega,show a2=b2 by omega]
theorem zle{a b:Pr}(ha:okPr a)(hb:okPr b)(h:a≠b)(h1:clP b a=false):clP a b=true:=by
 cases h2:clP a b with
 | true=>rfl
 | false=>exact absurd (zla a b ha hb h2 h1) h
def yzz(l:List Pr):List Pr:=sortG clP l
theorem x03(l:List Pr):(yzz l).Perm l:=yzq _ _
theorem x04{l:List Pr}(h:∀y∈l,okPr y):Srt clP (yzz l):=yzr (S:=okPr) zlg zlb l h
theorem x02{l s:List Pr}(h:∀y∈l,okPr y)(hp:s.Perm l)(hs:Srt clP s):s=yzz l :=
 x1e (S:=okPr) zla s (yzz l) (hp.trans (x03 l).symm) (λx hx=>h x (hp.mem_iff.1 hx)) hs (x04 h)
/-! ### All pairs of indices -/
def ytz{α:Type}(D:Nat->Nat->α)(i k:Nat):List α:=((List.range k).filter λb=>decide (i<b)).map (D i)
def z67{α:Type}(D:Nat->Nat->α)(n i:Nat):List α:=(List.range i).flatMap λa=>ytz D a n
def ycx{α:Type}(D:Nat->Nat->α)(n:Nat):List α:=(List.range n).map λa=>D a (a+1)
theorem yav{α:Type}{D:Nat->Nat->α}{i k:Nat}{x:α}:x∈ytz D i k↔∃b,i<b/\b<k/\x=D i b:=by
 unfold ytz
 rw[List.mem_map]
 constructor
 ·rintro⟨b,hb,rfl⟩
  obtain⟨h1,h2⟩:=List.mem_filter.1 hb
  exact⟨b,by simpa using h2,List.mem_range.1 h1,rfl⟩
 ·rintro⟨b,h1,h2,rfl⟩
  exact⟨b,List.mem_filter.2 ⟨List.mem_range.2 h2,by simpa using h1⟩,rfl⟩
theorem yal{α:Type}{D:Nat->Nat->α}{n i:Nat}{x:α}:x∈z67 D n i↔∃a b,a<i/\a<b/\b<n/\x=D a b:=by
 unfold z67
 rw[List.mem_flatMap]
 constructor
 ·rintro⟨a,ha,hx⟩
  obtain⟨b,h1,h2,h3⟩:=yav.1 hx
  exact⟨a,b,List.mem_range.1 ha,h1,h2,h3⟩
 ·rintro⟨a,b,h0,h1,h2,h3⟩
  exact⟨a,List.mem_range.2 h0,yav.2 ⟨b,h1,h2,h3⟩⟩
theorem yau{α:Type}{D:Nat->Nat->α}{n:Nat}{x:α}:x∈ycx D n↔∃a,a<n/\x=D a (a+1):=by
 unfold ycx
 rw[List.mem_map]
 constructor
 ·rintro⟨a,h,rfl⟩;exact⟨a,List.mem_range.1 h,rfl⟩
 ·rintro⟨a,h,rfl⟩;exact⟨a,List.mem_range.2 h,rfl⟩

def sP(f:List Pt)(t:Int×Int)(k:Nat):Pt:=(yzt f t).getD k (0,0,0)
theorem yus{f:List Pt}{t:Int×Int}{k:Nat}(hk:k<f.length):(yzt f t)[k]?=some (sP f t k):=by
 have h:k<(yzt f t).length:=by rw[yzu];exact hk
 unfold sP
 rw[List.getD_eq_getElem?_getD,List.getElem?_eq_getElem h];rfl
theorem yuu{f:List Pt}{t:Int×Int}{k:Nat}(hk:k<f.length):sP f t k∈f:=(yzw t f).mem_iff.1 (List.mem_of_getElem? (yus hk))
theorem yuw{f:List Pt}(of:okF f){t:Int×Int}{k:Nat}(hk:k<f.length):okP (sP f t k):=of.each _ (yuu hk)
theorem yux{f:List Pt}{t:Int×Int}{k:Nat}(hk:k<f.length):(yis f t)[k]?=some (sP f t k).1:=by
 unfold yis;rw[List.getElem?_map,yus hk];rfl
theorem yuy{f:List Pt}{t:Int×Int}{k:Nat}(hk:k<f.length):(yis f t).getD k 0=(sP f t k).1:=by
 rw[List.getD_eq_getElem?_getD,yux hk];rfl
theorem yur{f:List Pt}(of:okF f){t:Int×Int}{k:Nat}(hk:k<f.length):gP f (ynk f (sP f t k).1)=sP f t k:=zz5 of (yuu hk)
theorem yut{f:List Pt}(of:okF f){t:Int×Int}{i k:Nat}(h:i<k)(hk:k<f.length):leads (sP f t i) (sP f t k) t=true:=by
 have ho:=(yzx (ygy of) t).ord
 obtain⟨a1,a2⟩:=List.getElem?_eq_some_iff.1 (yus (t:=t) (show i<f.length by omega))
 obtain⟨b1,b2⟩:=List.getElem?_eq_some_iff.1 (yus (t:=t) hk)
 have:=List.pairwise_iff_getElem.1 ho i k a1 b1 h
 rw[a2,b2] at this
 exact this
theorem yuz{f:List Pt}(of:okF f){t:Int×Int}{i k:Nat}(h:i<k)(hk:k<f.length):x74 (sP f t k) t<=x74 (sP f t i) t:=by
 have:=y77.1 (yut of (t:=t) h hk)
 omega
theorem yh6.sP{l:Ls}(ok:yh6 l){k:Nat}(hk:k<l.ord.length):ptL l k=Go.Proofs.YtnhdkkblehadjabGreat.sP l.ck.f l.ck.now k:=by
 have:=ok.sorted hk
 rw[yus (by rw[← ok.len];exact hk)] at this
 exact(Option.some.inj this).symm

/-! ### Distances -/
def spot(f:List Pt)(t:Int×Int)(k:Nat):(Int×Int)×Int:=yma (sP f t k) t
def x5j(f:List Pt)(t:Int×Int)(n:Nat):Prop:=∀k,k<n->(spot f t k).2=0
instance (f:List Pt) (t:Int×Int) (n:Nat):Decidable (x5j f t n):=inferInstanceAs (Decidable (∀k,k<n->_))
def zz9(f:List Pt)(t:Int×Int)(i k:Nat):(Int×Int)×Int:=x27 (spot f t i).1 (spot f t k).1
def prM(f:List Pt)(t:Int×Int)(i k:Nat):Pr:=(min (sP f t i).1 (sP f t k).1,max (sP f t i).1 (sP f t k).1,(zz9 f t i k).1)
theorem x0z{f:List Pt}(of:okF f){t:Int×Int}(ot:okR t){k:Nat}(hk:k<f.length)(h:(spot f t k).2=0):∃g:Int,0<g/\(spot f t k).1.1*g=x74 (sP f t k) t/\(spot f t k).1.2*g=t.2/\okR (spot f t k).1:=by
 unfold spot at h ⊢
 rw[ymc (yuw of hk) ot] at h ⊢
 exact yjo ot.d1 h
theorem zza{f:List Pt}(of:okF f){t:Int×Int}(ot:okR t){i k:Nat}(hi:i<f.length)(hk:k<f.length)(h1:(spot f t i).2=0)(h2:(spot f t k).2=0)(h:(zz9 f t i k).2=0):okR (zz9 f t i k).1/\(zz9 f t i k).1.1*t.2=(x74 (sP f t i) t-x74 (sP f t k) t)*(zz9 f t i k).1.2:=by
 obtain⟨g1,p1,y1,y2,oy⟩:=x0z of ot hi h1
 obtain⟨g2,p2,z1,z2,oz⟩:=x0z of ot hk h2
 obtain⟨od,e⟩:=x29 oy oz h
 refine⟨od,?_⟩
 show (x27 (spot f t i).1 (spot f t k).1).1.1*t.2=_*(x27 (spot f t i).1 (spot f t k).1).1.2
 generalize (x27 (spot f t i).1 (spot f t k).1).1=d at *
 generalize (spot f t i).1=y at *
 generalize (spot f t k).1=z at *
 have c:0<t.2:=ot.d1
 refine Int.eq_of_mul_eq_mul_right (a:=t.2) (by omega) ?_
 have a1:d.1*t.2*t.2=(d.1*(y.2*z.2))*(g1*g2):=by
  conv=>lhs;rw[← y2];arg 2;rw[y2,← z2]
  ac_rfl
 have c1:y.1*z.2*(g1*g2)=(y.1*g1)*(z.2*g2):=by ac_rfl
 have c2:z.1*y.2*(g1*g2)=(z.1*g2)*(y.2*g1):=by ac_rfl
 have a3:(y.1*z.2-z.1*y.2)*d.2*(g1*g2)=((y.1*z.2-z.1*y.2)*(g1*g2))*d.2:=by ac_rfl
 rw[a1,e,a3,Int.sub_mul,c1,c2,y1,y2,z1,z2,← Int.sub_mul]
 ac_rfl
theorem zph{n d m e:Int}(hd:0<d)(he:0<e)(g1:Nat.gcd n.natAbs d.natAbs=1)(g2:Nat.gcd m.natAbs e.natAbs=1)(e0:n*e=m*d):n=m/\d=e:=by
 have ea:n.natAbs*e.natAbs=m.natAbs*d.natAbs:=by rw[← Int.natAbs_mul,← Int.natAbs_mul,e0]
 have x1:d.natAbs ∣ e.natAbs:=by
  have:d.natAbs ∣ n.natAbs*e.natAbs:=⟨m.natAbs,by rw[ea,Nat.mul_comm]⟩
  exact(Nat.Coprime.symm g1:Nat.Coprime d.natAbs n.natAbs).dvd_of_dvd_mul_left this
 have x2:e.natAbs ∣ d.natAbs:=by
  have:e.natAbs ∣ m.natAbs*d.natAbs:=⟨n.natAbs,by rw[← ea,Nat.mul_comm]⟩
  exact(Nat.Coprime.symm g2:Nat.Coprime e.natAbs m.natAbs).dvd_of_dvd_mul_left this
 have x3:=Nat.dvd_antisymm x1 x2
 have hde:d=e:=by omega
 subst hde
 exact⟨Int.eq_of_mul_eq_mul_right (by omega) e0,rfl⟩
theorem z3s{a b c d:Int×Int}(oa:okR a)(ob:okR b)(oc:okR c)(od:okR d)(h:(a.1*b.2+b.1*a.2)*(c.2*d.2)=(c.1*d.2+d.1*c.2)*(a.2*b.2)):z3o a b=z3o c d:=by
 obtain⟨x,y,K,H,M,N,w⟩:=z3u oa ob
 obtain⟨x',y',K',H',M',N',w'⟩:=z3u oc od
 have val:∀{a b:Int×Int}{x y K H M:Nat}{N:Int},z01 a b x y K H M N->N*(a.2*b.2)=(a.1*b.2+b.1*a.2)*((x*(y*K):Nat):Int):=λ{a b x y K H M N} w=>by
  rw[w.ea,w.eb]
  have e:=w.eN
  simp only[Int.natCast_mul]
  have e2:(a.1*((y:Int)*((K:Int)*H))+b.1*((x:Int)*((K:Int)*H)))=(a.1*y+b.1*x)*((K:Int)*H):=by
   rw[Int.add_mul];congr 1 <;> ac_rfl
  rw[e2,← e]
  ac_rfl
 have v:=val w;have v':=val w'
 have p:=w.pos;have p':=w'.pos
 have c1:=w.cop;have c2:=w'.cop
 rw[w.eM] at c1;rw[w'.eM] at c2
 have pa:0<a.2*b.2:=Int.mul_pos oa.d1 ob.d1
 have pc:0<c.2*d.2:=Int.mul_pos oc.d1 od.d1
 have hadd:=w.add;have hadd':=w'.add
 have sv:=w.v;have sv':=w'.v
 have en:=w.eN;have en':=w'.eN
 have hp:=w.hp;have hp':=w'.hp
 rw[← sv] at en;rw[← sv'] at en'
 have eM:=w.eM;have eM':=w'.eM
 generalize x*(y*K)=D at *
 generalize x'*(y'*K')=D' at *
 have key:N*(D':Int)=N'*(D:Int):=by
  refine Int.eq_of_mul_eq_mul_right (a:=(a.2*b.2)*(c.2*d.2)) (by have:=Int.mul_pos pa pc;omega) ?_
  have a1:N*(D':Int)*((a.2*b.2)*(c.2*d.2))=(N*(a.2*b.2))*(D'*(c.2*d.2)):=by ac_rfl
  have a2:N'*(D:Int)*((a.2*b.2)*(c.2*d.2))=(N'*(c.2*d.2))*(D*(a.2*b.2)):=by ac_rfl
  rw[a1,a2,v,v']
  have a3:(a.1*b.2+b.1*a.2)*(D:Int)*(D'*(c.2*d.2))=((a.1*b.2+b.1*a.2)*(c.2*d.2))*(D*D'):=by ac_rfl
  rw[a3,h]
  ac_rfl
 obtain⟨r1,r2⟩:=zph (n:=N) (d:=D) (m:=N') (e:=D') (by omega) (by omega) (by rw[Int.natAbs_natCast];exact c1) (by rw[Int.natAbs_natCast];exact c2) key
 have sg:∀{V N:Int}{H:Nat},0<H->N*H=V->(V<0↔N<0):=λ{V N H} hp e=>by
  rw[← e]
  constructor
  ·intro h
   rcases Int.lt_or_le N 0 with k|k
   ·exact k
   ·have:=Int.mul_nonneg k (Int.natCast_nonneg H);omega
  ·intro h;exact Int.mul_neg_of_neg_of_pos h (by omega)
 have s1:=sg hp en;have s2:=sg hp' en'
 have eD:D=D':=by omega
 have eMM:M=M':=by rw[eM,eM',r1]
 rw[hadd,hadd',eD,eMM]
 congr 1
 rw[decide_eq_decide]
 omega
theorem zzb{f:List Pt}(of:okF f){t:Int×Int}(ot:okR t){i k j m:Nat}(hi:i<f.length)(hk:k<f.length)(hj:j<f.length)(hm:m<f.length)(T:x5j f t f.length)(h:x74 (sP f t i) t-x74 (sP f t k) t=x74 (sP f t j) t-x74 (sP f t m) t):zz9 f t i k=zz9 f t j m:=by
 obtain⟨g1,p1,a1,a2,oa⟩:=x0z of ot hi (T i hi)
 obtain⟨g2,p2,b1,b2,ob⟩:=x0z of ot hk (T k hk)
 obtain⟨g3,p3,c1,c2,oc⟩:=x0z of ot hj (T j hj)
 obtain⟨g4,p4,d1,d2,od⟩:=x0z of ot hm (T m hm)
 unfold zz9 x27
 refine z3s oa (yhc ob) oc (yhc od) ?_
 show ((spot f t i).1.1*(spot f t k).1.2 + -(spot f t k).1.1*(spot f t i).1.2)*((spot f t j).1.2*(spot f t m).1.2)=((spot f t j).1.1*(spot f t m).1.2 + -(spot f t m).1.1*(spot f t j).1.2)*((spot f t i).1.2*(spot f t k).1.2)
 generalize (spot f t i).1=a at *
 generalize (spot f t k).1=b at *
 generalize (spot f t j).1=c at *
 generalize (spot f t m).1=d at *
 have ht:0<t.2:=ot.d1
 rw[Int.neg_mul,Int.neg_mul,← Int.sub_eq_add_neg,← Int.sub_eq_add_neg]
 refine Int.eq_of_mul_eq_mul_right (a:=(g1*g2)*(g3*g4)) (by have:=Int.mul_pos (Int.mul_pos p1 p2) (Int.mul_pos p3 p4);omega) ?_
 have e1:(a.1*b.2-b.1*a.2)*(c.2*d.2)*((g1*g2)*(g3*g4))=((a.1*b.2-b.1*a.2)*(g1*g2))*((c.2*g3)*(d.2*g4)):=by ac_rfl
 have e2:(c.1*d.2-d.1*c.2)*(a.2*b.2)*((g1*g2)*(g3*g4))=((c.1*d.2-d.1*c.2)*(g3*g4))*((a.2*g1)*(b.2*g2)):=by ac_rfl
 have q1:a.1*b.2*(g1*g2)=(a.1*g1)*(b.2*g2):=by ac_rfl
 have q2:b.1*a.2*(g1*g2)=(b.1*g2)*(a.2*g1):=by ac_rfl
 have q3:c.1*d.2*(g3*g4)=(c.1*g3)*(d.2*g4):=by ac_rfl
 have q4:d.1*c.2*(g3*g4)=(d.1*g4)*(c.2*g3):=by ac_rfl
 rw[e1,e2,Int.sub_mul (a.1*b.2),Int.sub_mul (c.1*d.2),q1,q2,q3,q4,a1,a2,b1,b2,c1,c2,d1,d2,← Int.sub_mul,← Int.sub_mul,h]

/-! ### What is told -/
structure z2i(f:List Pt)(t:Int×Int):Prop where
 of:okF f
 ot:okR t
 T:x5j f t f.length
theorem z2i.gap{f:List Pt}{t:Int×Int}(w:z2i f t){i k:Nat}(hi:i<f.length)(hk:k<f.length)(h:(zz9 f t i k).2=0):okR (zz9 f t i k).1/\(zz9 f t i k).1.1*t.2=(x74 (sP f t i) t-x74 (sP f t k) t)*(zz9 f t i k).1.2:=zza w.of w.ot hi hk (w.T i hi) (w.T k hk) h
theorem z2i.le{f:List Pt}{t:Int×Int}(w:z2i f t){i k j m:Nat}(hi:i<f.length)(hk:k<f.length)(hj:j<f.length)(hm:m<f.length)(h1:(zz9 f t i k).2=0)(h2:(zz9 f t j m).2=0):leR (zz9 f t i k).1 (zz9 f t j m).1↔x74 (sP f t i) t-x74 (sP f t k) t<=x74 (sP f t j) t-x74 (sP f t m) t:=by
 obtain⟨o1,e1⟩:=w.gap hi hk h1
 obtain⟨o2,e2⟩:=w.gap hj hm h2
 generalize (zz9 f t i k).1=a at *
 generalize (zz9 f t j m).1=b at *
 generalize x74 (sP f t i) t-x74 (sP f t k) t=V at *
 generalize x74 (sP f t j) t-x74 (sP f t m) t=U at *
 have ht:0<t.2:=w.ot.d1
 have pa:=o1.d1;have pb:=o2.d1
 unfold leR
 have x1:a.1*b.2*t.2=V*(a.2*b.2):=by rw[Int.mul_right_comm,e1];ac_rfl
 have x2:b.1*a.2*t.2=U*(a.2*b.2):=by rw[Int.mul_right_comm,e2];ac_rfl
 have pp:0<a.2*b.2:=Int.mul_pos pa pb
 constructor
 ·intro h
  have:=Int.mul_le_mul_of_nonneg_right h (show 0<=t.2 by omega)
  rw[x1,x2] at this
  exact Int.le_of_mul_le_mul_right this pp
 ·intro h
  have:=Int.mul_le_mul_of_nonneg_right h (show 0<=a.2*b.2 by omega)
  rw[← x1,← x2] at this
  exact Int.le_of_mul_le_mul_right this ht
def x5i(f:List Pt)(t:Int×Int):List Pr:=(z67 (λi k=>(prM f t i k,(zz9 f t i k).2)) f.length f.length).filterMap λx=>if x.2=0 then some x.1 else none
theorem yax{f:List Pt}{t:Int×Int}{p:Pr}:p∈x5i f t↔∃i k,i<k/\k<f.length/\(zz9 f t i k).2=0/\p=prM f t i k:=by
 unfold x5i
 rw[List.mem_filterMap]
 constructor
 ·rintro⟨x,hx,he⟩
  obtain⟨a,b,h0,h1,h2,rfl⟩:=yal.1 hx
  split at he
  ·rename_i hz
   exact⟨a,b,h1,h2,hz,(Option.some.inj he).symm⟩
  ·cases he
 ·rintro⟨i,k,h1,h2,h3,rfl⟩
  exact⟨(prM f t i k,(zz9 f t i k).2),yal.2 ⟨i,k,by omega,h1,h2,rfl⟩,if_pos h3⟩
theorem z2i.okPr{f:List Pt}{t:Int×Int}(w:z2i f t):∀p∈x5i f t,okPr p:=λp hp=>by
 obtain⟨i,k,h1,h2,h3,rfl⟩:=yax.1 hp
 exact(w.gap (by omega) h2 h3).1
def yda(f:List Pt)(t:Int×Int):Prop:=∀i,i<f.length-1->(zz9 f t i (i+1)).2=0
instance (f:List Pt) (t:Int×Int):Decidable (yda f t):=inferInstanceAs (Decidable (∀i,i<_->_))
def yd7(f:List Pt)(t:Int×Int):List Pr:=ycx (prM f t) (f.length-1)
theorem z2i.rest{f:List Pt}{t:Int×Int}(w:z2i f t)(hn:yda f t){B:Pr}(hB:B∈x5i f t)(hb:∀p∈yd7 f t,leR B.2.2 p.2.2){i k m:Nat}(hik:i<k)(hkm:k<=m)(hm:m<f.length)(h:(zz9 f t i k).2≠0\/¬ leR (zz9 f t i k).1 B.2.2)(hz:(zz9 f t i m).2=0):clP (prM f t i m) B=false:=by
 obtain⟨a,b,h1,h2,h3,rfl⟩:=yax.1 hB
 have mono:∀{x y:Nat},x<=y->y<f.length->x74 (sP f t y) t<=x74 (sP f t x) t:=λ{x y} hxy hy=>by
  rcases Nat.lt_or_ge x y with q|q
  ·exact yuz w.of q hy
  ·rw[show x=y by omega];exact Int.le_refl _
 have v1:=mono hkm hm
 have v2:=mono (show i+1<=k by omega) (by omega)
 have zn:=hn i (by omega)
 have l1:leR (zz9 f t a b).1 (zz9 f t i (i+1)).1:=hb _ (yau.2 ⟨i,by omega,rfl⟩)
 rw[w.le (by omega) h2 (by omega) (by omega) h3 zn] at l1
 have far:¬ leR (zz9 f t i m).1 (zz9 f t a b).1:=by
  rcases h with h|h
  ·intro hle
   rw[w.le (by omega) hm (by omega) h2 hz h3] at hle
   apply h
   rw[zzb w.of w.ot (i:=i) (k:=k) (j:=i) (m:=i+1) (by omega) (by omega) (by omega) (by omega) w.T (by omega)]
   exact zn
  ·intro hle
   by_cases hk0:(zz9 f t i k).2=0
   ·have h:¬ leR (zz9 f t i k).1 (zz9 f t a b).1:=h
    rw[w.le (by omega) (by omega) (by omega) h2 hk0 h3] at h
    rw[w.le (by omega) hm (by omega) h2 hz h3] at hle
    omega
   ·rw[w.le (by omega) hm (by omega) h2 hz h3] at hle
    apply hk0
    rw[zzb w.of w.ot (i:=i) (k:=k) (j:=i) (m:=i+1) (by omega) (by omega) (by omega) (by omega) w.T (by omega)]
    exact zn
 rw[zlf]
 exact⟨(y6u _ _).resolve_right far,λx=>absurd x far⟩
def zPr:Pr:=(0,0,(0,0))
def z6c(f:List Pt)(t:Int×Int):Prop:=∀k,k<f.length->∀i,i<k->(zz9 f t i k).2=0
instance (f:List Pt) (t:Int×Int):Decidable (z6c f t):=inferInstanceAs (Decidable (∀k,k<_->∀i,i<k->_))
end Go.Proofs.YtnhdkkblehadjabGreat
end
