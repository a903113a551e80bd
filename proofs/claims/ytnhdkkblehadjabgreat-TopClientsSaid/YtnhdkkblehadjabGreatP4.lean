/- The engine, parts R1, R2, R3, R4, put together. Conditions: none. -/
import Derived.Test.YtnhdkkblehadjabGreatP3
import Derived.Test.YtnhdkkblehadjabGreatE7
import Derived.Laws.Externs
import Derived.Test.YtnhdkkblehadjabGreatVgBase
import Derived.Test.YtnhdkkblehadjabGreatVgStd
import Derived.Test.YtnhdkkblehadjabGreatFs
import Derived.Test.YtnhdkkblehadjabGreatFx
set_option linter.unusedVariables false
section
/- Contracts of ratio, course and their references. Conditions: none. -/
set_option maxRecDepth 100000
open Go Go.Eng Go.Proofs
namespace Go.Proofs.YtnhdkkblehadjabGreat

theorem y50{H:Hp}{x:Int}:Qf Tryz.prog F.f199 #[.int .u64 x] H (.bool false):=vc199 ⟨by simp,Hp.le_refl _⟩
theorem y4y{H:Hp}{x:Int}:Qf Tryz.prog F.f142 #[.int .i64 x] H (.bool false):=vc142 ⟨by simp,Hp.le_refl _⟩
theorem zpb{H:Hp}{x y:Int}:Qf Tryz.prog F.f143 #[.int .u64 x,.int .u64 y] H (.int .i64 (zn4 x y)):=by
 refine vc143 ⟨_,y50,_,y50,λh=>(by cases h),λ_=>⟨λh=>(by cases h),λ_=>⟨λh=>⟨?_,Hp.le_refl _⟩,λh=>⟨λh'=>⟨?_,Hp.le_refl _⟩,λh'=>⟨?_,Hp.le_refl _⟩⟩⟩⟩⟩
 ·have:x<y:=by simpa using h
  unfold zn4;rw[if_pos this]
 ·have h1:¬ x<y:=by simpa using h
  have h2:x>y:=by simpa using h'
  unfold zn4;rw[if_neg h1,if_pos h2]
 ·have h1:¬ x<y:=by simpa using h
  have h2:¬ x>y:=by simpa using h'
  unfold zn4;rw[if_neg h1,if_neg h2]
theorem zp9{H:Hp}{x y:Int}:Qf Tryz.prog F.f82 #[.int .i64 x,.int .i64 y] H (.int .i64 (zn4 x y)):=by
 refine vc82 ⟨_,y4y,_,y4y,λh=>(by cases h),λ_=>⟨λh=>(by cases h),λ_=>⟨λh=>⟨?_,Hp.le_refl _⟩,λh=>⟨λh'=>⟨?_,Hp.le_refl _⟩,λh'=>⟨?_,Hp.le_refl _⟩⟩⟩⟩⟩
 ·have:x<y:=by simpa using h
  unfold zn4;rw[if_pos this]
 ·have h1:¬ x<y:=by simpa using h
  have h2:x>y:=by simpa using h'
  unfold zn4;rw[if_neg h1,if_pos h2]
 ·have h1:¬ x<y:=by simpa using h
  have h2:¬ x>y:=by simpa using h'
  unfold zn4;rw[if_neg h1,if_neg h2]

theorem yqp{H:Hp}{n:Int}(h:inI n):Qf Tryz.prog F.f107 #[.int .i64 n] H (.int .u64 (z2w n)):=by
 obtain⟨h1,h2⟩:=h
 refine vc107 ⟨λhc=>⟨?_,Hp.le_refl _⟩,λhc=>⟨?_,Hp.le_refl _⟩⟩
 ·have hc:n<0:=by simpa using hc
  congr 1;unfold x8o z2w;rw[if_pos hc];omega
 ·have hc:¬ n<0:=by simpa using hc
  congr 1;unfold x8o z2w;rw[if_neg hc];omega
theorem ysl{H:Hp}{n:Int}(h:inI n):Qf Tryz.prog F.f56 #[.int .i64 n] H (.int .u64 (z2w n)):=by
 obtain⟨h1,h2⟩:=h
 refine vc56 ⟨λhc=>?_,λhc=>⟨?_,Hp.le_refl _⟩⟩
 ·have hc:n<0:=by simpa using hc
  refine⟨by unfold inI;omega,by unfold inI;omega,?_,Hp.le_refl _⟩
  congr 1;unfold x8o z2w;rw[if_pos hc];omega
 ·have hc:¬ n<0:=by simpa using hc
  congr 1;unfold x8o z2w;rw[if_neg hc];omega

theorem zzs{a b n m:Int}(hm:0<m)(hn:0<=n)(h:Nat.gcd n.toNat m.toNat=Nat.gcd a.toNat b.toNat):0<=n.tmod m/\n.tmod m<m/\Nat.gcd m.toNat (n.tmod m).toNat=Nat.gcd a.toNat b.toNat:=by
 have e:n.tmod m=n%m:=Int.tmod_eq_emod_of_nonneg hn
 have e2:(n%m).toNat=n.toNat%m.toNat:=by
  obtain⟨x,rfl⟩:=Int.eq_ofNat_of_zero_le hn
  obtain⟨y,rfl⟩:=Int.eq_ofNat_of_zero_le (Int.le_of_lt hm)
  rfl
 refine⟨by rw[e];exact Int.emod_nonneg _ (by omega),by rw[e];exact Int.emod_lt_of_pos _ hm,?_⟩
 rw[e,e2,← h]
 rw[Nat.gcd_comm m.toNat,← Nat.gcd_rec,Nat.gcd_comm]

theorem yqy{H:Hp}{a b:Int}(ha:0<=a)(hb:0<=b):Qf Tryz.prog F.f106 #[.int .u64 a,.int .u64 b] H (.int .u64 (Nat.gcd a.toNat b.toNat:Nat)):=by
  refine vc106 ⟨λn m H'=>H'=H/\0<=n/\0<=m/\Nat.gcd n.toNat m.toNat=Nat.gcd a.toNat b.toNat,λ_ m _=>m.toNat,⟨rfl,ha,hb,rfl⟩,λn m H' ⟨e,h1,h2,h3⟩=>?_⟩
  subst e
  refine⟨λhc=>?_,λhc=>⟨?_,Hp.le_refl _⟩⟩
  · have hc:0<m:=by simpa using hc
    obtain⟨g1,g2,g3⟩:=zzs hc h1 h3
    exact⟨by unfold nz;omega,⟨rfl,h2,g1,g3⟩,by show (n.tmod m).toNat<m.toNat;omega⟩
  · have:m=0:=by have:¬ m>0:=by simpa using hc
                 omega
    subst this
    rw[← h3];simp;omega
theorem yrx{H:Hp}{a b:Int}(ha:0<=a)(hb:0<=b):Qf Tryz.prog F.f55 #[.int .u64 a,.int .u64 b] H (.int .u64 (Nat.gcd a.toNat b.toNat:Nat)):=by
 refine vc55 ⟨λn m H'=>H'=H/\0<=n/\0<=m/\Nat.gcd n.toNat m.toNat=Nat.gcd a.toNat b.toNat,λ_ m _=>m.toNat,⟨rfl,ha,hb,rfl⟩,λn m H' ⟨e,h1,h2,h3⟩=>?_⟩
 subst e
 refine⟨λhc=>?_,λhc=>⟨?_,Hp.le_refl _⟩⟩
 ·have hc:0<m:=by have:m≠0:=by simpa using hc
                  omega
  obtain⟨g1,g2,g3⟩:=zzs hc h1 h3
  exact⟨by unfold nz;omega,⟨rfl,h2,g1,g3⟩,by show (n.tmod m).toNat<m.toNat;omega⟩
 ·have:m=0:=by simpa using hc
  subst this
  rw[← h3];simp;omega

theorem yhb{r:Int×Int}(h:zxh r):okR r↔1<=r.2/\r.1≠-9223372036854775808/\Nat.gcd r.1.natAbs r.2.natAbs=1:=by
 obtain⟨⟨h1,h2⟩,h3,h4⟩:=h
 constructor
 ·intro o;have:=o.n1;exact⟨o.d1,by omega,o.g⟩
 ·intro ⟨a,b,c⟩;exact⟨a,by omega,by omega,by omega,c⟩

theorem yqv{H:Hp}{r:Int×Int}(h:zxh r):Qf Tryz.prog F.f57 #[.agg #[.int .i64 r.1,.int .i64 r.2]] H (.int .i64 (zl2 r)):=by
 have hk:=yhb h
 obtain⟨hn,hd⟩:=h
 have hd':=hd
 obtain⟨d1,d2⟩:=hd'
 refine vc57 ⟨_,λ_=>yqp hn,(Nat.gcd r.2.toNat r.1.natAbs:Nat),λhc=>?_,λhc=>⟨?_,Hp.le_refl _⟩,λhc=>⟨?_,Hp.le_refl _⟩⟩
 ·simp only[Bool.not_eq_true',Bool.or_eq_false_iff,decide_eq_false_iff_not] at hc
  have e:x8o r.2=r.2:=by unfold x8o;omega
  rw[e]
  have:=yqy (H:=H) (a:=r.2) (b:=z2w r.1) (by omega) (z34 _)
  rw[z32,Int.toNat_natCast] at this
  rw[z32];exact this
 ·rw[zl3]
  rw[hk]
  intro ⟨a,b,c⟩
  simp only[Bool.or_eq_true,decide_eq_true_eq,beq_iff_eq] at hc
  rcases hc with(hc|hc)|hc
  ·omega
  ·exact b hc
  ·have e:r.2.toNat=r.2.natAbs:=by omega
   rw[e,Nat.gcd_comm,c] at hc;omega
 ·rw[zl4]
  rw[hk]
  simp only[Bool.or_eq_false_iff,decide_eq_false_iff_not,beq_eq_false_iff_ne] at hc
  obtain⟨⟨a,b⟩,c⟩:=hc
  refine⟨by omega,b,?_⟩
  have e:r.2.toNat=r.2.natAbs:=by omega
  rw[e,Nat.gcd_comm] at c
  have:0<Nat.gcd r.1.natAbs r.2.natAbs:=Nat.gcd_pos_of_pos_right _ (by omega)
  omega
theorem ysj{H:Hp}{r:Int×Int}(h:zxh r):Qf Tryz.prog F.f21 #[.agg #[.int .i64 r.1,.int .i64 r.2]] H (.int .i64 (zl2 r)):=by
 have hk:=yhb h
 obtain⟨hn,hd⟩:=h
 have hd':=hd
 obtain⟨d1,d2⟩:=hd'
 refine vc21 ⟨_,λ_=>ysl hn,(Nat.gcd r.1.natAbs r.2.toNat:Nat),λhc=>?_,λhc=>⟨?_,Hp.le_refl _⟩,λhc=>⟨?_,Hp.le_refl _⟩⟩
 ·simp only[Bool.not_eq_true',Bool.or_eq_false_iff,decide_eq_false_iff_not] at hc
  have e:x8o r.2=r.2:=by unfold x8o;omega
  rw[e]
  have:=yrx (H:=H) (a:=z2w r.1) (b:=r.2) (z34 _) (by omega)
  rw[z32,Int.toNat_natCast] at this
  rw[z32];exact this
 ·rw[zl3]
  rw[hk]
  intro ⟨a,b,c⟩
  simp only[Bool.or_eq_true,decide_eq_true_eq,beq_iff_eq,bne_iff_ne] at hc
  rcases hc with(hc|hc)|hc
  ·omega
  ·exact b hc
  ·have e:r.2.toNat=r.2.natAbs:=by omega
   rw[e,c] at hc;omega
 ·rw[zl4]
  rw[hk]
  simp only[Bool.or_eq_false_iff,decide_eq_false_iff_not,beq_eq_false_iff_ne,bne_eq_false_iff_eq] at hc
  obtain⟨⟨a,b⟩,c⟩:=hc
  refine⟨by omega,b,?_⟩
  have e:r.2.toNat=r.2.natAbs:=by omega
  rw[e] at c
  omega

theorem yqt{H:Hp}{a b:Int×Int}(ha:zxh a)(hb:zxh b):Qf Tryz.prog F.f81 #[.agg #[.int .i64 a.1,.int .i64 a.2],.agg #[.int .i64 b.1,.int .i64 b.2]] H (.int .i64 (if okR a/\okR b then 0 else 8)):=by
 refine vc81 ⟨_,yqv ha,_,yqv hb,?_,Hp.le_refl _⟩
 congr 1
 by_cases h1:okR a <;> by_cases h2:okR b
 ·rw[zl4 h1,zl4 h2];simp[h1,h2]
 ·rw[zl4 h1,zl3 h2];simp[h1,h2]
 ·rw[zl3 h1,zl4 h2];simp[h1,h2]
 ·rw[zl3 h1,zl3 h2];simp[h1,h2]

theorem yco{H:Hp}{x y:Int}(hx:0<=x)(hx':x<18446744073709551616)(hy:0<=y)(hy':y<18446744073709551616) :
  Qf Tryz.prog F.f144 #[.int .u64 x,.int .u64 y] H (.tuple #[.int .u64 (x*y/18446744073709551616),.int .u64 (x*y%18446744073709551616)]):=by
 refine vc144 ⟨by unfold nn;omega,by unfold nn;omega,by unfold nn;omega,by unfold nn;omega,by unfold nn;omega,?_,Hp.le_refl _⟩
 have hW:∀z:Int,0<=x8o z/\x8o z<18446744073709551616:=λz=>by unfold x8o;omega
 rw[y9a hx hx',y9a hy hy',ywc hx,ywc hy,ywc (hW _).1,ywc (hW _).1,y9a (hW _).1 (hW _).2,ywc (hW _).1,y2f hx hx' hy hy']
 rfl

theorem z2v{n:Int}(h:inI n):0<=z2w n/\z2w n<=9223372036854775808:=by
 obtain⟨h1,h2⟩:=h
 unfold z2w;split <;> omega

theorem yr4{H:Hp}{a b:Int}(ha:inI a)(hb:inI b) :
  Qf Tryz.prog F.f84 #[.int .i64 a,.int .i64 b] H (.agg #[.bool (!(decide (a<0)==decide (b<0))),.int .u64 (z2w (a*b)/18446744073709551616),.int .u64 (z2w (a*b)%18446744073709551616)]):=by
 have h1:=z2v ha;have h2:=z2v hb
 refine vc84 ⟨_,yqp ha,_,yqp hb,_,_,yco (by omega) (by omega) (by omega) (by omega),?_,Hp.le_refl _⟩
 rw[z30]

theorem yqx{H:Hp}{c d:Bool}{x y:Int}(hx:0<=x)(hy:0<=y) :
  Qf Tryz.prog F.f83 #[.agg #[.bool c,.int .u64 (x/18446744073709551616),.int .u64 (x%18446744073709551616)],.agg #[.bool d,.int .u64 (y/18446744073709551616),.int .u64 (y%18446744073709551616)]] H (.int .i64 (zn4 x y)):=by
 refine vc83 ⟨_,zpb,λhc=>⟨?_,Hp.le_refl _⟩,λhc=>⟨_,zpb,?_,Hp.le_refl _⟩⟩
 ·have hc:zn4 (x/18446744073709551616) (y/18446744073709551616)≠0:=by simpa using hc
  congr 1
  have h1:¬ x/18446744073709551616=y/18446744073709551616:=λe=>hc (zn5.2 e)
  unfold zn4
  split
  ·rw[if_pos (by omega)]
  ·rw[if_pos (by omega),if_neg (by omega),if_pos (by omega)]
 ·have hc:zn4 (x/18446744073709551616) (y/18446744073709551616)=0:=by simpa using hc
  have h1:=zn5.1 hc
  congr 1
  unfold zn4
  split
  ·rw[if_pos (by omega)]
  ·split
   ·rw[if_neg (by omega),if_pos (by omega)]
   ·rw[if_neg (by omega),if_neg (by omega)]

theorem znn{a b:Int×Int}(ha:okR a)(hb:okR b)(hs:a.1<0↔b.1<0):(if a.1<0 then 0-zn4 (z2w (a.1*b.2)) (z2w (b.1*a.2)) else zn4 (z2w (a.1*b.2)) (z2w (b.1*a.2)))=znm a b:=by
 have da:=ha.d1;have db:=hb.d1
 unfold znm
 split
 ·rename_i h
  have h':=hs.1 h
  have p:=Int.mul_neg_of_neg_of_pos h (show 0<b.2 by omega)
  have q:=Int.mul_neg_of_neg_of_pos h' (show 0<a.2 by omega)
  rw[zna]
  unfold z2w
  rw[if_pos p,if_pos q]
  unfold zn4
  split
  ·rw[if_pos (by omega)]
  ·split
   ·rw[if_neg (by omega),if_pos (by omega)]
   ·rw[if_neg (by omega),if_neg (by omega)]
 ·rename_i h
  have h':¬ b.1<0:=λx=>h (hs.2 x)
  have p:=Int.mul_nonneg (show 0<=a.1 by omega) (show 0<=b.2 by omega)
  have q:=Int.mul_nonneg (show 0<=b.1 by omega) (show 0<=a.2 by omega)
  unfold z2w
  rw[if_neg (by omega),if_neg (by omega)]

theorem zo0{a b:Int×Int}(ha:okR a)(hb:okR b)(hs:¬ (a.1<0↔b.1<0)):zn4 a.1 b.1=znm a b:=by
 have da:=ha.d1;have db:=hb.d1
 unfold znm
 by_cases h:a.1<0
 ·have h':¬ b.1<0:=λx=>hs (iff_of_true h x)
  have p:=Int.mul_neg_of_neg_of_pos h (show 0<b.2 by omega)
  have q:=Int.mul_nonneg (show 0<=b.1 by omega) (show 0<=a.2 by omega)
  unfold zn4
  rw[if_pos (by omega),if_pos (by omega)]
 ·have h':b.1<0:=by
   rcases Int.lt_or_le b.1 0 with x|x
   ·exact x
   ·exact absurd (iff_of_false h (by omega)) hs
  have p:=Int.mul_nonneg (show 0<=a.1 by omega) (show 0<=b.2 by omega)
  have q:=Int.mul_neg_of_neg_of_pos h' (show 0<a.2 by omega)
  unfold zn4
  rw[if_neg (by omega),if_pos (by omega),if_neg (by omega),if_pos (by omega)]

def zng(a b:Int×Int):Int×Int:=if okR a/\okR b then (znm a b,0) else (0,8)
theorem yqw{H:Hp}{a b:Int×Int}(ha:zxh a)(hb:zxh b):Qf Tryz.prog F.f37 #[.agg #[.int .i64 a.1,.int .i64 a.2],.agg #[.int .i64 b.1,.int .i64 b.2]] H (.tuple #[.int .i64 (zng a b).1,.int .i64 (zng a b).2]):=by
 refine vc37 ⟨_,yqt ha hb,λhc=>⟨?_,Hp.le_refl _⟩,λhc=>?_⟩
 ·have:¬ (okR a/\okR b):=λh=>by rw[if_pos h] at hc;simp at hc
  unfold zng;rw[if_neg this,if_neg this]
 ·have hk:okR a/\okR b:=by
   by_cases h:okR a/\okR b
   ·exact h
   ·rw[if_neg h] at hc;simp at hc
  obtain⟨oa,ob⟩:=hk
  have e:zng a b=(znm a b,0):=by unfold zng;rw[if_pos ⟨oa,ob⟩]
  rw[e]
  refine⟨λhs=>⟨_,zp9,?_,Hp.le_refl _⟩,λhs=>⟨_,_,_,yr4 ha.1 hb.2,_,_,_,yr4 hb.1 ha.2,_,yqx (z34 _) (z34 _),λhn=>⟨?_,?_,Hp.le_refl _⟩,λhn=>⟨?_,Hp.le_refl _⟩⟩⟩
  ·rw[zo0 oa ob]
   intro h
   simp only[Bool.not_eq_true',beq_eq_false_iff_ne] at hs
   exact hs (by rw[Bool.eq_iff_iff,decide_eq_true_eq,decide_eq_true_eq];exact h)
  ·have:=znc (z2w (a.1*b.2)) (z2w (b.1*a.2))
   unfold inI;omega
  ·have hs':a.1<0↔b.1<0:=by
    simp only[Bool.not_eq_false',beq_iff_eq] at hs
    rw[Bool.eq_iff_iff,decide_eq_true_eq,decide_eq_true_eq] at hs;exact hs
   have hn:a.1<0:=by simpa using hn
   rw[← znn oa ob hs',if_pos hn]
  ·have hs':a.1<0↔b.1<0:=by
    simp only[Bool.not_eq_false',beq_iff_eq] at hs
    rw[Bool.eq_iff_iff,decide_eq_true_eq,decide_eq_true_eq] at hs;exact hs
   have hn:¬ a.1<0:=by simpa using hn
   rw[← znn oa ob hs',if_neg hn]

theorem zb6{c d:Bool}(h:¬ c=d):(c=true->d=false)/\(c=false->d=true):=by
 revert h;cases c <;> cases d <;> simp

theorem ysh{H:Hp}{x y:Int}(hx:0<=x)(hx':x<18446744073709551616)(hy:0<=y)(hy':y<18446744073709551616) :
  Qf Tryz.prog F.f105 #[.int .u64 x,.int .u64 y] H (.agg #[.bool false,.int .u64 (x*y/18446744073709551616),.int .u64 (x*y%18446744073709551616)]):=by
 refine vc105 ⟨by unfold nz;omega,by unfold nz;omega,by unfold nz;omega,by unfold nz;omega,by unfold nz;omega,by unfold nz;omega,by unfold nz;omega,by unfold nz;omega,by unfold nz;omega,by unfold nz;omega,?_,Hp.le_refl _⟩
 rw[tdH hx,tdH hy,tmH hx,tmH hy]
 simp only[twd,twm]
 rw[(yov hx hx' hy hy').1,(yov hx hx' hy hy').2]

theorem ysi{H:Hp}{a b:Int}(ha:inI a)(hb:inI b):∃c h l,Qf Tryz.prog F.f52 #[.int .i64 a,.int .i64 b] H (.agg #[.bool c,.int .u64 h,.int .u64 l])/\z0e c h l (a*b):=by
 have h1:=z2v ha;have h2:=z2v hb
 have hm:=ycp h1.1 h1.2 h2.1 h2.2
 refine⟨_,_,_,vc52 ⟨_,ysl ha,_,ysl hb,_,_,_,ysh (by omega) (by omega) (by omega) (by omega),rfl,Hp.le_refl _⟩,?_⟩
 rw[z30] at hm ⊢
 have key:(!(decide (a<0)==decide (b<0))&&(a != 0&&b != 0))=decide (a*b<0):=by
  rw[Bool.eq_iff_iff,decide_eq_true_eq,ycs]
  simp only[Bool.and_eq_true,Bool.not_eq_true',beq_eq_false_iff_ne,bne_iff_ne]
  by_cases x:a<0 <;> by_cases y:b<0 <;> simp[x,y] <;> omega
 rw[key]
 generalize a*b=v at *
 refine⟨by omega,by omega,by omega,by omega,λh=>?_,λh=>?_⟩
 ·have h:v<0:=by simpa using h
  refine⟨h,?_⟩
  have:z2w v = -v:=by unfold z2w;rw[if_pos h]
  omega
 ·have h:¬ v<0:=by simpa using h
  have:z2w v=v:=by unfold z2w;rw[if_neg h]
  omega

theorem ys7{H:Hp}{c d:Bool}{h1 l1 h2 l2:Int}(a0:0<=l1)(a1:l1<18446744073709551616)(b0:0<=l2)(b1:l2<18446744073709551616) :
  Qf Tryz.prog F.f54 #[.agg #[.bool c,.int .u64 h1,.int .u64 l1],.agg #[.bool d,.int .u64 h2,.int .u64 l2]] H (.int .i64 (zn4 (h1*18446744073709551616+l1) (h2*18446744073709551616+l2))):=by
 refine vc54 ⟨λhc=>⟨λhl=>⟨?_,Hp.le_refl _⟩,λhl=>⟨?_,Hp.le_refl _⟩⟩,λhc=>⟨λhl=>⟨λhx=>⟨?_,Hp.le_refl _⟩,λhx=>⟨?_,Hp.le_refl _⟩⟩,λhl=>⟨?_,Hp.le_refl _⟩⟩⟩
 ·simp at hc hl;unfold zn4;rw[if_pos (by omega)]
 ·simp at hc hl;unfold zn4;rw[if_neg (by omega),if_pos (by omega)]
 ·simp at hc hl hx;unfold zn4;rw[if_pos (by omega)]
 ·simp at hc hl hx;unfold zn4;rw[if_neg (by omega),if_pos (by omega)]
 ·simp at hc hl;unfold zn4;rw[if_neg (by omega),if_neg (by omega)]

theorem ys9{H:Hp}{c d:Bool}{h1 l1 h2 l2:Int}(a0:0<=l1)(a1:l1<18446744073709551616)(b0:0<=l2)(b1:l2<18446744073709551616)(a2:0<=h1)(a3:h1<18446744073709551616)(b2:0<=h2)(b3:h2<18446744073709551616)
  (hv:h2*18446744073709551616+l2<=h1*18446744073709551616+l1) :
  ∃h l,Qf Tryz.prog F.f186 #[.agg #[.bool c,.int .u64 h1,.int .u64 l1],.agg #[.bool d,.int .u64 h2,.int .u64 l2]] H (.agg #[.bool false,.int .u64 h,.int .u64 l]) /\
   0<=h/\h<18446744073709551616/\0<=l/\l<18446744073709551616/\h*18446744073709551616+l=(h1*18446744073709551616+l1)-(h2*18446744073709551616+l2):=by
 by_cases hl:l1<l2
 ·refine⟨_,_,vc186 ⟨λ_=>⟨rfl,Hp.le_refl _⟩,λhc=>by simp at hc;omega⟩,?_⟩
  unfold x8o;omega
 ·refine⟨_,_,vc186 ⟨λhc=>by simp at hc;omega,λ_=>⟨rfl,Hp.le_refl _⟩⟩,?_⟩
  unfold x8o;omega

theorem ysg{H:Hp}{c d:Bool}{h1 l1 h2 l2 v1 v2:Int}(b1:z0e c h1 l1 v1)(b2:z0e d h2 l2 v2)(r1:z2w v1<85070591730234615865843651857942052864)(r2:z2w v2<85070591730234615865843651857942052864) :
  ∃e h l,Qf Tryz.prog F.f127 #[.agg #[.bool c,.int .u64 h1,.int .u64 l1],.agg #[.bool d,.int .u64 h2,.int .u64 l2]] H (.agg #[.bool e,.int .u64 h,.int .u64 l])/\z0e e h l (v1+v2):=by
 by_cases hcd:c=d
 ·subst hcd
  obtain⟨k1,k2⟩:=b1.add b2 r1 r2
  by_cases hl:x8o (l1+l2)<l1
  ·exact⟨_,_,_,vc127 ⟨λ_=>⟨λ_=>⟨rfl,Hp.le_refl _⟩,λhx=>by simp at hx;omega⟩,λhx=>by simp at hx⟩,k1 hl⟩
  ·exact⟨_,_,_,vc127 ⟨λ_=>⟨λhx=>by simp at hx;omega,λ_=>⟨rfl,Hp.le_refl _⟩⟩,λhx=>by simp at hx⟩,k2 hl⟩
 ·have b1':=b1;have b2':=b2
  obtain⟨p0,p1,p2,p3,p4,p5⟩:=b1'
  obtain⟨q0,q1,q2,q3,q4,q5⟩:=b2'
  have hle:=ys7 (H:=H) (c:=c) (d:=d) (h1:=h1) (l1:=l1) (h2:=h2) (l2:=l2) p2 p3 q2 q3
  by_cases hv:h2*18446744073709551616+l2<=h1*18446744073709551616+l1
  ·obtain⟨h,l,hq,g0,g1,g2,g3,g4⟩:=ys9 (H:=H) (c:=c) (d:=d) p2 p3 q2 q3 p0 p1 q0 q1 hv
   refine⟨_,_,_,vc127 ⟨λhx=>by simp at hx;exact absurd hx hcd,λ_=>⟨_,hle,λ_=>⟨_,_,_,hq,rfl,Hp.le_refl _⟩,λhx=>?_⟩⟩,?_⟩
   ·have:zn4 (h1*18446744073709551616+l1) (h2*18446744073709551616+l2)<0:=by simpa using hx
    rw[zn8] at this;omega
   ·refine⟨g0,g1,g2,g3,λhx=>?_,λhx=>?_⟩
    ·simp only[Bool.and_eq_true,Bool.or_eq_true,decide_eq_true_eq] at hx
     have hc:=hx.1
     subst hc
     have hd:d=false:=(zb6 hcd).1 rfl
     subst hd
     have:=p4 rfl;have:=q5 rfl
     omega
    ·cases c
     ·have hd:d=true:=(zb6 hcd).2 rfl
      subst hd
      have:=p5 rfl;have:=q4 rfl
      omega
     ·have hd:d=false:=(zb6 hcd).1 rfl
      subst hd
      have:=p4 rfl;have:=q5 rfl
      simp at hx
      omega
  ·obtain⟨h,l,hq,g0,g1,g2,g3,g4⟩:=ys9 (H:=H) (c:=d) (d:=c) q2 q3 p2 p3 q0 q1 p0 p1 (by omega)
   refine⟨_,_,_,vc127 ⟨λhx=>by simp at hx;exact absurd hx hcd,λ_=>⟨_,hle,λhx=>?_,λ_=>⟨_,_,_,hq,rfl,Hp.le_refl _⟩⟩⟩,?_⟩
   ·have:¬ zn4 (h1*18446744073709551616+l1) (h2*18446744073709551616+l2)<0:=by simpa using hx
    rw[zn8] at this;omega
   ·refine⟨g0,g1,g2,g3,λhx=>?_,λhx=>?_⟩
    ·subst hx
     have hc:c=false:=(zb6 (λe=>hcd e.symm)).1 rfl
     subst hc
     have:=p5 rfl;have:=q4 rfl
     omega
    ·subst hx
     have hc:c=true:=(zb6 (λe=>hcd e.symm)).2 rfl
     subst hc
     have:=p4 rfl;have:=q5 rfl
     omega

theorem ysk{H:Hp}{c:Bool}{h l v:Int}(b:z0e c h l v):Qf Tryz.prog F.f53 #[.agg #[.bool c,.int .u64 h,.int .u64 l]] H (.int .i64 (sgn v)):=by
 obtain⟨p0,p1,p2,p3,p4,p5⟩:=b
 refine vc53 ⟨λhc=>⟨?_,Hp.le_refl _⟩,λhc=>⟨λhn=>⟨?_,Hp.le_refl _⟩,λhn=>⟨?_,Hp.le_refl _⟩⟩⟩
 ·simp at hc
  have:v=0:=by
   cases c
   ·have:=p5 rfl;omega
   ·have:=p4 rfl;omega
  subst this;rfl
 ·subst hn;have:=p4 rfl;unfold sgn;rw[if_pos this.1]
 ·subst hn;have:=p5 rfl
  simp at hc
  unfold sgn;rw[if_neg (by omega),if_pos (by omega)]

theorem yry{H:Hp}{a b:Int×Int}(ha:okR a)(hb:okR b):Qf Tryz.prog F.f20 #[.agg #[.int .i64 a.1,.int .i64 a.2],.agg #[.int .i64 b.1,.int .i64 b.2]] H (.int .i64 (znm a b)):=by
  obtain⟨c,h,l,q1,b1⟩:=ysi (H:=H) ha.fit.1 hb.fit.2
  obtain⟨c',h',l',q2,b2⟩:=ysi (H:=H) hb.fit.1 ha.fit.2
  have s1:=ysk (H:=H) b1
  have s2:=ysk (H:=H) b2
  have p:=b1;have p':=b2
  obtain⟨p0,p1,p2,p3,p4,p5⟩:=p
  obtain⟨r0,r1,r2,r3,r4,r5⟩:=p'
  unfold znm
  refine vc20 ⟨_,_,_,q1,_,_,_,q2,_,s1,_,s2,λhc=>⟨_,s1,_,s2,λhx=>⟨?_,Hp.le_refl _⟩,λhx=>⟨?_,Hp.le_refl _⟩⟩,λhc=>⟨_,s1,λhx=>⟨_,ys7 r2 r3 p2 p3,?_,Hp.le_refl _⟩,λhx=>⟨_,ys7 p2 p3 r2 r3,?_,Hp.le_refl _⟩⟩⟩
  · simp only[bne_iff_ne,decide_eq_true_eq] at hc hx
    unfold sgn at hx hc
    unfold zn4
    rw[if_pos]
    split at hx <;> split at hx <;> omega
  · simp only[bne_iff_ne,decide_eq_false_iff_not] at hc hx
    unfold sgn at hx hc
    unfold zn4
    rw[if_neg,if_pos]
    · split at hx <;> split at hx <;> omega
    · split at hx <;> split at hx <;> omega
  · simp only[bne_eq_false_iff_eq,decide_eq_true_eq] at hc hx
    have v1:a.1*b.2<0:=by unfold sgn at hx;split at hx <;> omega
    have v2:b.1*a.2<0:=by unfold sgn at hx hc;split at hc <;> split at hc <;> omega
    have e1:c=true:=by cases c;· have:=p5 rfl;omega
                       · rfl
    have e2:c'=true:=by cases c';· have:=r5 rfl;omega
                        · rfl
    rw[(p4 e1).2,(r4 e2).2]
    congr 1
    unfold zn4
    split
    · rw[if_pos (by omega)]
    · split
      · rw[if_neg (by omega),if_pos (by omega)]
      · rw[if_neg (by omega),if_neg (by omega)]
  · simp only[bne_eq_false_iff_eq,decide_eq_false_iff_not] at hc hx
    have v1:¬ a.1*b.2<0:=by intro h;unfold sgn at hx;rw[if_pos h] at hx;omega
    have v2:¬ b.1*a.2<0:=by
      intro h;unfold sgn at hx hc;rw[if_neg v1] at hc hx;rw[if_pos h] at hc;split at hc <;> omega
    have e1:c=false:=by cases c;· rfl
                        · have:=p4 rfl;omega
    have e2:c'=false:=by cases c';· rfl
                         · have:=r4 rfl;omega
    rw[(p5 e1).2,(r5 e2).2]

theorem zv7{p q:Pt}{t:Int×Int}(hp:okP p)(hq:okP q)(ht:okR t) :
  z2w ((p.2.1-q.2.1)*t.2)<=19342813113834066795298816/\z2w ((p.2.2-q.2.2)*t.1)<=19342813113834066795298816/\inI (p.2.1-q.2.1)/\inI (p.2.2-q.2.2):=by
 obtain⟨_,_,a0,a1,b0,b1⟩:=hp
 obtain⟨_,_,c0,c1,d0,d1⟩:=hq
 obtain⟨t1,t2,t3,t4,_⟩:=ht
 refine⟨?_,?_,by unfold inI;omega,by unfold inI;omega⟩
 ·exact z31 (m:=2097152) (n:=9223372036854775808) (z2z (by omega) (by omega)) (z2z (by omega) (by omega))
 ·exact z31 (m:=2097152) (n:=9223372036854775808) (z2z (by omega) (by omega)) (z2z (by omega) (by omega))

theorem ysb{H:Hp}{p:Pt}:Qf Tryz.prog F.f51 #[.agg #[.int .i64 p.1,.int .i64 p.2.1,.int .i64 p.2.2]] H (.int .i64 (zkx p)):=by
 refine vc51 ⟨λhc=>⟨?_,Hp.le_refl _⟩,λhc=>⟨?_,Hp.le_refl _⟩⟩
 ·rw[zky]
  intro h
  have:=h.i0;have:=h.i1;have:=h.a0;have:=h.a1;have:=h.b0;have:=h.b1
  simp at hc;omega
 ·simp at hc
  rw[zl0 ⟨by omega,by omega,by omega,by omega,by omega,by omega⟩]

theorem z3c{H:Hp}{x y:Int}(hx:0<=x)(hy:0<=y):OpQ Tryz.prog (callFunc F.f159 #[.int .u64 x,.int .u64 y,.int .u64 0]) H (.tuple #[.int .u64 ((x+y)%18446744073709551616),.int .u64 ((x+y)/18446744073709551616)]):=by
 intro w _
 rw[run_callFunc_extern zyv (by kernel_rfl) (by kernel_rfl) (by kernel_rfl) (e:=add64Entry) (by kernel_rfl),run_add64 x y 0 hx hy (by omega) (by omega)]
 simp only[Result.andThen,Int.add_zero]

theorem ycu{a b:Int}(ha:inI a)(hb:inI b):x8o a*x8o b=a*b+18446744073709551616*((if a<0 then b else 0)+(if b<0 then a else 0)+(if a<0/\b<0 then 18446744073709551616 else 0)):=by
 obtain⟨a1,a2⟩:=ha
 obtain⟨b1,b2⟩:=hb
 have ea:x8o a=a+(if a<0 then 18446744073709551616 else 0):=by unfold x8o;split <;> omega
 have eb:x8o b=b+(if b<0 then 18446744073709551616 else 0):=by unfold x8o;split <;> omega
 rw[ea,eb,Int.add_mul,Int.mul_add,Int.mul_add]
 generalize a*b=P
 by_cases ha:a<0 <;> by_cases hb:b<0 <;> simp only[ha,hb,if_true,if_false,and_self,and_true,and_false] <;> omega

theorem x2i{a b hi lo V:Int}(ha:inI a)(hb:inI b)(hab:z2w (a*b)<=19342813113834066795298816)(hV:hi*18446744073709551616+lo=V)(l0:0<=lo)(l1:lo<18446744073709551616)(hVa:z2w V<=19342813113834066795298816){k:Int}
  (hk:k=(x8o a*x8o b/18446744073709551616)-(if a<0 then b else 0)-(if b<0 then a else 0)) :
  ∀x:Int,x%18446744073709551616=(hi+k+(lo+x8o a*x8o b%18446744073709551616)/18446744073709551616)%18446744073709551616->-9223372036854775808<=x->x<=9223372036854775807 ->
   x*18446744073709551616+(lo+x8o a*x8o b%18446744073709551616)%18446744073709551616=V+a*b:=by
 intro x hx x0 x1
 rw[ycu ha hb] at hk hx ⊢
 have b1:=z2v ha;have b2:=z2v hb
 unfold z2w at hab hVa
 generalize a*b=P at *
 obtain⟨a1,a2⟩:=ha
 obtain⟨c1,c2⟩:=hb
 split at hab <;> split at hVa <;> (by_cases h1:a<0 <;> by_cases h2:b<0 <;> simp only[h1,h2,if_true,if_false,and_self,and_true,and_false] at hk hx ⊢ <;> omega)

theorem zq2{H:Hp}{a b c d:Int}(ha:inI a)(hb:inI b)(hc:inI c)(hd:inI d)(hab:z2w (a*b)<=19342813113834066795298816)(hcd:z2w (c*d)<=19342813113834066795298816) :
    ∃hi lo,Qf Tryz.prog F.f100 #[.agg #[.int .i64 a,.int .i64 b,.int .i64 c,.int .i64 d]] H (.agg #[.int .i64 hi,.int .u64 lo])/\hi*18446744073709551616+lo=a*b+c*d/\0<=lo/\lo<18446744073709551616:=by
  have hW:∀z:Int,0<=x8o z/\x8o z<18446744073709551616:=λz=>by unfold x8o;omega
  -- the two rounds
  let H1:Int:=IntKind.i64.wrap (0+(x8o a*x8o b/18446744073709551616-(if a<0 then b else 0)-(if b<0 then a else 0))+(0+x8o a*x8o b%18446744073709551616)/18446744073709551616)
  let L1:Int:=(0+x8o a*x8o b%18446744073709551616)%18446744073709551616
  let H2:Int:=IntKind.i64.wrap (H1+(x8o c*x8o d/18446744073709551616-(if c<0 then d else 0)-(if d<0 then c else 0))+(L1+x8o c*x8o d%18446744073709551616)/18446744073709551616)
  let L2:Int:=(L1+x8o c*x8o d%18446744073709551616)%18446744073709551616
  have wr:∀z:Int,IntKind.i64.wrap z%18446744073709551616=z%18446744073709551616/\-9223372036854775808<=IntKind.i64.wrap z/\IntKind.i64.wrap z<=9223372036854775807:=λz=>by rw[y3c];omega
  have wcong:∀y z:Int,y%18446744073709551616=z%18446744073709551616->IntKind.i64.wrap y=IntKind.i64.wrap z:=λy z h=>by rw[y3c,y3c];omega
  have s1:H1*18446744073709551616+L1=a*b:=by
    have:=x2i ha hb hab (hi:=0) (lo:=0) (V:=0) (by omega) (by omega) (by omega) (by unfold z2w;simp) rfl H1 (wr _).1 (wr _).2.1 (wr _).2.2
    rw[Int.zero_add (a*b)] at this
    exact this
  have l1a:0<=L1/\L1<18446744073709551616:=by
    show 0<=(0+x8o a*x8o b%18446744073709551616)%18446744073709551616/\(0+x8o a*x8o b%18446744073709551616)%18446744073709551616<_
    generalize x8o a*x8o b=P
    omega
  have s2:H2*18446744073709551616+L2=a*b+c*d :=
    x2i hc hd hcd s1 l1a.1 l1a.2 hab rfl H2 (wr _).1 (wr _).2.1 (wr _).2.2
  have l2a:0<=L2/\L2<18446744073709551616:=by
    show 0<=(L1+x8o c*x8o d%18446744073709551616)%18446744073709551616/\(L1+x8o c*x8o d%18446744073709551616)%18446744073709551616<_
    generalize x8o c*x8o d=P
    omega
  refine⟨H2,L2,?_,s2,l2a.1,l2a.2⟩
  refine vc100 ⟨λi h l H'=>H'=H/\((i=0/\h=0/\l=0)\/(i=1/\h=H1/\l=L1)\/(i=2/\h=H2/\l=L2)),λi _ _ _=>(2-i).toNat,⟨rfl,.inl ⟨rfl,rfl,rfl⟩⟩,λi h l H' ⟨e,hi⟩=>⟨λhn=>?_,λhn=>?_⟩⟩
  · subst e
    have hn:i<2:=by simpa using hn
    have step:∀(x y:Int),0<=l->(∀h' l',h'=IntKind.i64.wrap (h+(x8o x*x8o y/18446744073709551616-(if x<0 then y else 0)-(if y<0 then x else 0))+(l+x8o x*x8o y%18446744073709551616)/18446744073709551616) ->
          l'=(l+x8o x*x8o y%18446744073709551616)%18446744073709551616->((H'=H'/\((IntKind.i64.wrap (i+1)=0/\h'=0/\l'=0)\/(IntKind.i64.wrap (i+1)=1/\h'=H1/\l'=L1)\/(IntKind.i64.wrap (i+1)=2/\h'=H2/\l'=L2)))/\(2-IntKind.i64.wrap (i+1)).toNat<(2-i).toNat)) ->
        ∃n9 n10,Qf Tryz.prog F.f144 #[.int .u64 (x8o x),.int .u64 (x8o y)] H' (.tuple #[.int .u64 n9,.int .u64 n10]) /\
         ((decide (x<0)=true->(decide (y<0)=true->∃n11 n12,OpQ Tryz.prog (callFunc F.f159 #[.int .u64 l,.int .u64 n10,.int .u64 0]) H' (.tuple #[.int .u64 n11,.int .u64 n12]) /\
            (H'=H'/\((IntKind.i64.wrap (i+1)=0/\IntKind.i64.wrap (IntKind.i64.wrap (h+IntKind.i64.wrap (IntKind.i64.wrap (IntKind.i64.wrap n9-y)-x))+IntKind.i64.wrap n12)=0/\n11=0)\/(IntKind.i64.wrap (i+1)=1/\IntKind.i64.wrap (IntKind.i64.wrap (h+IntKind.i64.wrap (IntKind.i64.wrap (IntKind.i64.wrap n9-y)-x))+IntKind.i64.wrap n12)=H1/\n11=L1)\/(IntKind.i64.wrap (i+1)=2/\IntKind.i64.wrap (IntKind.i64.wrap (h+IntKind.i64.wrap (IntKind.i64.wrap (IntKind.i64.wrap n9-y)-x))+IntKind.i64.wrap n12)=H2/\n11=L2)))/\(2-IntKind.i64.wrap (i+1)).toNat<(2-i).toNat) /\
          (decide (y<0)=false->∃n11 n12,OpQ Tryz.prog (callFunc F.f159 #[.int .u64 l,.int .u64 n10,.int .u64 0]) H' (.tuple #[.int .u64 n11,.int .u64 n12]) /\
            (H'=H'/\((IntKind.i64.wrap (i+1)=0/\IntKind.i64.wrap (IntKind.i64.wrap (h+IntKind.i64.wrap (IntKind.i64.wrap n9-y))+IntKind.i64.wrap n12)=0/\n11=0)\/(IntKind.i64.wrap (i+1)=1/\IntKind.i64.wrap (IntKind.i64.wrap (h+IntKind.i64.wrap (IntKind.i64.wrap n9-y))+IntKind.i64.wrap n12)=H1/\n11=L1)\/(IntKind.i64.wrap (i+1)=2/\IntKind.i64.wrap (IntKind.i64.wrap (h+IntKind.i64.wrap (IntKind.i64.wrap n9-y))+IntKind.i64.wrap n12)=H2/\n11=L2)))/\(2-IntKind.i64.wrap (i+1)).toNat<(2-i).toNat)) /\
         (decide (x<0)=false->(decide (y<0)=true->∃n11 n12,OpQ Tryz.prog (callFunc F.f159 #[.int .u64 l,.int .u64 n10,.int .u64 0]) H' (.tuple #[.int .u64 n11,.int .u64 n12]) /\
            (H'=H'/\((IntKind.i64.wrap (i+1)=0/\IntKind.i64.wrap (IntKind.i64.wrap (h+IntKind.i64.wrap (IntKind.i64.wrap n9-x))+IntKind.i64.wrap n12)=0/\n11=0)\/(IntKind.i64.wrap (i+1)=1/\IntKind.i64.wrap (IntKind.i64.wrap (h+IntKind.i64.wrap (IntKind.i64.wrap n9-x))+IntKind.i64.wrap n12)=H1/\n11=L1)\/(IntKind.i64.wrap (i+1)=2/\IntKind.i64.wrap (IntKind.i64.wrap (h+IntKind.i64.wrap (IntKind.i64.wrap n9-x))+IntKind.i64.wrap n12)=H2/\n11=L2)))/\(2-IntKind.i64.wrap (i+1)).toNat<(2-i).toNat) /\
          (decide (y<0)=false->∃n11 n12,OpQ Tryz.prog (callFunc F.f159 #[.int .u64 l,.int .u64 n10,.int .u64 0]) H' (.tuple #[.int .u64 n11,.int .u64 n12]) /\
            (H'=H'/\((IntKind.i64.wrap (i+1)=0/\IntKind.i64.wrap (IntKind.i64.wrap (h+IntKind.i64.wrap n9)+IntKind.i64.wrap n12)=0/\n11=0)\/(IntKind.i64.wrap (i+1)=1/\IntKind.i64.wrap (IntKind.i64.wrap (h+IntKind.i64.wrap n9)+IntKind.i64.wrap n12)=H1/\n11=L1)\/(IntKind.i64.wrap (i+1)=2/\IntKind.i64.wrap (IntKind.i64.wrap (h+IntKind.i64.wrap n9)+IntKind.i64.wrap n12)=H2/\n11=L2)))/\(2-IntKind.i64.wrap (i+1)).toNat<(2-i).toNat))):=by
      intro x y hl0 hgo
      have hp:0<=x8o x*x8o y%18446744073709551616:=by generalize x8o x*x8o y=P;omega
      refine⟨_,_,yco (hW x).1 (hW x).2 (hW y).1 (hW y).2,λhx=>⟨λhy=>⟨_,_,z3c hl0 hp,hgo _ _ (wcong _ _ ?_) rfl⟩,λhy=>⟨_,_,z3c hl0 hp,hgo _ _ (wcong _ _ ?_) rfl⟩⟩,λhx=>⟨λhy=>⟨_,_,z3c hl0 hp,hgo _ _ (wcong _ _ ?_) rfl⟩,λhy=>⟨_,_,z3c hl0 hp,hgo _ _ (wcong _ _ ?_) rfl⟩⟩⟩
      all_goals
        simp only[decide_eq_true_eq,decide_eq_false_iff_not] at hx hy
        simp only[hx,hy,if_true,if_false,y3c]
        generalize x8o x*x8o y=P
        omega
    have e1:IntKind.i64.wrap (0+1)=1:=by decide
    have e2:IntKind.i64.wrap (1+1)=2:=by decide
    rcases hi with⟨rfl,rfl,rfl⟩|⟨rfl,rfl,rfl⟩|⟨rfl,_,_⟩
    · refine⟨a,b,⟨by omega,by omega,rfl,rfl⟩,?_⟩
      exact step a b (by omega) λh' l' eh el=>⟨⟨rfl,.inr (.inl ⟨e1,eh,el⟩)⟩,by rw[e1];decide⟩
    · refine⟨c,d,⟨by omega,by omega,rfl,rfl⟩,?_⟩
      exact step c d l1a.1 λh' l' eh el=>⟨⟨rfl,.inr (.inr ⟨e2,eh,el⟩)⟩,by rw[e2];decide⟩
    · omega
  · subst e
    have hn:¬ i<2:=by simpa using hn
    rcases hi with⟨rfl,_,_⟩|⟨rfl,_,_⟩|⟨_,rfl,rfl⟩
    · omega
    · omega
    · exact⟨rfl,Hp.le_refl _⟩

theorem zpx{H:Hp}{n:Int}:QfV Tryz.prog (.func (.func F.f141) #[] #[]) [.int .i64 n] H (.bool (decide (n < -1048576)||decide (n>1048576))) :=
 ⟨F.f141,#[],_,rfl,cb141,vc141 ⟨rfl,Hp.le_refl _⟩⟩
theorem zpw{H:Hp}{p:Pt}:Qf Tryz.prog F.f80 #[.agg #[.int .i64 p.1,.int .i64 p.2.1,.int .i64 p.2.2]] H (.int .i64 (zkx p)):=by
 refine vc80 ⟨_,λ_=>zpx,_,λ_=>zpx,λhc=>⟨?_,Hp.le_refl _⟩,λhc=>⟨?_,Hp.le_refl _⟩⟩
 ·rw[zky]
  intro h
  have:=h.i0;have:=h.i1;have:=h.a0;have:=h.a1;have:=h.b0;have:=h.b1
  simp at hc;omega
 ·simp at hc
  rw[zl0 ⟨by omega,by omega,by omega,by omega,by omega,by omega⟩]

def x66(p q:Pt)(t:Int×Int):Int:=if okP p/\okP q/\okR t then (if p.1=q.1 then 2 else 0) else 8
theorem zq3{H:Hp}{p q:Pt}{t:Int×Int}(ht:zxh t) :
  Qf Tryz.prog F.f146 #[.agg #[.int .i64 p.1,.int .i64 p.2.1,.int .i64 p.2.2],.agg #[.int .i64 q.1,.int .i64 q.2.1,.int .i64 q.2.2],.agg #[.int .i64 t.1,.int .i64 t.2]] H (.int .i64 (x66 p q t)):=by
 have key:∀z,z=(if zl2 t>if zkx q>zkx p then zkx q else zkx p then zl2 t else if zkx q>zkx p then zkx q else zkx p)->z=if okP p/\okP q/\okR t then 0 else 8:=λz hz=>by
  rw[hz]
  by_cases h1:okP p <;> by_cases h2:okP q <;> by_cases h3:okR t
  ·rw[zl0 h1,zl0 h2,zl4 h3];simp[h1,h2,h3]
  ·rw[zl0 h1,zl0 h2,zl3 h3];simp[h3]
  ·rw[zl0 h1,zky h2,zl4 h3];simp[h2]
  ·rw[zl0 h1,zky h2,zl3 h3];simp[h2]
  ·rw[zky h1,zl0 h2,zl4 h3];simp[h1]
  ·rw[zky h1,zl0 h2,zl3 h3];simp[h1]
  ·rw[zky h1,zky h2,zl4 h3];simp[h1]
  ·rw[zky h1,zky h2,zl3 h3];simp[h1]
 have key:=key _ rfl
 refine vc146 ⟨_,zpw,_,zpw,_,yqv ht,λhc=>⟨?_,Hp.le_refl _⟩,λhc=>⟨λhe=>⟨?_,Hp.le_refl _⟩,λhe=>⟨?_,Hp.le_refl _⟩⟩⟩
 ·rw[key] at hc ⊢
  unfold x66
  by_cases h:okP p/\okP q/\okR t
  ·rw[if_pos h] at hc;simp at hc
  ·rw[if_neg h,if_neg h]
 all_goals
  rw[key] at hc
  have h:okP p/\okP q/\okR t:=by
   by_cases h:okP p/\okP q/\okR t
   ·exact h
   ·rw[if_neg h] at hc;simp at hc
  unfold x66
  rw[if_pos h]
 ·rw[if_pos (by simpa using he)]
 ·rw[if_neg (by simpa using he)]

theorem yia{H:Hp}{u:Slc}{x y:Int}(h:RdI H u [x,y]):Qf Tryz.prog F.f90 #[u.v] H (.int .i64 (if x≠0 then x else y)):=by
  have lu:=h.len
  simp only[List.length_cons,List.length_nil] at lu
  refine vc90 (upto (N:=2) (J:=λn=>0<n->x=0/\(1<n->y=0)) (by omega) (λh=>by omega) λn h0 h1 hJ=>⟨λhn=>?_,λhn=>⟨?_,Hp.le_refl _⟩⟩)
  · have hn:n<2:=by have:n<u.n:=by simpa using hn
                    omega
    have hc:n=0\/n=1:=by omega
    rcases hc with rfl|rfl
    · refine h.ldI (by omega) (by simp) ⟨λhb=>⟨?_,Hp.le_refl _⟩,λhb=>upto.nx (by omega) (by omega) (by omega) λ_=>⟨?_,λh=>by omega⟩⟩
      · have:x≠0:=by simpa using hb
        rw[if_pos this];try rfl
      · simpa using hb
    · obtain⟨hx,_⟩:=hJ (by omega)
      refine h.ldI (by omega) (by simp) ⟨λhb=>⟨?_,Hp.le_refl _⟩,λhb=>upto.nx (by omega) (by omega) (by omega) λ_=>⟨hx,λ_=>?_⟩⟩
      · rw[if_neg (by omega)];try rfl
      · simpa using hb
  · have:n=2:=by have:¬ n<u.n:=by simpa using hn
                 omega
    subst this
    obtain⟨hx,hy⟩:=hJ (by omega)
    have hy:=hy (by omega)
    rw[hx,hy];try rfl

theorem yrm{H H':Hp}{b:Nat}{x y:Int}{T:TypeId}(h:H'=H.put b (.cells #[.int .i64 x,.int .i64 y] T (0,0))):RdI H' ⟨some ⟨b,0,none⟩,2,2⟩ [x,y] :=
 yrl (k:=1) (f:=fI) (λ_=>rfl) h rfl rfl

theorem zpy{H:Hp}{p q:Pt}{t:Int×Int}(hp:okP p)(hq:okP q)(ht:okR t) :
  Qf Tryz.prog F.f166 #[.agg #[.int .i64 p.1,.int .i64 p.2.1,.int .i64 p.2.2],.agg #[.int .i64 q.1,.int .i64 q.2.1,.int .i64 q.2.2],.agg #[.int .i64 t.1,.int .i64 t.2]] H (.int .i64 (znk p q t)):=by
 obtain⟨r1,r2,i1,i2⟩:=zv7 hp hq ht
 obtain⟨hi,lo,hq',hv,l0,l1⟩:=zq2 (H:=H) i1 ht.fit.2 i2 ht.fit.1 r1 r2
 have hv:hi*18446744073709551616+lo=zv8 p q t:=hv
 refine vc166 ⟨i1,i2,_,_,hq',λhc=>⟨λhn=>⟨?_,Hp.le_refl _⟩,λhn=>⟨?_,Hp.le_refl _⟩⟩,λhc=>⟨_,zp9,_,zpa,λb5 H6 hb5 hH6=>⟨_,yia (u:=⟨some ⟨b5,0,none⟩,2,2⟩) (yrm hH6),?_,Hp.le_new (Hp.le_refl _) hb5 hH6⟩⟩⟩
 ·have hn:hi<0:=by simpa using hn
  unfold znk
  rw[if_pos (by omega),if_pos (by omega)]
 ·have hn:¬ hi<0:=by simpa using hn
  simp at hc
  have hne:zv8 p q t≠0:=by
   intro e
   rw[e] at hv
   rcases hc with hc|hc <;> omega
  unfold znk
  rw[if_pos hne,if_neg (by omega)]
 ·simp at hc
  have:zv8 p q t=0:=by omega
  unfold znk
  rw[if_neg (show ¬ zv8 p q t≠0 by omega)]

def z5p(p q:Pt)(t:Int×Int):Bool×Int:=if x66 p q t=0 then (leads p q t,0) else (false,x66 p q t)
theorem x67{p q:Pt}{t:Int×Int}:x66 p q t=0↔okP p/\okP q/\okR t/\p.1≠q.1:=by
 unfold x66
 constructor
 ·intro h
  split at h
  ·rename_i k
   split at h
   ·cases h
   ·exact⟨k.1,k.2.1,k.2.2,by assumption⟩
  ·cases h
 ·intro ⟨a,b,c,d⟩
  rw[if_pos ⟨a,b,c⟩,if_neg d]
theorem zpu{H:Hp}{p q:Pt}{t:Int×Int}(ht:zxh t) :
  Qf Tryz.prog F.f112 #[.agg #[.int .i64 p.1,.int .i64 p.2.1,.int .i64 p.2.2],.agg #[.int .i64 q.1,.int .i64 q.2.1,.int .i64 q.2.2],.agg #[.int .i64 t.1,.int .i64 t.2]] H (.tuple #[.bool (z5p p q t).1,.int .i64 (z5p p q t).2]):=by
 refine vc112 ⟨_,zq3 ht,λhc=>⟨?_,Hp.le_refl _⟩,λhc=>?_⟩
 ·have hc:x66 p q t≠0:=by simpa using hc
  unfold z5p;rw[if_neg hc]
 ·have hc:x66 p q t=0:=by simpa using hc
  obtain⟨h1,h2,h3,_⟩:=x67.1 hc
  refine⟨_,zpy h1 h2 h3,?_,Hp.le_refl _⟩
  unfold z5p;rw[if_pos hc,← znl]

theorem zvi{H:Hp}{u:Slc}{f:List Pt}(h:Rd 3 fD H u f):Qf Tryz.prog F.f36 #[.agg #[u.v]] H (.int .i64 (zkd f)):=by
  have lu:=h.len
  refine vc36 ⟨λhc=>⟨?_,Hp.le_refl _⟩,λhc=>?_⟩
  · unfold zkd;rw[if_pos (by simp at hc;omega)]
  have hl:f.length<=64:=by simp at hc;omega
  refine upto (N:=f.length) (J:=λn=>∀y∈f.take n.toNat,okP y) (by omega) (by simp) λn h0 h1 hJ=>⟨λhn=>?_,λhn=>?_⟩
  · have hn:n<f.length:=by have:n<u.n:=by simpa using hn
                           omega
    have hg:=y0r (d:=((0:Int),(0:Int),(0:Int))) h0 hn
    refine h.ldD h0 hn ⟨_,zpw (p:=f.getD n.toNat (0,0,0)),?_⟩
    generalize f.getD n.toNat (0,0,0)=x at hg ⊢
    refine⟨λhb=>⟨?_,Hp.le_refl _⟩,λhb=>upto.nx h0 hn (by omega) ?_⟩
    · have hb:zkx x≠0:=by simpa using hb
      have hx:¬ okP x:=λh=>hb (zl0 h)
      rw[zky hx]
      unfold zkd;rw[if_neg (by omega),if_neg λh=>hx (h x (List.mem_of_getElem? hg))]
    · rw[show (n+1).toNat=n.toNat+1 by omega,x4c hg]
      intro y hy
      rcases List.mem_append.1 hy with hy|hy
      · exact hJ y hy
      · simp only[List.mem_singleton] at hy;subst hy;exact zl1.1 (by simpa using hb)
  · have:n=f.length:=by have:¬ n<u.n:=by simpa using hn
                        omega
    subst this
    rw[Int.toNat_natCast,List.take_length] at hJ
    refine upto (N:=f.length) (J:=λn=>((f.take n.toNat).map (·.1)).Pairwise (·<·)) (by omega) (by simp) λn h0 h1 hS=>⟨λhn=>?_,λhn=>⟨?_,Hp.le_refl _⟩⟩
    · have hn:n<f.length:=by have:n<u.n:=by simpa using hn
                             omega
      have hg:=y0r (d:=((0:Int),(0:Int),(0:Int))) h0 hn
      refine h.ldD h0 hn ?_
      generalize f.getD n.toNat (0,0,0)=x at hg ⊢
      have e1:(n+1).toNat=n.toNat+1:=by omega
      have hts:=x4c hg
      refine⟨λhp=>by unfold inI;omega,λhp=>h.inS (by simp at hp;omega) (by omega),(f.getD (n-1).toNat (0,0,0)).1,λhp=>(h.gD (by simp at hp;omega) (by omega)).1,λhb=>⟨?_,Hp.le_refl _⟩,λhb=>upto.nx h0 hn (by omega) ?_⟩
      · simp at hb
        obtain⟨hp,hb⟩:=hb
        unfold zkd
        rw[if_neg (by omega),if_pos hJ,if_neg]
        intro hpw
        have hg':=y0r (d:=((0:Int),(0:Int),(0:Int))) (i:=n-1) (by omega) (by omega:n-1<f.length)
        have hm:(f.map (·.1))[n.toNat]?=some x.1:=by rw[List.getElem?_map,hg];try rfl
        have hm':(f.map (·.1))[(n-1).toNat]?=some (f.getD (n-1).toNat (0,0,0)).1:=by rw[List.getElem?_map,hg'];try rfl
        have:=List.pairwise_iff_getElem.1 hpw (n-1).toNat n.toNat (List.getElem?_eq_some_iff.1 hm').1 (List.getElem?_eq_some_iff.1 hm).1 (by omega)
        rw[(List.getElem?_eq_some_iff.1 hm').2,(List.getElem?_eq_some_iff.1 hm).2] at this
        have en:(n-1).toNat=n.toNat-1:=by omega
        simp only[List.getD_eq_getElem?_getD,en] at this hb
        omega
      · rw[e1,hts,List.map_append]
        show (_++[x.1]).Pairwise (·<·)
        rw[y3x]
        refine⟨hS,λy hy=>?_⟩
        simp at hb
        have hp:0<n:=by
          rcases Int.lt_or_le 0 n with h'|h'
          · exact h'
          · have:n.toNat=0:=by omega
            rw[this] at hy;simp at hy
        have hb:=hb hp
        have hg':=y0r (d:=((0:Int),(0:Int),(0:Int))) (i:=n-1) (by omega) (by omega:n-1<f.length)
        have hts':=x4c hg'
        rw[show (n-1).toNat+1=n.toNat by omega] at hts'
        rw[hts',List.map_append] at hS hy
        have hS:(_++[(f.getD (n-1).toNat (0,0,0)).1]).Pairwise (·<·):=hS
        rw[y3x] at hS
        have hx:(f.getD (n-1).toNat (0,0,0)).1<x.1:=by
          have en:(n-1).toNat=n.toNat-1:=by omega
          simp only[List.getD_eq_getElem?_getD,en] at hb ⊢
          omega
        rcases List.mem_append.1 hy with hy|hy
        · have:=hS.2 y hy;omega
        · simp only[List.map_cons,List.map_nil,List.mem_singleton] at hy;rw[hy];exact hx
    · have:n=f.length:=by have:¬ n<u.n:=by simpa using hn
                          omega
      subst this
      rw[Int.toNat_natCast,List.take_length] at hS
      unfold zkd;rw[if_neg (by omega),if_pos hJ,if_pos hS]

theorem ys1{H:Hp}{u:Slc}{f:List Pt}(h:Rd 3 fD H u f):Qf Tryz.prog F.f18 #[.agg #[u.v]] H (.int .i64 (zkd f)):=by
  have lu:=h.len
  refine vc18 ⟨λhc=>⟨?_,Hp.le_refl _⟩,λhc=>?_⟩
  · unfold zkd;rw[if_pos (by simp at hc;omega)]
  have hl:f.length<=64:=by simp at hc;omega
  refine upto (N:=f.length) (J:=λn=>∀y∈f.take n.toNat,okP y) (by omega) (by simp) λn h0 h1 hJ=>⟨λhn=>?_,λhn=>?_⟩
  · have hn:n<f.length:=by have:n<u.n:=by simpa using hn
                           omega
    have hg:=y0r (d:=((0:Int),(0:Int),(0:Int))) h0 hn
    refine h.ldD h0 hn ⟨_,ysb (p:=f.getD n.toNat (0,0,0)),?_⟩
    generalize f.getD n.toNat (0,0,0)=x at hg ⊢
    refine⟨λhb=>⟨?_,Hp.le_refl _⟩,λhb=>upto.nx h0 hn (by omega) ?_⟩
    · have hb:zkx x≠0:=by simpa using hb
      have hx:¬ okP x:=λh=>hb (zl0 h)
      unfold zkd;rw[if_neg (by omega),if_neg λh=>hx (h x (List.mem_of_getElem? hg))]
    · rw[show (n+1).toNat=n.toNat+1 by omega,x4c hg]
      intro y hy
      rcases List.mem_append.1 hy with hy|hy
      · exact hJ y hy
      · simp only[List.mem_singleton] at hy;subst hy;exact zl1.1 (by simpa using hb)
  · have:n=f.length:=by have:¬ n<u.n:=by simpa using hn
                        omega
    subst this
    rw[Int.toNat_natCast,List.take_length] at hJ
    refine⟨λn H'=>H'=H/\1<=n/\(n<=f.length\/n=1)/\((f.take n.toNat).map (·.1)).Pairwise (·<·),λn _=>(f.length-n).toNat,⟨rfl,Int.le_refl _,.inr rfl,?_⟩,λn H' ⟨e,h0,h1,hS⟩=>?_⟩
    · cases f with
      | nil=>simp
      | cons x l=>simp
    subst e
    refine⟨λhn=>?_,λhn=>⟨?_,Hp.le_refl _⟩⟩
    · have hn:n<f.length:=by have:n<u.n:=by simpa using hn
                             omega
      have hg:=y0r (d:=((0:Int),(0:Int),(0:Int))) (by omega:0<=n) hn
      have hg':=y0r (d:=((0:Int),(0:Int),(0:Int))) (i:=n-1) (by omega) (by omega:n-1<f.length)
      refine⟨by unfold inI;omega,h.inS (by omega) (by omega),_,(h.gD (by omega) (by omega)).1,h.inS (by omega) hn,_,(h.gD (by omega) hn).1,?_⟩
      generalize f.getD n.toNat (0,0,0)=x at hg ⊢
      generalize f.getD (n-1).toNat (0,0,0)=y at hg' ⊢
      have e1:(n+1).toNat=n.toNat+1:=by omega
      refine⟨λhb=>⟨?_,Hp.le_refl _⟩,λhb=>⟨by unfold inI;omega,⟨rfl,by omega,by omega,?_⟩,?_⟩⟩
      · have hb:y.1>=x.1:=by simpa using hb
        unfold zkd
        rw[if_neg (by omega),if_pos hJ,if_neg]
        intro hpw
        have hm:(f.map (·.1))[n.toNat]?=some x.1:=by rw[List.getElem?_map,hg];try rfl
        have hm':(f.map (·.1))[(n-1).toNat]?=some y.1:=by rw[List.getElem?_map,hg'];try rfl
        have:=List.pairwise_iff_getElem.1 hpw (n-1).toNat n.toNat (List.getElem?_eq_some_iff.1 hm').1 (List.getElem?_eq_some_iff.1 hm).1 (by omega)
        rw[(List.getElem?_eq_some_iff.1 hm').2,(List.getElem?_eq_some_iff.1 hm).2] at this
        omega
      · have hb:¬ y.1>=x.1:=by simpa using hb
        rw[e1,x4c hg,List.map_append]
        show (_++[x.1]).Pairwise (·<·)
        rw[y3x]
        refine⟨hS,λz hz=>?_⟩
        have hts':=x4c hg'
        rw[show (n-1).toNat+1=n.toNat by omega] at hts'
        rw[hts',List.map_append] at hS hz
        have hS:(_++[y.1]).Pairwise (·<·):=hS
        rw[y3x] at hS
        rcases List.mem_append.1 hz with hz|hz
        · have:=hS.2 z hz;omega
        · simp only[List.map_cons,List.map_nil,List.mem_singleton] at hz;omega
      · show ((f.length:Int)-(n+1)).toNat<((f.length:Int)-n).toNat;omega
    · have hn:¬ n<f.length:=by have:¬ n<u.n:=by simpa using hn
                               omega
      rw[List.take_of_length_le (by omega)] at hS
      unfold zkd;rw[if_neg (by omega),if_pos hJ,if_pos hS]

end Go.Proofs.YtnhdkkblehadjabGreat
end
