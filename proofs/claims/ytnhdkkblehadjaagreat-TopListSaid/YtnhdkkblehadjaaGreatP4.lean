/- The engine, parts R1, R2, R3, R4, put together. Conditions: none. -/
import Derived.Test.YtnhdkkblehadjaaGreatP3
import Derived.Test.YtnhdkkblehadjaaGreatE7
import Derived.Laws.Externs
import Derived.Test.YtnhdkkblehadjaaGreatFx
open Bool renaming eq_iff_iff->Qa,or_eq_false_iff->Qb,not_eq_true'->Qc,or_eq_true->Qd,not_eq_false'->Qe,and_eq_true->Qg
open Go.Eng.Hp renaming le_refl->Qh
open Int renaming toNat_natCast->Qi,mul_nonneg->Qj,mul_neg_of_neg_of_pos->Ql,mul_add->Qm,lt_or_le->Qn,eq_ofNat_of_zero_le->Qo
open Go.IntKind renaming i64->Qp
open List renaming getElem?_eq_some_iff->Qq,take_length->Qr,mem_singleton->Qs,mem_append->Qt,map_append->Qu,getElem?_map->Qv,pairwise_iff_getElem->Qw,mem_of_getElem?->Qx,map_nil->Qy,map_cons->Qz,getD_eq_getElem?_getD->Q1
open Nat renaming gcd->Q2,gcd_comm->Q3
set_option linter.unusedVariables false
section
set_option maxRecDepth 100000
open Go Go.Eng Go.Proofs
namespace Go.Proofs.YtnhdkkblehadjaaGreat
variable{H:Hp}{x y a b n h1 l1 h2 l2:Int}{p q:Pt}{t r:Int×Int}{c d:Bool}{u:Slc}{f:List Pt}
theorem y79:qF F.f185 #[.int .u64 x] H (.bool false):=vc185 ⟨by simp,Qh _⟩
theorem y77:qF F.f123 #[vi x] H (.bool false):=vc123 ⟨by simp,Qh _⟩
theorem zrl:qF F.f124 #[.int .u64 x,.int .u64 y] H (vi (zoo x y)):=by
 refine vc124 ⟨_,y79,_,y79,λh=>(by cases h),λ_=>⟨λh=>(by cases h),λ_=>⟨λh=>⟨?_,Qh _⟩,λh=>⟨λh'=>⟨?_,Qh _⟩,λh'=>⟨?_,Qh _⟩⟩⟩⟩⟩
 ·have:x<y:=by simpa using h
  unfold zoo;rw[Zp this]
 ·have h1:¬ x<y:=by simpa using h
  have h2:x>y:=by simpa using h'
  unfold zoo;rw[Zn h1,Zp h2]
 ·have h1:¬ x<y:=by simpa using h
  have h2:¬ x>y:=by simpa using h'
  unfold zoo;rw[Zn h1,Zn h2]
theorem zrj:qF F.f69 #[vi x,vi y] H (vi (zoo x y)):=by
 refine vc69 ⟨_,y77,_,y77,λh=>(by cases h),λ_=>⟨λh=>(by cases h),λ_=>⟨λh=>⟨?_,Qh _⟩,λh=>⟨λh'=>⟨?_,Qh _⟩,λh'=>⟨?_,Qh _⟩⟩⟩⟩⟩
 ·have:x<y:=by simpa using h
  unfold zoo;rw[Zp this]
 ·have h1:¬ x<y:=by simpa using h
  have h2:x>y:=by simpa using h'
  unfold zoo;rw[Zn h1,Zp h2]
 ·have h1:¬ x<y:=by simpa using h
  have h2:¬ x>y:=by simpa using h'
  unfold zoo;rw[Zn h1,Zn h2]
theorem yud(h:inI n):qF F.f109 #[vi n] H (.int .u64 (z2u n)):=by
 obtain⟨h1,h2⟩:=h;refine vc109 ⟨λhc=>⟨?_,Qh _⟩,λhc=>⟨?_,Qh _⟩⟩
 ·have hc:n<0:=by simpa using hc
  congr 1;unfold xcl z2u;rw[Zp hc];omega
 ·have hc:¬ n<0:=by simpa using hc
  congr 1;unfold xcl z2u;rw[Zn hc];omega
theorem ywv(h:inI n):qF F.f57 #[vi n] H (.int .u64 (z2u n)):=by
 obtain⟨h1,h2⟩:=h;refine vc57 ⟨λhc=>?_,λhc=>⟨?_,Qh _⟩⟩
 ·have hc:n<0:=by simpa using hc
  refine⟨by unfold inI;omega,by unfold inI;omega,?_,Qh _⟩;congr 1;unfold xcl z2u;rw[Zp hc];omega
 ·have hc:¬ n<0:=by simpa using hc
  congr 1;unfold xcl z2u;rw[Zn hc];omega
theorem y2i{m:Int}(hm:0<m)(hn:0<=n)(h:Q2 n.toNat m.toNat=Q2 a.toNat b.toNat):0<=n.tmod m/\n.tmod m<m/\Q2 m.toNat (n.tmod m).toNat=Q2 a.toNat b.toNat:=by
 have e:n.tmod m=n%m:=Int.tmod_eq_emod_of_nonneg hn;have e2:(n%m).toNat=n.toNat%m.toNat:=by
  obtain⟨x,rfl⟩:=Qo hn;obtain⟨y,rfl⟩:=Qo (Int.le_of_lt hm);rfl
 refine⟨by rw[e];exact Int.emod_nonneg _ (by omega),by rw[e];exact Int.emod_lt_of_pos _ hm,?_⟩;rw[e,e2,← h];rw[Q3 m.toNat,← Nat.gcd_rec,Q3]
theorem yul(ha:0<=a)(hb:0<=b):qF F.f108 #[.int .u64 a,.int .u64 b] H (.int .u64 (Q2 a.toNat b.toNat:Nat)):=by
  refine vc108 ⟨λn m H'=>H'=H/\0<=n/\0<=m/\Q2 n.toNat m.toNat=Q2 a.toNat b.toNat,λ_ m _=>m.toNat,⟨rfl,ha,hb,rfl⟩,λn m H' ⟨e,h1,h2,h3⟩=>?_⟩;subst e;refine⟨λhc=>?_,λhc=>⟨?_,Qh _⟩⟩
  · have hc:0<m:=by simpa using hc
    obtain⟨g1,g2,g3⟩:=y2i hc h1 h3;exact⟨by unfold nz;omega,⟨rfl,h2,g1,g3⟩,by show (n.tmod m).toNat<m.toNat;omega⟩
  · have:m=0:=by have:¬ m>0:=by simpa using hc
                 omega
    subst this;rw[← h3];simp;omega
theorem yvr(ha:0<=a)(hb:0<=b):qF F.f56 #[.int .u64 a,.int .u64 b] H (.int .u64 (Q2 a.toNat b.toNat:Nat)):=by
 refine vc56 ⟨λn m H'=>H'=H/\0<=n/\0<=m/\Q2 n.toNat m.toNat=Q2 a.toNat b.toNat,λ_ m _=>m.toNat,⟨rfl,ha,hb,rfl⟩,λn m H' ⟨e,h1,h2,h3⟩=>?_⟩;subst e;refine⟨λhc=>?_,λhc=>⟨?_,Qh _⟩⟩
 ·have hc:0<m:=by have:m≠0:=by simpa using hc
                  omega
  obtain⟨g1,g2,g3⟩:=y2i hc h1 h3;exact⟨by unfold nz;omega,⟨rfl,h2,g1,g3⟩,by show (n.tmod m).toNat<m.toNat;omega⟩
 ·have:m=0:=by simpa using hc
  subst this;rw[← h3];simp;omega
theorem yke(h:zzn r):okR r↔1<=r.2/\r.1≠-9223372036854775808/\Q2 r.1.natAbs r.2.natAbs=1:=by
 obtain⟨⟨h1,h2⟩,h3,h4⟩:=h;constructor
 ·intro o;have:=o.n1;exact⟨o.d1,by omega,o.g⟩
 ·intro ⟨a,b,c⟩;exact⟨a,by omega,by omega,by omega,c⟩
theorem yui(h:zzn r):qF F.f59 #[.agg #[vi r.1,vi r.2]] H (vi (zm6 r)):=by
 have hk:=yke h;obtain⟨hn,hd⟩:=h;have hd':=hd;obtain⟨d1,d2⟩:=hd';refine vc59 ⟨_,λ_=>yud hn,(Q2 r.2.toNat r.1.natAbs:Nat),λhc=>?_,λhc=>⟨?_,Qh _⟩,λhc=>⟨?_,Qh _⟩⟩
 ·simp only[Qc,Qb,Zt] at hc;have e:xcl r.2=r.2:=by unfold xcl;omega
  rw[e];have:=yul (H:=H) (a:=r.2) (b:=z2u r.1) (by omega) (z33 _);rw[z30,Qi] at this;rw[z30];exact this
 ·rw[zm7];rw[hk];intro ⟨a,b,c⟩;simp only[Qd,Zq,beq_iff_eq] at hc;rcases hc with(hc|hc)|hc
  ·omega
  ·exact b hc
  ·have e:r.2.toNat=r.2.natAbs:=by omega
   rw[e,Q3,c] at hc;omega
 ·rw[zm8];rw[hk];simp only[Qb,Zt,beq_eq_false_iff_ne] at hc;obtain⟨⟨a,b⟩,c⟩:=hc;refine⟨by omega,b,?_⟩;have e:r.2.toNat=r.2.natAbs:=by omega
  rw[e,Q3] at c;have:0<Q2 r.1.natAbs r.2.natAbs:=Nat.gcd_pos_of_pos_right _ (by omega);omega
theorem yws(h:zzn r):qF F.f24 #[.agg #[vi r.1,vi r.2]] H (vi (zm6 r)):=by
 have hk:=yke h;obtain⟨hn,hd⟩:=h;have hd':=hd;obtain⟨d1,d2⟩:=hd';refine vc24 ⟨_,λ_=>ywv hn,(Q2 r.1.natAbs r.2.toNat:Nat),λhc=>?_,λhc=>⟨?_,Qh _⟩,λhc=>⟨?_,Qh _⟩⟩
 ·simp only[Qc,Qb,Zt] at hc;have e:xcl r.2=r.2:=by unfold xcl;omega
  rw[e];have:=yvr (H:=H) (a:=z2u r.1) (b:=r.2) (z33 _) (by omega);rw[z30,Qi] at this;rw[z30];exact this
 ·rw[zm7];rw[hk];intro ⟨a,b,c⟩;simp only[Qd,Zq,beq_iff_eq,bne_iff_ne] at hc;rcases hc with(hc|hc)|hc
  ·omega
  ·exact b hc
  ·have e:r.2.toNat=r.2.natAbs:=by omega
   rw[e,c] at hc;omega
 ·rw[zm8];rw[hk];simp only[Qb,Zt,beq_eq_false_iff_ne,bne_eq_false_iff_eq] at hc;obtain⟨⟨a,b⟩,c⟩:=hc;refine⟨by omega,b,?_⟩;have e:r.2.toNat=r.2.natAbs:=by omega
  rw[e] at c;omega
theorem yug{a b:Int×Int}(ha:zzn a)(hb:zzn b):qF F.f68 #[.agg #[vi a.1,vi a.2],.agg #[vi b.1,vi b.2]] H (vi (if okR a/\okR b then 0 else 8)):=by
 refine vc68 ⟨_,yui ha,_,yui hb,?_,Qh _⟩;congr 1;by_cases h1:okR a <;> by_cases h2:okR b
 ·rw[zm8 h1,zm8 h2];simp[h1,h2]
 ·rw[zm8 h1,zm7 h2];simp[h1,h2]
 ·rw[zm7 h1,zm8 h2];simp[h1,h2]
 ·rw[zm7 h1,zm7 h2];simp[h1,h2]
theorem yfp(hx:0<=x)(hx':x<18446744073709551616)(hy:0<=y)(hy':y<18446744073709551616) :
  qF F.f125 #[.int .u64 x,.int .u64 y] H (.tuple #[.int .u64 (x*y/18446744073709551616),.int .u64 (x*y%18446744073709551616)]):=by
 refine vc125 ⟨by unfold nn;omega,by unfold nn;omega,by unfold nn;omega,by unfold nn;omega,by unfold nn;omega,?_,Qh _⟩;have hW:∀z:Int,0<=xcl z/\xcl z<18446744073709551616:=λz=>by unfold xcl;omega
 rw[yce hx hx',yce hy hy',x0p hx,x0p hy,x0p (hW _).1,x0p (hW _).1,yce (hW _).1 (hW _).2,x0p (hW _).1,y4n hx hx' hy hy'];rfl
theorem z2t(h:inI n):0<=z2u n/\z2u n<=9223372036854775808:=by
 obtain⟨h1,h2⟩:=h;unfold z2u;split <;> omega
theorem yus(ha:inI a)(hb:inI b) :
  qF F.f71 #[vi a,vi b] H (.agg #[.bool (!(decide (a<0)==decide (b<0))),.int .u64 (z2u (a*b)/18446744073709551616),.int .u64 (z2u (a*b)%18446744073709551616)]):=by
 have h1:=z2t ha;have h2:=z2t hb;refine vc71 ⟨_,yud ha,_,yud hb,_,_,yfp (by omega) (by omega) (by omega) (by omega),?_,Qh _⟩;rw[z2y]
theorem yuk(hx:0<=x)(hy:0<=y) :
  qF F.f70 #[.agg #[.bool c,.int .u64 (x/18446744073709551616),.int .u64 (x%18446744073709551616)],.agg #[.bool d,.int .u64 (y/18446744073709551616),.int .u64 (y%18446744073709551616)]] H (vi (zoo x y)):=by
 refine vc70 ⟨_,zrl,λhc=>⟨?_,Qh _⟩,λhc=>⟨_,zrl,?_,Qh _⟩⟩
 ·have hc:zoo (x/18446744073709551616) (y/18446744073709551616)≠0:=by simpa using hc
  congr 1;have h1:¬ x/18446744073709551616=y/18446744073709551616:=λe=>hc (zop.2 e)
  unfold zoo;split
  ·rw[Zp (by omega)]
  ·rw[Zp (by omega),Zn (by omega),Zp (by omega)]
 ·have hc:zoo (x/18446744073709551616) (y/18446744073709551616)=0:=by simpa using hc
  have h1:=zop.1 hc;congr 1;unfold zoo;split
  ·rw[Zp (by omega)]
  ·split
   ·rw[Zn (by omega),Zp (by omega)]
   ·rw[Zn (by omega),Zn (by omega)]
theorem zp6{a b:Int×Int}(ha:okR a)(hb:okR b)(hs:a.1<0↔b.1<0):(if a.1<0 then 0-zoo (z2u (a.1*b.2)) (z2u (b.1*a.2)) else zoo (z2u (a.1*b.2)) (z2u (b.1*a.2)))=zp5 a b:=by
 have da:=ha.d1;have db:=hb.d1;unfold zp5;split
 ·rename_i h;have h':=hs.1 h;have p:=Ql h (show 0<b.2 by omega);have q:=Ql h' (show 0<a.2 by omega);rw[zou];unfold z2u;rw[Zp p,Zp q];unfold zoo;split
  ·rw[Zp (by omega)]
  ·split
   ·rw[Zn (by omega),Zp (by omega)]
   ·rw[Zn (by omega),Zn (by omega)]
 ·rename_i h;have h':¬ b.1<0:=λx=>h (hs.2 x)
  have p:=Qj (show 0<=a.1 by omega) (show 0<=b.2 by omega);have q:=Qj (show 0<=b.1 by omega) (show 0<=a.2 by omega);unfold z2u;rw[Zn (by omega),Zn (by omega)]
theorem zpj{a b:Int×Int}(ha:okR a)(hb:okR b)(hs:¬ (a.1<0↔b.1<0)):zoo a.1 b.1=zp5 a b:=by
 have da:=ha.d1;have db:=hb.d1;unfold zp5;by_cases h:a.1<0
 ·have h':¬ b.1<0:=λx=>hs (iff_of_true h x)
  have p:=Ql h (show 0<b.2 by omega);have q:=Qj (show 0<=b.1 by omega) (show 0<=a.2 by omega);unfold zoo;rw[Zp (by omega),Zp (by omega)]
 ·have h':b.1<0:=by
   rcases Qn b.1 0 with x|x
   ·exact x
   ·exact absurd (iff_of_false h (by omega)) hs
  have p:=Qj (show 0<=a.1 by omega) (show 0<=b.2 by omega);have q:=Ql h' (show 0<a.2 by omega);unfold zoo;rw[Zn (by omega),Zp (by omega),Zn (by omega),Zp (by omega)]
def cmpM(a b:Int×Int):Int×Int:=if okR a/\okR b then (zp5 a b,0) else (0,8)
theorem yuj{a b:Int×Int}(ha:zzn a)(hb:zzn b):qF F.f30 #[.agg #[vi a.1,vi a.2],.agg #[vi b.1,vi b.2]] H (.tuple #[vi (cmpM a b).1,vi (cmpM a b).2]):=by
 refine vc30 ⟨_,yug ha hb,λhc=>⟨?_,Qh _⟩,λhc=>?_⟩
 ·have:¬ (okR a/\okR b):=λh=>by rw[Zp h] at hc;simp at hc
  unfold cmpM;rw[Zn this,Zn this]
 ·have hk:okR a/\okR b:=by
   by_cases h:okR a/\okR b
   ·exact h
   ·rw[Zn h] at hc;simp at hc
  obtain⟨oa,ob⟩:=hk;have e:cmpM a b=(zp5 a b,0):=by unfold cmpM;rw[Zp ⟨oa,ob⟩]
  rw[e];refine⟨λhs=>⟨_,zrj,?_,Qh _⟩,λhs=>⟨_,_,_,yus ha.1 hb.2,_,_,_,yus hb.1 ha.2,_,yuk (z33 _) (z33 _),λhn=>⟨?_,?_,Qh _⟩,λhn=>⟨?_,Qh _⟩⟩⟩
  ·rw[zpj oa ob];intro h;simp only[Qc,beq_eq_false_iff_ne] at hs;exact hs (by rw[Qa,Zq,Zq];exact h)
  ·have:=zow (z2u (a.1*b.2)) (z2u (b.1*a.2));unfold inI;omega
  ·have hs':a.1<0↔b.1<0:=by
    simp only[Qe,beq_iff_eq] at hs;rw[Qa,Zq,Zq] at hs;exact hs
   have hn:a.1<0:=by simpa using hn
   rw[← zp6 oa ob hs',Zp hn]
  ·have hs':a.1<0↔b.1<0:=by
    simp only[Qe,beq_iff_eq] at hs;rw[Qa,Zq,Zq] at hs;exact hs
   have hn:¬ a.1<0:=by simpa using hn
   rw[← zp6 oa ob hs',Zn hn]
theorem zau(h:¬ c=d):(c=true->d=false)/\(c=false->d=true):=by
 revert h;cases c <;> cases d <;> simp
theorem ywq(hx:0<=x)(hx':x<18446744073709551616)(hy:0<=y)(hy':y<18446744073709551616) :
  qF F.f106 #[.int .u64 x,.int .u64 y] H (.agg #[.bool false,.int .u64 (x*y/18446744073709551616),.int .u64 (x*y%18446744073709551616)]):=by
 refine vc106 ⟨by unfold nz;omega,by unfold nz;omega,by unfold nz;omega,by unfold nz;omega,by unfold nz;omega,by unfold nz;omega,by unfold nz;omega,by unfold nz;omega,by unfold nz;omega,by unfold nz;omega,?_,Qh _⟩;rw[tdH hx,tdH hy,tmH hx,tmH hy];simp only[twd,twm];rw[(ysg hx hx' hy hy').1,(ysg hx hx' hy hy').2]
theorem ywr(ha:inI a)(hb:inI b):∃c h l,qF F.f53 #[vi a,vi b] H (.agg #[.bool c,.int .u64 h,.int .u64 l])/\z0d c h l (a*b):=by
 have h1:=z2t ha;have h2:=z2t hb;have hm:=yfq h1.1 h1.2 h2.1 h2.2;refine⟨_,_,_,vc53 ⟨_,ywv ha,_,ywv hb,_,_,_,ywq (by omega) (by omega) (by omega) (by omega),rfl,Qh _⟩,?_⟩;rw[z2y] at hm ⊢;have key:(!(decide (a<0)==decide (b<0))&&(a != 0&&b != 0))=decide (a*b<0):=by
  rw[Qa,Zq,yft];simp only[Qg,Qc,beq_eq_false_iff_ne,bne_iff_ne];by_cases x:a<0 <;> by_cases y:b<0 <;> simp[x,y] <;> omega
 rw[key];generalize a*b=v at *
 refine⟨by omega,by omega,by omega,by omega,λh=>?_,λh=>?_⟩
 ·have h:v<0:=by simpa using h
  refine⟨h,?_⟩;have:z2u v = -v:=by unfold z2u;rw[Zp h]
  omega
 ·have h:¬ v<0:=by simpa using h
  have:z2u v=v:=by unfold z2u;rw[Zn h]
  omega
theorem ywa(a0:0<=l1)(a1:l1<18446744073709551616)(b0:0<=l2)(b1:l2<18446744073709551616) :
  qF F.f55 #[.agg #[.bool c,.int .u64 h1,.int .u64 l1],.agg #[.bool d,.int .u64 h2,.int .u64 l2]] H (vi (zoo (h1*18446744073709551616+l1) (h2*18446744073709551616+l2))):=by
 refine vc55 ⟨λhc=>⟨λhl=>⟨?_,Qh _⟩,λhl=>⟨?_,Qh _⟩⟩,λhc=>⟨λhl=>⟨λhx=>⟨?_,Qh _⟩,λhx=>⟨?_,Qh _⟩⟩,λhl=>⟨?_,Qh _⟩⟩⟩
 ·simp at hc hl;unfold zoo;rw[Zp (by omega)]
 ·simp at hc hl;unfold zoo;rw[Zn (by omega),Zp (by omega)]
 ·simp at hc hl hx;unfold zoo;rw[Zp (by omega)]
 ·simp at hc hl hx;unfold zoo;rw[Zn (by omega),Zp (by omega)]
 ·simp at hc hl;unfold zoo;rw[Zn (by omega),Zn (by omega)]
theorem ywf(a0:0<=l1)(a1:l1<18446744073709551616)(b0:0<=l2)(b1:l2<18446744073709551616)(a2:0<=h1)(a3:h1<18446744073709551616)(b2:0<=h2)(b3:h2<18446744073709551616)
  (hv:h2*18446744073709551616+l2<=h1*18446744073709551616+l1) :
  ∃h l,qF F.f265 #[.agg #[.bool c,.int .u64 h1,.int .u64 l1],.agg #[.bool d,.int .u64 h2,.int .u64 l2]] H (.agg #[.bool false,.int .u64 h,.int .u64 l]) /\
   0<=h/\h<18446744073709551616/\0<=l/\l<18446744073709551616/\h*18446744073709551616+l=(h1*18446744073709551616+l1)-(h2*18446744073709551616+l2):=by
 by_cases hl:l1<l2
 ·refine⟨_,_,vc265 ⟨λ_=>⟨rfl,Qh _⟩,λhc=>by simp at hc;omega⟩,?_⟩;unfold xcl;omega
 ·refine⟨_,_,vc265 ⟨λhc=>by simp at hc;omega,λ_=>⟨rfl,Qh _⟩⟩,?_⟩;unfold xcl;omega
theorem ywp{v1 v2:Int}(b1:z0d c h1 l1 v1)(b2:z0d d h2 l2 v2)(r1:z2u v1<85070591730234615865843651857942052864)(r2:z2u v2<85070591730234615865843651857942052864) :
  ∃e h l,qF F.f244 #[.agg #[.bool c,.int .u64 h1,.int .u64 l1],.agg #[.bool d,.int .u64 h2,.int .u64 l2]] H (.agg #[.bool e,.int .u64 h,.int .u64 l])/\z0d e h l (v1+v2):=by
 by_cases hcd:c=d
 ·subst hcd;obtain⟨k1,k2⟩:=b1.add b2 r1 r2;by_cases hl:xcl (l1+l2)<l1
  ·exact⟨_,_,_,vc244 ⟨λ_=>⟨λ_=>⟨rfl,Qh _⟩,λhx=>by simp at hx;omega⟩,λhx=>by simp at hx⟩,k1 hl⟩
  ·exact⟨_,_,_,vc244 ⟨λ_=>⟨λhx=>by simp at hx;omega,λ_=>⟨rfl,Qh _⟩⟩,λhx=>by simp at hx⟩,k2 hl⟩
 ·have b1':=b1;have b2':=b2;obtain⟨p0,p1,p2,p3,p4,p5⟩:=b1';obtain⟨q0,q1,q2,q3,q4,q5⟩:=b2';have hle:=ywa (H:=H) (c:=c) (d:=d) (h1:=h1) (l1:=l1) (h2:=h2) (l2:=l2) p2 p3 q2 q3;by_cases hv:h2*18446744073709551616+l2<=h1*18446744073709551616+l1
  ·obtain⟨h,l,hq,g0,g1,g2,g3,g4⟩:=ywf (H:=H) (c:=c) (d:=d) p2 p3 q2 q3 p0 p1 q0 q1 hv;refine⟨_,_,_,vc244 ⟨λhx=>by simp at hx;exact absurd hx hcd,λ_=>⟨_,hle,λ_=>⟨_,_,_,hq,rfl,Qh _⟩,λhx=>?_⟩⟩,?_⟩
   ·have:zoo (h1*18446744073709551616+l1) (h2*18446744073709551616+l2)<0:=by simpa using hx
    rw[zos] at this;omega
   ·refine⟨g0,g1,g2,g3,λhx=>?_,λhx=>?_⟩
    ·simp only[Qg,Qd,Zq] at hx;have hc:=hx.1;subst hc;have hd:d=false:=(zau hcd).1 rfl;subst hd;have:=p4 rfl;have:=q5 rfl;omega
    ·cases c
     ·have hd:d=true:=(zau hcd).2 rfl;subst hd;have:=p5 rfl;have:=q4 rfl;omega
     ·have hd:d=false:=(zau hcd).1 rfl;subst hd;have:=p4 rfl;have:=q5 rfl;simp at hx;omega
  ·obtain⟨h,l,hq,g0,g1,g2,g3,g4⟩:=ywf (H:=H) (c:=d) (d:=c) q2 q3 p2 p3 q0 q1 p0 p1 (by omega);refine⟨_,_,_,vc244 ⟨λhx=>by simp at hx;exact absurd hx hcd,λ_=>⟨_,hle,λhx=>?_,λ_=>⟨_,_,_,hq,rfl,Qh _⟩⟩⟩,?_⟩
   ·have:¬ zoo (h1*18446744073709551616+l1) (h2*18446744073709551616+l2)<0:=by simpa using hx
    rw[zos] at this;omega
   ·refine⟨g0,g1,g2,g3,λhx=>?_,λhx=>?_⟩
    ·subst hx;have hc:c=false:=(zau (λe=>hcd e.symm)).1 rfl;subst hc;have:=p5 rfl;have:=q4 rfl;omega
    ·subst hx;have hc:c=true:=(zau (λe=>hcd e.symm)).2 rfl;subst hc;have:=p4 rfl;have:=q5 rfl;omega
theorem ywu{h l v:Int}(b:z0d c h l v):qF F.f54 #[.agg #[.bool c,.int .u64 h,.int .u64 l]] H (vi (sgn v)):=by
 obtain⟨p0,p1,p2,p3,p4,p5⟩:=b;refine vc54 ⟨λhc=>⟨?_,Qh _⟩,λhc=>⟨λhn=>⟨?_,Qh _⟩,λhn=>⟨?_,Qh _⟩⟩⟩
 ·simp at hc;have:v=0:=by
   cases c
   ·have:=p5 rfl;omega
   ·have:=p4 rfl;omega
  subst this;rfl
 ·subst hn;have:=p4 rfl;unfold sgn;rw[Zp this.1]
 ·subst hn;have:=p5 rfl;simp at hc;unfold sgn;rw[Zn (by omega),Zp (by omega)]
theorem yvs{a b:Int×Int}(ha:okR a)(hb:okR b):qF F.f23 #[.agg #[vi a.1,vi a.2],.agg #[vi b.1,vi b.2]] H (vi (zp5 a b)):=by
  obtain⟨c,h,l,q1,b1⟩:=ywr (H:=H) ha.fit.1 hb.fit.2;obtain⟨c',h',l',q2,b2⟩:=ywr (H:=H) hb.fit.1 ha.fit.2;have s1:=ywu (H:=H) b1;have s2:=ywu (H:=H) b2;have p:=b1;have p':=b2;obtain⟨p0,p1,p2,p3,p4,p5⟩:=p;obtain⟨r0,r1,r2,r3,r4,r5⟩:=p';unfold zp5;refine vc23 ⟨_,_,_,q1,_,_,_,q2,_,s1,_,s2,λhc=>⟨_,s1,_,s2,λhx=>⟨?_,Qh _⟩,λhx=>⟨?_,Qh _⟩⟩,λhc=>⟨_,s1,λhx=>⟨_,ywa r2 r3 p2 p3,?_,Qh _⟩,λhx=>⟨_,ywa p2 p3 r2 r3,?_,Qh _⟩⟩⟩
  · simp only[bne_iff_ne,Zq] at hc hx
    unfold sgn at hx hc;unfold zoo;rw[Zp];split at hx <;> split at hx <;> omega
  · simp only[bne_iff_ne,Zt] at hc hx
    unfold sgn at hx hc;unfold zoo;rw[Zn,Zp]
    · split at hx <;> split at hx <;> omega
    · split at hx <;> split at hx <;> omega
  · simp only[bne_eq_false_iff_eq,Zq] at hc hx
    have v1:a.1*b.2<0:=by unfold sgn at hx;split at hx <;> omega
    have v2:b.1*a.2<0:=by unfold sgn at hx hc;split at hc <;> split at hc <;> omega
    have e1:c=true:=by cases c;· have:=p5 rfl;omega
                       · rfl
    have e2:c'=true:=by cases c';· have:=r5 rfl;omega
                        · rfl
    rw[(p4 e1).2,(r4 e2).2];congr 1;unfold zoo;split
    · rw[Zp (by omega)]
    · split
      · rw[Zn (by omega),Zp (by omega)]
      · rw[Zn (by omega),Zn (by omega)]
  · simp only[bne_eq_false_iff_eq,Zt] at hc hx
    have v1:¬ a.1*b.2<0:=by intro h;unfold sgn at hx;rw[Zp h] at hx;omega
    have v2:¬ b.1*a.2<0:=by
      intro h;unfold sgn at hx hc;rw[Zn v1] at hc hx;rw[Zp h] at hc;split at hc <;> omega
    have e1:c=false:=by cases c;· rfl
                        · have:=p4 rfl;omega
    have e2:c'=false:=by cases c';· rfl
                         · have:=r4 rfl;omega
    rw[(p5 e1).2,(r5 e2).2]
theorem zxf(hp:okP p)(hq:okP q)(ht:okR t) :
  z2u ((p.2.1-q.2.1)*t.2)<=19342813113834066795298816/\z2u ((p.2.2-q.2.2)*t.1)<=19342813113834066795298816/\inI (p.2.1-q.2.1)/\inI (p.2.2-q.2.2):=by
 obtain⟨_,_,a0,a1,b0,b1⟩:=hp;obtain⟨_,_,c0,c1,d0,d1⟩:=hq;obtain⟨t1,t2,t3,t4,_⟩:=ht;refine⟨?_,?_,by unfold inI;omega,by unfold inI;omega⟩
 ·exact z2z (m:=2097152) (n:=9223372036854775808) (z2x (by omega) (by omega)) (z2x (by omega) (by omega))
 ·exact z2z (m:=2097152) (n:=9223372036854775808) (z2x (by omega) (by omega)) (z2x (by omega) (by omega))
theorem yvy(hp:okP p)(hq:okP q)(ht:okR t) :
  qF F.f197 #[.agg #[vi p.1,vi p.2.1,vi p.2.2],.agg #[vi q.1,vi q.2.1,vi q.2.2],.agg #[vi t.1,vi t.2]] H (vi (sgn (zxg p q t))):=by
 obtain⟨r1,r2,i1,i2⟩:=zxf hp hq ht;obtain⟨c,h,l,q1,b1⟩:=ywr (H:=H) i1 ht.fit.2;obtain⟨c',h',l',q2,b2⟩:=ywr (H:=H) i2 ht.fit.1;obtain⟨e,h3,l3,q3,b3⟩:=ywp (H:=H) b1 b2 (by omega) (by omega);exact vc197 ⟨i1,_,_,_,q1,i2,_,_,_,q2,_,_,_,q3,_,ywu b3,rfl,Qh _⟩
theorem yw9(hp:okP p)(hq:okP q)(ht:okR t) :
  qF F.f149 #[.agg #[vi p.1,vi p.2.1,vi p.2.2],.agg #[vi q.1,vi q.2.1,vi q.2.2],.agg #[vi t.1,vi t.2]] H (.bool (leads p q t)):=by
 refine vc149 ⟨_,yvy hp hq ht,λhc=>⟨?_,Qh _⟩,λhc=>⟨λhb=>⟨?_,Qh _⟩,λhb=>⟨?_,Qh _⟩⟩⟩
 ·have hc:sgn (zxg p q t)≠0:=by simpa using hc
  unfold leads;have:zxg p q t≠0:=λe=>hc (by rw[e];try rfl)
  rw[Zp this];congr 1;rw[Qa,Zq,Zq];unfold sgn;split
  ·omega
  ·split <;> omega
 all_goals
  have hc:sgn (zxg p q t)=0:=by simpa using hc
  have e:zxg p q t=0:=by unfold sgn at hc;split at hc;· omega
                         ·split at hc <;> omega
  unfold leads;rw[Zn (by omega)]
 ·rw[Zp (by simpa using hb)]
 ·rw[Zn (by simpa using hb)]
theorem ywi:qF F.f7 #[.agg #[vi p.1,vi p.2.1,vi p.2.2]] H (vi (zm1 p)):=by
 refine vc7 ⟨λhc=>⟨?_,Qh _⟩,λhc=>⟨?_,Qh _⟩⟩
 ·rw[zm2];intro h;have:=h.i0;have:=h.i1;have:=h.a0;have:=h.a1;have:=h.b0;have:=h.b1;simp at hc;omega
 ·simp at hc;rw[zm4 ⟨by omega,by omega,by omega,by omega,by omega,by omega⟩]
theorem z3b(hx:0<=x)(hy:0<=y):OpQ Tryz.prog (callFunc F.f201 #[.int .u64 x,.int .u64 y,.int .u64 0]) H (.tuple #[.int .u64 ((x+y)%18446744073709551616),.int .u64 ((x+y)/18446744073709551616)]):=by
 intro w _;rw[run_callFunc_extern y12 (by kernel_rfl) (by kernel_rfl) (by kernel_rfl) (e:=add64Entry) (by kernel_rfl),run_add64 x y 0 hx hy (by omega) (by omega)];simp only[Result.andThen,Int.add_zero]
theorem yfv(ha:inI a)(hb:inI b):xcl a*xcl b=a*b+18446744073709551616*((if a<0 then b else 0)+(if b<0 then a else 0)+(if a<0/\b<0 then 18446744073709551616 else 0)):=by
 obtain⟨a1,a2⟩:=ha;obtain⟨b1,b2⟩:=hb;have ea:xcl a=a+(if a<0 then 18446744073709551616 else 0):=by unfold xcl;split <;> omega
 have eb:xcl b=b+(if b<0 then 18446744073709551616 else 0):=by unfold xcl;split <;> omega
 rw[ea,eb,Int.add_mul,Qm,Qm];generalize a*b=P;by_cases ha:a<0 <;> by_cases hb:b<0 <;> simp only[ha,hb,if_true,if_false,and_self,and_true,and_false] <;> omega
theorem x6l{hi lo V:Int}(ha:inI a)(hb:inI b)(hab:z2u (a*b)<=19342813113834066795298816)(hV:hi*18446744073709551616+lo=V)(l0:0<=lo)(l1:lo<18446744073709551616)(hVa:z2u V<=19342813113834066795298816){k:Int}
  (hk:k=(xcl a*xcl b/18446744073709551616)-(if a<0 then b else 0)-(if b<0 then a else 0)) :
  ∀x:Int,x%18446744073709551616=(hi+k+(lo+xcl a*xcl b%18446744073709551616)/18446744073709551616)%18446744073709551616->-9223372036854775808<=x->x<=9223372036854775807 ->
   x*18446744073709551616+(lo+xcl a*xcl b%18446744073709551616)%18446744073709551616=V+a*b:=by
 intro x hx x0 x1;rw[yfv ha hb] at hk hx ⊢;have b1:=z2t ha;have b2:=z2t hb;unfold z2u at hab hVa;generalize a*b=P at *
 obtain⟨a1,a2⟩:=ha;obtain⟨c1,c2⟩:=hb;split at hab <;> split at hVa <;> (by_cases h1:a<0 <;> by_cases h2:b<0 <;> simp only[h1,h2,if_true,if_false,and_self,and_true,and_false] at hk hx ⊢ <;> omega)
theorem zsb{c d:Int}(ha:inI a)(hb:inI b)(hc:inI c)(hd:inI d)(hab:z2u (a*b)<=19342813113834066795298816)(hcd:z2u (c*d)<=19342813113834066795298816) :
    ∃hi lo,qF F.f224 #[.agg #[vi a,vi b,vi c,vi d]] H (.agg #[vi hi,.int .u64 lo])/\hi*18446744073709551616+lo=a*b+c*d/\0<=lo/\lo<18446744073709551616:=by
  have hW:∀z:Int,0<=xcl z/\xcl z<18446744073709551616:=λz=>by unfold xcl;omega
  let H1:Int:=Qp.wrap (0+(xcl a*xcl b/18446744073709551616-(if a<0 then b else 0)-(if b<0 then a else 0))+(0+xcl a*xcl b%18446744073709551616)/18446744073709551616);let L1:Int:=(0+xcl a*xcl b%18446744073709551616)%18446744073709551616;let H2:Int:=Qp.wrap (H1+(xcl c*xcl d/18446744073709551616-(if c<0 then d else 0)-(if d<0 then c else 0))+(L1+xcl c*xcl d%18446744073709551616)/18446744073709551616);let L2:Int:=(L1+xcl c*xcl d%18446744073709551616)%18446744073709551616;have wr:∀z:Int,Qp.wrap z%18446744073709551616=z%18446744073709551616/\-9223372036854775808<=Qp.wrap z/\Qp.wrap z<=9223372036854775807:=λz=>by rw[y5j];omega
  have wcong:∀y z:Int,y%18446744073709551616=z%18446744073709551616->Qp.wrap y=Qp.wrap z:=λy z h=>by rw[y5j,y5j];omega
  have s1:H1*18446744073709551616+L1=a*b:=by
    have:=x6l ha hb hab (hi:=0) (lo:=0) (V:=0) (by omega) (by omega) (by omega) (by unfold z2u;simp) rfl H1 (wr _).1 (wr _).2.1 (wr _).2.2;rw[Int.zero_add (a*b)] at this;exact this
  have l1a:0<=L1/\L1<18446744073709551616:=by
    show 0<=(0+xcl a*xcl b%18446744073709551616)%18446744073709551616/\(0+xcl a*xcl b%18446744073709551616)%18446744073709551616<_;generalize xcl a*xcl b=P;omega
  have s2:H2*18446744073709551616+L2=a*b+c*d :=
    x6l hc hd hcd s1 l1a.1 l1a.2 hab rfl H2 (wr _).1 (wr _).2.1 (wr _).2.2
  have l2a:0<=L2/\L2<18446744073709551616:=by
    show 0<=(L1+xcl c*xcl d%18446744073709551616)%18446744073709551616/\(L1+xcl c*xcl d%18446744073709551616)%18446744073709551616<_;generalize xcl c*xcl d=P;omega
  refine⟨H2,L2,?_,s2,l2a.1,l2a.2⟩;refine vc224 ⟨λi h l H'=>H'=H/\((i=0/\h=0/\l=0)\/(i=1/\h=H1/\l=L1)\/(i=2/\h=H2/\l=L2)),λi _ _ _=>(2-i).toNat,⟨rfl,.inl ⟨rfl,rfl,rfl⟩⟩,λi h l H' ⟨e,hi⟩=>⟨λhn=>?_,λhn=>?_⟩⟩
  · subst e
    have hn:i<2:=by simpa using hn
    have step:∀(x y:Int),0<=l->(∀h' l',h'=Qp.wrap (h+(xcl x*xcl y/18446744073709551616-(if x<0 then y else 0)-(if y<0 then x else 0))+(l+xcl x*xcl y%18446744073709551616)/18446744073709551616) ->
          l'=(l+xcl x*xcl y%18446744073709551616)%18446744073709551616->((H'=H'/\((Qp.wrap (i+1)=0/\h'=0/\l'=0)\/(Qp.wrap (i+1)=1/\h'=H1/\l'=L1)\/(Qp.wrap (i+1)=2/\h'=H2/\l'=L2)))/\(2-Qp.wrap (i+1)).toNat<(2-i).toNat)) ->
        ∃n9 n10,qF F.f125 #[.int .u64 (xcl x),.int .u64 (xcl y)] H' (.tuple #[.int .u64 n9,.int .u64 n10]) /\
         ((decide (x<0)=true->(decide (y<0)=true->∃n11 n12,OpQ Tryz.prog (callFunc F.f201 #[.int .u64 l,.int .u64 n10,.int .u64 0]) H' (.tuple #[.int .u64 n11,.int .u64 n12]) /\
            (H'=H'/\((Qp.wrap (i+1)=0/\Qp.wrap (Qp.wrap (h+Qp.wrap (Qp.wrap (Qp.wrap n9-y)-x))+Qp.wrap n12)=0/\n11=0)\/(Qp.wrap (i+1)=1/\Qp.wrap (Qp.wrap (h+Qp.wrap (Qp.wrap (Qp.wrap n9-y)-x))+Qp.wrap n12)=H1/\n11=L1)\/(Qp.wrap (i+1)=2/\Qp.wrap (Qp.wrap (h+Qp.wrap (Qp.wrap (Qp.wrap n9-y)-x))+Qp.wrap n12)=H2/\n11=L2)))/\(2-Qp.wrap (i+1)).toNat<(2-i).toNat) /\
          (decide (y<0)=false->∃n11 n12,OpQ Tryz.prog (callFunc F.f201 #[.int .u64 l,.int .u64 n10,.int .u64 0]) H' (.tuple #[.int .u64 n11,.int .u64 n12]) /\
            (H'=H'/\((Qp.wrap (i+1)=0/\Qp.wrap (Qp.wrap (h+Qp.wrap (Qp.wrap n9-y))+Qp.wrap n12)=0/\n11=0)\/(Qp.wrap (i+1)=1/\Qp.wrap (Qp.wrap (h+Qp.wrap (Qp.wrap n9-y))+Qp.wrap n12)=H1/\n11=L1)\/(Qp.wrap (i+1)=2/\Qp.wrap (Qp.wrap (h+Qp.wrap (Qp.wrap n9-y))+Qp.wrap n12)=H2/\n11=L2)))/\(2-Qp.wrap (i+1)).toNat<(2-i).toNat)) /\
         (decide (x<0)=false->(decide (y<0)=true->∃n11 n12,OpQ Tryz.prog (callFunc F.f201 #[.int .u64 l,.int .u64 n10,.int .u64 0]) H' (.tuple #[.int .u64 n11,.int .u64 n12]) /\
            (H'=H'/\((Qp.wrap (i+1)=0/\Qp.wrap (Qp.wrap (h+Qp.wrap (Qp.wrap n9-x))+Qp.wrap n12)=0/\n11=0)\/(Qp.wrap (i+1)=1/\Qp.wrap (Qp.wrap (h+Qp.wrap (Qp.wrap n9-x))+Qp.wrap n12)=H1/\n11=L1)\/(Qp.wrap (i+1)=2/\Qp.wrap (Qp.wrap (h+Qp.wrap (Qp.wrap n9-x))+Qp.wrap n12)=H2/\n11=L2)))/\(2-Qp.wrap (i+1)).toNat<(2-i).toNat) /\
          (decide (y<0)=false->∃n11 n12,OpQ Tryz.prog (callFunc F.f201 #[.int .u64 l,.int .u64 n10,.int .u64 0]) H' (.tuple #[.int .u64 n11,.int .u64 n12]) /\
            (H'=H'/\((Qp.wrap (i+1)=0/\Qp.wrap (Qp.wrap (h+Qp.wrap n9)+Qp.wrap n12)=0/\n11=0)\/(Qp.wrap (i+1)=1/\Qp.wrap (Qp.wrap (h+Qp.wrap n9)+Qp.wrap n12)=H1/\n11=L1)\/(Qp.wrap (i+1)=2/\Qp.wrap (Qp.wrap (h+Qp.wrap n9)+Qp.wrap n12)=H2/\n11=L2)))/\(2-Qp.wrap (i+1)).toNat<(2-i).toNat))):=by
      intro x y hl0 hgo;have hp:0<=xcl x*xcl y%18446744073709551616:=by generalize xcl x*xcl y=P;omega
      refine⟨_,_,yfp (hW x).1 (hW x).2 (hW y).1 (hW y).2,λhx=>⟨λhy=>⟨_,_,z3b hl0 hp,hgo _ _ (wcong _ _ ?_) rfl⟩,λhy=>⟨_,_,z3b hl0 hp,hgo _ _ (wcong _ _ ?_) rfl⟩⟩,λhx=>⟨λhy=>⟨_,_,z3b hl0 hp,hgo _ _ (wcong _ _ ?_) rfl⟩,λhy=>⟨_,_,z3b hl0 hp,hgo _ _ (wcong _ _ ?_) rfl⟩⟩⟩
      all_goals
        simp only[Zq,Zt] at hx hy;simp only[hx,hy,if_true,if_false,y5j];generalize xcl x*xcl y=P;omega
    have e1:Qp.wrap (0+1)=1:=by decide
    have e2:Qp.wrap (1+1)=2:=by decide
    rcases hi with⟨rfl,rfl,rfl⟩|⟨rfl,rfl,rfl⟩|⟨rfl,_,_⟩
    · refine⟨a,b,⟨by omega,by omega,rfl,rfl⟩,?_⟩
      exact step a b (by omega) λh' l' eh el=>⟨⟨rfl,.inr (.inl ⟨e1,eh,el⟩)⟩,by rw[e1];decide⟩
    · refine⟨c,d,⟨by omega,by omega,rfl,rfl⟩,?_⟩
      exact step c d l1a.1 λh' l' eh el=>⟨⟨rfl,.inr (.inr ⟨e2,eh,el⟩)⟩,by rw[e2];decide⟩
    · omega
  · subst e
    have hn:¬ i<2:=by simpa using hn
    rcases hi with⟨rfl,_,_⟩|⟨rfl,_,_⟩|⟨_,rfl,rfl⟩
    · omega
    · omega
    · exact⟨rfl,Qh _⟩
theorem zs6:QfV Tryz.prog (.func (.func F.f167) #[] #[]) [vi n] H (.bool (decide (n < -1048576)||decide (n>1048576))) :=
 ⟨F.f167,#[],_,rfl,cb167,vc167 ⟨rfl,Qh _⟩⟩
theorem zs5:qF F.f107 #[.agg #[vi p.1,vi p.2.1,vi p.2.2]] H (vi (zm1 p)):=by
 refine vc107 ⟨_,λ_=>zs6,_,λ_=>zs6,λhc=>⟨?_,Qh _⟩,λhc=>⟨?_,Qh _⟩⟩
 ·rw[zm2];intro h;have:=h.i0;have:=h.i1;have:=h.a0;have:=h.a1;have:=h.b0;have:=h.b1;simp at hc;omega
 ·simp at hc;rw[zm4 ⟨by omega,by omega,by omega,by omega,by omega,by omega⟩]
def xa3(p q:Pt)(t:Int×Int):Int:=if okP p/\okP q/\okR t then (if p.1=q.1 then 2 else 0) else 8
theorem zsc(ht:zzn t) :
  qF F.f171 #[.agg #[vi p.1,vi p.2.1,vi p.2.2],.agg #[vi q.1,vi q.2.1,vi q.2.2],.agg #[vi t.1,vi t.2]] H (vi (xa3 p q t)):=by
 have key:∀z,z=(if zm6 t>if zm1 q>zm1 p then zm1 q else zm1 p then zm6 t else if zm1 q>zm1 p then zm1 q else zm1 p)->z=if okP p/\okP q/\okR t then 0 else 8:=λz hz=>by
  rw[hz];by_cases h1:okP p <;> by_cases h2:okP q <;> by_cases h3:okR t
  ·rw[zm4 h1,zm4 h2,zm8 h3];simp[h1,h2,h3]
  ·rw[zm4 h1,zm4 h2,zm7 h3];simp[h3]
  ·rw[zm4 h1,zm2 h2,zm8 h3];simp[h2]
  ·rw[zm4 h1,zm2 h2,zm7 h3];simp[h2]
  ·rw[zm2 h1,zm4 h2,zm8 h3];simp[h1]
  ·rw[zm2 h1,zm4 h2,zm7 h3];simp[h1]
  ·rw[zm2 h1,zm2 h2,zm8 h3];simp[h1]
  ·rw[zm2 h1,zm2 h2,zm7 h3];simp[h1]
 have key:=key _ rfl;refine vc171 ⟨_,zs5,_,zs5,_,yui ht,λhc=>⟨?_,Qh _⟩,λhc=>⟨λhe=>⟨?_,Qh _⟩,λhe=>⟨?_,Qh _⟩⟩⟩
 ·rw[key] at hc ⊢;unfold xa3;by_cases h:okP p/\okP q/\okR t
  ·rw[Zp h] at hc;simp at hc
  ·rw[Zn h,Zn h]
 all_goals
  rw[key] at hc;have h:okP p/\okP q/\okR t:=by
   by_cases h:okP p/\okP q/\okR t
   ·exact h
   ·rw[Zn h] at hc;simp at hc
  unfold xa3;rw[Zp h]
 ·rw[Zp (by simpa using he)]
 ·rw[Zn (by simpa using he)]
theorem yld(h:RdI H u [x,y]):qF F.f194 #[u.v] H (vi (if x≠0 then x else y)):=by
  have lu:=h.len;simp only[List.length_cons,List.length_nil] at lu;refine vc194 (upto (N:=2) (J:=λn=>0<n->x=0/\(1<n->y=0)) (by omega) (λh=>by omega) λn h0 h1 hJ=>⟨λhn=>?_,λhn=>⟨?_,Qh _⟩⟩)
  · have hn:n<2:=by have:n<u.n:=by simpa using hn
                    omega
    have hc:n=0\/n=1:=by omega
    rcases hc with rfl|rfl
    · refine h.ldI (by omega) (by simp) ⟨λhb=>⟨?_,Qh _⟩,λhb=>upto.nx (by omega) (by omega) (by omega) λ_=>⟨?_,λh=>by omega⟩⟩
      · have:x≠0:=by simpa using hb
        rw[Zp this];try rfl
      · simpa using hb
    · obtain⟨hx,_⟩:=hJ (by omega)
      refine h.ldI (by omega) (by simp) ⟨λhb=>⟨?_,Qh _⟩,λhb=>upto.nx (by omega) (by omega) (by omega) λ_=>⟨hx,λ_=>?_⟩⟩
      · rw[Zn (by omega)];try rfl
      · simpa using hb
  · have:n=2:=by have:¬ n<u.n:=by simpa using hn
                 omega
    subst this;obtain⟨hx,hy⟩:=hJ (by omega);have hy:=hy (by omega);rw[hx,hy];try rfl
theorem yvb{H':Hp}{b:Nat}{T:TypeId}(h:H'=H.put b (.cells #[vi x,vi y] T (0,0))):RdI H' ⟨some ⟨b,0,none⟩,2,2⟩ [x,y] :=
 yva (k:=1) (f:=fI) (λ_=>rfl) h rfl rfl
theorem zs7(hp:okP p)(hq:okP q)(ht:okR t) :
  qF F.f172 #[.agg #[vi p.1,vi p.2.1,vi p.2.2],.agg #[vi q.1,vi q.2.1,vi q.2.2],.agg #[vi t.1,vi t.2]] H (vi (zp3 p q t)):=by
 obtain⟨r1,r2,i1,i2⟩:=zxf hp hq ht;obtain⟨hi,lo,hq',hv,l0,l1⟩:=zsb (H:=H) i1 ht.fit.2 i2 ht.fit.1 r1 r2;have hv:hi*18446744073709551616+lo=zxg p q t:=hv;refine vc172 ⟨i1,i2,_,_,hq',λhc=>⟨λhn=>⟨?_,Qh _⟩,λhn=>⟨?_,Qh _⟩⟩,λhc=>⟨_,zrj,_,zrk,λb5 H6 hb5 hH6=>⟨_,yld (u:=⟨some ⟨b5,0,none⟩,2,2⟩) (yvb hH6),?_,Hp.le_new (Qh _) hb5 hH6⟩⟩⟩
 ·have hn:hi<0:=by simpa using hn
  unfold zp3;rw[Zp (by omega),Zp (by omega)]
 ·have hn:¬ hi<0:=by simpa using hn
  simp at hc;have hne:zxg p q t≠0:=by
   intro e;rw[e] at hv;rcases hc with hc|hc <;> omega
  unfold zp3;rw[Zp hne,Zn (by omega)]
 ·simp at hc;have:zxg p q t=0:=by omega
  unfold zp3;rw[Zn (show ¬ zxg p q t≠0 by omega)]
def z5q(p q:Pt)(t:Int×Int):Bool×Int:=if xa3 p q t=0 then (leads p q t,0) else (false,xa3 p q t)
theorem xa4:xa3 p q t=0↔okP p/\okP q/\okR t/\p.1≠q.1:=by
 unfold xa3;constructor
 ·intro h;split at h
  ·rename_i k;split at h
   ·cases h
   ·exact⟨k.1,k.2.1,k.2.2,by assumption⟩
  ·cases h
 ·intro ⟨a,b,c,d⟩;rw[Zp ⟨a,b,c⟩,Zn d]
theorem zs3(ht:zzn t) :
  qF F.f114 #[.agg #[vi p.1,vi p.2.1,vi p.2.2],.agg #[vi q.1,vi q.2.1,vi q.2.2],.agg #[vi t.1,vi t.2]] H (.tuple #[.bool (z5q p q t).1,vi (z5q p q t).2]):=by
 refine vc114 ⟨_,zsc ht,λhc=>⟨?_,Qh _⟩,λhc=>?_⟩
 ·have hc:xa3 p q t≠0:=by simpa using hc
  unfold z5q;rw[Zn hc]
 ·have hc:xa3 p q t=0:=by simpa using hc
  obtain⟨h1,h2,h3,_⟩:=xa4.1 hc;refine⟨_,zs7 h1 h2 h3,?_,Qh _⟩;unfold z5q;rw[Zp hc,← zp4]
theorem zxq(h:Rd 3 fD H u f):qF F.f58 #[.agg #[u.v]] H (vi (zlg f)):=by
  have lu:=h.len;refine vc58 ⟨λhc=>⟨?_,Qh _⟩,λhc=>?_⟩
  · unfold zlg;rw[Zp (by simp at hc;omega)]
  have hl:f.length<=64:=by simp at hc;omega
  refine upto (N:=f.length) (J:=λn=>∀y∈f.take n.toNat,okP y) (by omega) (by simp) λn h0 h1 hJ=>⟨λhn=>?_,λhn=>?_⟩
  · have hn:n<f.length:=by have:n<u.n:=by simpa using hn
                           omega
    have hg:=y3h (d:=((0:Int),(0:Int),(0:Int))) h0 hn;refine h.ldD h0 hn ⟨_,zs5 (p:=f.getD n.toNat (0,0,0)),?_⟩;generalize f.getD n.toNat (0,0,0)=x at hg ⊢;refine⟨λhb=>⟨?_,Qh _⟩,λhb=>upto.nx h0 hn (by omega) ?_⟩
    · have hb:zm1 x≠0:=by simpa using hb
      have hx:¬ okP x:=λh=>hb (zm4 h)
      rw[zm2 hx];unfold zlg;rw[Zn (by omega),Zn λh=>hx (h x (Qx hg))]
    · rw[show (n+1).toNat=n.toNat+1 by omega,x88 hg]
      intro y hy;rcases Qt.1 hy with hy|hy
      · exact hJ y hy
      · simp only[Qs] at hy;subst hy;exact zm5.1 (by simpa using hb)
  · have:n=f.length:=by have:¬ n<u.n:=by simpa using hn
                        omega
    subst this;rw[Qi,Qr] at hJ;refine upto (N:=f.length) (J:=λn=>((f.take n.toNat).map (·.1)).Pairwise (·<·)) (by omega) (by simp) λn h0 h1 hS=>⟨λhn=>?_,λhn=>⟨?_,Qh _⟩⟩
    · have hn:n<f.length:=by have:n<u.n:=by simpa using hn
                             omega
      have hg:=y3h (d:=((0:Int),(0:Int),(0:Int))) h0 hn;refine h.ldD h0 hn ?_;generalize f.getD n.toNat (0,0,0)=x at hg ⊢;have e1:(n+1).toNat=n.toNat+1:=by omega
      have hts:=x88 hg;refine⟨λhp=>by unfold inI;omega,λhp=>h.inS (by simp at hp;omega) (by omega),(f.getD (n-1).toNat (0,0,0)).1,λhp=>(h.gD (by simp at hp;omega) (by omega)).1,λhb=>⟨?_,Qh _⟩,λhb=>upto.nx h0 hn (by omega) ?_⟩
      · simp at hb
        obtain⟨hp,hb⟩:=hb;unfold zlg;rw[Zn (by omega),Zp hJ,Zn];intro hpw;have hg':=y3h (d:=((0:Int),(0:Int),(0:Int))) (i:=n-1) (by omega) (by omega:n-1<f.length);have hm:(f.map (·.1))[n.toNat]?=some x.1:=by rw[Qv,hg];try rfl
        have hm':(f.map (·.1))[(n-1).toNat]?=some (f.getD (n-1).toNat (0,0,0)).1:=by rw[Qv,hg'];try rfl
        have:=Qw.1 hpw (n-1).toNat n.toNat (Qq.1 hm').1 (Qq.1 hm).1 (by omega);rw[(Qq.1 hm').2,(Qq.1 hm).2] at this;have en:(n-1).toNat=n.toNat-1:=by omega
        simp only[Q1,en] at this hb;omega
      · rw[e1,hts,Qu]
        show (_++[x.1]).Pairwise (·<·);rw[y65];refine⟨hS,λy hy=>?_⟩;simp at hb;have hp:0<n:=by
          rcases Qn 0 n with h'|h'
          · exact h'
          · have:n.toNat=0:=by omega
            rw[this] at hy;simp at hy
        have hb:=hb hp;have hg':=y3h (d:=((0:Int),(0:Int),(0:Int))) (i:=n-1) (by omega) (by omega:n-1<f.length);have hts':=x88 hg';rw[show (n-1).toNat+1=n.toNat by omega] at hts';rw[hts',Qu] at hS hy;have hS:(_++[(f.getD (n-1).toNat (0,0,0)).1]).Pairwise (·<·):=hS;rw[y65] at hS;have hx:(f.getD (n-1).toNat (0,0,0)).1<x.1:=by
          have en:(n-1).toNat=n.toNat-1:=by omega
          simp only[Q1,en] at hb ⊢;omega
        rcases Qt.1 hy with hy|hy
        · have:=hS.2 y hy;omega
        · simp only[Qz,Qy,Qs] at hy;rw[hy];exact hx
    · have:n=f.length:=by have:¬ n<u.n:=by simpa using hn
                          omega
      subst this;rw[Qi,Qr] at hS;unfold zlg;rw[Zn (by omega),Zp hJ,Zp hS]
theorem yvv(h:Rd 3 fD H u f):qF F.f21 #[.agg #[u.v]] H (vi (zlg f)):=by
  have lu:=h.len;refine vc21 ⟨λhc=>⟨?_,Qh _⟩,λhc=>?_⟩
  · unfold zlg;rw[Zp (by simp at hc;omega)]
  have hl:f.length<=64:=by simp at hc;omega
  refine upto (N:=f.length) (J:=λn=>∀y∈f.take n.toNat,okP y) (by omega) (by simp) λn h0 h1 hJ=>⟨λhn=>?_,λhn=>?_⟩
  · have hn:n<f.length:=by have:n<u.n:=by simpa using hn
                           omega
    have hg:=y3h (d:=((0:Int),(0:Int),(0:Int))) h0 hn;refine h.ldD h0 hn ⟨_,ywi (p:=f.getD n.toNat (0,0,0)),?_⟩;generalize f.getD n.toNat (0,0,0)=x at hg ⊢;refine⟨λhb=>⟨?_,Qh _⟩,λhb=>upto.nx h0 hn (by omega) ?_⟩
    · have hb:zm1 x≠0:=by simpa using hb
      have hx:¬ okP x:=λh=>hb (zm4 h)
      unfold zlg;rw[Zn (by omega),Zn λh=>hx (h x (Qx hg))]
    · rw[show (n+1).toNat=n.toNat+1 by omega,x88 hg]
      intro y hy;rcases Qt.1 hy with hy|hy
      · exact hJ y hy
      · simp only[Qs] at hy;subst hy;exact zm5.1 (by simpa using hb)
  · have:n=f.length:=by have:¬ n<u.n:=by simpa using hn
                        omega
    subst this;rw[Qi,Qr] at hJ;refine⟨λn H'=>H'=H/\1<=n/\(n<=f.length\/n=1)/\((f.take n.toNat).map (·.1)).Pairwise (·<·),λn _=>(f.length-n).toNat,⟨rfl,Int.le_refl _,.inr rfl,?_⟩,λn H' ⟨e,h0,h1,hS⟩=>?_⟩
    · cases f with
      | nil=>simp
      | cons x l=>simp
    subst e;refine⟨λhn=>?_,λhn=>⟨?_,Qh _⟩⟩
    · have hn:n<f.length:=by have:n<u.n:=by simpa using hn
                             omega
      have hg:=y3h (d:=((0:Int),(0:Int),(0:Int))) (by omega:0<=n) hn;have hg':=y3h (d:=((0:Int),(0:Int),(0:Int))) (i:=n-1) (by omega) (by omega:n-1<f.length);refine⟨by unfold inI;omega,h.inS (by omega) (by omega),_,(h.gD (by omega) (by omega)).1,h.inS (by omega) hn,_,(h.gD (by omega) hn).1,?_⟩;generalize f.getD n.toNat (0,0,0)=x at hg ⊢;generalize f.getD (n-1).toNat (0,0,0)=y at hg' ⊢;have e1:(n+1).toNat=n.toNat+1:=by omega
      refine⟨λhb=>⟨?_,Qh _⟩,λhb=>⟨by unfold inI;omega,⟨rfl,by omega,by omega,?_⟩,?_⟩⟩
      · have hb:y.1>=x.1:=by simpa using hb
        unfold zlg;rw[Zn (by omega),Zp hJ,Zn];intro hpw;have hm:(f.map (·.1))[n.toNat]?=some x.1:=by rw[Qv,hg];try rfl
        have hm':(f.map (·.1))[(n-1).toNat]?=some y.1:=by rw[Qv,hg'];try rfl
        have:=Qw.1 hpw (n-1).toNat n.toNat (Qq.1 hm').1 (Qq.1 hm).1 (by omega);rw[(Qq.1 hm').2,(Qq.1 hm).2] at this;omega
      · have hb:¬ y.1>=x.1:=by simpa using hb
        rw[e1,x88 hg,Qu];show (_++[x.1]).Pairwise (·<·);rw[y65];refine⟨hS,λz hz=>?_⟩;have hts':=x88 hg';rw[show (n-1).toNat+1=n.toNat by omega] at hts';rw[hts',Qu] at hS hz;have hS:(_++[y.1]).Pairwise (·<·):=hS;rw[y65] at hS;rcases Qt.1 hz with hz|hz
        · have:=hS.2 z hz;omega
        · simp only[Qz,Qy,Qs] at hz;omega
      · show ((f.length:Int)-(n+1)).toNat<((f.length:Int)-n).toNat;omega
    · have hn:¬ n<f.length:=by have:¬ n<u.n:=by simpa using hn
                               omega
      rw[List.take_of_length_le (by omega)] at hS;unfold zlg;rw[Zn (by omega),Zp hJ,Zp hS]
theorem yvu{id:Int}(h:Rd 3 fD H u f)(hl:f.length<=1000000000):qF F.f49 #[.agg #[u.v],vi id] H (vi (yr5 f id)):=by
  have lu:=h.len;refine vc49 (upto (N:=f.length) (J:=λi=>∀y∈f.take i.toNat,(y.1==id)=false) (by omega) (by simp) λi i0 i1 i2=>⟨λhn=>?_,λhn=>⟨?_,Qh _⟩⟩)
  · have hn:i<f.length:=by have:i<u.n:=by simpa using hn
                           omega
    have hg:=y3h (d:=((0:Int),(0:Int),(0:Int))) i0 hn;have h2:=(h.gD i0 hn).1;generalize f.getD i.toNat (0,0,0)=x at hg h2;refine⟨h.inS i0 hn,_,h2,λhb=>⟨?_,Qh _⟩,λhb=>upto.nx i0 hn (by omega) ?_⟩
    · unfold yr5;rw[y5s hg hb i2,Int.toNat_of_nonneg i0]
    · rw[show (i+1).toNat=i.toNat+1 by omega,x88 hg]
      intro y hy;rcases Qt.1 hy with hy|hy
      · exact i2 y hy
      · simp only[Qs] at hy;subst hy;exact hb
  · have:i=f.length:=by have:¬ i<u.n:=by simpa using hn
                        omega
    subst this;rw[Qi,Qr] at i2;unfold yr5;rw[y5u i2]
theorem yvw{a b:Slc}{g:List Pt}(ha:Rd 3 fD H a f)(hb:Rd 3 fD H b g)(h63:f.length<=1000000000) :
  qF F.f85 #[.agg #[a.v],.agg #[b.v]] H (.bool (f==g)):=by
 have la:=ha.len;have lb:=hb.len;refine vc85 ⟨λh=>⟨?_,Qh H⟩,λh=>?_⟩
 ·have h:(a.n:Int)≠b.n:=by simpa using h
  have:(f==g)=false:=by
   rw[beq_eq_false_iff_ne];intro e;rw[e] at la;omega
  rw[this]
 ·have h2:(a.n:Int)=b.n:=by simpa using h
  refine upto (N:=f.length) (J:=λn=>f.take n.toNat=g.take n.toNat) (by omega) (by simp) λn i0 i1 i2=>⟨λhn=>?_,λhn=>⟨?_,Qh _⟩⟩
  ·have hn:n<a.n:=by simpa using hn
   have gx:=y3h (d:=((0:Int),(0:Int),(0:Int))) i0 (by omega:n<f.length);have gy:=y3h (d:=((0:Int),(0:Int),(0:Int))) i0 (by omega:n<g.length);refine ha.ldD i0 (by omega) (hb.ldD i0 (by omega) ?_);generalize f.getD n.toNat (0,0,0)=x at gx ⊢;generalize g.getD n.toNat (0,0,0)=y at gy ⊢;refine⟨λhne=>⟨?_,Qh _⟩,λhe=>upto.nx i0 (by omega) (by omega) ?_⟩
   ·have:(f==g)=false:=by
     rw[beq_eq_false_iff_ne];intro e;rw[e,gy] at gx;cases gx;simp at hne
    rw[this]
   ·have e:(n+1).toNat=n.toNat+1:=by omega
    rw[e];refine(x89 gx gy i2).2 ?_;simp only[Qe,Qg,beq_iff_eq] at he;obtain⟨⟨q1,q2⟩,q3⟩:=he;exact Prod.ext q1 (Prod.ext q2 q3)
  ·have hn:n=f.length:=by
    have:¬ n<a.n:=by simpa using hn
    omega
   subst hn;have:f=g:=by
    have e2:g.take f.length=g:=by
     have:f.length=g.length:=by omega
     rw[this];exact Qr
    rw[Qi,Qr,e2] at i2;exact i2
   rw[this,beq_self_eq_true]
