/- The engine, parts QA, SB, CP, CD, put together. Conditions: none. -/
import Derived.Test.YtnhdkkblehadjaaGreatPA1
open Int renaming natAbs_natCast->Qa,mul_pos->Qb,sub_mul->Qc,natCast_mul->Qd,eq_of_mul_eq_mul_right->Qe,toNat_natCast->Qg,tdiv_eq_ediv_of_nonneg->Qh,neg_mul->Qi,natAbs_mul->Qj,mul_nonneg->Ql,lt_or_le->Qm,ediv_nonneg->Qn,ediv_le_self->Qo,mul_neg_of_neg_of_pos->Qp,mul_ediv_cancel->Qq,sub_eq_add_neg->Qr,natCast_nonneg->Qs,mul_right_comm->Qt,mul_le_mul_of_nonneg_right->Qu,le_refl->Qv,le_of_mul_le_mul_right->Qw,le_ediv_of_mul_le->Qx,emod_nonneg->Qy,add_mul->Qz
open List renaming Perm->Q1,mem_range->Q2,pairwise_cons->Q3,mem_cons_self->Q4,mem_cons_of_mem->Q5,mem_cons->Q6,getElem?_eq_some_iff->Q7,range->Q8,pairwise_iff_getElem->Q9,mem_map->Xa,mem_filter->Xb,getD_eq_getElem?_getD->Xc,Pairwise->Xd
open Nat renaming gcd->Xe,Coprime->Xf,pos_of_ne_zero->Xg,le_mul_of_pos_right->Xh,gcd_pos_of_pos_left->Xi,div_mul_cancel->Xj,mul_pos->Xk,mul_comm->Xl,gcd_le_left->Xm,gcd_dvd_right->Xn,gcd_dvd_left->Xo,coprime_div_gcd_div_gcd->Xp
set_option linter.unusedVariables false
set_option maxHeartbeats 8000000
section
set_option maxRecDepth 100000
open Go Go.Eng Go.Proofs
namespace Go.Proofs.YtnhdkkblehadjaaGreat
variable{t b a:Int×Int}{k i m j:Nat}{f:List Pt}{d n:Int}{H:Hp}
def gD(a b:Int×Int):Int:=(Xe a.2.toNat b.2.toNat:Nat)
def z3w(a b:Int×Int):Int:=a.1*(b.2/gD a b)+b.1*(a.2/gD a b)
def z3j(a b:Int×Int):Int:=(Xe (gD a b).toNat (z2u (z3w a b)%gD a b).toNat:Nat)
def z3n(a b:Int×Int):(Int×Int)×Int:=if okR a/\okR b then zbg (decide (z3w a b<0)) (z2u (z3w a b)/z3j a b) (a.2/gD a b*(b.2/z3j a b)) else ((0,0),8)
theorem yuo{c:Bool}{V:Int}(v0:0<=V)(v1:V<340282366920938463463374607431768211456)(d0:1<=d)(d1:d<18446744073709551616) :
  qF F.f155 #[.agg #[.bool c,.int .u64 (V/18446744073709551616),.int .u64 (V%18446744073709551616)],.int .u64 d] H (.tuple #[.agg #[.bool c,.int .u64 (V/d/18446744073709551616),.int .u64 (V/d%18446744073709551616)],.int .u64 (V%d)]):=by
 have h0:0<=V/18446744073709551616:=by omega
 have h1:V/18446744073709551616<18446744073709551616:=by omega
 have t0:0<=V/18446744073709551616%d:=Qy _ (by omega);have t1:V/18446744073709551616%d<d:=Int.emod_lt_of_pos _ (by omega);have q0:0<=V/18446744073709551616/d:=Qn h0 (by omega);have q1:V/18446744073709551616/d<=V/18446744073709551616:=Qo _ h0;have dv:=zt6 (H:=H) (hi:=V/18446744073709551616%d) (lo:=V%18446744073709551616) (y:=d) d0 d1 t0 t1 (by omega) (by omega);have e:=Int.mul_ediv_add_emod (V/18446744073709551616) d;have eV:V=(V/18446744073709551616%d*18446744073709551616+V%18446744073709551616)+d*(V/18446744073709551616/d*18446744073709551616):=by
  rw[← Int.mul_assoc];generalize d*(V/18446744073709551616/d)=Z at *
  omega
 have eq:V/d=(V/18446744073709551616%d*18446744073709551616+V%18446744073709551616)/d+V/18446744073709551616/d*18446744073709551616:=by
  have this:V/d=((V/18446744073709551616%d*18446744073709551616+V%18446744073709551616)+d*(V/18446744073709551616/d*18446744073709551616))/d:=congrArg (·/d) eV;rw[this,Int.add_mul_ediv_left _ _ (by omega:d≠0)]
 have er:V%d=(V/18446744073709551616%d*18446744073709551616+V%18446744073709551616)%d:=by
  have this:V%d=((V/18446744073709551616%d*18446744073709551616+V%18446744073709551616)+d*(V/18446744073709551616/d*18446744073709551616))%d:=congrArg (·%d) eV;rw[this,Int.add_mul_emod_self_left]
 have z0:0<=(V/18446744073709551616%d*18446744073709551616+V%18446744073709551616)/d:=Qn (by omega) (by omega);have z1:(V/18446744073709551616%d*18446744073709551616+V%18446744073709551616)/d<18446744073709551616:=Int.ediv_lt_of_lt_mul (by omega) (by omega);refine vc155 ⟨by unfold nz;omega,by unfold nz;omega,_,_,by rw[Int.tmod_eq_emod_of_nonneg h0];exact dv,?_,Hp.le_refl _⟩;rw[Qh h0,xcm q0 (by omega),er,eq];generalize (V/18446744073709551616%d*18446744073709551616+V%18446744073709551616)/d=z at *
 generalize V/18446744073709551616/d=q at *
 rw[show (z+q*18446744073709551616)/18446744073709551616=q by omega,show (z+q*18446744073709551616)%18446744073709551616=z by omega]
structure z00(a b:Int×Int):Prop where
 g0:1<=gD a b
 g1:gD a b<=9223372036854775807
 x0:1<=a.2/gD a b
 x1:a.2/gD a b<=9223372036854775807
 y0:1<=b.2/gD a b
 y1:b.2/gD a b<=9223372036854775807
 s1:z2u (a.1*(b.2/gD a b))<85070591730234615865843651857942052864
 s2:z2u (b.1*(a.2/gD a b))<85070591730234615865843651857942052864
 h0:1<=z3j a b
 h1:z3j a b<=gD a b
 z0:0<=b.2/z3j a b
 z1:b.2/z3j a b<=9223372036854775807
theorem z3d(oa:okR a)(ob:okR b):z00 a b:=by
 have a1:=oa.d1;have a2:=oa.d2;have a3:=oa.n1;have a4:=oa.n2;have b1:=ob.d1;have b2:=ob.d2;have b3:=ob.n1;have b4:=ob.n2;have hg:0<Xe a.2.toNat b.2.toNat:=Xi _ (by omega);have ga:Xe a.2.toNat b.2.toNat<=a.2.toNat:=Xm _ (by omega);have gb:Xe a.2.toNat b.2.toNat<=b.2.toNat:=Nat.gcd_le_right _ (by omega);have g0:1<=gD a b:=by unfold gD;omega
 have g1:gD a b<=a.2:=by unfold gD;omega
 have g2:gD a b<=b.2:=by unfold gD;omega
 have x0:1<=a.2/gD a b:=Qx (by omega) (by omega);have x1:a.2/gD a b<=a.2:=Qo _ (by omega);have y0:1<=b.2/gD a b:=Qx (by omega) (by omega);have y1:b.2/gD a b<=b.2:=Qo _ (by omega);have s1:=z2z (x:=a.1) (y:=b.2/gD a b) (m:=9223372036854775807) (n:=9223372036854775807) (z2x (by omega) (by omega)) (z2x (by omega) (by omega));have s2:=z2z (x:=b.1) (y:=a.2/gD a b) (m:=9223372036854775807) (n:=9223372036854775807) (z2x (by omega) (by omega)) (z2x (by omega) (by omega));have hh:0<Xe (gD a b).toNat (z2u (z3w a b)%gD a b).toNat:=Xi _ (by omega);have hl:Xe (gD a b).toNat (z2u (z3w a b)%gD a b).toNat<=(gD a b).toNat:=Xm _ (by omega);have h0:1<=z3j a b:=by unfold z3j;omega
 have h1:z3j a b<=gD a b:=by unfold z3j;omega
 have z0:0<=b.2/z3j a b:=Qn (by omega) (by omega);have z1:b.2/z3j a b<=b.2:=Qo _ (by omega);exact⟨g0,by omega,x0,by omega,y0,by omega,by omega,by omega,h0,h1,z0,by omega⟩
theorem x0l(hd:1<=d):n*d≠0->((!(decide (n<0)==decide (d<0)))=true↔n*d<0):=λhne=>by
 rw[Zv (by omega:¬ d<0)];have:n*d<0↔n<0:=by
  constructor
  ·intro h;rcases Qm n 0 with h'|h'
   ·exact h'
   ·have:=Ql h' (by omega:0<=d);omega
  ·intro h;exact Qp h (by omega)
 rw[this];simp
theorem yue(ha:zzn a)(hb:zzn b) :
  qF F.f96 #[sI2 a.1 a.2,sI2 b.1 b.2] H (.tuple #[sI2 (z3n a b).1.1 (z3n a b).1.2,vi (z3n a b).2]):=by
 refine vc96 ⟨_,yug ha hb,λhc=>?_,λhc=>?_⟩
 ·have h:¬ (okR a/\okR b):=λx=>by rw[Zp x] at hc;simp at hc
  unfold z3n;rw[Zn h,Zn h];exact⟨rfl,Hp.le_refl _⟩
 have ok:okR a/\okR b:=by
  by_cases x:okR a/\okR b
  ·exact x
  ·rw[Zn x] at hc;simp at hc
 obtain⟨oa,ob⟩:=ok;obtain⟨g0,g1,x0,x1,y0,y1,s1,s2,h0,h1,z0,z1⟩:=z3d oa ob;have a1:=oa.d1;have a2:=oa.d2;have b1:=ob.d1;have b2:=ob.d2;have q1:=z33 (a.1*(b.2/gD a b));have q2:=z33 (b.1*(a.2/gD a b));have hg:=yul (H:=H) (a:=a.2) (b:=b.2) (by omega) (by omega);have hg:qF F.f108 #[.int .u64 a.2,.int .u64 b.2] H (.int .u64 (gD a b)):=hg;have t1:=yus (H:=H) (a:=a.1) (b:=b.2/gD a b) oa.fit.1 (by unfold inI;omega);have t2:=yus (H:=H) (a:=b.1) (b:=a.2/gD a b) ob.fit.1 (by unfold inI;omega);have pl:=yuq (H:=H) (c:=!(decide (a.1<0)==decide (b.2/gD a b<0))) (d:=!(decide (b.1<0)==decide (a.2/gD a b<0))) q1 (by omega) q2 (by omega);obtain⟨p1,p2⟩:=yqv (c:=!(decide (a.1<0)==decide (b.2/gD a b<0))) (d:=!(decide (b.1<0)==decide (a.2/gD a b<0))) (v:=a.1*(b.2/gD a b)) (w:=b.1*(a.2/gD a b)) (x0l y0) (x0l x0);rw[p1] at pl;have eV:a.1*(b.2/gD a b)+b.1*(a.2/gD a b)=z3w a b:=rfl;have av:z2u (z3w a b)<=z2u (a.1*(b.2/gD a b))+z2u (b.1*(a.2/gD a b)):=z2v _ _;have v0:=z33 (z3w a b);rw[eV] at pl p2;have m0:0<=z2u (z3w a b)%gD a b:=Qy _ (by omega);have hg2:=yul (H:=H) (a:=gD a b) (b:=z2u (z3w a b)%gD a b) (by omega) m0;have hg2:qF F.f108 #[.int .u64 (gD a b),.int .u64 (z2u (z3w a b)%gD a b)] H (.int .u64 (z3j a b)):=hg2;have es:z3n a b=zbg (yqu (!(decide (a.1<0)==decide (b.2/gD a b<0))) (!(decide (b.1<0)==decide (a.2/gD a b<0))) (z2u (a.1*(b.2/gD a b))) (z2u (b.1*(a.2/gD a b)))).1 (z2u (z3w a b)/z3j a b) (a.2/gD a b*(b.2/z3j a b)):=by
  unfold z3n;rw[Zp ⟨oa,ob⟩];refine zbj λhne=>?_
  have hz:z3w a b≠0:=λh=>hne (by rw[h];simp[z2u])
  rw[Bool.eq_iff_iff,p2 hz,Zq]
 rw[es];generalize (yqu (!(decide (a.1<0)==decide (b.2/gD a b<0))) (!(decide (b.1<0)==decide (a.2/gD a b<0))) (z2u (a.1*(b.2/gD a b))) (z2u (b.1*(a.2/gD a b)))).1=S at *
 have o1:=yuo (H:=H) (c:=S) (V:=z2u (z3w a b)) (d:=gD a b) v0 (by omega) g0 (by omega);have o2:=yuo (H:=H) (c:=S) (V:=z2u (z3w a b)) (d:=z3j a b) v0 (by omega) h0 (by omega);have mu:=yfp (H:=H) (x:=a.2/gD a b) (y:=b.2/z3j a b) (by omega) (by omega) z0 (by omega);have nq:0<=z2u (z3w a b)/z3j a b:=Qn v0 (by omega);have bd:=yuh (H:=H) (c:=S) (N:=z2u (z3w a b)/z3j a b) (D:=a.2/gD a b*(b.2/z3j a b)) nq (Ql (by omega) z0);have wg:IntKind.i64.wrap (gD a b)=gD a b:=y5i (by omega) (by omega);have wa:xcl a.2=a.2:=xcm (by omega) (by omega);have wb:xcl b.2=b.2:=xcm (by omega) (by omega);have wgu:xcl (gD a b)=gD a b:=xcm (by omega) (by omega);have da:a.2.tdiv (gD a b)=a.2/gD a b:=Qh (by omega);have db:b.2.tdiv (gD a b)=b.2/gD a b:=Qh (by omega);have dh:b.2.tdiv (z3j a b)=b.2/z3j a b:=Qh (by omega);have wx:xcl (a.2/gD a b)=a.2/gD a b:=xcm (by omega) (by omega);have wy:xcl (b.2/z3j a b)=b.2/z3j a b:=xcm z0 (by omega);rw[wa,wb];refine⟨gD a b,hg,?_⟩;rw[wg,wgu,da,db,wx];refine⟨⟨by unfold nz;omega,by unfold inI;omega⟩,_,_,_,t1,⟨by unfold nz;omega,by unfold inI;omega⟩,_,_,_,t2,_,_,_,pl,_,_,_,_,o1,z3j a b,hg2,_,_,_,_,o2,⟨by unfold nz;omega,by unfold inI;omega⟩,by unfold nz;omega,?_⟩;rw[dh,wy];exact⟨_,_,mu,_,_,_,bd,rfl,Hp.le_refl _⟩
theorem z35(z:Int):(z2u z).toNat=z.natAbs:=by rw[z30];simp
theorem zrs{a x y:Int}{b:Int}(h1:Xe a.natAbs x.natAbs=1)(h2:Xe y.natAbs x.natAbs=1):Xe (a*y+b*x).natAbs x.natAbs=1:=by
 have e:=y2g (a*y) x b;unfold y2e at e;rw[z35,z35,z35] at e;have e:Xe (a*y+b*x).natAbs x.natAbs=Xe (a*y).natAbs x.natAbs:=by exact_mod_cast e
 rw[e,Qj];exact Xf.mul_left h1 h2
structure z01(a b:Int×Int)(x y K H M:Nat)(N:Int):Prop where
 ea:a.2=((x*(K*H):Nat):Int)
 eb:b.2=((y*(K*H):Nat):Int)
 eN:N*H=a.1*y+b.1*x
 eM:M=N.natAbs
 v:z3w a b=a.1*y+b.1*x
 hp:0<H
 add:z3n a b=zbg (decide (z3w a b<0)) M ((x*(y*K):Nat):Int)
 cop:Xe M (x*(y*K))=1
 pos:0<x*(y*K)
theorem z3t(oa:okR a)(ob:okR b):∃x y K H M N,z01 a b x y K H M N:=by
 have a1:=oa.d1;have b1:=ob.d1;have ga:=oa.g;have gb:=ob.g;have hadd:z3n a b=zbg (decide (z3w a b<0)) (z2u (z3w a b)/z3j a b) (a.2/gD a b*(b.2/z3j a b)):=by unfold z3n;rw[Zp ⟨oa,ob⟩]
 have hh:z3j a b=(Xe (gD a b).toNat (z2u (z3w a b)%gD a b).toNat:Nat):=rfl;have hv:z3w a b=a.1*(b.2/gD a b)+b.1*(a.2/gD a b):=rfl;have hg:gD a b=(Xe a.2.toNat b.2.toNat:Nat):=rfl;generalize z3j a b=hI at *
 generalize hV:z3w a b=V at *
 generalize gD a b=gI at *
 obtain⟨an,ad⟩:=a;obtain⟨bn,bd⟩:=b;simp only at *
 obtain⟨A,rfl⟩:∃A:Nat,ad=A:=⟨ad.toNat,by omega⟩;obtain⟨B,rfl⟩:∃B:Nat,bd=B:=⟨bd.toNat,by omega⟩;rw[Qg,Qg] at hg;rw[Qa] at ga gb;have hG:0<Xe A B:=Xi _ (by omega);have cxy:=Xp hG;have xA:=Xj (Xo A B);have yB:=Xj (Xn A B);generalize Xe A B=G at *
 generalize A/G=x at *
 generalize B/G=y at *
 subst xA;subst yB;have q1:((x*G:Nat):Int)/(G:Int)=x:=by rw[Qd];exact Qq _ (by omega)
 have q2:((y*G:Nat):Int)/(G:Int)=y:=by rw[Qd];exact Qq _ (by omega)
 rw[hg,q1,q2] at hv;rw[hg,Qg,z30] at hh;have e1:(((V.natAbs:Nat):Int)%((G:Nat):Int)).toNat=V.natAbs%G:=by rw[← Int.natCast_emod,Qg]
 rw[e1,show Xe G (V.natAbs%G)=Xe G V.natAbs by rw[Nat.gcd_comm,← Nat.gcd_rec]] at hh;have hH:0<Xe G V.natAbs:=Xi _ hG;have cK:=Xp hH;have eK:=Xj (Xo G V.natAbs);have eM:=Xj (Xn G V.natAbs);rw[hg,hh,z30,q1] at hadd;generalize Xe G V.natAbs=H at *
 generalize G/H=K at *
 have m1:((V.natAbs:Nat):Int)/((H:Nat):Int)=((V.natAbs/H:Nat):Int):=by simp
 rw[m1] at hadd;generalize V.natAbs/H=M at *
 subst eK;have q3:((y*(K*H):Nat):Int)/((H:Nat):Int)=((y*K:Nat):Int):=by
  rw[← Nat.mul_assoc,Qd];exact Qq _ (by omega)
 rw[q3,← Qd] at hadd;have hx:0<x:=Xg λe=>by subst e;simp at a1
 have hy:0<y:=Xg λe=>by subst e;simp at b1
 have hK:0<K:=Xg λe=>by subst e;simp at hG
 have dM:M ∣ V.natAbs:=⟨H,eM.symm⟩;have cax:Xe an.natAbs x=1:=Xf.coprime_dvd_right ⟨K*H,rfl⟩ ga;have cby:Xe bn.natAbs y=1:=Xf.coprime_dvd_right ⟨K*H,rfl⟩ gb;have cVx:Xe V.natAbs x=1:=by
  have:=zrs (a:=an) (x:=x) (y:=y) (b:=bn) (by rw[Qa];exact cax) (by rw[Qa,Qa];exact Xf.symm cxy);rw[← hv,Qa] at this;exact this
 have cVy:Xe V.natAbs y=1:=by
  have:=zrs (a:=bn) (x:=y) (y:=x) (b:=an) (by rw[Qa];exact cby) (by rw[Qa,Qa];exact cxy);rw[Int.add_comm,← hv,Qa] at this;exact this
 have cop:Xe M (x*(y*K))=1:=Xf.mul_right (Xf.coprime_dvd_left dM cVx) (Xf.mul_right (Xf.coprime_dvd_left dM cVy) (Xf.symm cK));refine⟨x,y,K,H,M,if V<0 then -(M:Int) else M,rfl,rfl,?_,?_,by rw[hV];exact hv,hH,by rw[hV];exact hadd,cop,Xk hx (Xk hy hK)⟩
 ·show (if V<0 then -(M:Int) else M)*H=an*y+bn*x;rw[← hv];have em:(M:Int)*H=V.natAbs:=by exact_mod_cast eM
  split
  ·rw[Qi,em];omega
  ·rw[em];omega
 ·split <;> omega
theorem z3q(oa:okR a)(ob:okR b)(h:(z3n a b).2=0):okR (z3n a b).1/\(z3n a b).1.1*(a.2*b.2)=(a.1*b.2+b.1*a.2)*(z3n a b).1.2:=by
 obtain⟨x,y,K,H,M,N,w⟩:=z3t oa ob;have hN:(if decide (z3w a b<0)=true then 0-(M:Int) else M)=N:=by
  have e:=w.eN;have m:=w.eM;have hp:=w.hp;rw[← w.v] at e;by_cases hv:z3w a b<0
  ·rw[Zu hv,Zp rfl];have:N<0:=by
    rcases Qm N 0 with k|k
    ·exact k
    ·have:=Ql k (Qs H);omega
   omega
  ·rw[Zv hv,Zn (by simp)];have:0<=N:=by
    rcases Qm N 0 with k|k
    ·have:=Qp k (show (0:Int)<H by omega);omega
    ·exact k
   omega
 have hadd:=w.add;have cop:=w.cop;have pos:=w.pos;rw[hadd] at h ⊢;unfold zbg at h ⊢;split at h
 ·cases h
 ·rename_i hc;rw[Zn hc,hN];have m:=w.eM;refine⟨⟨by show (1:Int)<=((x*(y*K):Nat):Int);omega,by show ((x*(y*K):Nat):Int)<=_;omega,by show _<=N;omega,by show N<=_;omega,?_⟩,?_⟩
  ·show Xe N.natAbs ((x*(y*K):Nat):Int).natAbs=1;rw[Qa,← m];exact cop
  ·show N*(a.2*b.2)=(a.1*b.2+b.1*a.2)*((x*(y*K):Nat):Int);rw[w.ea,w.eb];have e:=w.eN;simp only[Qd];have e2:(a.1*((y:Int)*((K:Int)*H))+b.1*((x:Int)*((K:Int)*H)))=(a.1*y+b.1*x)*((K:Int)*H):=by
    rw[Qz];congr 1 <;> ac_rfl
   rw[e2,← e]
   ac_rfl
theorem z3s(oa:okR a)(ob:okR b){P Q:Int}(h1:z2u a.1<=P)(h2:z2u b.1<=P)(h3:a.2<=Q)(h4:b.2<=Q)(hP:P*Q+P*Q<=9223372036854775807)(hQ:Q*Q<=9223372036854775807):(z3n a b).2=0:=by
 obtain⟨x,y,K,H,M,N,w⟩:=z3t oa ob;have e:=w.eN;have hadd:=w.add;have pos:=w.pos;have m:=w.eM;have hp:=w.hp;have ka:0<K*H:=Xg λz=>by
  have:=w.ea;have:=oa.d1;rw[z] at *;simp at *;omega
 have x1:(x:Int)<=Q:=by
  have:=Xh x ka;have:=w.ea;omega
 have y1:(y:Int)<=Q:=by
  have:=Xh y ka;have:=w.eb;omega
 have P0:0<=P:=by have:=z33 a.1;omega
 have Q0:0<=Q:=by omega
 have s1:=z2z (x:=a.1) (y:=(y:Int)) h1 (z2x (by omega) y1);have s2:=z2z (x:=b.1) (y:=(x:Int)) h2 (z2x (by omega) x1);have hN:z2u N<=z2u (N*H):=by
  rw[z30,z30,Qj,Qa];have:=Xh N.natAbs hp;omega
 have hs:z2u (N*H)<=P*Q+P*Q:=by
  rw[e];have:z2u (a.1*y+b.1*x)<=z2u (a.1*y)+z2u (b.1*x):=by unfold z2u;split <;> split <;> split <;> omega
  omega
 have hM:(M:Int)<=9223372036854775807:=by
  rw[z30] at hN;omega
 have hD:((x*(y*K):Nat):Int)<=9223372036854775807:=by
  have h5:((y*K:Nat):Int)<=Q:=by
   have:y*K<=y*(K*H):=Nat.mul_le_mul (Nat.le_refl _) (Xh K hp);have:=w.eb;omega
  have h6:((x:Int))*((y*K:Nat):Int)<=Q*Q:=Int.mul_le_mul x1 h5 (by omega) Q0;rw[Qd];omega
 rw[hadd];unfold zbg;rw[Zn (by omega)]
def x6a(a b:Int×Int):(Int×Int)×Int:=z3n a (-b.1,b.2)
theorem ykf(ob:okR b):okR (-b.1,b.2):=⟨ob.d1,ob.d2,by have:=ob.n2;show _<=-b.1;omega,by have:=ob.n1;show -b.1<=_;omega,by have:=ob.g;simpa using this⟩
theorem x6c(oa:okR a)(ob:okR b)(h:(x6a a b).2=0):okR (x6a a b).1/\(x6a a b).1.1*(a.2*b.2)=(a.1*b.2-b.1*a.2)*(x6a a b).1.2:=by
 obtain⟨h1,h2⟩:=z3q oa (ykf ob) h;refine⟨h1,?_⟩;show (z3n a (-b.1,b.2)).1.1*(a.2*b.2)=_;rw[h2];show (a.1*b.2 + -b.1*a.2)*_=_;rw[Qi];rfl
theorem z8i{g:Gp}(og:yk6 g)(ot:okR t)(h:(atM g t).2=0):∃k:Int,0<k/\(atM g t).1.1*k=g.a*t.2+g.b*t.1/\(atM g t).1.2*k=t.2/\okR (atM g t).1:=by
 have ow:okR (g.b,1):=by unfold yk6 at og;exact okW (by omega) (by omega)
 unfold atM at h ⊢;rw[Zp ⟨og,ot⟩] at h ⊢;split at h
 ·rename_i hm;rw[Zp hm];rw[z3y ow ot hm] at h ⊢;exact ymo ot.d1 h
 ·rename_i hm;exact absurd h hm
theorem x6f{p q:Pt}{y z d x:Int×Int}{k:Int}(op:okP p)(oq:okP q)(ot:okR t)(hy:ypx p t=(y,0))(hz:ypx q t=(z,0))(hd:x6a y z=(d,0))(hk:0<k)(h1:x.1*k=zxg p q t)(h2:x.2*k=t.2)(ox:okR x):d=x/\okR y/\okR z:=by
 rw[ypz op ot] at hy;rw[ypz oq ot] at hz;obtain⟨k1,p1,y1,y2,oy⟩:=ymo ot.d1 (show (ymn (yjd p t) t.2).2=0 by rw[hy]);obtain⟨k2,p2,z1,z2,oz⟩:=ymo ot.d1 (show (ymn (yjd q t) t.2).2=0 by rw[hz]);rw[hy] at y1 y2 oy;rw[hz] at z1 z2 oz;simp only at y1 y2 oy z1 z2 oz;obtain⟨od,e⟩:=x6c oy oz (by rw[hd]);rw[hd] at od e;simp only at od e;refine⟨?_,oy,oz⟩;have fv:zxg p q t=yjd p t-yjd q t:=zxj p q t;have key:d.1*x.2=x.1*d.2:=by
  have c:0<y.2*k1*(z.2*k2)*k:=Qb (Qb (by rw[y2];exact ot.d1) (by rw[z2];exact ot.d1)) hk;refine Qe (a:=y.2*k1*(z.2*k2)*k) (by omega) ?_;have a1:d.1*x.2*(y.2*k1*(z.2*k2)*k)=(d.1*(y.2*z.2))*(k1*k2)*(x.2*k):=by ac_rfl
  have a2:x.1*d.2*(y.2*k1*(z.2*k2)*k)=(x.1*k)*d.2*((y.2*k1)*(z.2*k2)):=by ac_rfl
  have a3:(y.1*z.2-z.1*y.2)*d.2*(k1*k2)=((y.1*k1)*(z.2*k2)-(z.1*k2)*(y.2*k1))*d.2:=by
   have b1:(y.1*z.2-z.1*y.2)*d.2*(k1*k2)=((y.1*z.2-z.1*y.2)*(k1*k2))*d.2:=by ac_rfl
   have c1:y.1*z.2*(k1*k2)=(y.1*k1)*(z.2*k2):=by ac_rfl
   have c2:z.1*y.2*(k1*k2)=(z.1*k2)*(y.2*k1):=by ac_rfl
   rw[b1,Qc,c1,c2]
  rw[a1,a2,e,a3,h1,h2,y1,y2,z1,z2,fv,← Qc]
  ac_rfl
 exact ykd od ox (show d.1*x.2<=x.1*d.2 by omega) (show x.1*d.2<=d.1*x.2 by omega)
def y6g{α:Type}(lt:α->α->Bool)(x:α):List α->List α
 | []=>[x]
 | y :: ys=>if lt x y=true then x :: y :: ys else y :: y6g lt x ys
def sortG{α:Type}(lt:α->α->Bool)(l:List α):List α:=l.foldr (y6g lt) []
def Srt{α:Type}(lt:α->α->Bool)(l:List α):Prop:=l.Pairwise λa b=>lt b a=false
theorem y6h{α:Type}(lt:α->α->Bool)(x:α):∀l:List α,(y6g lt x l).Perm (x :: l)
 | []=>Q1.refl _
 | y :: ys=>by
  unfold y6g;split
  ·exact Q1.refl _
  ·exact(Q1.cons y (y6h lt x ys)).trans (Q1.swap x y ys)
theorem x4h{α:Type}(lt:α->α->Bool):∀l:List α,(sortG lt l).Perm l
 | []=>Q1.refl _
 | x :: xs=>(y6h lt x _).trans (Q1.cons x (x4h lt xs))
theorem y6i{α:Type}{lt:α->α->Bool}{S:α->Prop}(tr:∀a b c,S a->S b->S c->lt b a=false->lt c b=false->lt c a=false)(asy:∀a b,S a->S b->lt a b=true->lt b a=false)(x:α):∀l:List α,S x->(∀y∈l,S y)->Srt lt l->Srt lt (y6g lt x l)
 | [],_,_,_=>List.pairwise_singleton _ _
 | y :: ys,hx,hl,hs=>by
  obtain⟨h1,h2⟩:=Q3.1 hs;have sy:=hl y Q4;unfold y6g;split
  ·rename_i hlt;refine Q3.2 ⟨λz hz=>?_,hs⟩;rcases Q6.1 hz with rfl|hz
   ·exact asy _ _ hx sy hlt
   ·exact tr x y z hx sy (hl z (Q5 _ hz)) (asy _ _ hx sy hlt) (h1 z hz)
  ·rename_i hlt;refine Q3.2 ⟨λz hz=>?_,y6i tr asy x ys hx (λz hz=>hl z (Q5 _ hz)) h2⟩;rcases Q6.1 ((y6h lt x ys).mem_iff.1 hz) with rfl|hz
   ·simpa using hlt
   ·exact h1 z hz
theorem x4i{α:Type}{lt:α->α->Bool}{S:α->Prop}(tr:∀a b c,S a->S b->S c->lt b a=false->lt c b=false->lt c a=false)(asy:∀a b,S a->S b->lt a b=true->lt b a=false):∀l:List α,(∀y∈l,S y)->Srt lt (sortG lt l)
 | [],_=>Xd.nil
 | x :: xs,h=>y6i tr asy x _ (h x Q4) (λy hy=>h y (Q5 _ ((x4h lt xs).mem_iff.1 hy))) (x4i tr asy xs λy hy=>h y (Q5 _ hy))
theorem x5i{α:Type}{lt:α->α->Bool}{S:α->Prop}(an:∀a b,S a->S b->lt a b=false->lt b a=false->a=b):∀(xs ys:List α),xs.Perm ys->(∀x∈xs,S x)->Srt lt xs->Srt lt ys->xs=ys
 | [],ys,hp,_,_,_=>(Q1.eq_nil hp.symm).symm
 | x :: xs,[],hp,_,_,_=>by have:=hp.length_eq;simp at this
 | x :: xs,y :: ys,hp,hS,h1,h2=>by
  obtain⟨a1,a2⟩:=Q3.1 h1;obtain⟨b1,b2⟩:=Q3.1 h2;have e:x=y:=by
   have hx:=hp.mem_iff.1 (Q4 (a:=x) (l:=xs));have hy:=hp.mem_iff.2 (Q4 (a:=y) (l:=ys));rcases Q6.1 hx with rfl|hx
   ·rfl
   ·rcases Q6.1 hy with rfl|hy'
    ·rfl
    ·exact an _ _ (hS _ Q4) (hS _ hy) (b1 _ hx) (a1 _ hy')
  subst e;rw[x5i an xs ys (Q1.cons_inv hp) (λz hz=>hS z (Q5 _ hz)) a2 b2]
theorem Srt.filter{α:Type}{lt:α->α->Bool}{l:List α}(h:Srt lt l)(p:α->Bool):Srt lt (l.filter p):=Xd.sublist List.filter_sublist h
abbrev Pr:=Int×Int×(Int×Int)
def clP(a b:Pr):Bool:=if zp5 a.2.2 b.2.2≠0 then decide (zp5 a.2.2 b.2.2<0) else if a.1≠b.1 then decide (a.1<b.1) else decide (a.2.1<b.2.1)
def okPr(a:Pr):Prop:=okR a.2.2
theorem zmg{a b:Pr}:clP a b=true↔¬ leR b.2.2 a.2.2\/(leR a.2.2 b.2.2/\leR b.2.2 a.2.2)/\(a.1<b.1\/a.1=b.1/\a.2.1<b.2.1):=by
 unfold clP;have l:=zpe (a:=a.2.2) (b:=b.2.2);have e:=zp7 (a:=a.2.2) (b:=b.2.2);split
 ·rename_i h1;rw[decide_eq_true_iff,l];constructor
  ·exact .inl
  ·rintro(h|⟨h,h9⟩)
   ·exact h
   ·exact absurd (e.2 h) h1
 ·rename_i h0;have h0:zp5 a.2.2 b.2.2=0:=by omega
  have he:=e.1 h0;split
  ·rw[decide_eq_true_iff];constructor
   ·intro h;exact .inr ⟨he,.inl h⟩
   ·rintro(h|⟨_,h⟩)
    ·exact absurd he.2 h
    ·omega
  ·rw[decide_eq_true_iff];constructor
   ·intro h;exact .inr ⟨he,by omega⟩
   ·rintro(h|⟨_,h⟩)
    ·exact absurd he.2 h
    ·omega
theorem zmj{a b:Pr}:clP a b=false↔leR b.2.2 a.2.2/\(leR a.2.2 b.2.2->b.1<a.1\/b.1=a.1/\b.2.1<=a.2.1):=by
 rw[Bool.eq_false_iff,ne_eq,zmg];constructor
 ·intro h;have h1:leR b.2.2 a.2.2:=Decidable.by_contra λx=>h (.inl x)
  exact⟨h1,λh2=>by
   have:¬ (a.1<b.1\/a.1=b.1/\a.2.1<b.2.1):=λx=>h (.inr ⟨⟨h2,h1⟩,x⟩)
   omega⟩
 ·rintro⟨h1,h2⟩ (h|⟨⟨h,_⟩,h3⟩)
  ·exact h h1
  ·have:=h2 h;omega
theorem zmh(a:Pr):clP a a=false:=zmj.2 ⟨y99 _,λ_=>.inr ⟨rfl,Qv _⟩⟩
theorem zmk(a b c:Pr)(ha:okPr a)(hb:okPr b)(hc:okPr c)(h1:clP b a=false)(h2:clP c b=false):clP c a=false:=by
 rw[zmj] at *
 refine⟨y9b ha hb hc h1.1 h2.1,λh=>?_⟩;have x1:=h1.2 (y9b hb hc ha h2.1 h);have x2:=h2.2 (y9b hc ha hb h h1.1);omega
theorem zmf(a b:Pr)(_:okPr a)(_:okPr b)(h:clP a b=true):clP b a=false:=by
 rw[zmg] at h;rw[zmj];rcases h with h|⟨h,h1⟩
 ·exact⟨(y9a _ _).resolve_right h,λx=>absurd x h⟩
 ·exact⟨h.1,λ_=>by omega⟩
theorem zme(a b:Pr)(ha:okPr a)(hb:okPr b)(h1:clP a b=false)(h2:clP b a=false):a=b:=by
 rw[zmj] at h1 h2;have e:=ykd ha hb h2.1 h1.1;have x:=h1.2 h2.1;have y:=h2.2 h1.1;obtain⟨a1,a2,a3⟩:=a;obtain⟨b1,b2,b3⟩:=b;simp only at *
 subst e;rw[show a1=b1 by omega,show a2=b2 by omega]
theorem zmi{a b:Pr}(ha:okPr a)(hb:okPr b)(h:a≠b)(h1:clP b a=false):clP a b=true:=by
 cases h2:clP a b with
 | true=>rfl
 | false=>exact absurd (zme a b ha hb h2 h1) h
def x4q(l:List Pr):List Pr:=sortG clP l
theorem x4u(l:List Pr):(x4q l).Perm l:=x4h _ _
theorem x4v{l:List Pr}(h:∀y∈l,okPr y):Srt clP (x4q l):=x4i (S:=okPr) zmk zmf l h
theorem x4t{l s:List Pr}(h:∀y∈l,okPr y)(hp:s.Perm l)(hs:Srt clP s):s=x4q l :=
 x5i (S:=okPr) zme s (x4q l) (hp.trans (x4u l).symm) (λx hx=>h x (hp.mem_iff.1 hx)) hs (x4v h)
def yyc{α:Type}(D:Nat->Nat->α)(i k:Nat):List α:=((Q8 k).filter λb=>decide (i<b)).map (D i)
def z6b{α:Type}(D:Nat->Nat->α)(n i:Nat):List α:=(Q8 i).flatMap λa=>yyc D a n
def yfy{α:Type}(D:Nat->Nat->α)(n:Nat):List α:=(Q8 n).map λa=>D a (a+1)
theorem ydy{α:Type}{D:Nat->Nat->α}{x:α}:x∈yyc D i k↔∃b,i<b/\b<k/\x=D i b:=by
 unfold yyc;rw[Xa];constructor
 ·rintro⟨b,hb,rfl⟩;obtain⟨h1,h2⟩:=Xb.1 hb;exact⟨b,by simpa using h2,Q2.1 h1,rfl⟩
 ·rintro⟨b,h1,h2,rfl⟩;exact⟨b,Xb.2 ⟨Q2.2 h2,by simpa using h1⟩,rfl⟩
theorem ydo{α:Type}{D:Nat->Nat->α}{n:Nat}{x:α}:x∈z6b D n i↔∃a b,a<i/\a<b/\b<n/\x=D a b:=by
 unfold z6b;rw[List.mem_flatMap];constructor
 ·rintro⟨a,ha,hx⟩;obtain⟨b,h1,h2,h3⟩:=ydy.1 hx;exact⟨a,b,Q2.1 ha,h1,h2,h3⟩
 ·rintro⟨a,b,h0,h1,h2,h3⟩;exact⟨a,Q2.2 h0,ydy.2 ⟨b,h1,h2,h3⟩⟩
theorem ydx{α:Type}{D:Nat->Nat->α}{n:Nat}{x:α}:x∈yfy D n↔∃a,a<n/\x=D a (a+1):=by
 unfold yfy;rw[Xa];constructor
 ·rintro⟨a,h,rfl⟩;exact⟨a,Q2.1 h,rfl⟩
 ·rintro⟨a,h,rfl⟩;exact⟨a,Q2.2 h,rfl⟩
def sP(f:List Pt)(t:Int×Int)(k:Nat):Pt:=(x4k f t).getD k (0,0,0)
theorem yz5(hk:k<f.length):(x4k f t)[k]?=some (sP f t k):=by
 have h:k<(x4k f t).length:=by rw[x4l];exact hk
 unfold sP;rw[Xc,List.getElem?_eq_getElem h];rfl
theorem yz7(hk:k<f.length):sP f t k∈f:=(x4n t f).mem_iff.1 (List.mem_of_getElem? (yz5 hk))
theorem yz9(of:okF f)(hk:k<f.length):okP (sP f t k):=of.each _ (yz7 hk)
theorem yza(hk:k<f.length):(yll f t)[k]?=some (sP f t k).1:=by
 unfold yll;rw[List.getElem?_map,yz5 hk];rfl
theorem yzb(hk:k<f.length):(yll f t).getD k 0=(sP f t k).1:=by
 rw[Xc,yza hk];rfl
theorem yz4(of:okF f)(hk:k<f.length):gP f (yr5 f (sP f t k).1)=sP f t k:=y1e of (yz7 hk)
theorem yz6(of:okF f)(h:i<k)(hk:k<f.length):leads (sP f t i) (sP f t k) t=true:=by
 have ho:=(x4o (yk2 of) t).ord;obtain⟨a1,a2⟩:=Q7.1 (yz5 (t:=t) (show i<f.length by omega));obtain⟨b1,b2⟩:=Q7.1 (yz5 (t:=t) hk);have:=Q9.1 ho i k a1 b1 h;rw[a2,b2] at this;exact this
theorem yzc(of:okF f)(h:i<k)(hk:k<f.length):xb1 (sP f t k) t<=xb1 (sP f t i) t:=by
 have:=y9n.1 (yz6 of (t:=t) h hk);omega
theorem yz8(of:okF f)(h:i<k)(hk:k<f.length):(sP f t i).1≠(sP f t k).1:=by
 have hi:=(x4o (yk2 of) t).ids (yk2 of);obtain⟨a1,a2⟩:=Q7.1 (yz5 (t:=t) (show i<f.length by omega));obtain⟨b1,b2⟩:=Q7.1 (yz5 (t:=t) hk);have:=Q9.1 hi i k a1 b1 h;rw[a2,b2] at this;exact this
theorem yk9.sP{l:Ls}(ok:yk9 l){k:Nat}(hk:k<l.ord.length):ptL l k=Go.Proofs.YtnhdkkblehadjaaGreat.sP l.ck.f l.ck.now k:=by
 have:=ok.sorted hk;rw[yz5 (by rw[← ok.len];exact hk)] at this;exact(Option.some.inj this).symm
def spot(f:List Pt)(t:Int×Int)(k:Nat):(Int×Int)×Int:=ypx (sP f t k) t
def x9g(f:List Pt)(t:Int×Int)(n:Nat):Prop:=∀k,k<n->(spot f t k).2=0
instance (f:List Pt) (t:Int×Int) (n:Nat):Decidable (x9g f t n):=inferInstanceAs (Decidable (∀k,k<n->_))
def y1j(f:List Pt)(t:Int×Int)(i k:Nat):(Int×Int)×Int:=x6a (spot f t i).1 (spot f t k).1
def prM(f:List Pt)(t:Int×Int)(i k:Nat):Pr:=(min (sP f t i).1 (sP f t k).1,max (sP f t i).1 (sP f t k).1,(y1j f t i k).1)
theorem x5c(of:okF f)(ot:okR t)(hk:k<f.length)(h:(spot f t k).2=0):∃g:Int,0<g/\(spot f t k).1.1*g=xb1 (sP f t k) t/\(spot f t k).1.2*g=t.2/\okR (spot f t k).1:=by
 unfold spot at h ⊢;rw[ypz (yz9 of hk) ot] at h ⊢;exact ymo ot.d1 h
theorem y1k(of:okF f)(ot:okR t)(hi:i<f.length)(hk:k<f.length)(h1:(spot f t i).2=0)(h2:(spot f t k).2=0)(h:(y1j f t i k).2=0):okR (y1j f t i k).1/\(y1j f t i k).1.1*t.2=(xb1 (sP f t i) t-xb1 (sP f t k) t)*(y1j f t i k).1.2:=by
 obtain⟨g1,p1,y1,y2,oy⟩:=x5c of ot hi h1;obtain⟨g2,p2,z1,z2,oz⟩:=x5c of ot hk h2;obtain⟨od,e⟩:=x6c oy oz h;refine⟨od,?_⟩;show (x6a (spot f t i).1 (spot f t k).1).1.1*t.2=_*(x6a (spot f t i).1 (spot f t k).1).1.2;generalize (x6a (spot f t i).1 (spot f t k).1).1=d at *
 generalize (spot f t i).1=y at *
 generalize (spot f t k).1=z at *
 have c:0<t.2:=ot.d1;refine Qe (a:=t.2) (by omega) ?_;have a1:d.1*t.2*t.2=(d.1*(y.2*z.2))*(g1*g2):=by
  conv=>lhs;rw[← y2];arg 2;rw[y2,← z2]
  ac_rfl
 have c1:y.1*z.2*(g1*g2)=(y.1*g1)*(z.2*g2):=by ac_rfl
 have c2:z.1*y.2*(g1*g2)=(z.1*g2)*(y.2*g1):=by ac_rfl
 have a3:(y.1*z.2-z.1*y.2)*d.2*(g1*g2)=((y.1*z.2-z.1*y.2)*(g1*g2))*d.2:=by ac_rfl
 rw[a1,e,a3,Qc,c1,c2,y1,y2,z1,z2,← Qc]
 ac_rfl
theorem zrr{m e:Int}(hd:0<d)(he:0<e)(g1:Xe n.natAbs d.natAbs=1)(g2:Xe m.natAbs e.natAbs=1)(e0:n*e=m*d):n=m/\d=e:=by
 have ea:n.natAbs*e.natAbs=m.natAbs*d.natAbs:=by rw[← Qj,← Qj,e0]
 have x1:d.natAbs ∣ e.natAbs:=by
  have:d.natAbs ∣ n.natAbs*e.natAbs:=⟨m.natAbs,by rw[ea,Xl]⟩;exact(Xf.symm g1:Xf d.natAbs n.natAbs).dvd_of_dvd_mul_left this
 have x2:e.natAbs ∣ d.natAbs:=by
  have:e.natAbs ∣ m.natAbs*d.natAbs:=⟨n.natAbs,by rw[← ea,Xl]⟩;exact(Xf.symm g2:Xf e.natAbs m.natAbs).dvd_of_dvd_mul_left this
 have x3:=Nat.dvd_antisymm x1 x2;have hde:d=e:=by omega
 subst hde;exact⟨Qe (by omega) e0,rfl⟩
theorem z3r{c d:Int×Int}(oa:okR a)(ob:okR b)(oc:okR c)(od:okR d)(h:(a.1*b.2+b.1*a.2)*(c.2*d.2)=(c.1*d.2+d.1*c.2)*(a.2*b.2)):z3n a b=z3n c d:=by
 obtain⟨x,y,K,H,M,N,w⟩:=z3t oa ob;obtain⟨x',y',K',H',M',N',w'⟩:=z3t oc od;have val:∀{a b:Int×Int}{x y K H M:Nat}{N:Int},z01 a b x y K H M N->N*(a.2*b.2)=(a.1*b.2+b.1*a.2)*((x*(y*K):Nat):Int):=λ{a b x y K H M N} w=>by
  rw[w.ea,w.eb];have e:=w.eN;simp only[Qd];have e2:(a.1*((y:Int)*((K:Int)*H))+b.1*((x:Int)*((K:Int)*H)))=(a.1*y+b.1*x)*((K:Int)*H):=by
   rw[Qz];congr 1 <;> ac_rfl
  rw[e2,← e]
  ac_rfl
 have v:=val w;have v':=val w';have p:=w.pos;have p':=w'.pos;have c1:=w.cop;have c2:=w'.cop;rw[w.eM] at c1;rw[w'.eM] at c2;have pa:0<a.2*b.2:=Qb oa.d1 ob.d1;have pc:0<c.2*d.2:=Qb oc.d1 od.d1;have hadd:=w.add;have hadd':=w'.add;have sv:=w.v;have sv':=w'.v;have en:=w.eN;have en':=w'.eN;have hp:=w.hp;have hp':=w'.hp;rw[← sv] at en;rw[← sv'] at en';have eM:=w.eM;have eM':=w'.eM;generalize x*(y*K)=D at *
 generalize x'*(y'*K')=D' at *
 have key:N*(D':Int)=N'*(D:Int):=by
  refine Qe (a:=(a.2*b.2)*(c.2*d.2)) (by have:=Qb pa pc;omega) ?_;have a1:N*(D':Int)*((a.2*b.2)*(c.2*d.2))=(N*(a.2*b.2))*(D'*(c.2*d.2)):=by ac_rfl
  have a2:N'*(D:Int)*((a.2*b.2)*(c.2*d.2))=(N'*(c.2*d.2))*(D*(a.2*b.2)):=by ac_rfl
  rw[a1,a2,v,v'];have a3:(a.1*b.2+b.1*a.2)*(D:Int)*(D'*(c.2*d.2))=((a.1*b.2+b.1*a.2)*(c.2*d.2))*(D*D'):=by ac_rfl
  rw[a3,h]
  ac_rfl
 obtain⟨r1,r2⟩:=zrr (n:=N) (d:=D) (m:=N') (e:=D') (by omega) (by omega) (by rw[Qa];exact c1) (by rw[Qa];exact c2) key;have sg:∀{V N:Int}{H:Nat},0<H->N*H=V->(V<0↔N<0):=λ{V N H} hp e=>by
  rw[← e];constructor
  ·intro h;rcases Qm N 0 with k|k
   ·exact k
   ·have:=Ql k (Qs H);omega
  ·intro h;exact Qp h (by omega)
 have s1:=sg hp en;have s2:=sg hp' en';have eD:D=D':=by omega
 have eMM:M=M':=by rw[eM,eM',r1]
 rw[hadd,hadd',eD,eMM];congr 1;rw[decide_eq_decide];omega
theorem y1l(of:okF f)(ot:okR t)(hi:i<f.length)(hk:k<f.length)(hj:j<f.length)(hm:m<f.length)(T:x9g f t f.length)(h:xb1 (sP f t i) t-xb1 (sP f t k) t=xb1 (sP f t j) t-xb1 (sP f t m) t):y1j f t i k=y1j f t j m:=by
 obtain⟨g1,p1,a1,a2,oa⟩:=x5c of ot hi (T i hi);obtain⟨g2,p2,b1,b2,ob⟩:=x5c of ot hk (T k hk);obtain⟨g3,p3,c1,c2,oc⟩:=x5c of ot hj (T j hj);obtain⟨g4,p4,d1,d2,od⟩:=x5c of ot hm (T m hm);unfold y1j x6a;refine z3r oa (ykf ob) oc (ykf od) ?_;show ((spot f t i).1.1*(spot f t k).1.2 + -(spot f t k).1.1*(spot f t i).1.2)*((spot f t j).1.2*(spot f t m).1.2)=((spot f t j).1.1*(spot f t m).1.2 + -(spot f t m).1.1*(spot f t j).1.2)*((spot f t i).1.2*(spot f t k).1.2);generalize (spot f t i).1=a at *
 generalize (spot f t k).1=b at *
 generalize (spot f t j).1=c at *
 generalize (spot f t m).1=d at *
 have ht:0<t.2:=ot.d1;rw[Qi,Qi,← Qr,← Qr];refine Qe (a:=(g1*g2)*(g3*g4)) (by have:=Qb (Qb p1 p2) (Qb p3 p4);omega) ?_;have e1:(a.1*b.2-b.1*a.2)*(c.2*d.2)*((g1*g2)*(g3*g4))=((a.1*b.2-b.1*a.2)*(g1*g2))*((c.2*g3)*(d.2*g4)):=by ac_rfl
 have e2:(c.1*d.2-d.1*c.2)*(a.2*b.2)*((g1*g2)*(g3*g4))=((c.1*d.2-d.1*c.2)*(g3*g4))*((a.2*g1)*(b.2*g2)):=by ac_rfl
 have q1:a.1*b.2*(g1*g2)=(a.1*g1)*(b.2*g2):=by ac_rfl
 have q2:b.1*a.2*(g1*g2)=(b.1*g2)*(a.2*g1):=by ac_rfl
 have q3:c.1*d.2*(g3*g4)=(c.1*g3)*(d.2*g4):=by ac_rfl
 have q4:d.1*c.2*(g3*g4)=(d.1*g4)*(c.2*g3):=by ac_rfl
 rw[e1,e2,Qc (a.1*b.2),Qc (c.1*d.2),q1,q2,q3,q4,a1,a2,b1,b2,c1,c2,d1,d2,← Qc,← Qc,h]
structure z2g(f:List Pt)(t:Int×Int):Prop where
 of:okF f
 ot:okR t
 T:x9g f t f.length
theorem z2g.gap(w:z2g f t)(hi:i<f.length)(hk:k<f.length)(h:(y1j f t i k).2=0):okR (y1j f t i k).1/\(y1j f t i k).1.1*t.2=(xb1 (sP f t i) t-xb1 (sP f t k) t)*(y1j f t i k).1.2:=y1k w.of w.ot hi hk (w.T i hi) (w.T k hk) h
theorem z2g.le(w:z2g f t)(hi:i<f.length)(hk:k<f.length)(hj:j<f.length)(hm:m<f.length)(h1:(y1j f t i k).2=0)(h2:(y1j f t j m).2=0):leR (y1j f t i k).1 (y1j f t j m).1↔xb1 (sP f t i) t-xb1 (sP f t k) t<=xb1 (sP f t j) t-xb1 (sP f t m) t:=by
 obtain⟨o1,e1⟩:=w.gap hi hk h1;obtain⟨o2,e2⟩:=w.gap hj hm h2;generalize (y1j f t i k).1=a at *
 generalize (y1j f t j m).1=b at *
 generalize xb1 (sP f t i) t-xb1 (sP f t k) t=V at *
 generalize xb1 (sP f t j) t-xb1 (sP f t m) t=U at *
 have ht:0<t.2:=w.ot.d1;have pa:=o1.d1;have pb:=o2.d1;unfold leR;have x1:a.1*b.2*t.2=V*(a.2*b.2):=by rw[Qt,e1];ac_rfl
 have x2:b.1*a.2*t.2=U*(a.2*b.2):=by rw[Qt,e2];ac_rfl
 have pp:0<a.2*b.2:=Qb pa pb;constructor
 ·intro h;have:=Qu h (show 0<=t.2 by omega);rw[x1,x2] at this;exact Qw this pp
 ·intro h;have:=Qu h (show 0<=a.2*b.2 by omega);rw[← x1,← x2] at this;exact Qw this ht
def x9f(f:List Pt)(t:Int×Int):List Pr:=(z6b (λi k=>(prM f t i k,(y1j f t i k).2)) f.length f.length).filterMap λx=>if x.2=0 then some x.1 else none
theorem ye0{p:Pr}:p∈x9f f t↔∃i k,i<k/\k<f.length/\(y1j f t i k).2=0/\p=prM f t i k:=by
 unfold x9f;rw[List.mem_filterMap];constructor
 ·rintro⟨x,hx,he⟩;obtain⟨a,b,h0,h1,h2,rfl⟩:=ydo.1 hx;split at he
  ·rename_i hz;exact⟨a,b,h1,h2,hz,(Option.some.inj he).symm⟩
  ·cases he
 ·rintro⟨i,k,h1,h2,h3,rfl⟩;exact⟨(prM f t i k,(y1j f t i k).2),ydo.2 ⟨i,k,by omega,h1,h2,rfl⟩,Zp h3⟩
theorem z2g.okPr{f:List Pt}{t:Int×Int}(w:z2g f t):∀p∈x9f f t,okPr p:=λp hp=>by
 obtain⟨i,k,h1,h2,h3,rfl⟩:=ye0.1 hp;exact(w.gap (by omega) h2 h3).1
def ygc(f:List Pt)(t:Int×Int):Prop:=∀i,i<f.length-1->(y1j f t i (i+1)).2=0
instance (f:List Pt) (t:Int×Int):Decidable (ygc f t):=inferInstanceAs (Decidable (∀i,i<_->_))
def yg9(f:List Pt)(t:Int×Int):List Pr:=yfy (prM f t) (f.length-1)
theorem z2g.rest(w:z2g f t)(hn:ygc f t){B:Pr}(hB:B∈x9f f t)(hb:∀p∈yg9 f t,leR B.2.2 p.2.2)(hik:i<k)(hkm:k<=m)(hm:m<f.length)(h:(y1j f t i k).2≠0\/¬ leR (y1j f t i k).1 B.2.2)(hz:(y1j f t i m).2=0):clP (prM f t i m) B=false:=by
 obtain⟨a,b,h1,h2,h3,rfl⟩:=ye0.1 hB;have mono:∀{x y:Nat},x<=y->y<f.length->xb1 (sP f t y) t<=xb1 (sP f t x) t:=λ{x y} hxy hy=>by
  rcases Nat.lt_or_ge x y with q|q
  ·exact yzc w.of q hy
  ·rw[show x=y by omega];exact Qv _
 have v1:=mono hkm hm;have v2:=mono (show i+1<=k by omega) (by omega);have zn:=hn i (by omega);have l1:leR (y1j f t a b).1 (y1j f t i (i+1)).1:=hb _ (ydx.2 ⟨i,by omega,rfl⟩);rw[w.le (by omega) h2 (by omega) (by omega) h3 zn] at l1;have far:¬ leR (y1j f t i m).1 (y1j f t a b).1:=by
  rcases h with h|h
  ·intro hle;rw[w.le (by omega) hm (by omega) h2 hz h3] at hle;apply h;rw[y1l w.of w.ot (i:=i) (k:=k) (j:=i) (m:=i+1) (by omega) (by omega) (by omega) (by omega) w.T (by omega)];exact zn
  ·intro hle;by_cases hk0:(y1j f t i k).2=0
   ·have h:¬ leR (y1j f t i k).1 (y1j f t a b).1:=h;rw[w.le (by omega) (by omega) (by omega) h2 hk0 h3] at h;rw[w.le (by omega) hm (by omega) h2 hz h3] at hle;omega
   ·rw[w.le (by omega) hm (by omega) h2 hz h3] at hle;apply hk0;rw[y1l w.of w.ot (i:=i) (k:=k) (j:=i) (m:=i+1) (by omega) (by omega) (by omega) (by omega) w.T (by omega)];exact zn
 rw[zmj];exact⟨(y9a _ _).resolve_right far,λx=>absurd x far⟩
def zPr:Pr:=(0,0,(0,0))
def z6g(f:List Pt)(t:Int×Int):Prop:=∀k,k<f.length->∀i,i<k->(y1j f t i k).2=0
instance (f:List Pt) (t:Int×Int):Decidable (z6g f t):=inferInstanceAs (Decidable (∀k,k<_->∀i,i<k->_))
