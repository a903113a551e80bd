/- The engine, parts FM, FN, DV, DQ, put together. Conditions: none. -/
import Derived.Test.YtnhdkkblehadjaaGreatE5
open BitVec renaming ofInt->Qa,toNat_ofInt->Qb
open Bool renaming eq_iff_iff->Qc
open Int renaming mul_comm->Qd,mul_assoc->Qe,add_mul->Qg,mul_nonneg->Qh,one_mul->Qi,mul_le_mul_of_nonneg_right->Qj,lt_or_le->Ql,mul_ediv_add_emod->Qm,sub_mul->Qn,mul_add->Qo,toNat->Qp,tdiv_eq_ediv_of_nonneg->Qq,mul_neg_of_neg_of_pos->Qr,mul_left_comm->Qs,mul_le_mul_of_nonneg_left->Qt,lt_trichotomy->Qu,emod_nonneg->Qv,emod_lt_of_pos->Qw,ediv_nonneg->Qx
open Go.IntKind renaming u64->Qy
open Nat renaming and_two_pow_sub_one_eq_mod->Qz
set_option linter.unusedVariables false
section
namespace Go.Eng
variable{x z y:Int}
theorem y5j(z:Int):IntKind.i64.wrap z=(z+9223372036854775808)%18446744073709551616-9223372036854775808:=by
 unfold IntKind.wrap;simp[IntKind.bits,IntKind.signed];omega
theorem yce(h0:0<=z)(h1:z<18446744073709551616):Qy.wrap (↑(Qa Qy.bits z &&& Qa Qy.bits 4294967295).toNat:Int)=z%4294967296:=by
 have e:(Qa Qy.bits z &&& Qa Qy.bits 4294967295).toNat=z.toNat%4294967296:=by
  rw[BitVec.toNat_and,Qb,Qb];have e1:(z%((2:Int) ^ Qy.bits)).toNat=z.toNat:=by
   have:(2:Int) ^ Qy.bits=18446744073709551616:=by decide
   rw[this];omega
  have e2:((4294967295:Int)%((2:Int) ^ Qy.bits)).toNat=2 ^ 32-1:=by decide
  have e1':(z%(((2:Nat) ^ Qy.bits:Nat):Int)).toNat=z.toNat:=by
   have:(((2:Nat) ^ Qy.bits:Nat):Int)=18446744073709551616:=by decide
   rw[this];omega
  have e2':((4294967295:Int)%(((2:Nat) ^ Qy.bits:Nat):Int)).toNat=2 ^ 32-1:=by decide
  first
   | rw[e1,e2];exact Qz _ 32
   | rw[e1',e2'];exact Qz _ 32
 rw[e,xcq];unfold xcl;omega
theorem x0p(h0:0<=z):z.fdiv (2 ^ Min.min (Qp 32) Qy.bits)=z/4294967296:=by
 have e:(2:Int) ^ Min.min (Qp 32) Qy.bits=4294967296:=by decide
 rw[e,Int.fdiv_eq_ediv_of_nonneg _ (by omega)]
theorem yfq{m n:Int}(hx:0<=x)(hx':x<=m)(hy:0<=y)(hy':y<=n):0<=x*y/\x*y<=m*n :=
 ⟨Qh hx hy,Int.mul_le_mul hx' hy' hy (by omega)⟩
theorem yfu(x y:Int):x*y=(x/4294967296)*(y/4294967296)*18446744073709551616+((x/4294967296)*(y%4294967296)+(x%4294967296)*(y/4294967296))*4294967296+(x%4294967296)*(y%4294967296):=by
 have hx:x=4294967296*(x/4294967296)+x%4294967296:=(Qm x 4294967296).symm;have hy:y=4294967296*(y/4294967296)+y%4294967296:=(Qm y 4294967296).symm;conv=>lhs;rw[hx,hy]
 generalize x/4294967296=a;generalize x%4294967296=b;generalize y/4294967296=c;generalize y%4294967296=d;rw[Qg,Qo,Qo];have e1:4294967296*a*(4294967296*c)=a*c*18446744073709551616:=by
  rw[Qe,Qs a,← Qe 4294967296,Qd];rfl
 have e2:4294967296*a*d=(a*d)*4294967296:=by rw[Qe,Qd]
 have e3:b*(4294967296*c)=(b*c)*4294967296:=by rw[Qs,Qd]
 rw[e1,e2,e3];omega
theorem y4n(hx:0<=x)(hx':x<18446744073709551616)(hy:0<=y)(hy':y<18446744073709551616) :
  xcl (xcl (xcl ((x/4294967296)*(y/4294967296))+xcl (xcl ((x/4294967296)*(y%4294967296))+xcl ((x%4294967296)*(y%4294967296))/4294967296)/4294967296) +
   xcl (xcl (xcl ((x/4294967296)*(y%4294967296))+xcl ((x%4294967296)*(y%4294967296))/4294967296)%4294967296+xcl ((x%4294967296)*(y/4294967296)))/4294967296)=x*y/18446744073709551616:=by
 have hs:=yfu x y;have b11:=yfq (x:=x/4294967296) (y:=y/4294967296) (m:=4294967295) (n:=4294967295) (by omega) (by omega) (by omega) (by omega);have b10:=yfq (x:=x/4294967296) (y:=y%4294967296) (m:=4294967295) (n:=4294967295) (by omega) (by omega) (by omega) (by omega);have b01:=yfq (x:=x%4294967296) (y:=y/4294967296) (m:=4294967295) (n:=4294967295) (by omega) (by omega) (by omega) (by omega);have b00:=yfq (x:=x%4294967296) (y:=y%4294967296) (m:=4294967295) (n:=4294967295) (by omega) (by omega) (by omega) (by omega);unfold xcl;generalize (x/4294967296)*(y/4294967296)=p11 at *
 generalize (x/4294967296)*(y%4294967296)=p10 at *
 generalize (x%4294967296)*(y/4294967296)=p01 at *
 generalize (x%4294967296)*(y%4294967296)=p00 at *
 generalize x*y=P at *
 omega
def z2u(x:Int):Int:=if x<0 then -x else x
theorem z30(x:Int):z2u x=x.natAbs:=by unfold z2u;split <;> omega
theorem z33(x:Int):0<=z2u x:=by unfold z2u;split <;> omega
theorem z2y(x y:Int):z2u x*z2u y=z2u (x*y):=by
 rw[z30,z30,z30,Int.natAbs_mul];simp
structure z0d(neg:Bool)(hi lo:Int)(v:Int):Prop where
 h0:0<=hi
 h1:hi<18446744073709551616
 l0:0<=lo
 l1:lo<18446744073709551616
 ng:neg=true->v<0/\hi*18446744073709551616+lo = -v
 ps:neg=false->0<=v/\hi*18446744073709551616+lo=v
theorem yft{a b:Int}:a*b<0↔(a<0/\0<b)\/(0<a/\b<0):=by
 rcases Qu a 0 with ha|ha|ha <;> rcases Qu b 0 with hb|hb|hb
 ·have:=Int.mul_pos_of_neg_of_neg ha hb;omega
 ·subst hb;simp;
 ·have:=Qr ha hb;omega
 ·subst ha;simp
 ·subst ha;simp
 ·subst ha;simp
 ·have:=Int.mul_neg_of_pos_of_neg ha hb;omega
 ·subst hb;simp
 ·have:=Int.mul_pos ha hb;omega
abbrev Pt:=Int×Int×Int
def zxg(p q:Pt)(t:Int×Int):Int:=(p.2.1-q.2.1)*t.2+(p.2.2-q.2.2)*t.1
def sgn(v:Int):Int:=if v<0 then -1 else if v>0 then 1 else 0
def leads(p q:Pt)(t:Int×Int):Bool:=if zxg p q t≠0 then decide (zxg p q t>0) else if p.2.2≠q.2.2 then decide (p.2.2>q.2.2) else decide (p.1<q.1)
def zp3(p q:Pt)(t:Int×Int):Int:=if zxg p q t≠0 then (if zxg p q t<0 then -1 else 1) else if zoo p.2.2 q.2.2≠0 then zoo p.2.2 q.2.2 else zoo q.1 p.1
theorem zp4(p q:Pt)(t:Int×Int):decide (zp3 p q t>0)=leads p q t:=by
 unfold zp3 leads;split
 ·split
  ·rw[Qc,Zq,Zq];omega
  ·rw[Qc,Zq,Zq];omega
 ·split
  ·rename_i h1 h2;rw[Zp (λe=>h2 (zop.2 e)),Qc,Zq,Zq,zoq]
  ·rename_i h1 h2;have:p.2.2=q.2.2:=zop.1 (by omega);rw[Zn (by omega),Qc,Zq,Zq,zoq]
structure okP(p:Pt):Prop where
 i0:0<=p.1
 i1:p.1<=65535
 a0:-1048576<=p.2.1
 a1:p.2.1<=1048576
 b0:-1048576<=p.2.2
 b1:p.2.2<=1048576
instance (p:Pt):Decidable (okP p) :=
 decidable_of_iff (0<=p.1/\p.1<=65535/\-1048576<=p.2.1/\p.2.1<=1048576/\-1048576<=p.2.2/\p.2.2<=1048576) ⟨λ⟨a,b,c,d,e,f⟩=>⟨a,b,c,d,e,f⟩,λ⟨a,b,c,d,e,f⟩=>⟨a,b,c,d,e,f⟩⟩
def zm1(p:Pt):Int:=if okP p then 0 else 8
theorem zm4{p:Pt}(h:okP p):zm1 p=0:=by unfold zm1;rw[Zp h]
theorem zm2{p:Pt}(h:¬ okP p):zm1 p=8:=by unfold zm1;rw[Zn h]
theorem zm5{p:Pt}:zm1 p=0↔okP p:=by
 by_cases h:okP p
 ·simp[zm4 h,h]
 ·simp[zm2 h,h]
structure okF(f:List Pt):Prop where
 len:f.length<=64
 each:∀p∈f,okP p
 inc:(f.map (·.1)).Pairwise (·<·)
instance (f:List Pt):Decidable (okF f) :=
 decidable_of_iff (f.length<=64/\(∀p∈f,okP p)/\(f.map (·.1)).Pairwise (·<·)) ⟨λ⟨a,b,c⟩=>⟨a,b,c⟩,λ⟨a,b,c⟩=>⟨a,b,c⟩⟩
def zlg(f:List Pt):Int:=if 64<f.length then 4 else if ∀p∈f,okP p then (if (f.map (·.1)).Pairwise (·<·) then 0 else 32) else 8
theorem zlh{f:List Pt}:zlg f=0↔okF f:=by
 unfold zlg;constructor
 ·intro h;split at h
  ·cases h
  ·split at h
   ·split at h
    ·exact⟨by omega,by assumption,by assumption⟩
    ·cases h
   ·cases h
 ·intro h;rw[Zn (by have:=h.len;omega),Zp h.each,Zp h.inc]
def x8u(f:List Pt)(t:Int×Int):Int:=if zlg f≠0 then zlg f else zm6 t
theorem x8v{f:List Pt}{t:Int×Int}:x8u f t=0↔okF f/\okR t:=by
 unfold x8u;by_cases h:zlg f=0
 ·rw[Zn (by omega),zm9];exact⟨λx=>⟨zlh.1 h,x⟩,λx=>x.2⟩
 ·rw[Zp h];rw[zlh] at h;rw[zlh];simp[h]
theorem y65{l:List Int}:(l++[x]).Pairwise (·<·)↔l.Pairwise (·<·)/\∀y∈l,y<x:=by
 rw[List.pairwise_append];simp
def yr5(f:List Pt)(id:Int):Int:=idx (λp:Pt=>p.1==id) f
def gP(f:List Pt)(i:Int):Pt:=f.getD i.toNat (0,0,0)
end Go.Eng
namespace Go.Eng
variable{x z y m:Int}
theorem tdH(h:0<=z):z.tdiv 4294967296=z/4294967296:=Qq h
theorem tmH(h:0<=z):z.tmod 4294967296=z%4294967296:=Int.tmod_eq_emod_of_nonneg h
theorem wU0(z:Int):0<=xcl z:=by unfold xcl;omega
theorem twd(z:Int):(xcl z).tdiv 4294967296=xcl z/4294967296:=tdH (wU0 z)
theorem twm(z:Int):(xcl z).tmod 4294967296=xcl z%4294967296:=tmH (wU0 z)
theorem ysg(hx:0<=x)(hx':x<18446744073709551616)(hy:0<=y)(hy':y<18446744073709551616) :
  xcl (xcl (xcl (xcl (x/4294967296)*xcl (y/4294967296))+xcl (xcl (xcl (xcl (x/4294967296)*(y%4294967296))+xcl (xcl (x%4294967296*(y%4294967296))/4294967296))/4294967296)) +
   xcl (xcl (xcl (x%4294967296*xcl (y/4294967296))+xcl (xcl (xcl (x/4294967296)*(y%4294967296))+xcl (xcl (x%4294967296*(y%4294967296))/4294967296))%4294967296)/4294967296))=x*y/18446744073709551616 /\
  xcl (xcl (xcl (xcl (x%4294967296*xcl (y/4294967296))+xcl (xcl (xcl (x/4294967296)*(y%4294967296))+xcl (xcl (x%4294967296*(y%4294967296))/4294967296))%4294967296)%4294967296*4294967296)+xcl (x%4294967296*(y%4294967296))%4294967296)=x*y%18446744073709551616:=by
 have hs:=yfu x y;have b11:=yfq (x:=x/4294967296) (y:=y/4294967296) (m:=4294967295) (n:=4294967295) (by omega) (by omega) (by omega) (by omega);have b10:=yfq (x:=x/4294967296) (y:=y%4294967296) (m:=4294967295) (n:=4294967295) (by omega) (by omega) (by omega) (by omega);have b01:=yfq (x:=x%4294967296) (y:=y/4294967296) (m:=4294967295) (n:=4294967295) (by omega) (by omega) (by omega) (by omega);have b00:=yfq (x:=x%4294967296) (y:=y%4294967296) (m:=4294967295) (n:=4294967295) (by omega) (by omega) (by omega) (by omega);have e1:xcl (x/4294967296)=x/4294967296:=by unfold xcl;omega
 have e2:xcl (y/4294967296)=y/4294967296:=by unfold xcl;omega
 rw[e1,e2];unfold xcl;generalize (x/4294967296)*(y/4294967296)=p11 at *
 generalize (x/4294967296)*(y%4294967296)=p10 at *
 generalize (x%4294967296)*(y/4294967296)=p01 at *
 generalize (x%4294967296)*(y%4294967296)=p00 at *
 generalize x*y=P at *
 constructor <;> omega
theorem z0d.add{c:Bool}{h1 l1 h2 l2 v1 v2:Int}(b1:z0d c h1 l1 v1)(b2:z0d c h2 l2 v2)(r1:z2u v1<85070591730234615865843651857942052864)(r2:z2u v2<85070591730234615865843651857942052864) :
  (xcl (l1+l2)<l1->z0d c (xcl (xcl (h1+h2)+1)) (xcl (l1+l2)) (v1+v2))/\(¬ xcl (l1+l2)<l1->z0d c (xcl (h1+h2)) (xcl (l1+l2)) (v1+v2)):=by
 obtain⟨a1,a2,a3,a4,a5,a6⟩:=b1;obtain⟨d1,d2,d3,d4,d5,d6⟩:=b2;unfold z2u at r1 r2;unfold xcl;cases c
 ·have a6:=a6 rfl;have d6:=d6 rfl;constructor
  ·intro h;refine⟨by omega,by omega,by omega,by omega,λh=>by (cases h),λ_=>?_⟩;split at r1 <;> split at r2 <;> omega
  ·intro h;refine⟨by omega,by omega,by omega,by omega,λh=>by (cases h),λ_=>?_⟩;split at r1 <;> split at r2 <;> omega
 ·have a5:=a5 rfl;have d5:=d5 rfl;constructor
  ·intro h;refine⟨by omega,by omega,by omega,by omega,λ_=>?_,λh=>by (cases h)⟩;split at r1 <;> split at r2 <;> omega
  ·intro h;refine⟨by omega,by omega,by omega,by omega,λ_=>?_,λh=>by (cases h)⟩;split at r1 <;> split at r2 <;> omega
theorem z2v(x y:Int):z2u (x+y)<=z2u x+z2u y:=by
 unfold z2u;split <;> split <;> split <;> omega
theorem z2x(h1:-m<=x)(h2:x<=m):z2u x<=m:=by unfold z2u;split <;> omega
theorem z2z{n:Int}(hx:z2u x<=m)(hy:z2u y<=n):z2u (x*y)<=m*n:=by
 rw[← z2y];exact(yfq (z33 x) hx (z33 y) hy).2
end Go.Eng
namespace Go.Eng
end Go.Eng
namespace Go.Eng
variable{u d y1 y0 r q y hi lo p:Int}
structure Nrm(u d y1 y0:Int):Prop where
 a:2147483648<=y1
 b:y1<4294967296
 c:0<=y0
 e:y0<4294967296
 u0:0<=u
 ul:u<y1*4294967296+y0
 d0:0<=d
 d1:d<4294967296
structure Dg(u d y1 y0 q r:Int):Prop where
 e:q*y1+r=u
 r0:0<=r
 r1:r<4294967296
 q0:0<=q
 q1:q<=4294967298
 lt:u*4294967296+d<(q+1)*(y1*4294967296+y0)
theorem zt3(q y1 y0:Int):q*(y1*4294967296+y0)=q*y1*4294967296+q*y0:=by rw[Qo,← Qe]
theorem Dg.start(n:Nrm u d y1 y0):Dg u d y1 y0 (u/y1) (u-u/y1*y1):=by
 obtain⟨a,b,c,e,u0,ul,d0,d1⟩:=n;have h1:=Qm u y1;have h2:=Qv u (by omega:y1≠0);have h3:=Qw u (by omega:0<y1);have h4:0<=u/y1:=Qx u0 (by omega);rw[Qd] at h1;generalize u/y1=q at *
 generalize u%y1=m at *
 have h5:q<=4294967298:=by
  rcases Ql 4294967298 q with h|h
  ·have:=Qj (show 4294967299<=q by omega) (by omega:0<=y1);generalize q*y1=P at *
   omega
  ·exact h
 have h6:(q+1)*(y1*4294967296+y0)=(q*y1+y1)*4294967296+(q+1)*y0:=by
  rw[zt3,Qg q 1 y1,Qi]
 have h7:0<=(q+1)*y0:=Qh (by omega) c;refine⟨by omega,by omega,by omega,h4,h5,?_⟩;rw[h6];generalize q*y1=P at *
 generalize (q+1)*y0=R at *
 omega
theorem Dg.lt_of(n:Nrm u d y1 y0)(g:Dg u d y1 y0 q r)(h:4294967296<=q\/4294967296*r+d<q*y0):u*4294967296+d<q*(y1*4294967296+y0)/\1<=q:=by
 obtain⟨a,b,c,e,u0,ul,d0,d1⟩:=n;obtain⟨g1,g2,g3,g4,g5,g6⟩:=g;rcases h with h|h
 ·refine⟨?_,by omega⟩;have h7:=Qj h (by omega:0<=y1*4294967296+y0);generalize q*(y1*4294967296+y0)=Z at *
  omega
 ·refine⟨?_,?_⟩
  ·rw[zt3];generalize q*y1=P at *
   generalize q*y0=R at *
   omega
  ·rcases Ql 0 q with h'|h'
   ·omega
   ·have:q=0:=by omega
    subst this;rw[Int.zero_mul] at h;omega
theorem Dg.next(n:Nrm u d y1 y0)(g:Dg u d y1 y0 q r)(h:4294967296<=q\/4294967296*r+d<q*y0)(hr:r+y1<4294967296):Dg u d y1 y0 (q-1) (r+y1):=by
 obtain⟨k1,k2⟩:=g.lt_of n h;obtain⟨a,b,c,e,u0,ul,d0,d1⟩:=n;obtain⟨g1,g2,g3,g4,g5,g6⟩:=g;refine⟨?_,by omega,hr,by omega,by omega,?_⟩
 ·rw[Qn,Qi];omega
 ·rw[show q-1+1=q by omega];exact k1
structure z0m(u d Y q:Int):Prop where
 le:q*Y<=u*4294967296+d
 lt:u*4294967296+d<(q+1)*Y
 q0:0<=q
 q1:q<4294967296
theorem Dg.done(n:Nrm u d y1 y0)(g:Dg u d y1 y0 q r)(h:4294967296<=q\/4294967296*r+d<q*y0)(hr:4294967296<=r+y1):z0m u d (y1*4294967296+y0) (q-1):=by
 obtain⟨k1,k2⟩:=g.lt_of n h;obtain⟨a,b,c,e,u0,ul,d0,d1⟩:=n;obtain⟨g1,g2,g3,g4,g5,g6⟩:=g;have s1:(q-1)*y1+(r+y1)=u:=by rw[Qn,Qi];omega
 have s2:q-1<4294967296:=by
  rcases Ql (q-1) 4294967296 with h'|h'
  ·exact h'
  ·have:=Qj h' (by omega:0<=y1);generalize (q-1)*y1=P at *
   omega
 have s3:=Qt (show y0<=4294967296 by omega) (show 0<=q-1 by omega);refine⟨?_,by rw[show q-1+1=q by omega];exact k1,by omega,s2⟩;rw[zt3];generalize (q-1)*y1=P at *
 generalize (q-1)*y0=R at *
 omega
theorem Dg.stop(g:Dg u d y1 y0 q r)(h:¬ (4294967296<=q\/4294967296*r+d<q*y0)):z0m u d (y1*4294967296+y0) q:=by
 obtain⟨g1,g2,g3,g4,g5,g6⟩:=g;refine⟨?_,g6,g4,by omega⟩;rw[zt3];generalize q*y1=P at *
 generalize q*y0=R at *
 omega
theorem xcm{n:Int}(h0:0<=n)(h1:n<18446744073709551616):xcl n=n:=by unfold xcl;omega
theorem xcp{a b c:Int}(h0:0<=a+b-c)(h1:a+b-c<18446744073709551616):xcl (xcl (xcl a+b)-xcl c)=a+b-c:=by unfold xcl;omega
theorem Dg.startW(n:Nrm u d y1 y0):xcl (u.tdiv y1)=u/y1/\xcl (u-xcl (u/y1*y1))=u-u/y1*y1:=by
 have g:=Dg.start n;obtain⟨a,b,c,e,u0,ul,d0,d1⟩:=n;obtain⟨g1,g2,g3,g4,g5,g6⟩:=g;have h0:0<=u/y1*y1:=Qh g4 (by omega);rw[Qq u0];generalize u/y1=q at *
 generalize q*y1=P at *
 exact⟨xcm g4 (by omega),by rw[xcm h0 (by omega)];exact xcm (by omega) (by omega)⟩
theorem Dg.cond(n:Nrm u d y1 y0)(g:Dg u d y1 y0 q r):(decide (q>=4294967296)||decide (xcl (q*y0)>xcl (xcl (4294967296*r)+d)))=true↔(4294967296<=q\/4294967296*r+d<q*y0):=by
 obtain⟨a,b,c,e,u0,ul,d0,d1⟩:=n;obtain⟨g1,g2,g3,g4,g5,g6⟩:=g;rw[xcm (n:=4294967296*r) (by omega) (by omega),xcm (n:=4294967296*r+d) (by omega) (by omega),Bool.or_eq_true,Zq,Zq];by_cases h:4294967296<=q
 ·exact⟨λ_=>.inl h,λ_=>.inl h⟩
 ·have h1:0<=q*y0:=Qh g4 c;have h2:=Qt (show y0<=4294967296 by omega) g4;rw[xcm h1 (by omega)]
theorem yj5(hp:0<p)(hr:0<r)(e:p*r=18446744073709551616)(h0:0<=hi)(h1:hi<y)(l0:0<=lo)(l1:lo<18446744073709551616) :
  0<=lo/r/\lo/r<p/\hi*p+lo/r<y*p/\0<=hi*p/\(lo*p)%18446744073709551616=lo*p-lo/r*18446744073709551616 /\
  (hi*18446744073709551616+lo)*p=(hi*p+lo/r)*18446744073709551616+(lo*p)%18446744073709551616:=by
 have d1:=Qm lo r;have d2:=Qv lo (by omega:r≠0);have d3:=Qw lo hr;have a0:0<=lo/r:=Qx l0 (by omega);have a1:lo/r<p:=Int.ediv_lt_of_lt_mul hr (by rw[e];exact l1);generalize lo/r=a at *
 generalize lo%r=b at *
 have e1:lo*p=a*18446744073709551616+b*p:=by
  rw[← d1,Qg,← e,Qd r a,Qe,Qd r p]
 have b0:0<=b*p:=Qh d2 (by omega);have b1:b*p<18446744073709551616:=by
  rw[← e,Qd p r];exact Int.mul_lt_mul_of_pos_right d3 hp
 have c0:0<=hi*p:=Qh h0 (by omega);have c1:(hi+1)*p<=y*p:=Qj (by omega) (by omega);rw[Qg,Qi] at c1;refine⟨a0,a1,by omega,c0,by omega,?_⟩;rw[Qg,Qg,Qe hi,Qd 18446744073709551616 p,← Qe];generalize hi*p=W at *
 omega
theorem zu7{N Q R:Int}(h:R+y*Q=N)(h0:0<=R)(h1:R<y):N/y=Q/\N%y=R:=(Int.ediv_emod_unique (by omega)).2 ⟨h,h0,h1⟩
theorem zt4{l1 l0 v q1 q0:Int}(hp:0<p)(hy:0<y)(hY:y*p<18446744073709551616)(hN:(hi*18446744073709551616+lo)*p=(u*4294967296+l1)*4294967296+l0)
  (a:z0m u l1 (y*p) q1) (hv:v=u*4294967296+l1-q1*(y*p)) (b:z0m v l0 (y*p) q0) :
  xcl (xcl (q1*4294967296)+q0)=(hi*18446744073709551616+lo)/y/\xcl (xcl (xcl (v*4294967296)+l0)-xcl (q0*(y*p)))/p=(hi*18446744073709551616+lo)%y:=by
 obtain⟨a1,a2,a3,a4⟩:=a;obtain⟨b1,b2,b3,b4⟩:=b;rw[Qg,Qi] at b2;rw[xcp (by omega) (by omega),xcm (n:=q1*4294967296) (by omega) (by omega),xcm (by omega) (by omega)];generalize hi*18446744073709551616+lo=N at *
 have e:v*4294967296+l0-q0*(y*p)=(N-(q1*4294967296+q0)*y)*p:=by
  have x1:(N-(q1*4294967296+q0)*y)*p=N*p-(q1*(y*p)*4294967296+q0*(y*p)):=by
   rw[Qn,Qe (q1*4294967296+q0) y p,Qg,Int.mul_right_comm]
  rw[x1,hN,hv];generalize q1*(y*p)=Z at *
  generalize q0*(y*p)=W at *
  omega
 rw[e];generalize q1*4294967296+q0=Q at *
 have r0:0<=N-Q*y:=by
  rcases Ql (N-Q*y) 0 with h|h
  ·have:=Qr h hp;omega
  ·exact h
 have r1:N-Q*y<y:=by
  rcases Ql (N-Q*y) y with h|h
  ·exact h
  ·have:=Qj h (by omega:0<=p);omega
 rw[Int.mul_ediv_cancel _ (by omega:p≠0)];have:=zu7 (N:=N) (y:=y) (Q:=Q) (R:=N-Q*y) (by rw[Qd y Q];omega) r0 r1;exact⟨this.1.symm,this.2.symm⟩
end Go.Eng
end
