/- The engine, parts DX, DW, AT, RV, put together. Conditions: none. -/
import Derived.Test.YtnhdkkblehadjaaGreatPX1
import Derived.Lib.ItoaNum
open Bool renaming or_eq_false_iff->Qa,not_eq_true'->Qb,and_eq_true->Qc
open Go.Eng.Hp renaming le_refl->Qd
open Int renaming toNat_natCast->Qe,tmod_eq_emod_of_nonneg->Qg,mul_comm->Qh,eq_ofNat_of_zero_le->Qi,one_mul->Qj,natAbs_mul->Ql,mul_one->Qm,mul_assoc->Qn,emod_nonneg->Qo,ediv_nonneg->Qp,tdiv_eq_ediv_of_nonneg->Qq,pow_pos->Qr,lt_or_le->Qs,emod_lt_of_pos->Qt,ediv_le_self->Qu,mul_zero->Qv,mul_nonneg->Qw,mul_neg_of_neg_of_pos->Qx,mul_emod->Qy,lt_trichotomy->Qz,add_mul->Q1,add_emod->Q2
open Go.IntKind renaming u64->Q3,i64->Q4
open Nat renaming gcd->Q5,Coprime->Q6,gcd_comm->Q7,pow_add->Q8
open Go.Value renaming int->Q9,tuple->Xa
set_option linter.unusedVariables false
set_option maxHeartbeats 8000000
section
set_option maxRecDepth 100000
open Go Go.Eng Go.Proofs
namespace Go.Proofs.YtnhdkkblehadjaaGreat
variable{H:Hp}{t:Int×Int}{p:Pt}{y z hi lo:Int}{k:Nat}{Zw:Value->Hp->Prop}
theorem len64{H:Hp}{x:Int}(h0:0<=x)(h1:x<=18446744073709551615):Qf Tryz.prog 223 #[.int .u64 x] H (vi ((Go.Lib.bitLen x.toNat:Nat):Int)):=λw hv =>
 (Any.bits_Len64 Tryz.len64 x w h0 h1).mono λe w' ⟨he,hw⟩=>⟨_,H,he,by rw[hw];exact Tr.refl hv,rfl,Qd _⟩
theorem zxk(h0:0<=z)(hk:k<=64):z.fdiv (2 ^ Min.min k Q3.bits)=z/2 ^ k:=by
 have:Min.min k Q3.bits=k:=by show min k 64=k;omega
 rw[this];exact Int.fdiv_eq_ediv_of_nonneg _ (Int.le_of_lt (Qr (by omega)))
theorem x9e(h0:0<=z)(h1:z<18446744073709551616):(BitVec.ofInt Q3.bits z).toNat=z.toNat:=by
 rw[BitVec.toNat_ofInt];have:(((2:Nat) ^ Q3.bits:Nat):Int)=18446744073709551616:=by decide
 rw[this];omega
theorem ylf{x a:Int}(hx:0<=x)(ha:0<=a)(ha':a<2 ^ k)(hs:x*2 ^ k+a<18446744073709551616) :
  Q3.wrap (↑(BitVec.ofInt Q3.bits (x*2 ^ k) ||| BitVec.ofInt Q3.bits a).toNat:Int)=x*2 ^ k+a:=by
 obtain⟨X,rfl⟩:=Qi hx;obtain⟨A,rfl⟩:=Qi ha;have e:((X:Int)*2 ^ k)=((2 ^ k*X:Nat):Int):=by rw[Nat.mul_comm];simp
 have hA:A<2 ^ k:=by
  have:((2:Int) ^ k)=((2 ^ k:Nat):Int):=by simp
  rw[this] at ha';omega
 rw[e] at hs ⊢;rw[BitVec.toNat_or,x9e (by omega) (by omega),x9e (by omega) (by omega),Qe,Qe,← Nat.two_pow_add_eq_or_of_lt hA,xcq,xcm (by omega) (by omega)];omega
theorem y9e(y1:1<=y)(y2:y<18446744073709551616):∃k:Nat,k<=63/\qF F.f247 #[.int .u64 y] H (vi (k:Int))/\9223372036854775808<=y*2 ^ k/\y*2 ^ k<18446744073709551616:=by
 obtain⟨n,rfl⟩:=Qi (show 0<=y by omega);have hp:(2:Nat) ^ 64=18446744073709551616:=by decide
 obtain⟨b1,b2,b3⟩:=Go.Lib.bitLenAux_bounds 64 n (by omega) (by omega);have b4:Go.Lib.bitLenAux 64 n<=64:=Go.Lib.bitLenAux_le 64 n 64 (by omega);have hq:=len64 (H:=H) (x:=(n:Int)) (by omega) (by omega);rw[Qe] at hq;have hb:Go.Lib.bitLen n=Go.Lib.bitLenAux 64 n:=rfl;rw[hb] at hq;generalize Go.Lib.bitLenAux 64 n=b at *
 refine⟨64-b,by omega,vc247 ⟨_,hq,by unfold inI;omega,?_,Qd _⟩,?_,?_⟩
 ·congr 1;omega
 ·have e:2 ^ (b-1)*2 ^ (64-b)=9223372036854775808:=by rw[← Q8,show b-1+(64-b)=63 by omega];try decide
  have:=Nat.mul_le_mul_right (2 ^ (64-b)) b2;rw[e] at this;have e2:(n:Int)*2 ^ (64-b)=((n*2 ^ (64-b):Nat):Int):=by simp
  rw[e2];omega
 ·have e:2 ^ b*2 ^ (64-b)=18446744073709551616:=by rw[← Q8,show b+(64-b)=64 by omega];try decide
  have:=Nat.mul_lt_mul_of_pos_right b3 (Nat.pow_pos (n:=64-b) (show 0<2 by omega));rw[e] at this;have e2:(n:Int)*2 ^ (64-b)=((n*2 ^ (64-b):Nat):Int):=by simp
  rw[e2];omega
theorem zt5{v q1 Y y1 y0 l0 s:Int}(hY:Y=y1*4294967296+y0)(n:Nrm v l0 y1 y0)(hs:nn (xcl s))
  (hp:∀q0:Int,z0m v l0 Y q0->Zw (Xa #[Q9 .u64 (xcl (xcl (q1*4294967296)+q0)),Q9 .u64 ((xcl (xcl (xcl (v*4294967296)+l0)-xcl (q0*Y))).fdiv (2 ^ Min.min (xcl s).toNat Q3.bits))]) H) :
  nz y1/\∃(I:Int->Int->Hp->Prop),∃(m:Int->Int->Hp->Nat),I (xcl (v-xcl (xcl (v.tdiv y1)*y1))) (xcl (v.tdiv y1)) H/\∀(n9 n10:Int)(H11:Hp),I n9 n10 H11 ->
   ((decide (n10>=4294967296)||decide (xcl (n10*y0)>xcl (xcl (4294967296*n9)+l0)))=true ->
    (decide (xcl (n9+y1)>=4294967296)=true->nn (xcl s)/\Zw (Xa #[Q9 .u64 (xcl (xcl (q1*4294967296)+xcl (n10-1))),Q9 .u64 ((xcl (xcl (xcl (v*4294967296)+l0)-xcl (xcl (n10-1)*Y))).fdiv (2 ^ Min.min (xcl s).toNat Q3.bits))]) H11) /\
    (decide (xcl (n9+y1)>=4294967296)=false->I (xcl (n9+y1)) (xcl (n10-1)) H11/\m (xcl (n9+y1)) (xcl (n10-1)) H11<m n9 n10 H11)) /\
   ((decide (n10>=4294967296)||decide (xcl (n10*y0)>xcl (xcl (4294967296*n9)+l0)))=false->nn (xcl s)/\Zw (Xa #[Q9 .u64 (xcl (xcl (q1*4294967296)+n10)),Q9 .u64 ((xcl (xcl (xcl (v*4294967296)+l0)-xcl (n10*Y))).fdiv (2 ^ Min.min (xcl s).toNat Q3.bits))]) H11):=by
 obtain⟨w1,w2⟩:=Dg.startW n;rw[w1,w2];refine⟨by have:=n.a;unfold nz;omega,λr q H'=>H'=H/\Dg v l0 y1 y0 q r,λ_ q _=>q.toNat,⟨rfl,Dg.start n⟩,λr q H' ⟨e,g⟩=>?_⟩;subst e;have na:=n.a;have nb:=n.b;have g1:=g.r0;have g2:=g.r1;have g3:=g.q0;have g4:=g.q1;rw[xcm (n:=r+y1) (by omega) (by omega)];refine⟨λhc=>?_,λhc=>⟨hs,hp q ?_⟩⟩
 ·have hc:=(g.cond n).1 hc;have k2:=(g.lt_of n hc).2;rw[xcm (n:=q-1) (by omega) (by omega)];refine⟨λhb=>⟨hs,hp (q-1) ?_⟩,λhb=>⟨⟨rfl,g.next n hc ?_⟩,?_⟩⟩
  ·rw[hY];exact g.done n hc (by simpa using hb)
  ·have:¬ r+y1>=4294967296:=by simpa using hb
   omega
  ·show (q-1).toNat<q.toNat;omega
 ·rw[hY];exact g.stop λh=>by rw[(g.cond n).2 h] at hc;cases hc
theorem zt6(y1:1<=y)(y2:y<18446744073709551616)(h0:0<=hi)(h1:hi<y)(l0:0<=lo)(l1:lo<18446744073709551616) :
  qF F.f203 #[.int .u64 hi,.int .u64 lo,.int .u64 y] H (.tuple #[.int .u64 ((hi*18446744073709551616+lo)/y),.int .u64 ((hi*18446744073709551616+lo)%y)]):=by
 refine vc203 ⟨λh=>?_,λ_=>⟨λh=>?_,λ_=>⟨λhz=>?_,λhz=>?_⟩⟩⟩
 ·have h:y=0:=by simpa using h
  omega
 ·have h:y<=hi:=by simpa using h
  omega
 ·have hz:hi=0:=by simpa using hz
  subst hz;have q0:0<=lo/y:=Qp l0 (by omega);have q1:lo/y<=lo:=Qu _ l0;refine⟨by unfold nz;omega,by unfold nz;omega,?_,Qd _⟩;rw[Qq l0,Qg l0,xcm q0 (by omega),show (0:Int)*18446744073709551616+lo=lo by omega]
 ·obtain⟨k,k63,hlz,k1,k2⟩:=y9e (H:=H) y1 y2;have pp:(0:Int)<2 ^ k:=Qr (by omega);have pr:(0:Int)<2 ^ (64-k):=Qr (by omega);have epr:(2:Int) ^ k*2 ^ (64-k)=18446744073709551616:=by rw[← Int.pow_add,show k+(64-k)=64 by omega];try decide
  obtain⟨s1,s2,s3,s4,s5,s6⟩:=yj5 pp pr epr h0 h1 l0 l1;have wk:xcl (k:Int)=k:=xcm (by omega) (by omega);have wk2:xcl (64-(k:Int))=((64-k:Nat):Int):=by rw[xcm (by omega) (by omega)];omega
  have ek:Min.min k Q3.bits=k:=by show min k 64=k;omega
  have eY:Q3.wrap (y*2 ^ Min.min k Q3.bits)=y*2 ^ k:=by rw[ek,xcq,xcm (by omega) k2]
  have eH:Q3.wrap (hi*2 ^ Min.min k Q3.bits)=hi*2 ^ k:=by rw[ek,xcq,xcm s4 (by omega)]
  have eA:lo.fdiv (2 ^ Min.min (64-k) Q3.bits)=lo/2 ^ (64-k):=zxk l0 (by omega);have eU:=ylf (x:=hi) (a:=lo/2 ^ (64-k)) (k:=k) h0 s1 s2 (by omega);have eL:Q3.wrap (lo*2 ^ Min.min k Q3.bits)=lo*2 ^ k%18446744073709551616:=by rw[ek,xcq];rfl
  have L0:0<=lo*2 ^ k%18446744073709551616:=Qo _ (by omega);have L1:lo*2 ^ k%18446744073709551616<18446744073709551616:=Qt _ (by omega);have U0:0<=hi*2 ^ k+lo/2 ^ (64-k):=by omega
  have eY1:=x0p (z:=y*2 ^ k) (by omega);have eY0:=yce (z:=y*2 ^ k) (by omega) k2;have eL1:=x0p (z:=lo*2 ^ k%18446744073709551616) L0;have eL0:=yce (z:=lo*2 ^ k%18446744073709551616) L0 L1;have nk:nn (xcl (k:Int)):=by rw[wk];unfold nn;omega
  have n1:Nrm (hi*2 ^ k+lo/2 ^ (64-k)) (lo*2 ^ k%18446744073709551616/4294967296) (y*2 ^ k/4294967296) (y*2 ^ k%4294967296):=by
   generalize hi*2 ^ k+lo/2 ^ (64-k)=u at *
   generalize lo*2 ^ k%18446744073709551616=L at *
   generalize y*2 ^ k=Y at *
   exact⟨by omega,by omega,by omega,by omega,by omega,by omega,by omega,by omega⟩
  obtain⟨w1,w2⟩:=Dg.startW n1;have fin:∀{q1 q0 v l1' l0':Int},(hi*2 ^ k+lo/2 ^ (64-k))*18446744073709551616+lo*2 ^ k%18446744073709551616=((hi*2 ^ k+lo/2 ^ (64-k))*4294967296+l1')*4294967296+l0' ->
    z0m (hi*2 ^ k+lo/2 ^ (64-k)) l1' (y*2 ^ k) q1->v=(hi*2 ^ k+lo/2 ^ (64-k))*4294967296+l1'-q1*(y*2 ^ k)->z0m v l0' (y*2 ^ k) q0 ->
    xcl (xcl (q1*4294967296)+q0)=(hi*18446744073709551616+lo)/y/\(xcl (xcl (xcl (v*4294967296)+l0')-xcl (q0*(y*2 ^ k)))).fdiv (2 ^ Min.min k Q3.bits)=(hi*18446744073709551616+lo)%y:=by
   intro q1 q0 v a0 a1 e6 d1 ev d2;rw[zxk (by unfold xcl;omega) (by omega)];exact zt4 pp (by omega) k2 (by rw[s6];exact e6) d1 ev d2
  refine⟨(k:Int),hlz,?_⟩;simp only[wk,wk2,Qe,eY,eH,eA,eU,eL,eY1,eY0,eL1,eL0,w1,w2];generalize hi*2 ^ k+lo/2 ^ (64-k)=u at *
  generalize lo*2 ^ k%18446744073709551616=L at *
  generalize y*2 ^ k=Y at *
  have hY:Y=Y/4294967296*4294967296+Y%4294967296:=by omega
  have hL:u*18446744073709551616+L=(u*4294967296+L/4294967296)*4294967296+L%4294967296:=by omega
  have n2:∀{v:Int},0<=v->v<Y->Nrm v (L%4294967296) (Y/4294967296) (Y%4294967296):=λa b=>⟨by omega,by omega,by omega,by omega,a,by omega,by omega,by omega⟩
  have one:∀q1:Int,z0m u (L/4294967296) Y q1->∃v,0<=v/\v<Y/\v=u*4294967296+L/4294967296-q1*Y/\xcl (xcl (xcl (u*4294967296)+L/4294967296)-xcl (q1*Y))=v:=λq1 d=>by
   obtain⟨a,b,c,e⟩:=d;rw[Q1,Qj] at b;exact⟨_,by omega,by omega,rfl,xcp (by omega) (by omega)⟩
  refine⟨by unfold nn;omega,by unfold nn;omega,by unfold nn;omega,by unfold nn;omega,by unfold nn;omega,by unfold nn;omega,by unfold nz;omega,
   λq r H'=>H'=H/\Dg u (L/4294967296) (Y/4294967296) (Y%4294967296) q r,λq _ _=>q.toNat,⟨rfl,Dg.start n1⟩,λq r H' ⟨e,g⟩=>?_⟩
  subst e;have na:=n1.a;have nb:=n1.b;have g1:=g.r0;have g2:=g.r1;have g3:=g.q0;have g4:=g.q1;rw[xcm (n:=r+Y/4294967296) (by omega) (by omega)];refine⟨λhc=>?_,λhc=>?_⟩
  ·have hc:=(g.cond n1).1 hc;have c2:=(g.lt_of n1 hc).2;rw[xcm (n:=q-1) (by omega) (by omega)];refine⟨λhb=>?_,λhb=>⟨⟨rfl,g.next n1 hc ?_⟩,?_⟩⟩
   ·have d:=g.done n1 hc (by simpa using hb);rw[← hY] at d;obtain⟨v,v0,v1,ev,wv⟩:=one _ d;rw[wv];have key:=zt5 (Zw:=λv H5=>v=.tuple #[.int .u64 ((hi*18446744073709551616+lo)/y),.int .u64 ((hi*18446744073709551616+lo)%y)]/\Hp.le H' H5) (H:=H') (s:=(k:Int)) (q1:=q-1) hY (n2 v0 v1) nk λq0 d0=>⟨by rw[wk,Qe];obtain⟨z1,z2⟩:=fin hL d ev d0;rw[z1,z2],Qd _⟩
    rw[wk,Qe] at key;exact key
   ·have:¬ r+Y/4294967296>=4294967296:=by simpa using hb
    omega
   ·show (q-1).toNat<q.toNat;omega
  ·have d:=g.stop λh=>by rw[(g.cond n1).2 h] at hc;cases hc
   rw[← hY] at d;obtain⟨v,v0,v1,ev,wv⟩:=one _ d;rw[wv];have key:=zt5 (Zw:=λv H5=>v=.tuple #[.int .u64 ((hi*18446744073709551616+lo)/y),.int .u64 ((hi*18446744073709551616+lo)%y)]/\Hp.le H' H5) (H:=H') (s:=(k:Int)) (q1:=q) hY (n2 v0 v1) nk λq0 d0=>⟨by rw[wk,Qe];obtain⟨z1,z2⟩:=fin hL d ev d0;rw[z1,z2],Qd _⟩
   rw[wk,Qe] at key;exact key
theorem yxa(y1:1<=y)(y2:y<18446744073709551616)(h0:0<=hi)(l0:0<=lo)(l1:lo<18446744073709551616) :
  qF F.f246 #[.int .u64 hi,.int .u64 lo,.int .u64 y] H (.int .u64 ((hi*18446744073709551616+lo)%y)):=by
 refine vc246 ⟨by unfold nz;omega,_,_,zt6 y1 y2 (hi:=hi.tmod y) ?_ ?_ l0 l1,?_,Qd _⟩
 ·rw[Qg h0];exact Qo _ (by omega)
 ·rw[Qg h0];exact Qt _ (by omega)
 ·rw[Qg h0,Q2,Qy,Int.emod_emod,← Qy,← Q2]
def yjd(p:Pt)(t:Int×Int):Int:=p.2.1*t.2+p.2.2*t.1
def ymn(N d:Int):(Int×Int)×Int:=zbg (decide (N<0)) (z2u N/y2e N d) (d/y2e N d)
def ypx(p:Pt)(t:Int×Int):(Int×Int)×Int:=if okP p/\okR t then ymn (yjd p t) t.2 else ((0,0),8)
theorem ypz(h:okP p)(h2:okR t):ypx p t=ymn (yjd p t) t.2:=Zp ⟨h,h2⟩
theorem ypy(h:¬ (okP p/\okR t)):ypx p t=((0,0),8):=Zn h
theorem yje(hp:okP p)(ht:okR t):z2u (p.2.1*t.2)<=19342813113834066795298816/\z2u (p.2.2*t.1)<=19342813113834066795298816/\z2u (yjd p t)<170141183460469231731687303715884105728/2:=by
 have h1:=hp.a0;have h1':=hp.a1;have h2:=hp.b0;have h2':=hp.b1;have h3:=ht.d1;have h4:=ht.d2;have h5:=ht.n1;have h6:=ht.n2;have q1:=z2z (x:=p.2.1) (y:=t.2) (m:=1048576) (n:=9223372036854775807) (z2x (by omega) (by omega)) (z2x (by omega) (by omega));have q2:=z2z (x:=p.2.2) (y:=t.1) (m:=1048576) (n:=9223372036854775807) (z2x (by omega) (by omega)) (z2x (by omega) (by omega));have q3:=z2v (p.2.1*t.2) (p.2.2*t.1);unfold yjd;refine⟨by omega,by omega,by omega⟩
theorem z8g{hh l d n3 N:Int}(h0:0<=hh)(h1:hh<9223372036854775808)(l0:0<=l)(l1:l<18446744073709551616)(hN:hh*18446744073709551616+l=z2u N)(d1:1<=d)(d2:d<=9223372036854775807)(hs:n3<0↔N<0)
  (hp:Zw (.tuple #[sI2 (ymn N d).1.1 (ymn N d).1.2,vi (ymn N d).2]) H) :
  ∃n7:Int,qF F.f246 #[Q9 .u64 (xcl hh),Q9 .u64 l,Q9 .u64 (xcl d)] H (Q9 .u64 n7)/\∃(I:Int->Int->Hp->Prop),∃(m:Int->Int->Hp->Nat),I n7 (xcl d) H/\∀(n10 n11:Int)(H12:Hp),I n10 n11 H12 ->
   (decide (n10>0)=true->nz n10/\I (n11.tmod n10) n10 H12/\m (n11.tmod n10) n10 H12<m n10 n11 H12) /\
   (decide (n10>0)=false->nz n11/\nz n11/\∃n13 n14:Int,qF F.f203 #[Q9 .u64 ((xcl hh).tmod n11),Q9 .u64 l,Q9 .u64 n11] H12 (Xa #[Q9 .u64 n13,Q9 .u64 n14]) /\
    ((decide (xcl ((xcl hh).tdiv n11)>0)||decide (n13>9223372036854775807))=true->Zw (Xa #[(sI2 0 0),vi 16]) H12) /\
    ((decide (xcl ((xcl hh).tdiv n11)>0)||decide (n13>9223372036854775807))=false->nz n11 /\
     (decide (n3<0)=true->inI (0-Q4.wrap n13)/\Zw (Xa #[(sI2 (0-Q4.wrap n13) (Q4.wrap (xcl ((xcl d).tdiv n11)))),vi 0]) H12) /\
     (decide (n3<0)=false->Zw (Xa #[(sI2 (Q4.wrap n13) (Q4.wrap (xcl ((xcl d).tdiv n11)))),vi 0]) H12))):=by
 rw[xcm (n:=hh) h0 (by omega),xcm (n:=d) (by omega) (by omega)];have hX:0<=z2u N:=z33 N;have r0:0<=z2u N%d:=Qo _ (by omega);have rr:=yxa (H:=H) (y:=d) d1 (by omega) h0 l0 l1;rw[hN] at rr;have eg0:Q5 d.toNat (z2u N%d).toNat=Q5 (z2u N).toNat (z2u d).toNat:=by
  have ed:z2u d=d:=by unfold z2u;rw[Zn (by omega)]
  rw[ed];obtain⟨x,hx⟩:=Qi hX;obtain⟨y,hy⟩:=Qi (show 0<=d by omega);rw[hx,hy];show Q5 y (x%y)=Q5 x y;rw[Q7 y,← Nat.gcd_rec,Q7]
 refine⟨_,rr,λr g H'=>H'=H/\0<=r/\0<g/\Q5 g.toNat r.toNat=Q5 (z2u N).toNat (z2u d).toNat,λr _ _=>r.toNat,⟨rfl,r0,by omega,eg0⟩,λr g H' ⟨e,q1,q2,q3⟩=>?_⟩;subst e;refine⟨λhc=>?_,λhc=>?_⟩
 ·have hc:0<r:=by simpa using hc
  obtain⟨g1,g2,g3⟩:=y2i hc (by omega) q3;exact⟨by unfold nz;omega,⟨rfl,g1,hc,g3⟩,by show (g.tmod r).toNat<r.toNat;omega⟩
 ·have hr:r=0:=by have:¬ r>0:=by simpa using hc
                  omega
  subst hr;have eg:g=y2e N d:=by
   unfold y2e;rw[← q3];simp;omega
  have gle:g<=d:=by
   have:=Nat.gcd_le_right (z2u N).toNat (show 0<(z2u d).toNat by unfold z2u;split <;> omega);rw[← q3] at this;have ed:z2u d=d:=by unfold z2u;rw[Zn (by omega)]
   rw[ed] at this;simp at this;omega
  have t0:0<=hh.tmod g:=by rw[Qg h0];exact Qo _ (by omega)
  have t1:hh.tmod g<g:=by rw[Qg h0];exact Qt _ (by omega)
  have dv:=zt6 (H:=H') (hi:=hh.tmod g) (lo:=l) (y:=g) (by omega) (by omega) t0 t1 l0 l1;refine⟨by unfold nz;omega,by unfold nz;omega,_,_,dv,?_⟩;have f0:0<=hh/g:=Qp h0 (by omega);have f1:hh/g<=hh:=Qu _ h0;have ex:z2u N/g=hh/g*18446744073709551616+(hh.tmod g*18446744073709551616+l)/g:=by
   rw[Qg h0,← hN];have e:=Int.mul_ediv_add_emod hh g;have:hh*18446744073709551616+l=(hh%g*18446744073709551616+l)+g*(hh/g*18446744073709551616):=by
    rw[← Qn];generalize g*(hh/g)=Z at *
    generalize hh%g=W at *
    omega
   rw[this,Int.add_mul_ediv_left _ _ (by omega:g≠0)];omega
  have z0:0<=(hh.tmod g*18446744073709551616+l)/g:=Qp (by omega) (by omega);have dg0:0<=d/g:=Qp (by omega) (by omega);have dg1:d/g<=d:=Qu _ (by omega);rw[Qq h0,Qq (show 0<=d by omega),xcm f0 (by omega),xcm dg0 (by omega),y5i dg0 (by omega)];unfold ymn at hp;rw[← eg,ex] at hp;generalize (hh.tmod g*18446744073709551616+l)/g=Z at *
  generalize hh/g=W at *
  unfold zbg at hp;refine⟨λhb=>?_,λhb=>⟨by unfold nz;omega,λhn=>?_,λhn=>?_⟩⟩
  ·simp only[Bool.or_eq_true,Zq] at hb;rw[Zp (by omega)] at hp;exact hp
  ·simp only[Qa,Zt] at hb;have w0:W=0:=by omega
   subst w0;have hn:n3<0:=by simpa using hn
   rw[Zn (by omega),Zu (hs.1 hn),show (0:Int)*18446744073709551616+Z=Z by omega] at hp;rw[y5i z0 (by omega)];exact⟨by unfold inI;omega,hp⟩
  ·simp only[Qa,Zt] at hb;have w0:W=0:=by omega
   subst w0;have hn:¬ n3<0:=by simpa using hn
   rw[Zn (by omega),Zv (λh=>hn (hs.2 h)),show (0:Int)*18446744073709551616+Z=Z by omega] at hp;rw[y5i z0 (by omega)];exact hp
theorem zs4(ht:zzn t) :
  qF F.f199 #[sI3 p.1 p.2.1 p.2.2,sI2 t.1 t.2] H (.tuple #[sI2 (ypx p t).1.1 (ypx p t).1.2,vi (ypx p t).2]):=by
 refine vc199 ⟨_,zs5,_,yui ht,λhc=>?_,λhc=>?_⟩
 ·have hb:¬ (okP p/\okR t):=λ⟨a,b⟩=>by rw[zm4 a,zm8 b] at hc;simp at hc
  rw[ypy hb];refine⟨?_,Qd _⟩;by_cases h1:okP p
  ·have h2:¬ okR t:=λh=>hb ⟨h1,h⟩
   rw[zm4 h1,zm7 h2];rfl
  ·rw[zm2 h1];by_cases h2:okR t
   ·rw[zm8 h2];rfl
   ·rw[zm7 h2];rfl
 have ok:okP p/\okR t:=by
  by_cases h1:okP p
  ·by_cases h2:okR t
   ·exact⟨h1,h2⟩
   ·rw[zm4 h1,zm7 h2] at hc;simp at hc
  ·rw[zm2 h1] at hc;by_cases h2:okR t
   ·rw[zm8 h2] at hc;simp at hc
   ·rw[zm7 h2] at hc;simp at hc
 obtain⟨op,or⟩:=ok;rw[ypz op or];obtain⟨m1,m2,m3⟩:=yje op or;have h1:=op.a0;have h1':=op.a1;have h2:=op.b0;have h2':=op.b1;have h3:=or.d1;have h4:=or.d2;have h5:=or.n1;have h6:=or.n2;have iA:inI p.2.1:=by unfold inI;omega
 have iB:inI p.2.2:=by unfold inI;omega
 obtain⟨hi,lo,hq,hv,v0,v1⟩:=zsb (H:=H) iA ht.2 iB ht.1 m1 m2;have hv:hi*18446744073709551616+lo=yjd p t:=hv;have av:=z2w (yjd p t);have key:∀(hh l:Int),0<=hh->hh<9223372036854775808->0<=l->l<18446744073709551616->hh*18446744073709551616+l=z2u (yjd p t)->(hi<0↔yjd p t<0)->_ :=
  λhh l x1 x2 x3 x4 x5 x6=>z8g (Zw:=λv H5=>v=.tuple #[sI2 (ymn (yjd p t) t.2).1.1 (ymn (yjd p t) t.2).1.2,vi (ymn (yjd p t) t.2).2]/\Hp.le H H5) (H:=H) (hh:=hh) (l:=l) (d:=t.2) (n3:=hi) (N:=yjd p t) x1 x2 x3 x4 x5 h3 h4 x6 ⟨rfl,Qd _⟩
 refine⟨_,_,hq,λhn=>?_,λhn=>?_⟩
 ·have hn:hi<0:=by simpa using hn
  have hN:yjd p t<0:=by omega
  refine⟨_,_,x66 (x:=0) (y:=lo) (b:=0) (by omega) v0 v1 (by omega) (by omega),?_⟩;have eb:Q4.wrap (if 0<lo+0 then 1 else 0)=(if 0<lo+0 then 1 else 0):=by split <;> decide
  rw[eb];by_cases hl:0<lo+0
  ·rw[Zp hl];exact⟨by unfold inI;omega,by unfold inI;omega,key (0-hi-1) ((0-lo-0)%18446744073709551616) (by omega) (by omega) (by omega) (by omega) (by omega) ⟨λ_=>hN,λ_=>hn⟩⟩
  ·rw[Zn hl];exact⟨by unfold inI;omega,by unfold inI;omega,key (0-hi-0) ((0-lo-0)%18446744073709551616) (by omega) (by omega) (by omega) (by omega) (by omega) ⟨λ_=>hN,λ_=>hn⟩⟩
 ·have hn:¬ hi<0:=by simpa using hn
  exact key hi lo (by omega) (by omega) v0 v1 (by omega) ⟨λh=>absurd h hn,λh=>by omega⟩
theorem y2g(a b k:Int):y2e (a+k*b) b=y2e a b:=by
 have e1:∀z:Int,(z2u z).toNat=z.natAbs:=λz=>by rw[z30];simp
 unfold y2e;rw[e1,e1,e1];congr 1;have:=Int.gcd_add_mul_right_left (m:=b) (n:=a) (k:=k);unfold Int.gcd at this;exact this
theorem y2h(a b:Int){g:Int}(hg:0<g):y2e (a*g) (b*g)=y2e a b*g:=by
 have e1:∀z:Int,(z2u z).toNat=z.natAbs:=λz=>by rw[z30];simp
 unfold y2e;rw[e1,e1,e1,e1,Ql,Ql,Nat.gcd_mul_right];have:((g.natAbs:Nat):Int)=g:=by omega
 rw[Int.natCast_mul,this]
theorem z3y{A B:Int}(ob:okR (B,1))(ot:okR t)(h0:(yfr (B,1) t).2=0):z3x A (yfr (B,1) t).1=ymn (A*t.2+B*t.1) t.2:=by
 have h3:=ot.d1;obtain⟨g1,g2⟩:=y16 (a:=(B,1)) (b:=t) ot;have eg:gA (B,1) t=y2e B t.2:=by
  unfold gA y2e;have ed:z2u t.2=t.2:=by unfold z2u;rw[Zn (by omega)]
  rw[ed,Q7]
 have eh:gA t (B,1)=1:=by
  unfold gA;show ((Q5 (1:Int).toNat _:Nat):Int)=1;rw[show (1:Int).toNat=1 from rfl,Nat.gcd_one_left];rfl
 have e1:∀z:Int,(z2u z).toNat=z.natAbs:=λz=>by rw[z30];simp
 generalize hg:gA (B,1) t=g at *
 have dB:g ∣ B:=by
  rw[eg];unfold y2e;rw[e1,e1];exact Int.gcd_dvd_left ..
 have dD:g ∣ t.2:=by
  rw[eg];unfold y2e;rw[e1,e1];exact Int.gcd_dvd_right ..
 obtain⟨B',hB⟩:=dB;obtain⟨D',hD⟩:=dD;have tB:B.tdiv g=B':=by rw[hB];exact Int.mul_tdiv_cancel_left _ (by omega)
 have tD:t.2/g=D':=by rw[hD];exact Int.mul_ediv_cancel_left _ (by omega)
 have D0:0<D':=by
  rcases Qs 0 D' with h|h
  ·exact h
  ·have:=Int.mul_le_mul_of_nonneg_left h (show 0<=g by omega);rw[Qv,← hD] at this;omega
 have em:yfr (B,1) t=zbg (!(decide (B<0)==decide (t.1<0))&&B != 0&&t.1 != 0) (z2u (B'*t.1)) D':=by
  unfold yfr;rw[Zp ⟨ob,ot⟩,hg,eh,tB,tD,show t.1.tdiv 1=t.1 by simp,show (1:Int)/1=1 from rfl,Qj]
 rw[em] at h0 ⊢;have eb:∀{c:Bool}{N D:Int},(zbg c N D).2=0->N<=9223372036854775807/\D<=9223372036854775807/\(zbg c N D).1=(if c=true then 0-N else N,D):=by
  intro c N D h;unfold zbg at h ⊢;split at h
  ·cases h
  ·rename_i hh;rw[Zn hh];exact⟨by omega,by omega,rfl⟩
 obtain⟨b1,b2,b3⟩:=eb h0;have sg:(if (!(decide (B<0)==decide (t.1<0))&&B != 0&&t.1 != 0)=true then 0-z2u (B'*t.1) else z2u (B'*t.1))=B'*t.1:=by
  have ai:=z2w (B'*t.1);have mn:=yft (a:=B') (b:=t.1);have sB:(B<0↔B'<0)/\(B=0↔B'=0):=by
   have p:B'<0->B<0:=λh=>by rw[hB];exact Int.mul_neg_of_pos_of_neg (by omega) h
   have q:0<B'->0<B:=λh=>by rw[hB];exact Int.mul_pos (by omega) h
   have r:B'=0->B=0:=λh=>by rw[hB,h,Qv]
   constructor
   ·constructor
    ·intro h;rcases Qz B' 0 with x|x|x
     ·exact x
     ·have:=r x;omega
     ·have:=q x;omega
    ·exact p
   ·constructor
    ·intro h;rcases Qz B' 0 with x|x|x
     ·have:=p x;omega
     ·exact x
     ·have:=q x;omega
    ·exact r
  have zz:B'*t.1=0↔B'=0\/t.1=0:=Int.mul_eq_zero;by_cases hc:(!(decide (B<0)==decide (t.1<0))&&B != 0&&t.1 != 0)=true
  ·rw[Zp hc];have:B'*t.1<0:=by
    rw[mn];simp only[Qc,Qb,beq_eq_false_iff_ne,bne_iff_ne,ne_eq,decide_eq_decide] at hc;omega
   have:=ai.1 this;omega
  ·rw[Zn hc];have:¬ B'*t.1<0:=by
    rw[mn];intro h;apply hc;simp only[Qc,Qb,beq_eq_false_iff_ne,bne_iff_ne,ne_eq,decide_eq_decide];omega
   exact ai.2 (by omega)
 have e3:(zbg (!(decide (B<0)==decide (t.1<0))&&B != 0&&t.1 != 0) (z2u (B'*t.1)) D').1=(B'*t.1,D'):=by rw[b3,sg]
 rw[e3];have c1:y2e B' D'=1:=by
  have:=y2h B' D' g1;rw[Qh B' g,Qh D' g,← hB,← hD,← eg] at this;have h':y2e B' D'*g=1*g:=by rw[Qj];exact this.symm
  exact Int.eq_of_mul_eq_mul_right (by omega) h'
 have ct:Q5 t.1.natAbs t.2.natAbs=1:=ot.g;have n1:Q5 (B'*t.1).natAbs D'.natAbs=1:=by
  unfold y2e at c1;rw[e1,e1] at c1;have k1:Q6 B'.natAbs D'.natAbs:=by exact_mod_cast c1
  have k2:Q6 t.1.natAbs D'.natAbs:=by
   refine Q6.coprime_dvd_right ?_ ct;rw[hD,Ql];exact Nat.dvd_mul_left ..
  rw[Ql];exact Q6.mul_left k1 k2
 have ai:=z2w (B'*t.1);have or':okR (B'*t.1,D'):=⟨by show 1<=D';omega,b2,by show _<=B'*t.1;omega,by show B'*t.1<=_;omega,n1⟩;have pv:=yqv (c:=!(decide (A<0)==decide (D'<0))) (d:=!(decide (B'*t.1<0)==decide ((1:Int)<0))) (v:=A*D') (w:=B'*t.1*1) (λhne=>by
   rw[Zv (by omega:¬ D'<0)];have:A*D'<0↔A<0:=by
    constructor
    ·intro h;rcases Qs A 0 with h'|h'
     ·exact h'
     ·have:=Qw h' (by omega:0<=D');omega
    ·intro h;exact Qx h D0
   rw[this];simp) (λhne=>by
   rw[Qm,Zv (by omega:¬ (1:Int)<0)];simp)
 obtain⟨r1,r2⟩:=pv;have ew:z3x A (B'*t.1,D')=zbg (yqu (!(decide (A<0)==decide (D'<0))) (!(decide (B'*t.1<0)==decide ((1:Int)<0))) (z2u (A*D')) (z2u (B'*t.1*1))).1 (z2u (A*D'+B'*t.1*1)) D':=by
  unfold z3x;rw[Zp or'];show zbg _ _ _=_;rw[r1]
 rw[ew,Qm];have eN:A*t.2+B*t.1=(A*D'+B'*t.1)*g:=by
  rw[hD,Q1,Qh g D',← Qn,Qn B',Qh t.1 g,← Qn,Qh B' g,← hB]
 have gN:y2e (A*D'+B'*t.1) D'=1:=by
  rw[Int.add_comm,y2g];unfold y2e;rw[e1,e1,n1];rfl
 unfold ymn;have hgN:y2e (A*t.2+B*t.1) t.2=g:=by
  have h':=y2h (A*D'+B'*t.1) D' g1;rw[← eN,gN,Qj,Qh D' g,← hD] at h';exact h'
 rw[hgN,tD];have aN:z2u (A*t.2+B*t.1)/g=z2u (A*D'+B'*t.1):=by
  rw[eN,← z2y];have:z2u g=g:=by unfold z2u;rw[Zn (by omega)]
  rw[this];exact Int.mul_ediv_cancel _ (by omega)
 rw[aN];refine zbj λhne=>?_
 have hz:A*D'+B'*t.1*1≠0:=λh=>hne (by rw[Qm] at h;rw[h];rfl)
 have r3:=r2 hz;rw[Qm] at r3;rw[Bool.eq_iff_iff,r3,Zq,eN];constructor
 ·intro h;exact Qx h g1
 ·intro h;rcases Qs (A*D'+B'*t.1) 0 with h'|h'
  ·exact h'
  ·have:=Qw h' (by omega:0<=g);omega
