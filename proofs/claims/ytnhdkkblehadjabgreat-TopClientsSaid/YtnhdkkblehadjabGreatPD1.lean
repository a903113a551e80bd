/- The engine, parts DX, DW, AT, RV, put together. Conditions: none. -/
import Derived.Test.YtnhdkkblehadjabGreatPX1
import Derived.Test.YtnhdkkblehadjabGreatE7
import Derived.Test.YtnhdkkblehadjabGreatPK1
import Derived.Lib.ItoaNum
import Derived.Test.YtnhdkkblehadjabGreatVgStd
import Derived.Test.YtnhdkkblehadjabGreatFs
import Derived.Test.YtnhdkkblehadjabGreatP4
import Derived.Test.YtnhdkkblehadjabGreatVgBase
set_option linter.unusedVariables false
section
/- bits.Len64, as the library has it. Conditions: none. -/
set_option maxRecDepth 100000
open Go Go.Eng Go.Proofs
namespace Go.Proofs.YtnhdkkblehadjabGreat
theorem len64{H:Hp}{x:Int}(h0:0<=x)(h1:x<=18446744073709551615):Qf Tryz.prog 196 #[.int .u64 x] H (.int .i64 ((Go.Lib.bitLen x.toNat:Nat):Int)):=λw hv =>
 (Any.bits_Len64 Tryz.len64 x w h0 h1).mono λe w' ⟨he,hw⟩=>⟨_,H,he,by rw[hw];exact Tr.refl hv,rfl,Hp.le_refl _⟩

theorem zvc{z:Int}{k:Nat}(h0:0<=z)(hk:k<=64):z.fdiv (2 ^ Min.min k IntKind.u64.bits)=z/2 ^ k:=by
 have:Min.min k IntKind.u64.bits=k:=by show min k 64=k;omega
 rw[this]
 exact Int.fdiv_eq_ediv_of_nonneg _ (Int.le_of_lt (Int.pow_pos (by omega)))
theorem x5h{z:Int}(h0:0<=z)(h1:z<18446744073709551616):(BitVec.ofInt IntKind.u64.bits z).toNat=z.toNat:=by
 rw[BitVec.toNat_ofInt]
 have:(((2:Nat) ^ IntKind.u64.bits:Nat):Int)=18446744073709551616:=by decide
 rw[this];omega
theorem yid{x a:Int}{k:Nat}(hx:0<=x)(ha:0<=a)(ha':a<2 ^ k)(hs:x*2 ^ k+a<18446744073709551616) :
  IntKind.u64.wrap (↑(BitVec.ofInt IntKind.u64.bits (x*2 ^ k) ||| BitVec.ofInt IntKind.u64.bits a).toNat:Int)=x*2 ^ k+a:=by
 obtain⟨X,rfl⟩:=Int.eq_ofNat_of_zero_le hx
 obtain⟨A,rfl⟩:=Int.eq_ofNat_of_zero_le ha
 have e:((X:Int)*2 ^ k)=((2 ^ k*X:Nat):Int):=by rw[Nat.mul_comm];simp
 have hA:A<2 ^ k:=by
  have:((2:Int) ^ k)=((2 ^ k:Nat):Int):=by simp
  rw[this] at ha';omega
 rw[e] at hs ⊢
 rw[BitVec.toNat_or,x5h (by omega) (by omega),x5h (by omega) (by omega),Int.toNat_natCast,Int.toNat_natCast,← Nat.two_pow_add_eq_or_of_lt hA,x8t,x8p (by omega) (by omega)]
 omega

theorem y6y{H:Hp}{y:Int}(y1:1<=y)(y2:y<18446744073709551616):∃k:Nat,k<=63/\Qf Tryz.prog F.f160 #[.int .u64 y] H (.int .i64 (k:Int))/\9223372036854775808<=y*2 ^ k/\y*2 ^ k<18446744073709551616:=by
 obtain⟨n,rfl⟩:=Int.eq_ofNat_of_zero_le (show 0<=y by omega)
 have hp:(2:Nat) ^ 64=18446744073709551616:=by decide
 obtain⟨b1,b2,b3⟩:=Go.Lib.bitLenAux_bounds 64 n (by omega) (by omega)
 have b4:Go.Lib.bitLenAux 64 n<=64:=Go.Lib.bitLenAux_le 64 n 64 (by omega)
 have hq:=len64 (H:=H) (x:=(n:Int)) (by omega) (by omega)
 rw[Int.toNat_natCast] at hq
 have hb:Go.Lib.bitLen n=Go.Lib.bitLenAux 64 n:=rfl
 rw[hb] at hq
 generalize Go.Lib.bitLenAux 64 n=b at *
 refine⟨64-b,by omega,vc160 ⟨_,hq,by unfold inI;omega,?_,Hp.le_refl _⟩,?_,?_⟩
 ·congr 1;omega
 ·have e:2 ^ (b-1)*2 ^ (64-b)=9223372036854775808:=by rw[← Nat.pow_add,show b-1+(64-b)=63 by omega];try decide
  have:=Nat.mul_le_mul_right (2 ^ (64-b)) b2
  rw[e] at this
  have e2:(n:Int)*2 ^ (64-b)=((n*2 ^ (64-b):Nat):Int):=by simp
  rw[e2];omega
 ·have e:2 ^ b*2 ^ (64-b)=18446744073709551616:=by rw[← Nat.pow_add,show b+(64-b)=64 by omega];try decide
  have:=Nat.mul_lt_mul_of_pos_right b3 (Nat.pow_pos (n:=64-b) (show 0<2 by omega))
  rw[e] at this
  have e2:(n:Int)*2 ^ (64-b)=((n*2 ^ (64-b):Nat):Int):=by simp
  rw[e2];omega

theorem zqs{post:Value->Hp->Prop}{H:Hp}{v q1 Y y1 y0 l0 s:Int}(hY:Y=y1*4294967296+y0)(n:Nrm v l0 y1 y0)(hs:nn (x8o s))
  (hp:∀q0:Int,z0o v l0 Y q0->post (Value.tuple #[Value.int .u64 (x8o (x8o (q1*4294967296)+q0)),Value.int .u64 ((x8o (x8o (x8o (v*4294967296)+l0)-x8o (q0*Y))).fdiv (2 ^ Min.min (x8o s).toNat IntKind.u64.bits))]) H) :
  nz y1/\∃(I:Int->Int->Hp->Prop),∃(m:Int->Int->Hp->Nat),I (x8o (v-x8o (x8o (v.tdiv y1)*y1))) (x8o (v.tdiv y1)) H/\∀(n9 n10:Int)(H11:Hp),I n9 n10 H11 ->
   ((decide (n10>=4294967296)||decide (x8o (n10*y0)>x8o (x8o (4294967296*n9)+l0)))=true ->
    (decide (x8o (n9+y1)>=4294967296)=true->nn (x8o s)/\post (Value.tuple #[Value.int .u64 (x8o (x8o (q1*4294967296)+x8o (n10-1))),Value.int .u64 ((x8o (x8o (x8o (v*4294967296)+l0)-x8o (x8o (n10-1)*Y))).fdiv (2 ^ Min.min (x8o s).toNat IntKind.u64.bits))]) H11) /\
    (decide (x8o (n9+y1)>=4294967296)=false->I (x8o (n9+y1)) (x8o (n10-1)) H11/\m (x8o (n9+y1)) (x8o (n10-1)) H11<m n9 n10 H11)) /\
   ((decide (n10>=4294967296)||decide (x8o (n10*y0)>x8o (x8o (4294967296*n9)+l0)))=false->nn (x8o s)/\post (Value.tuple #[Value.int .u64 (x8o (x8o (q1*4294967296)+n10)),Value.int .u64 ((x8o (x8o (x8o (v*4294967296)+l0)-x8o (n10*Y))).fdiv (2 ^ Min.min (x8o s).toNat IntKind.u64.bits))]) H11):=by
 obtain⟨w1,w2⟩:=Dg.startW n
 rw[w1,w2]
 refine⟨by have:=n.a;unfold nz;omega,λr q H'=>H'=H/\Dg v l0 y1 y0 q r,λ_ q _=>q.toNat,⟨rfl,Dg.start n⟩,λr q H' ⟨e,g⟩=>?_⟩
 subst e
 have na:=n.a;have nb:=n.b
 have g1:=g.r0;have g2:=g.r1;have g3:=g.q0;have g4:=g.q1
 rw[x8p (n:=r+y1) (by omega) (by omega)]
 refine⟨λhc=>?_,λhc=>⟨hs,hp q ?_⟩⟩
 ·have hc:=(g.cond n).1 hc
  have k2:=(g.lt_of n hc).2
  rw[x8p (n:=q-1) (by omega) (by omega)]
  refine⟨λhb=>⟨hs,hp (q-1) ?_⟩,λhb=>⟨⟨rfl,g.next n hc ?_⟩,?_⟩⟩
  ·rw[hY];exact g.done n hc (by simpa using hb)
  ·have:¬ r+y1>=4294967296:=by simpa using hb
   omega
  ·show (q-1).toNat<q.toNat;omega
 ·rw[hY];exact g.stop λh=>by rw[(g.cond n).2 h] at hc;cases hc

theorem zqt{H:Hp}{hi lo y:Int}(y1:1<=y)(y2:y<18446744073709551616)(h0:0<=hi)(h1:hi<y)(l0:0<=lo)(l1:lo<18446744073709551616) :
  Qf Tryz.prog F.f103 #[.int .u64 hi,.int .u64 lo,.int .u64 y] H (.tuple #[.int .u64 ((hi*18446744073709551616+lo)/y),.int .u64 ((hi*18446744073709551616+lo)%y)]):=by
 refine vc103 ⟨λh=>?_,λ_=>⟨λh=>?_,λ_=>⟨λhz=>?_,λhz=>?_⟩⟩⟩
 ·have h:y=0:=by simpa using h
  omega
 ·have h:y<=hi:=by simpa using h
  omega
 ·have hz:hi=0:=by simpa using hz
  subst hz
  have q0:0<=lo/y:=Int.ediv_nonneg l0 (by omega)
  have q1:lo/y<=lo:=Int.ediv_le_self _ l0
  refine⟨by unfold nz;omega,by unfold nz;omega,?_,Hp.le_refl _⟩
  rw[Int.tdiv_eq_ediv_of_nonneg l0,Int.tmod_eq_emod_of_nonneg l0,x8p q0 (by omega),show (0:Int)*18446744073709551616+lo=lo by omega]
 ·obtain⟨k,k63,hlz,k1,k2⟩:=y6y (H:=H) y1 y2
  have pp:(0:Int)<2 ^ k:=Int.pow_pos (by omega)
  have pr:(0:Int)<2 ^ (64-k):=Int.pow_pos (by omega)
  have epr:(2:Int) ^ k*2 ^ (64-k)=18446744073709551616:=by rw[← Int.pow_add,show k+(64-k)=64 by omega];try decide
  obtain⟨s1,s2,s3,s4,s5,s6⟩:=yg0 pp pr epr h0 h1 l0 l1
  have wk:x8o (k:Int)=k:=x8p (by omega) (by omega)
  have wk2:x8o (64-(k:Int))=((64-k:Nat):Int):=by rw[x8p (by omega) (by omega)];omega
  have ek:Min.min k IntKind.u64.bits=k:=by show min k 64=k;omega
  have eY:IntKind.u64.wrap (y*2 ^ Min.min k IntKind.u64.bits)=y*2 ^ k:=by rw[ek,x8t,x8p (by omega) k2]
  have eH:IntKind.u64.wrap (hi*2 ^ Min.min k IntKind.u64.bits)=hi*2 ^ k:=by rw[ek,x8t,x8p s4 (by omega)]
  have eA:lo.fdiv (2 ^ Min.min (64-k) IntKind.u64.bits)=lo/2 ^ (64-k):=zvc l0 (by omega)
  have eU:=yid (x:=hi) (a:=lo/2 ^ (64-k)) (k:=k) h0 s1 s2 (by omega)
  have eL:IntKind.u64.wrap (lo*2 ^ Min.min k IntKind.u64.bits)=lo*2 ^ k%18446744073709551616:=by rw[ek,x8t];rfl
  have L0:0<=lo*2 ^ k%18446744073709551616:=Int.emod_nonneg _ (by omega)
  have L1:lo*2 ^ k%18446744073709551616<18446744073709551616:=Int.emod_lt_of_pos _ (by omega)
  have U0:0<=hi*2 ^ k+lo/2 ^ (64-k):=by omega
  have eY1:=ywc (z:=y*2 ^ k) (by omega)
  have eY0:=y9a (z:=y*2 ^ k) (by omega) k2
  have eL1:=ywc (z:=lo*2 ^ k%18446744073709551616) L0
  have eL0:=y9a (z:=lo*2 ^ k%18446744073709551616) L0 L1
  have nk:nn (x8o (k:Int)):=by rw[wk];unfold nn;omega
  have n1:Nrm (hi*2 ^ k+lo/2 ^ (64-k)) (lo*2 ^ k%18446744073709551616/4294967296) (y*2 ^ k/4294967296) (y*2 ^ k%4294967296):=by
   generalize hi*2 ^ k+lo/2 ^ (64-k)=u at *
   generalize lo*2 ^ k%18446744073709551616=L at *
   generalize y*2 ^ k=Y at *
   exact⟨by omega,by omega,by omega,by omega,by omega,by omega,by omega,by omega⟩
  obtain⟨w1,w2⟩:=Dg.startW n1
  have fin:∀{q1 q0 v l1' l0':Int},(hi*2 ^ k+lo/2 ^ (64-k))*18446744073709551616+lo*2 ^ k%18446744073709551616=((hi*2 ^ k+lo/2 ^ (64-k))*4294967296+l1')*4294967296+l0' ->
    z0o (hi*2 ^ k+lo/2 ^ (64-k)) l1' (y*2 ^ k) q1->v=(hi*2 ^ k+lo/2 ^ (64-k))*4294967296+l1'-q1*(y*2 ^ k)->z0o v l0' (y*2 ^ k) q0 ->
    x8o (x8o (q1*4294967296)+q0)=(hi*18446744073709551616+lo)/y/\(x8o (x8o (x8o (v*4294967296)+l0')-x8o (q0*(y*2 ^ k)))).fdiv (2 ^ Min.min k IntKind.u64.bits)=(hi*18446744073709551616+lo)%y:=by
   intro q1 q0 v a0 a1 e6 d1 ev d2
   rw[zvc (by unfold x8o;omega) (by omega)]
   exact zqr pp (by omega) k2 (by rw[s6];exact e6) d1 ev d2
  refine⟨(k:Int),hlz,?_⟩
  simp only[wk,wk2,Int.toNat_natCast,eY,eH,eA,eU,eL,eY1,eY0,eL1,eL0,w1,w2]
  generalize hi*2 ^ k+lo/2 ^ (64-k)=u at *
  generalize lo*2 ^ k%18446744073709551616=L at *
  generalize y*2 ^ k=Y at *
  have hY:Y=Y/4294967296*4294967296+Y%4294967296:=by omega
  have hL:u*18446744073709551616+L=(u*4294967296+L/4294967296)*4294967296+L%4294967296:=by omega
  have n2:∀{v:Int},0<=v->v<Y->Nrm v (L%4294967296) (Y/4294967296) (Y%4294967296):=λa b=>⟨by omega,by omega,by omega,by omega,a,by omega,by omega,by omega⟩
  have one:∀q1:Int,z0o u (L/4294967296) Y q1->∃v,0<=v/\v<Y/\v=u*4294967296+L/4294967296-q1*Y/\x8o (x8o (x8o (u*4294967296)+L/4294967296)-x8o (q1*Y))=v:=λq1 d=>by
   obtain⟨a,b,c,e⟩:=d
   rw[Int.add_mul,Int.one_mul] at b
   exact⟨_,by omega,by omega,rfl,x8s (by omega) (by omega)⟩
  refine⟨by unfold nn;omega,by unfold nn;omega,by unfold nn;omega,by unfold nn;omega,by unfold nn;omega,by unfold nn;omega,by unfold nz;omega,
   λq r H'=>H'=H/\Dg u (L/4294967296) (Y/4294967296) (Y%4294967296) q r,λq _ _=>q.toNat,⟨rfl,Dg.start n1⟩,λq r H' ⟨e,g⟩=>?_⟩
  subst e
  have na:=n1.a;have nb:=n1.b
  have g1:=g.r0;have g2:=g.r1;have g3:=g.q0;have g4:=g.q1
  rw[x8p (n:=r+Y/4294967296) (by omega) (by omega)]
  refine⟨λhc=>?_,λhc=>?_⟩
  ·have hc:=(g.cond n1).1 hc
   have c2:=(g.lt_of n1 hc).2
   rw[x8p (n:=q-1) (by omega) (by omega)]
   refine⟨λhb=>?_,λhb=>⟨⟨rfl,g.next n1 hc ?_⟩,?_⟩⟩
   ·have d:=g.done n1 hc (by simpa using hb)
    rw[← hY] at d
    obtain⟨v,v0,v1,ev,wv⟩:=one _ d
    rw[wv]
    have key:=zqs (post:=λv H5=>v=.tuple #[.int .u64 ((hi*18446744073709551616+lo)/y),.int .u64 ((hi*18446744073709551616+lo)%y)]/\Hp.le H' H5) (H:=H') (s:=(k:Int)) (q1:=q-1) hY (n2 v0 v1) nk λq0 d0=>⟨by rw[wk,Int.toNat_natCast];obtain⟨z1,z2⟩:=fin hL d ev d0;rw[z1,z2],Hp.le_refl _⟩
    rw[wk,Int.toNat_natCast] at key
    exact key
   ·have:¬ r+Y/4294967296>=4294967296:=by simpa using hb
    omega
   ·show (q-1).toNat<q.toNat;omega
  ·have d:=g.stop λh=>by rw[(g.cond n1).2 h] at hc;cases hc
   rw[← hY] at d
   obtain⟨v,v0,v1,ev,wv⟩:=one _ d
   rw[wv]
   have key:=zqs (post:=λv H5=>v=.tuple #[.int .u64 ((hi*18446744073709551616+lo)/y),.int .u64 ((hi*18446744073709551616+lo)%y)]/\Hp.le H' H5) (H:=H') (s:=(k:Int)) (q1:=q) hY (n2 v0 v1) nk λq0 d0=>⟨by rw[wk,Int.toNat_natCast];obtain⟨z1,z2⟩:=fin hL d ev d0;rw[z1,z2],Hp.le_refl _⟩
   rw[wk,Int.toNat_natCast] at key
   exact key

theorem ysz{H:Hp}{hi lo y:Int}(y1:1<=y)(y2:y<18446744073709551616)(h0:0<=hi)(l0:0<=lo)(l1:lo<18446744073709551616) :
  Qf Tryz.prog F.f102 #[.int .u64 hi,.int .u64 lo,.int .u64 y] H (.int .u64 ((hi*18446744073709551616+lo)%y)):=by
 refine vc102 ⟨by unfold nz;omega,_,_,zqt y1 y2 (hi:=hi.tmod y) ?_ ?_ l0 l1,?_,Hp.le_refl _⟩
 ·rw[Int.tmod_eq_emod_of_nonneg h0];exact Int.emod_nonneg _ (by omega)
 ·rw[Int.tmod_eq_emod_of_nonneg h0];exact Int.emod_lt_of_pos _ (by omega)
 ·rw[Int.tmod_eq_emod_of_nonneg h0,Int.add_emod,Int.mul_emod,Int.emod_emod,← Int.mul_emod,← Int.add_emod]

def yg9(p:Pt)(t:Int×Int):Int:=p.2.1*t.2+p.2.2*t.1
def yjn(N d:Int):(Int×Int)×Int:=zbt (decide (N<0)) (z2w N/zzo N d) (d/zzo N d)
def yma(p:Pt)(t:Int×Int):(Int×Int)×Int:=if okP p/\okR t then yjn (yg9 p t) t.2 else ((0,0),8)
theorem ymc{p:Pt}{t:Int×Int}(h:okP p)(h2:okR t):yma p t=yjn (yg9 p t) t.2:=if_pos ⟨h,h2⟩
theorem ymb{p:Pt}{t:Int×Int}(h:¬ (okP p/\okR t)):yma p t=((0,0),8):=if_neg h

theorem yga{p:Pt}{t:Int×Int}(hp:okP p)(ht:okR t):z2w (p.2.1*t.2)<=19342813113834066795298816/\z2w (p.2.2*t.1)<=19342813113834066795298816/\z2w (yg9 p t)<170141183460469231731687303715884105728/2:=by
 have h1:=hp.a0;have h1':=hp.a1;have h2:=hp.b0;have h2':=hp.b1
 have h3:=ht.d1;have h4:=ht.d2;have h5:=ht.n1;have h6:=ht.n2
 have q1:=z31 (x:=p.2.1) (y:=t.2) (m:=1048576) (n:=9223372036854775807) (z2z (by omega) (by omega)) (z2z (by omega) (by omega))
 have q2:=z31 (x:=p.2.2) (y:=t.1) (m:=1048576) (n:=9223372036854775807) (z2z (by omega) (by omega)) (z2z (by omega) (by omega))
 have q3:=z2x (p.2.1*t.2) (p.2.2*t.1)
 unfold yg9
 refine⟨by omega,by omega,by omega⟩

theorem z8r{post:Value->Hp->Prop}{H:Hp}{hh l d n3 N:Int}(h0:0<=hh)(h1:hh<9223372036854775808)(l0:0<=l)(l1:l<18446744073709551616)(hN:hh*18446744073709551616+l=z2w N)(d1:1<=d)(d2:d<=9223372036854775807)(hs:n3<0↔N<0)
  (hp:post (.tuple #[sI2 (yjn N d).1.1 (yjn N d).1.2,.int .i64 (yjn N d).2]) H) :
  ∃n7:Int,Qf Tryz.prog F.f102 #[Value.int .u64 (x8o hh),Value.int .u64 l,Value.int .u64 (x8o d)] H (Value.int .u64 n7)/\∃(I:Int->Int->Hp->Prop),∃(m:Int->Int->Hp->Nat),I n7 (x8o d) H/\∀(n10 n11:Int)(H12:Hp),I n10 n11 H12 ->
   (decide (n10>0)=true->nz n10/\I (n11.tmod n10) n10 H12/\m (n11.tmod n10) n10 H12<m n10 n11 H12) /\
   (decide (n10>0)=false->nz n11/\nz n11/\∃n13 n14:Int,Qf Tryz.prog F.f103 #[Value.int .u64 ((x8o hh).tmod n11),Value.int .u64 l,Value.int .u64 n11] H12 (Value.tuple #[Value.int .u64 n13,Value.int .u64 n14]) /\
    ((decide (x8o ((x8o hh).tdiv n11)>0)||decide (n13>9223372036854775807))=true->post (Value.tuple #[(sI2 0 0),Value.int .i64 16]) H12) /\
    ((decide (x8o ((x8o hh).tdiv n11)>0)||decide (n13>9223372036854775807))=false->nz n11 /\
     (decide (n3<0)=true->inI (0-IntKind.i64.wrap n13)/\post (Value.tuple #[(sI2 (0-IntKind.i64.wrap n13) (IntKind.i64.wrap (x8o ((x8o d).tdiv n11)))),Value.int .i64 0]) H12) /\
     (decide (n3<0)=false->post (Value.tuple #[(sI2 (IntKind.i64.wrap n13) (IntKind.i64.wrap (x8o ((x8o d).tdiv n11)))),Value.int .i64 0]) H12))):=by
 rw[x8p (n:=hh) h0 (by omega),x8p (n:=d) (by omega) (by omega)]
 have hX:0<=z2w N:=z34 N
 have r0:0<=z2w N%d:=Int.emod_nonneg _ (by omega)
 have rr:=ysz (H:=H) (y:=d) d1 (by omega) h0 l0 l1
 rw[hN] at rr
 have eg0:Nat.gcd d.toNat (z2w N%d).toNat=Nat.gcd (z2w N).toNat (z2w d).toNat:=by
  have ed:z2w d=d:=by unfold z2w;rw[if_neg (by omega)]
  rw[ed]
  obtain⟨x,hx⟩:=Int.eq_ofNat_of_zero_le hX
  obtain⟨y,hy⟩:=Int.eq_ofNat_of_zero_le (show 0<=d by omega)
  rw[hx,hy]
  show Nat.gcd y (x%y)=Nat.gcd x y
  rw[Nat.gcd_comm y,← Nat.gcd_rec,Nat.gcd_comm]
 refine⟨_,rr,λr g H'=>H'=H/\0<=r/\0<g/\Nat.gcd g.toNat r.toNat=Nat.gcd (z2w N).toNat (z2w d).toNat,λr _ _=>r.toNat,⟨rfl,r0,by omega,eg0⟩,λr g H' ⟨e,q1,q2,q3⟩=>?_⟩
 subst e
 refine⟨λhc=>?_,λhc=>?_⟩
 ·have hc:0<r:=by simpa using hc
  obtain⟨g1,g2,g3⟩:=zzs hc (by omega) q3
  exact⟨by unfold nz;omega,⟨rfl,g1,hc,g3⟩,by show (g.tmod r).toNat<r.toNat;omega⟩
 ·have hr:r=0:=by have:¬ r>0:=by simpa using hc
                  omega
  subst hr
  have eg:g=zzo N d:=by
   unfold zzo
   rw[← q3];simp;omega
  have gle:g<=d:=by
   have:=Nat.gcd_le_right (z2w N).toNat (show 0<(z2w d).toNat by unfold z2w;split <;> omega)
   rw[← q3] at this
   have ed:z2w d=d:=by unfold z2w;rw[if_neg (by omega)]
   rw[ed] at this
   simp at this;omega
  have t0:0<=hh.tmod g:=by rw[Int.tmod_eq_emod_of_nonneg h0];exact Int.emod_nonneg _ (by omega)
  have t1:hh.tmod g<g:=by rw[Int.tmod_eq_emod_of_nonneg h0];exact Int.emod_lt_of_pos _ (by omega)
  have dv:=zqt (H:=H') (hi:=hh.tmod g) (lo:=l) (y:=g) (by omega) (by omega) t0 t1 l0 l1
  refine⟨by unfold nz;omega,by unfold nz;omega,_,_,dv,?_⟩
  have f0:0<=hh/g:=Int.ediv_nonneg h0 (by omega)
  have f1:hh/g<=hh:=Int.ediv_le_self _ h0
  have ex:z2w N/g=hh/g*18446744073709551616+(hh.tmod g*18446744073709551616+l)/g:=by
   rw[Int.tmod_eq_emod_of_nonneg h0,← hN]
   have e:=Int.mul_ediv_add_emod hh g
   have:hh*18446744073709551616+l=(hh%g*18446744073709551616+l)+g*(hh/g*18446744073709551616):=by
    rw[← Int.mul_assoc]
    generalize g*(hh/g)=Z at *
    generalize hh%g=W at *
    omega
   rw[this,Int.add_mul_ediv_left _ _ (by omega:g≠0)];omega
  have z0:0<=(hh.tmod g*18446744073709551616+l)/g:=Int.ediv_nonneg (by omega) (by omega)
  have dg0:0<=d/g:=Int.ediv_nonneg (by omega) (by omega)
  have dg1:d/g<=d:=Int.ediv_le_self _ (by omega)
  rw[Int.tdiv_eq_ediv_of_nonneg h0,Int.tdiv_eq_ediv_of_nonneg (show 0<=d by omega),x8p f0 (by omega),x8p dg0 (by omega),y3b dg0 (by omega)]
  unfold yjn at hp
  rw[← eg,ex] at hp
  generalize (hh.tmod g*18446744073709551616+l)/g=Z at *
  generalize hh/g=W at *
  unfold zbt at hp
  refine⟨λhb=>?_,λhb=>⟨by unfold nz;omega,λhn=>?_,λhn=>?_⟩⟩
  ·simp only[Bool.or_eq_true,decide_eq_true_eq] at hb
   rw[if_pos (by omega)] at hp
   exact hp
  ·simp only[Bool.or_eq_false_iff,decide_eq_false_iff_not] at hb
   have w0:W=0:=by omega
   subst w0
   have hn:n3<0:=by simpa using hn
   rw[if_neg (by omega),decide_eq_true (hs.1 hn),show (0:Int)*18446744073709551616+Z=Z by omega] at hp
   rw[y3b z0 (by omega)]
   exact⟨by unfold inI;omega,hp⟩
  ·simp only[Bool.or_eq_false_iff,decide_eq_false_iff_not] at hb
   have w0:W=0:=by omega
   subst w0
   have hn:¬ n3<0:=by simpa using hn
   rw[if_neg (by omega),decide_eq_false (λh=>hn (hs.2 h)),show (0:Int)*18446744073709551616+Z=Z by omega] at hp
   rw[y3b z0 (by omega)]
   exact hp

theorem zpv{H:Hp}{p:Pt}{t:Int×Int}(ht:zxh t) :
  Qf Tryz.prog F.f48 #[sI3 p.1 p.2.1 p.2.2,sI2 t.1 t.2] H (.tuple #[sI2 (yma p t).1.1 (yma p t).1.2,.int .i64 (yma p t).2]):=by
 refine vc48 ⟨_,zpw,_,yqv ht,λhc=>?_,λhc=>?_⟩
 ·have hb:¬ (okP p/\okR t):=λ⟨a,b⟩=>by rw[zl0 a,zl4 b] at hc;simp at hc
  rw[ymb hb]
  refine⟨?_,Hp.le_refl _⟩
  by_cases h1:okP p
  ·have h2:¬ okR t:=λh=>hb ⟨h1,h⟩
   rw[zl0 h1,zl3 h2];rfl
  ·rw[zky h1]
   by_cases h2:okR t
   ·rw[zl4 h2];rfl
   ·rw[zl3 h2];rfl
 have ok:okP p/\okR t:=by
  by_cases h1:okP p
  ·by_cases h2:okR t
   ·exact⟨h1,h2⟩
   ·rw[zl0 h1,zl3 h2] at hc;simp at hc
  ·rw[zky h1] at hc
   by_cases h2:okR t
   ·rw[zl4 h2] at hc;simp at hc
   ·rw[zl3 h2] at hc;simp at hc
 obtain⟨op,or⟩:=ok
 rw[ymc op or]
 obtain⟨m1,m2,m3⟩:=yga op or
 have h1:=op.a0;have h1':=op.a1;have h2:=op.b0;have h2':=op.b1
 have h3:=or.d1;have h4:=or.d2;have h5:=or.n1;have h6:=or.n2
 have iA:inI p.2.1:=by unfold inI;omega
 have iB:inI p.2.2:=by unfold inI;omega
 obtain⟨hi,lo,hq,hv,v0,v1⟩:=zq2 (H:=H) iA ht.2 iB ht.1 m1 m2
 have hv:hi*18446744073709551616+lo=yg9 p t:=hv
 have av:=z2y (yg9 p t)
 have key:∀(hh l:Int),0<=hh->hh<9223372036854775808->0<=l->l<18446744073709551616->hh*18446744073709551616+l=z2w (yg9 p t)->(hi<0↔yg9 p t<0)->_ :=
  λhh l x1 x2 x3 x4 x5 x6=>z8r (post:=λv H5=>v=.tuple #[sI2 (yjn (yg9 p t) t.2).1.1 (yjn (yg9 p t) t.2).1.2,.int .i64 (yjn (yg9 p t) t.2).2]/\Hp.le H H5) (H:=H) (hh:=hh) (l:=l) (d:=t.2) (n3:=hi) (N:=yg9 p t) x1 x2 x3 x4 x5 h3 h4 x6 ⟨rfl,Hp.le_refl _⟩
 refine⟨_,_,hq,λhn=>?_,λhn=>?_⟩
 ·have hn:hi<0:=by simpa using hn
  have hN:yg9 p t<0:=by omega
  refine⟨_,_,x22 (x:=0) (y:=lo) (b:=0) (by omega) v0 v1 (by omega) (by omega),?_⟩
  have eb:IntKind.i64.wrap (if 0<lo+0 then 1 else 0)=(if 0<lo+0 then 1 else 0):=by split <;> decide
  rw[eb]
  by_cases hl:0<lo+0
  ·rw[if_pos hl]
   exact⟨by unfold inI;omega,by unfold inI;omega,key (0-hi-1) ((0-lo-0)%18446744073709551616) (by omega) (by omega) (by omega) (by omega) (by omega) ⟨λ_=>hN,λ_=>hn⟩⟩
  ·rw[if_neg hl]
   exact⟨by unfold inI;omega,by unfold inI;omega,key (0-hi-0) ((0-lo-0)%18446744073709551616) (by omega) (by omega) (by omega) (by omega) (by omega) ⟨λ_=>hN,λ_=>hn⟩⟩
 ·have hn:¬ hi<0:=by simpa using hn
  exact key hi lo (by omega) (by omega) v0 v1 (by omega) ⟨λh=>absurd h hn,λh=>by omega⟩

theorem zap{V W i:Nat}(hW:W<18446744073709551616)(hi:64<=i):(V*18446744073709551616+W)/2 ^ i=V/2 ^ (i-64):=by
 have e:(2:Nat) ^ i=18446744073709551616*2 ^ (i-64):=by
  have h:(2:Nat) ^ 64=18446744073709551616:=by decide
  rw[← h,← Nat.pow_add,show 64+(i-64)=i by omega]
 rw[e,← Nat.div_div_eq_div_mul,show (V*18446744073709551616+W)/18446744073709551616=V by omega]
theorem zar{V W i:Nat}(hi:i<64):(V*18446744073709551616+W)/2 ^ i%2=W/2 ^ i%2:=by
 have e:V*18446744073709551616=2 ^ i*(2*(2 ^ (63-i)*V)):=by
  have h:(2:Nat) ^ i*2*2 ^ (63-i)=18446744073709551616:=by
   rw[← Nat.pow_succ,← Nat.pow_add,show i.succ+(63-i)=64 by omega];try decide
  rw[← Nat.mul_assoc,← Nat.mul_assoc,h,Nat.mul_comm]
 rw[e,Nat.mul_add_div (Nat.pow_pos (by omega))]
 omega
theorem zas{X d i:Nat}(hd:0<d):(X/d/2 ^ i)%2=(if d<=2*((X/2 ^ (i+1))%d)+(X/2 ^ i)%2 then 1 else 0):=by
 have h:=(zqv X d i hd).1
 have e:X/d/2 ^ i=(X/2 ^ i)/d:=by rw[Nat.div_div_eq_div_mul,Nat.mul_comm,← Nat.div_div_eq_div_mul]
 rw[e,h]
 split <;> omega
theorem yti{X d i:Nat}(hd:0<d):(X/2 ^ i)%d=(if d<=2*((X/2 ^ (i+1))%d)+(X/2 ^ i)%2 then 2*((X/2 ^ (i+1))%d)+(X/2 ^ i)%2-d else 2*((X/2 ^ (i+1))%d)+(X/2 ^ i)%2):=(zqv X d i hd).2

theorem zqu{V W d:Nat}(hV:V<18446744073709551616)(hW:W<18446744073709551616)(hd:0<d) :
  ∃(Qh Ql:Nat)(rs:Nat->Nat),Qh<18446744073709551616/\Ql<18446744073709551616/\(V*18446744073709551616+W)/d/18446744073709551616=Qh/\(V*18446744073709551616+W)/d%18446744073709551616=Ql/\rs 128=0/\(V*18446744073709551616+W)%d=rs 0 /\
  (∀i,rs (i+1)<d/\∃xb,rs i=(if d<=2*rs (i+1)+xb then 2*rs (i+1)+xb-d else 2*rs (i+1)+xb) /\
   (64<=i->Qh/2 ^ (i-64)%2=(if d<=2*rs (i+1)+xb then 1 else 0)/\xb=V/2 ^ (i-64)%2) /\
   (i<64->Ql/2 ^ i%2=(if d<=2*rs (i+1)+xb then 1 else 0)/\xb=W/2 ^ i%2)):=by
 have h2:(2:Nat) ^ 64=18446744073709551616:=by decide
 have h3:(2:Nat) ^ 128=18446744073709551616*18446744073709551616:=by decide
 have hXl:V*18446744073709551616+W<2 ^ 128:=by rw[h3];omega
 refine⟨_,_,λj=>(V*18446744073709551616+W)/2 ^ j%d,?_,Nat.mod_lt _ (by omega),rfl,rfl,?_,?_,λi=>⟨Nat.mod_lt _ hd,(V*18446744073709551616+W)/2 ^ i%2,yti hd,λh=>⟨?_,?_⟩,λh=>⟨?_,?_⟩⟩⟩
 ·have:(V*18446744073709551616+W)/d<=V*18446744073709551616+W:=Nat.div_le_self _ _
  omega
 ·show (V*18446744073709551616+W)/2 ^ 128%d=0
  rw[Nat.div_eq_of_lt hXl,Nat.zero_mod]
 ·show _=(V*18446744073709551616+W)/2 ^ 0%d
  rw[Nat.pow_zero,Nat.div_one]
 ·rw[← zas hd,← h2,Nat.div_div_eq_div_mul _ (2 ^ 64),← Nat.pow_add,show 64+(i-64)=i by omega]
 ·rw[zap hW h]
 ·rw[← zas hd]
  generalize (V*18446744073709551616+W)/d=Q
  have:=zar (V:=Q/18446744073709551616) (W:=Q%18446744073709551616) h
  rw[show Q/18446744073709551616*18446744073709551616+Q%18446744073709551616=Q by omega] at this
  exact this.symm
 ·rw[zar h]

set_option maxHeartbeats 1000000 in
theorem yrz{H:Hp}{c:Bool}{V W d:Nat}(hV:V<18446744073709551616)(hW:W<18446744073709551616)(hd:0<d)(hd':d<=9223372036854775808) :
  Qf Tryz.prog F.f128 #[.agg #[.bool c,.int .u64 (V:Int),.int .u64 (W:Int)],.int .u64 (d:Int)] H (.tuple #[.agg #[.bool false,.int .u64 (((V*18446744073709551616+W)/d/18446744073709551616:Nat):Int),.int .u64 (((V*18446744073709551616+W)/d%18446744073709551616:Nat):Int)],.int .u64 (((V*18446744073709551616+W)%d:Nat):Int)]):=by
 have h2:(2:Nat) ^ 64=18446744073709551616:=by decide
 obtain⟨Qh,Ql,rs,qh,ql,eQh,eQl,r128,r0,hr⟩:=zqu hV hW hd
 rw[eQh,eQl,r0]
 clear eQh eQl r0
 refine vc128 ⟨λn3 n4 c5 n6 n7 H'=>∃j:Nat,n4=(j:Int)-1/\j<=128/\n3=((rs j:Nat):Int)/\c5=false/\n6=((x5n (j-64) Qh:Nat):Int)/\n7=((x5n (min j 64) Ql:Nat):Int)/\H'=H,λ_ n4 _ _ _ _=>(n4+1).toNat,
  ⟨128,by omega,by omega,by rw[r128];try rfl,rfl,by rw[show 128-64=64 from rfl,x5o (by omega)];try rfl,by rw[show min 128 64=64 from rfl,x5o (by omega)];try rfl,rfl⟩,λn3 n4 c5 n6 n7 H8 ⟨j,e4,hj,e3,e5,e6,e7,eH⟩=>?_⟩
 subst e4;subst e3;subst e5;subst e6;subst e7;subst eH
 refine⟨λhn=>?_,λhn=>?_⟩
 ·obtain⟨k,rfl⟩:∃k,j=k+1:=⟨j-1,by have:(0:Int)<=(j:Int)-1:=(by simpa using hn);omega⟩
  rw[show ((k+1:Nat):Int)-1=(k:Int) by omega]
  obtain⟨rl,xb,rk,bk1,bk2⟩:=hr k
  generalize rs (k+1)=R at *
  have z0:x8o (2*(R:Int))=((2*R:Nat):Int):=by rw[x8p (by omega) (by omega)];omega
  rw[z0]
  refine⟨by unfold nn;omega,λhk=>?_,λhk=>?_⟩
  ·have hk:64<=k:=by have:(64:Int)<=k:=(by simpa using hk);omega
   obtain⟨m,rfl⟩:∃m,k=m+64:=⟨k-64,by omega⟩
   have q1:=(bk1 (by omega)).1
   have x1:=(bk1 (by omega)).2
   rw[show m+64-64=m by omega] at x1 q1
   rw[show (((m+64:Nat):Int)-64).toNat=m by omega,zau hV (by omega),show m+64+1-64=m+1 by omega]
   have ts:=x5q m Qh
   rw[q1] at ts
   rw[x1] at rk ts
   have hbb:V/2 ^ m%2<2:=Nat.mod_lt _ (by omega)
   generalize V/2 ^ m%2=b at *
   have zb:x8o (((2*R:Nat):Int)+(b:Int))=((2*R+b:Nat):Int):=by rw[x8p (by omega) (by omega)];omega
   rw[zb]
   refine⟨by unfold inI;omega,by unfold nn;omega,λh1=>⟨λ_=>?_,λhf=>?_⟩,λh1=>?_⟩
   ·have h1:d<=2*R+b:=by have:(d:Int)<=((2*R+b:Nat):Int):=(by simpa using h1);omega
    rw[if_pos h1] at rk ts
    rw[orU (by omega) (by omega),x8p (n:=((2*R+b:Nat):Int)-(d:Int)) (by omega) (by omega)]
    refine⟨by unfold inI;omega,by unfold nn;omega,by unfold inI;omega,⟨m+64,rfl,by omega,by rw[rk];omega,rfl,?_,?_,rfl⟩,?_⟩
    ·rw[show m+64-64=m by omega,ts,Nat.mul_one]
    ·rw[show min (m+64+1) 64=min (m+64) 64 by omega]
    ·show (((m+64:Nat):Int)-1+1).toNat<(((m+64:Nat):Int)+1).toNat;omega
   ·exfalso;simp at hf;omega
   ·have h1:¬ d<=2*R+b:=by have:¬ (d:Int)<=((2*R+b:Nat):Int):=(by simpa using h1);omega
    rw[if_neg h1] at rk ts
    refine⟨by unfold inI;omega,⟨m+64,rfl,by omega,by rw[rk],rfl,?_,?_,rfl⟩,?_⟩
    ·rw[show m+64-64=m by omega,ts,Nat.mul_zero];try rfl
    ·rw[show min (m+64+1) 64=min (m+64) 64 by omega]
    ·show (((m+64:Nat):Int)-1+1).toNat<(((m+64:Nat):Int)+1).toNat;omega
  ·have hk':k<64:=by have:¬ (64:Int)<=k:=(by simpa using hk);omega
   obtain⟨q2,x2⟩:=bk2 hk'
   rw[Int.toNat_natCast,zau hW (by omega),show min (k+1) 64=k+1 by omega]
   have ts:=x5q k Ql
   rw[q2] at ts
   rw[x2] at rk ts
   have hbb:W/2 ^ k%2<2:=Nat.mod_lt _ (by omega)
   generalize W/2 ^ k%2=b at *
   have zb:x8o (((2*R:Nat):Int)+(b:Int))=((2*R+b:Nat):Int):=by rw[x8p (by omega) (by omega)];omega
   rw[zb]
   refine⟨λh1=>⟨λhf=>?_,λ_=>?_⟩,λh1=>?_⟩
   ·exfalso;simp at hf;omega
   ·have h1:d<=2*R+b:=by have:(d:Int)<=((2*R+b:Nat):Int):=(by simpa using h1);omega
    rw[if_pos h1] at rk ts
    rw[orU hk' (by omega),x8p (n:=((2*R+b:Nat):Int)-(d:Int)) (by omega) (by omega)]
    refine⟨by unfold nn;omega,by unfold inI;omega,⟨k,rfl,by omega,by rw[rk];omega,rfl,?_,?_,rfl⟩,?_⟩
    ·rw[show k+1-64=k-64 by omega]
    ·rw[show min k 64=k by omega,ts,Nat.mul_one]
    ·show ((k:Int)-1+1).toNat<((k:Int)+1).toNat;omega
   ·have h1:¬ d<=2*R+b:=by have:¬ (d:Int)<=((2*R+b:Nat):Int):=(by simpa using h1);omega
    rw[if_neg h1] at rk ts
    refine⟨by unfold inI;omega,⟨k,rfl,by omega,by rw[rk],rfl,?_,?_,rfl⟩,?_⟩
    ·rw[show k+1-64=k-64 by omega]
    ·rw[show min k 64=k by omega,ts,Nat.mul_zero];try rfl
    ·show ((k:Int)-1+1).toNat<((k:Int)+1).toNat;omega
 ·have:j=0:=by have:¬ (0:Int)<=(j:Int)-1:=(by simpa using hn);omega
  subst this
  refine⟨?_,Hp.le_refl _⟩
  rw[show 0-64=0 from rfl,show min 0 64=0 from rfl,x5r,x5r]

theorem zzq(a b k:Int):zzo (a+k*b) b=zzo a b:=by
 have e1:∀z:Int,(z2w z).toNat=z.natAbs:=λz=>by rw[z32];simp
 unfold zzo
 rw[e1,e1,e1]
 congr 1
 have:=Int.gcd_add_mul_right_left (m:=b) (n:=a) (k:=k)
 unfold Int.gcd at this
 exact this
end Go.Proofs.YtnhdkkblehadjabGreat
end
