/- The engine, parts K1, K2, K3, K4, K5, K6, K7, K8, K9, KA, KB, KC, put together. Conditions: none. -/
import Derived.Test.YtnhdkkblehadjaaGreatP4
import Derived.Test.YtnhdkkblehadjaaGreatVgZ
import Derived.Shelf.Spec.BitsCarry
open Bool renaming or_eq_true->Qa,or_eq_false_iff->Qb,false_eq_true->Qc,and_true->Qd
open Go.Eng.Hp renaming le_refl->Qe
open Int renaming ediv_nonneg->Qg,tdiv_eq_ediv_of_nonneg->Qh,mul_nonneg->Qi,mul_one->Qj,mul_assoc->Ql,eq_ofNat_of_zero_le->Qm,ediv_le_self->Qn,zero_ediv->Qo,toNat_natCast->Qp,sub_mul->Qq,one_mul->Qr,neg_tdiv->Qs,mul_comm->Qt
open Nat renaming gcd->Qu,gcd_pos_of_pos_right->Qv,gcd_one_left->Qw,div_mul_cancel->Qx,div_le_self->Qy
set_option linter.unusedVariables false
section
set_option maxRecDepth 100000
open Go Go.Eng Go.Proofs
namespace Go.Proofs.YtnhdkkblehadjaaGreat
variable{H:Hp}{c:Bool}{t b a:Int×Int}{n x g N y d D A B:Int}
def zbg(c:Bool)(N D:Int):(Int×Int)×Int:=if 9223372036854775807<N\/9223372036854775807<D then ((0,0),16) else ((if c=true then 0-N else N,D),0)
theorem zbj{d:Bool}(h:N≠0->c=d):zbg c N D=zbg d N D:=by
 unfold zbg;split
 ·rfl
 ·by_cases e:N=0
  ·subst e;cases c <;> cases d <;> rfl
  ·rw[h e]
theorem y5i(h0:0<=n)(h1:n<=9223372036854775807):IntKind.i64.wrap n=n:=by rw[y5j];omega
theorem yuh(hN:0<=N)(hD:0<=D) :
  qF F.f122 #[.agg #[.bool c,.int .u64 (N/18446744073709551616),.int .u64 (N%18446744073709551616)],.int .u64 (D/18446744073709551616),.int .u64 (D%18446744073709551616)] H
   (.tuple #[.agg #[vi (zbg c N D).1.1,vi (zbg c N D).1.2],vi (zbg c N D).2]):=by
 refine vc122 ⟨λhc=>?_,λhc=>?_⟩
 ·simp only[Qa,Zq] at hc;unfold zbg;rw[Zp (by omega)];exact⟨rfl,Qe _⟩
 ·simp only[Qb,Zt] at hc;unfold zbg;rw[Zn (by omega),y5i (by omega) (by omega),y5i (by omega) (by omega),show N%18446744073709551616=N by omega,show D%18446744073709551616=D by omega];exact⟨λh=>⟨by unfold inI;omega,by subst h;exact⟨rfl,Qe _⟩⟩,λh=>by subst h;exact⟨rfl,Qe _⟩⟩
theorem ywc{c1 c2:Bool}(hN:0<=N)(hD:0<=D) :
  qF F.f264 #[.bool c,.agg #[.bool c1,.int .u64 (N/18446744073709551616),.int .u64 (N%18446744073709551616)],.agg #[.bool c2,.int .u64 (D/18446744073709551616),.int .u64 (D%18446744073709551616)]] H
   (.tuple #[.agg #[vi (zbg c N D).1.1,vi (zbg c N D).1.2],vi (zbg c N D).2]):=by
 refine vc264 ⟨λhc=>?_,λhc=>?_⟩
 ·simp only[Qa,Zq] at hc;unfold zbg;rw[Zp (by omega)];exact⟨rfl,Qe _⟩
 ·simp only[Qb,Zt] at hc;unfold zbg;rw[Zn (by omega),y5i (by omega) (by omega),y5i (by omega) (by omega),show N%18446744073709551616=N by omega,show D%18446744073709551616=D by omega];exact⟨λh=>⟨by unfold inI;omega,by subst h;exact⟨rfl,Qe _⟩⟩,λh=>by subst h;exact⟨rfl,Qe _⟩⟩
structure Gp where
 hi:Int
 lo:Int
 a:Int
 b:Int
def yk6(g:Gp):Prop:=0<=g.hi/\g.hi<=65535/\0<=g.lo/\g.lo<=65535/\g.hi≠g.lo/\-2097152<=g.a/\g.a<=2097152/\-2097152<=g.b/\g.b<=2097152
instance (g:Gp):Decidable (yk6 g):=by unfold yk6;infer_instance
def zlo(g:Gp):Int:=if yk6 g then 0 else 8
abbrev gpV(g:Gp):Value:=.agg #[vi g.hi,vi g.lo,vi g.a,vi g.b]
theorem zlp{g:Gp}(h:¬ yk6 g):zlo g=8:=by unfold zlo;rw[Zn h]
theorem zlq{g:Gp}(h:yk6 g):zlo g=0:=by unfold zlo;rw[Zp h]
theorem xa6(h0:0<=n)(h1:n<2):yk7 n 2 [vi x,vi y] 1 [vi (if n=0 then x else y)]:=by
 have:n=0\/n=1:=by omega
 rcases this with rfl|rfl
 ·exact⟨by omega,by omega,rfl,rfl⟩
 ·exact⟨by omega,by omega,rfl,rfl⟩
theorem y1v{g:Gp}:qF F.f121 #[gpV g] H (vi (zlo g)):=by
 refine vc121 (upto (N:=2) (J:=λn=>(0<n->0<=g.hi/\g.hi<=65535)/\(1<n->0<=g.lo/\g.lo<=65535)) (by omega) ⟨λh=>by omega,λh=>by omega⟩ λn n0 n1 ⟨j1,j2⟩=>⟨λhn=>?_,λhn=>?_⟩)
 ·have hn:n<2:=by simpa using hn
  refine⟨_,xa6 n0 hn,λhb=>⟨?_,Qe _⟩,λhb=>upto.nx n0 hn (by omega) ?_⟩
  ·rw[zlp];intro ok;unfold yk6 at ok;simp only[Qa,Zq] at hb;split at hb <;> omega
  ·simp only[Qb,Zt] at hb;split at hb
   ·exact⟨λ_=>by omega,λh=>by omega⟩
   ·exact⟨λ_=>j1 (by omega),λ_=>by omega⟩
 ·have hn:¬ n<2:=by simpa using hn
  refine upto (N:=2) (J:=λn=>(0<n->-2097152<=g.a/\g.a<=2097152)/\(1<n->-2097152<=g.b/\g.b<=2097152)) (by omega) ⟨λh=>by omega,λh=>by omega⟩ λk k0 k1 ⟨i1,i2⟩=>⟨λhk=>?_,λhk=>?_⟩
  ·have hk:k<2:=by simpa using hk
   refine⟨_,xa6 k0 hk,λhb=>⟨?_,Qe _⟩,λhb=>upto.nx k0 hk (by omega) ?_⟩
   ·rw[zlp];intro ok;unfold yk6 at ok;simp only[Qa,Zq] at hb;split at hb <;> omega
   ·simp only[Qb,Zt] at hb;split at hb
    ·exact⟨λ_=>by omega,λh=>by omega⟩
    ·exact⟨λ_=>i1 (by omega),λ_=>by omega⟩
  ·have hk:¬ k<2:=by simpa using hk
   have:=j1 (by omega);have:=j2 (by omega);have:=i1 (by omega);have:=i2 (by omega);refine⟨λh=>⟨?_,Qe _⟩,λh=>⟨?_,Qe _⟩⟩
   ·have h:g.hi=g.lo:=by simpa using h
    rw[zlp (by unfold yk6;omega)]
   ·have h:¬ g.hi=g.lo:=by simpa using h
    rw[zlq (by unfold yk6;omega)]
def y2e(a b:Int):Int:=(Qu (z2u a).toNat (z2u b).toNat:Nat)
def yc3(n d:Int):(Int×Int)×Int:=if d=0 then ((0,0),26) else zbg (!(decide (n<0)==decide (d<0))) (z2u n/y2e n d) (z2u d/y2e n d)
theorem z38(h:d≠0):0<z2u d:=by unfold z2u;split <;> omega
theorem y2f(h:d≠0):0<y2e n d:=by
 unfold y2e;have:=z38 h;have:0<Qu (z2u n).toNat (z2u d).toNat:=Qv _ (by omega);omega
theorem zt9(h0:0<=x)(h1:x<=9223372036854775808)(hg:0<g):xcl (x.tdiv g)=x/g/\0<=x/g/\x/g<=9223372036854775808:=by
 have e:x.tdiv g=x/g:=Qh h0;have p:0<=x/g:=Qg h0 (by omega);have q:x/g<=x:=Qn _ h0;refine⟨?_,p,by omega⟩;rw[e];unfold xcl;omega
theorem yum(hn:inI n)(hd:inI d):qF F.f67 #[vi n,vi d] H (.tuple #[.agg #[vi (yc3 n d).1.1,vi (yc3 n d).1.2],vi (yc3 n d).2]):=by
 have an:=z2t hn;have ad:=z2t hd;refine vc67 ⟨λh=>?_,λh=>?_⟩
 ·have h:d=0:=by simpa using h
  unfold yc3;rw[Zp h];exact⟨rfl,Qe _⟩
 ·have h:d≠0:=by simpa using h
  have gp:=y2f (n:=n) h;obtain⟨u1,u2,u3⟩:=zt9 an.1 an.2 gp;obtain⟨w1,w2,w3⟩:=zt9 ad.1 ad.2 gp;have rb:=yuh (H:=H) (c:=!(decide (n<0)==decide (d<0))) (N:=z2u n/y2e n d) (D:=z2u d/y2e n d) u2 w2;rw[show z2u n/y2e n d/18446744073709551616=0 by omega,show z2u n/y2e n d%18446744073709551616=z2u n/y2e n d by omega,show z2u d/y2e n d/18446744073709551616=0 by omega,show z2u d/y2e n d%18446744073709551616=z2u d/y2e n d by omega] at rb;refine⟨_,yud hn,_,yud hd,y2e n d,yul an.1 ad.1,_,yud hn,by unfold nz;omega,_,yud hd,by unfold nz;omega,?_⟩;rw[u1,w1];refine⟨_,_,_,rb,?_,Qe _⟩;unfold yc3;rw[Zn h]
theorem ywd(hn:inI n)(hd:inI d):qF F.f243 #[vi n,vi d] H (.tuple #[.agg #[vi (yc3 n d).1.1,vi (yc3 n d).1.2],vi (yc3 n d).2]):=by
 have an:=z2t hn;have ad:=z2t hd;refine vc243 ⟨λh=>?_,λh=>?_⟩
 ·have h:d=0:=by simpa using h
  unfold yc3;rw[Zp h];exact⟨rfl,Qe _⟩
 ·have h:d≠0:=by simpa using h
  have gp:=y2f (n:=n) h;obtain⟨u1,u2,u3⟩:=zt9 an.1 an.2 gp;obtain⟨w1,w2,w3⟩:=zt9 ad.1 ad.2 gp;have rb:=ywc (H:=H) (c:=(!(decide (n<0)==decide (d<0))&&n != 0)) (c1:=false) (c2:=false) (N:=z2u n/y2e n d) (D:=z2u d/y2e n d) u2 w2;rw[show z2u n/y2e n d/18446744073709551616=0 by omega,show z2u n/y2e n d%18446744073709551616=z2u n/y2e n d by omega,show z2u d/y2e n d/18446744073709551616=0 by omega,show z2u d/y2e n d%18446744073709551616=z2u d/y2e n d by omega] at rb;have es:yc3 n d=zbg (!(decide (n<0)==decide (d<0))&&n != 0) (z2u n/y2e n d) (z2u d/y2e n d):=by
   unfold yc3;rw[Zn h];refine zbj λhN=>?_
   have:n≠0:=λe=>by
    apply hN;rw[e];rw[show z2u 0=0 from rfl];exact Qo _
   simp[this]
  rw[es];refine⟨_,ywv hn,_,ywv hd,y2e n d,yvr an.1 ad.1,_,ywv hn,by unfold nz;omega,_,ywv hd,by unfold nz;omega,?_⟩;rw[u1,w1];exact⟨_,_,_,rb,rfl,Qe _⟩
theorem yvo(ha:zzn a)(hb:zzn b):qF F.f22 #[.agg #[vi a.1,vi a.2],.agg #[vi b.1,vi b.2]] H (vi (if okR a/\okR b then 0 else 8)):=by
 refine vc22 ⟨_,yws ha,λhc=>?_,λhc=>?_⟩
 ·have h:¬ okR a:=λok=>by rw[zm8 ok] at hc;simp at hc
  refine⟨_,yws ha,?_,Qe _⟩;rw[zm7 h,Zn λx=>h x.1]
 ·have h:okR a:=zm9.1 (by simpa using hc);refine⟨_,yws hb,?_,Qe _⟩;by_cases h2:okR b
  ·rw[zm8 h2,Zp ⟨h,h2⟩]
  ·rw[zm7 h2,Zn λx=>h2 x.2]
theorem z34{a:Int}(hg:0<g):z2u (a.tdiv g)=z2u a/g:=by
 unfold z2u;by_cases h:a<0
 ·have e:a.tdiv g = -((-a)/g):=by
   have:a = -(-a):=by omega
   rw[this,Qs,Qh (by omega:(0:Int)<=-a)];simp
  have p:0<=(-a)/g:=Qg (by omega) (by omega);rw[Zp h,e];split <;> omega
 ·have e:a.tdiv g=a/g:=Qh (by omega);have p:0<=a/g:=Qg (by omega) (by omega);rw[Zn h,e,Zn (by omega)]
theorem x8m{a:Int}(hg:0<g)(hz:a.tdiv g≠0):(a.tdiv g<0↔a<0)/\a≠0:=by
 by_cases h:a<0
 ·have e:a.tdiv g = -((-a)/g):=by
   have:a = -(-a):=by omega
   rw[this,Qs,Qh (by omega:(0:Int)<=-a)];simp
  have p:0<=(-a)/g:=Qg (by omega) (by omega);rw[e] at hz ⊢;exact⟨⟨λ_=>h,λ_=>by omega⟩,by omega⟩
 ·have e:a.tdiv g=a/g:=Qh (by omega);have p:0<=a/g:=Qg (by omega) (by omega);rw[e] at hz ⊢;exact⟨⟨λx=>by omega,λx=>by omega⟩,λe0=>hz (by rw[e0];exact Qo _)⟩
theorem x8l{a:Int}(h1:-9223372036854775807<=a)(h2:a<=9223372036854775807)(hg:0<g):inI (a.tdiv g):=by
 have:=z34 (a:=a) hg;have p:0<=z2u a:=by unfold z2u;split <;> omega
 have q:z2u a/g<=z2u a:=Qn _ p;rw[← this] at q;have r:z2u a<=9223372036854775807:=by unfold z2u;split <;> omega
 unfold inI;unfold z2u at q r;split at q <;> split at r <;> omega
def gA(a b:Int×Int):Int:=(Qu b.2.toNat (z2u a.1).toNat:Nat)
def yfr(a b:Int×Int):(Int×Int)×Int :=
 if okR a/\okR b then zbg (!(decide (a.1<0)==decide (b.1<0))&&a.1 != 0&&b.1 != 0) (z2u (a.1.tdiv (gA a b)*b.1.tdiv (gA b a))) (a.2/gA b a*(b.2/gA a b)) else ((0,0),8)
theorem y16(hb:okR b):0<gA a b/\gA a b<=b.2:=by
 have:=hb.d1;unfold gA;have h1:0<Qu b.2.toNat (z2u a.1).toNat:=Nat.gcd_pos_of_pos_left _ (by omega);have h2:Qu b.2.toNat (z2u a.1).toNat<=b.2.toNat:=Nat.gcd_le_left _ (by omega);omega
theorem ys2(h1:1<=d)(h2:d<=9223372036854775807)(hg:0<g):d.tdiv g=d/g/\0<=d/g/\d/g<=9223372036854775807:=by
 have q:d/g<=d:=Qn _ (by omega);exact⟨Qh (by omega),Qg (by omega) (by omega),by omega⟩
theorem xcn(h0:0<=n)(h1:n<18446744073709551616):xcl n=n:=by unfold xcl;omega
theorem yun(ha:zzn a)(hb:zzn b):qF F.f95 #[.agg #[vi a.1,vi a.2],.agg #[vi b.1,vi b.2]] H (.tuple #[.agg #[vi (yfr a b).1.1,vi (yfr a b).1.2],vi (yfr a b).2]):=by
 refine vc95 ⟨_,yug ha hb,λhc=>?_,λhc=>?_⟩
 ·have h:¬ (okR a/\okR b):=λx=>by rw[Zp x] at hc;simp at hc
  unfold yfr;rw[Zn h,Zn h];exact⟨rfl,Qe _⟩
 ·have h:okR a/\okR b:=by
   by_cases x:okR a/\okR b
   ·exact x
   ·rw[Zn x] at hc;simp at hc
  obtain⟨oa,ob⟩:=h;have ga:=y16 (a:=a) ob;have gb:=y16 (a:=b) oa;have an:=z2t ha.1;have bn:=z2t hb.1;have d1:=oa.d1;have d2:=oa.d2;have d3:=ob.d1;have d4:=ob.d2;rw[xcn (n:=b.2) (by omega) (by omega),xcn (n:=a.2) (by omega) (by omega)];refine⟨_,yud ha.1,gA a b,yul (by omega) an.1,_,yud hb.1,gA b a,yul (by omega) bn.1,?_⟩;rw[y5i (n:=gA a b) (by omega) (by omega),y5i (n:=gA b a) (by omega) (by omega)];obtain⟨e1,e2,e3⟩:=ys2 d1 d2 gb.1;obtain⟨f1,f2,f3⟩:=ys2 d3 d4 ga.1;have i1:=x8l oa.n1 oa.n2 ga.1;have i2:=x8l ob.n1 ob.n2 gb.1;rw[e1,f1,xcn (n:=a.2/gA b a) e2 (by omega),xcn (n:=b.2/gA a b) f2 (by omega)];refine⟨⟨by unfold nz;omega,by unfold inI;omega⟩,⟨by unfold nz;omega,by unfold inI;omega⟩,_,_,yfp e2 (by omega) f2 (by omega),⟨by unfold nz;omega,i1⟩,⟨by unfold nz;omega,i2⟩,_,_,_,yus i1 i2,_,_,_,yuh (by rw[← z2y];exact Qi (z2t i1).1 (z2t i2).1) (Qi e2 f2),?_,Qe _⟩;have es:yfr a b=zbg (!(decide (a.1.tdiv (gA a b)<0)==decide (b.1.tdiv (gA b a)<0))) (z2u (a.1.tdiv (gA a b)*b.1.tdiv (gA b a))) (a.2/gA b a*(b.2/gA a b)):=by
   unfold yfr;rw[Zp ⟨oa,ob⟩];refine zbj λhN=>?_
   have hz:a.1.tdiv (gA a b)≠0/\b.1.tdiv (gA b a)≠0:=by
    constructor
    ·intro e;apply hN;rw[e,Int.zero_mul];try rfl
    ·intro e;apply hN;rw[e,Int.mul_zero];try rfl
   obtain⟨s1,s2⟩:=x8m ga.1 hz.1;obtain⟨s3,s4⟩:=x8m gb.1 hz.2;have t1:(a.1 != 0)=true:=by simpa using s2
   have t2:(b.1 != 0)=true:=by simpa using s4
   rw[t1,t2,Qd,Qd];simp only[s1,s3]
  rw[es]
def z7o(g:Gp)(t:Int×Int):Int:=if yk6 g/\okR t then 0 else 8
theorem z7q{g:Gp}(h:yk6 g)(h2:okR t):z7o g t=0:=by unfold z7o;rw[Zp ⟨h,h2⟩]
theorem z7r{g:Gp}:z7o g t=0↔yk6 g/\okR t:=by
 unfold z7o;split
 ·rename_i h;simp[h]
 ·rename_i h;simp[h]
theorem y1s{g:Gp}(ht:zzn t):qF F.f66 #[gpV g,.agg #[vi t.1,vi t.2]] H (vi (z7o g t)):=by
 refine vc66 ⟨_,y1v,λhc=>?_,λhc=>⟨_,yui ht,?_,Qe _⟩⟩
 ·have h:¬ yk6 g:=λok=>by rw[zlq ok] at hc;simp at hc
  unfold z7o;rw[zlp h,Zn λx=>h x.1];exact⟨rfl,Qe _⟩
 ·have h:yk6 g:=by
   by_cases x:yk6 g
   ·exact x
   ·rw[zlp x] at hc;simp at hc
  unfold z7o;by_cases h2:okR t
  ·rw[zm8 h2,Zp ⟨h,h2⟩]
  ·rw[zm7 h2,Zn λx=>h2 x.2]
theorem yc5(h1:-2097152<=A)(h2:A<=2097152)(h3:-2097152<=B)(h4:B<0) :
  ∃x y g:Int,0<g/\yc3 (-A) B=((x,y),0)/\x*g=A/\y*g = -B/\okR (x,y):=by
 obtain⟨a,ha⟩:∃a:Nat,(a:Int)=z2u (-A):=⟨(z2u (-A)).toNat,by unfold z2u;split <;> omega⟩;obtain⟨b,hb⟩:∃b:Nat,(b:Int)=z2u B:=⟨(z2u B).toNat,by unfold z2u;split <;> omega⟩;have a1:a<=2097152:=by unfold z2u at ha;split at ha <;> omega
 have b1:0<b/\b<=2097152:=by unfold z2u at hb;split at hb <;> omega
 have hG:0<Qu a b:=Qv _ b1.1;have da:=Nat.gcd_dvd_left a b;have db:=Nat.gcd_dvd_right a b;have ea:=Qx da;have eb:=Qx db;have cop:=Nat.gcd_div_gcd_div_gcd_of_pos_right (n:=a) (m:=b) b1.1;have la:a/Qu a b<=a:=Qy _ _;have lb:b/Qu a b<=b:=Qy _ _;have pb:0<b/Qu a b:=Nat.div_pos (Nat.le_of_dvd b1.1 db) hG;have hgc:y2e (-A) B=(Qu a b:Nat):=by unfold y2e;rw[← ha,← hb,Qp,Qp]
 have hm:yc3 (-A) B=zbg (!(decide (-A<0)==decide (B<0))) ((a/Qu a b:Nat):Int) ((b/Qu a b:Nat):Int):=by
  unfold yc3;rw[Zn (by omega),hgc,← ha,← hb];try rfl
 generalize Qu a b=G at *
 generalize a/G=N at *
 generalize b/G=D at *
 have eaz:(N:Int)*G=a:=by exact_mod_cast ea
 have ebz:(D:Int)*G=b:=by exact_mod_cast eb
 have hB:(b:Int) = -B:=by unfold z2u at hb;rw[Zp h4] at hb;omega
 rw[hm];unfold zbg;rw[Zn (by omega)];by_cases hA:0<A
 ·have e:(!(decide (-A<0)==decide (B<0)))=false:=by rw[Zu (by omega:-A<0),Zu h4];try rfl
  have hAa:(a:Int)=A:=by unfold z2u at ha;rw[Zp (by omega)] at ha;omega
  rw[e];exact⟨N,D,G,by omega,rfl,by rw[eaz];exact hAa,by rw[ebz];exact hB,⟨by show (1:Int)<=D;omega,by show (D:Int)<=_;omega,by show _<=(N:Int);omega,by show (N:Int)<=_;omega,by show Qu (N:Int).natAbs (D:Int).natAbs=1;simpa using cop⟩⟩
 ·have e:(!(decide (-A<0)==decide (B<0)))=true:=by rw[Zv (by omega:¬ -A<0),Zu h4];try rfl
  have hAa:(a:Int) = -A:=by unfold z2u at ha;rw[Zn (by omega)] at ha;omega
  rw[e];exact⟨0-N,D,G,by omega,rfl,by rw[Qq,eaz];omega,by rw[ebz];exact hB,⟨by show (1:Int)<=D;omega,by show (D:Int)<=_;omega,by show _<=(0-(N:Int));omega,by show (0-(N:Int))<=_;omega,by show Qu (0-(N:Int)).natAbs (D:Int).natAbs=1;rw[show (0-(N:Int)).natAbs=N by omega];simpa using cop⟩⟩
theorem zoc(hg:0<g)(hx:x*g=A)(hy:y*g = -B):(x*t.2<=t.1*y)↔A*t.2+B*t.1<=0:=by
 have e:(t.1*y-x*t.2)*g = -(A*t.2+B*t.1):=by
  have hB:B = -(y*g):=by omega
  rw[← hx,hB,Qq,Ql,Int.neg_mul];have h1:x*g*t.2=x*t.2*g:=by rw[Ql,Qt g,← Ql]
  have h2:y*g*t.1=t.1*(y*g):=Qt ..;omega
 constructor
 ·intro h;have:0<=(t.1*y-x*t.2)*g:=Qi (by omega) (by omega);omega
 ·intro h;have h0:0<=(t.1*y-x*t.2)*g:=by omega
  rcases Int.lt_or_le (t.1*y-x*t.2) 0 with hn|hn
  ·have:=Int.mul_neg_of_neg_of_pos hn hg;omega
  ·omega
def zod(g:Gp)(t:Int×Int):(Int×Int)×Int :=
 if yk6 g/\okR t then (if 0<=g.b\/g.a*t.2+g.b*t.1<=0 then ((0,0),6) else yc3 (-g.a) g.b) else ((0,0),8)
theorem z7p{g:Gp}(h:¬ (yk6 g/\okR t)):z7o g t=8:=by unfold z7o;rw[Zn h]
theorem zor:zoo x y<=0↔x<=y:=by
 unfold zoo;split
 ·simp;omega
 ·split
  ·simp;omega
  ·simp;omega
theorem y1w{g:Gp}(ht:zzn t):qF F.f29 #[gpV g,.agg #[vi t.1,vi t.2]] H (.tuple #[.agg #[vi (zod g t).1.1,vi (zod g t).1.2],vi (zod g t).2]):=by
  refine vc29 ⟨_,y1s ht,λhc=>?_,λhc=>?_⟩
  · have h:¬ (yk6 g/\okR t):=λx=>by rw[z7q x.1 x.2] at hc;simp at hc
    unfold zod;rw[Zn h,z7p h];exact⟨rfl,Qe _⟩
  · have ok:yk6 g/\okR t:=z7r.1 (by simpa using hc)
    obtain⟨o1,o2,o3,o4,o5,o6,o7,o8,o9⟩:=ok.1;unfold zod;rw[Zp ok];refine⟨λhb=>?_,λhb=>?_⟩
    · have hb:0<=g.b:=by simpa using hb
      rw[Zp (.inl hb)];exact⟨rfl,Qe _⟩
    · have hb:g.b<0:=by have:¬ 0<=g.b:=(by simpa using hb);omega
      obtain⟨x,y,q,hq,hm,hx,hy,okxy⟩:=yc5 o6 o7 o8 hb;have rm:=yum (H:=H) (n:=-g.a) (d:=g.b) (by unfold inI;omega) (by unfold inI;omega);rw[hm] at rm;rw[show 0-g.a = -g.a by omega];have hcl:=zoc (t:=t) hq hx hy;have rc:=yuj (H:=H) (a:=(x,y)) (b:=t) okxy.fit ht;have ec:cmpM (x,y) t=(zoo (x*t.2) (t.1*y),0):=by unfold cmpM;rw[Zp ⟨okxy,ok.2⟩];try rfl
      rw[ec] at rc;refine⟨by unfold inI;omega,_,_,_,rm,_,_,rc,λhh=>?_,λhh=>?_⟩
      · have hh:zoo (x*t.2) (t.1*y)<=0:=by simpa using hh
        rw[Zp (.inr (hcl.1 (zor.1 hh)))];exact⟨rfl,Qe _⟩
      · have hh:¬ zoo (x*t.2) (t.1*y)<=0:=by simpa using hh
        rw[Zn (by rintro(h|h);· omega
                  · exact hh (zor.2 (hcl.2 h))),hm]
        exact⟨rfl,Qe _⟩
theorem z3c{c:Int}(hx:0<=x)(hy:0<=y)(hc:0<=c)(hc':c<=1):OpQ Tryz.prog (callFunc F.f201 #[.int .u64 x,.int .u64 y,.int .u64 c]) H (.tuple #[.int .u64 ((x+y+c)%18446744073709551616),.int .u64 ((x+y+c)/18446744073709551616)]):=by
 intro w _;rw[run_callFunc_extern y12 (by kernel_rfl) (by kernel_rfl) (by kernel_rfl) (e:=add64Entry) (by kernel_rfl),run_add64 x y c hx hy hc hc'];simp only[Result.andThen]
theorem x66{b:Int}(hx:0<=x)(hy:0<=y)(hy':y<18446744073709551616)(hb:0<=b)(hb':b<=1):OpQ Tryz.prog (callFunc F.f202 #[.int .u64 x,.int .u64 y,.int .u64 b]) H (.tuple #[.int .u64 ((x-y-b)%18446744073709551616),.int .u64 (if x<y+b then 1 else 0)]):=by
 intro w _;obtain⟨x,rfl⟩:=Qm hx;obtain⟨y,rfl⟩:=Qm hy;obtain⟨b,rfl⟩:=Qm hb;rw[run_callFunc_extern y13 (by kernel_rfl) (by kernel_rfl) (by kernel_rfl) (e:=sub64Entry) (by kernel_rfl),run_sub64 x y b (by omega)];simp only[Result.andThen];have e1:(((x+18446744073709551616-y-b)%18446744073709551616:Nat):Int)=((x:Int)-y-b)%18446744073709551616:=by omega
 have e2:((if x<y+b then 1 else 0:Nat):Int)=if (x:Int)<(y:Int)+b then 1 else 0:=by
  by_cases h:x<y+b
  ·rw[Zp h,Zp (by omega)];try rfl
  ·rw[Zn h,Zn (by omega)];try rfl
 rw[e1,e2]
def yqu(c d:Bool)(N M:Int):Bool×Int:=if c=d then (c,N+M) else if N<M then (d,M-N) else (c,N-M)
theorem yuq{d:Bool}{M:Int}(hN:0<=N)(hN':N<170141183460469231731687303715884105728)(hM:0<=M)(hM':M<170141183460469231731687303715884105728) :
  qF F.f154 #[.agg #[.bool c,.int .u64 (N/18446744073709551616),.int .u64 (N%18446744073709551616)],.agg #[.bool d,.int .u64 (M/18446744073709551616),.int .u64 (M%18446744073709551616)]] H
   (.agg #[.bool (yqu c d N M).1,.int .u64 ((yqu c d N M).2/18446744073709551616),.int .u64 ((yqu c d N M).2%18446744073709551616)]):=by
 have n0:0<=N/18446744073709551616:=by omega
 have m0:0<=M/18446744073709551616:=by omega
 have n1:0<=N%18446744073709551616:=by omega
 have m1:0<=M%18446744073709551616:=by omega
 refine vc154 ⟨λh=>?_,λh=>?_⟩
 ·have h:c=d:=by simpa using h
  refine⟨_,_,z3c n1 m1 (by omega) (by omega),_,_,z3c n0 m0 (by omega) (by omega),?_,Qe _⟩;unfold yqu;rw[Zp h];have e1:(N/18446744073709551616+M/18446744073709551616+(N%18446744073709551616+M%18446744073709551616+0)/18446744073709551616)%18446744073709551616=(N+M)/18446744073709551616:=by omega
  have e2:(N%18446744073709551616+M%18446744073709551616+0)%18446744073709551616=(N+M)%18446744073709551616:=by omega
  rw[e1,e2]
 ·have h:¬ c=d:=by simpa using h
  refine⟨_,yuk hN hM,λhc=>?_,λhc=>?_⟩
  ·have hc:N<M:=zos.1 (by simpa using hc);refine⟨_,_,x66 m1 n1 (by omega) (by omega) (by omega),_,_,x66 m0 n0 (by omega) (by split <;> omega) (by split <;> omega),?_,Qe _⟩;unfold yqu;rw[Zn h,Zp hc];have e1:(M/18446744073709551616-N/18446744073709551616-(if M%18446744073709551616<N%18446744073709551616+0 then 1 else 0))%18446744073709551616=(M-N)/18446744073709551616:=by split <;> omega
   have e2:(M%18446744073709551616-N%18446744073709551616-0)%18446744073709551616=(M-N)%18446744073709551616:=by omega
   rw[e1,e2]
  ·have hc:¬ N<M:=λx=>by have:=zos.2 x;simp at hc;omega
   refine⟨_,_,x66 n1 m1 (by omega) (by omega) (by omega),_,_,x66 n0 m0 (by omega) (by split <;> omega) (by split <;> omega),?_,Qe _⟩;unfold yqu;rw[Zn h,Zn hc];have e1:(N/18446744073709551616-M/18446744073709551616-(if N%18446744073709551616<M%18446744073709551616+0 then 1 else 0))%18446744073709551616=(N-M)/18446744073709551616:=by split <;> omega
   have e2:(N%18446744073709551616-M%18446744073709551616-0)%18446744073709551616=(N-M)%18446744073709551616:=by omega
   rw[e1,e2]
theorem yup{h l:Int}(h0:0<=h)(h1:h<18446744073709551616)(l0:0<=l)(l1:l<18446744073709551616) :
  qF F.f155 #[.agg #[.bool c,.int .u64 h,.int .u64 l],.int .u64 1] H (.tuple #[.agg #[.bool c,.int .u64 h,.int .u64 l],.int .u64 0]):=by
 have e1:h.tmod 1=0:=by simp
 have e2:h.tdiv 1=h:=by simp
 have e3:l.tmod 1=0:=by simp
 have e4:l.tdiv 1=l:=by simp
 have hd:qF F.f203 #[.int .u64 0,.int .u64 l,.int .u64 1] H (.tuple #[.int .u64 l,.int .u64 0]):=by
  refine vc203 ⟨λx=>by simp at x,λ_=>⟨λx=>by simp at x,λ_=>⟨λ_=>⟨by unfold nz;omega,by unfold nz;omega,?_,Qe _⟩,λx=>by simp at x⟩⟩⟩;rw[e3,e4,xcn l0 l1]
 refine vc155 ⟨by unfold nz;omega,by unfold nz;omega,_,_,by rw[e1];exact hd,?_,Qe _⟩;rw[e2,xcn h0 h1]
def z3x(A:Int)(b:Int×Int):(Int×Int)×Int :=
 if okR b then (let p:=yqu (!(decide (A<0)==decide (b.2<0))) (!(decide (b.1<0)==decide ((1:Int)<0))) (z2u (A*b.2)) (z2u (b.1*1));zbg p.1 p.2 b.2) else ((0,0),8)
theorem okW(h1:-2097152<=A)(h2:A<=2097152):okR (A,1):=⟨by show (1:Int)<=1;omega,by show (1:Int)<=_;omega,by show _<=A;omega,by show A<=_;omega,by simp⟩
theorem yuf(h1:-2097152<=A)(h2:A<=2097152)(hb:zzn b) :
  qF F.f96 #[.agg #[vi A,vi 1],.agg #[vi b.1,vi b.2]] H (.tuple #[.agg #[vi (z3x A b).1.1,vi (z3x A b).1.2],vi (z3x A b).2]):=by
 have oa:=okW h1 h2;refine vc96 ⟨_,yug (a:=(A,1)) oa.fit hb,λhc=>?_,λhc=>?_⟩
 ·have h:¬ okR b:=λx=>by rw[Zp ⟨oa,x⟩] at hc;simp at hc
  unfold z3x;rw[Zn h,Zn λx=>h x.2];exact⟨rfl,Qe _⟩
 ·have ob:okR b:=by
   by_cases x:okR b
   ·exact x
   ·rw[Zn λy=>x y.2] at hc;simp at hc
  have d3:=ob.d1;have d4:=ob.d2;rw[xcn (n:=b.2) (by omega) (by omega),show xcl 1=1 from by decide];have hg:qF F.f108 #[.int .u64 1,.int .u64 b.2] H (.int .u64 1):=by
   have:=yul (H:=H) (a:=1) (b:=b.2) (by omega) (by omega);rw[show ((1:Int).toNat)=1 from rfl,Qw] at this;exact this
  have hg2:qF F.f108 #[.int .u64 1,.int .u64 0] H (.int .u64 1):=by
   have:=yul (H:=H) (a:=1) (b:=0) (by omega) (by omega);rw[show ((1:Int).toNat)=1 from rfl,Qw] at this;exact this
  refine⟨_,hg,?_⟩;rw[show IntKind.i64.wrap 1=1 from by decide,show b.2.tdiv 1=b.2 by simp,show (1:Int).tdiv 1=1 by simp,show xcl 1=1 from by decide];have small:∀{u v:Int},-2097152<=u->u<=2097152->inI v->z2u (u*v)<170141183460469231731687303715884105728/\0<=z2u (u*v):=λ{u v} q1 q2 hv=>by
   have hu:z2u u<=2097152:=by unfold z2u;split <;> omega
   have pu:0<=z2u u:=by unfold z2u;split <;> omega
   have hbb:=z2t hv;rw[← z2y];have:=Int.mul_le_mul hu hbb.2 hbb.1 (by omega);exact⟨by omega,Qi pu hbb.1⟩
  have s1:=small h1 h2 hb.2;have s2:=small (u:=1) (v:=b.1) (by omega) (by omega) hb.1;rw[Qr] at s2;have iA:inI A:=by unfold inI;omega
  have pl:=yuq (H:=H) (c:=!(decide (A<0)==decide (b.2<0))) (d:=!(decide (b.1<0)==decide ((1:Int)<0))) s1.2 s1.1 (M:=z2u (b.1*1)) (by rw[Qj];exact s2.2) (by rw[Qj];exact s2.1);have hp:0<=(yqu (!(decide (A<0)==decide (b.2<0))) (!(decide (b.1<0)==decide ((1:Int)<0))) (z2u (A*b.2)) (z2u (b.1*1))).2/\(yqu (!(decide (A<0)==decide (b.2<0))) (!(decide (b.1<0)==decide ((1:Int)<0))) (z2u (A*b.2)) (z2u (b.1*1))).2<340282366920938463463374607431768211456:=by
   rw[Qj];unfold yqu;split
   ·exact⟨by show 0<=_+_;omega,by show _+_<_;omega⟩
   ·split
    ·exact⟨by show 0<=_-_;omega,by show _-_<_;omega⟩
    ·exact⟨by show 0<=_-_;omega,by show _-_<_;omega⟩
  have es:z3x A b=zbg (yqu (!(decide (A<0)==decide (b.2<0))) (!(decide (b.1<0)==decide ((1:Int)<0))) (z2u (A*b.2)) (z2u (b.1*1))).1 (yqu (!(decide (A<0)==decide (b.2<0))) (!(decide (b.1<0)==decide ((1:Int)<0))) (z2u (A*b.2)) (z2u (b.1*1))).2 b.2:=by unfold z3x;rw[Zp ob]
  rw[es];generalize yqu (!(decide (A<0)==decide (b.2<0))) (!(decide (b.1<0)==decide ((1:Int)<0))) (z2u (A*b.2)) (z2u (b.1*1))=P at *
  have ov:=yup (H:=H) (c:=P.1) (h:=P.2/18446744073709551616) (l:=P.2%18446744073709551616) (by omega) (by omega) (by omega) (by omega);have mu:=yfp (H:=H) (x:=1) (y:=b.2) (by omega) (by omega) (by omega) (by omega);rw[Qr] at mu;refine⟨⟨by unfold nz;omega,by unfold inI;omega⟩,_,_,_,yus iA hb.2,⟨by unfold nz;omega,by unfold inI;omega⟩,_,_,_,yus hb.1 (by unfold inI;omega),_,_,_,pl,_,_,_,_,ov,_,hg2,_,_,_,_,ov,⟨by unfold nz;omega,by unfold inI;omega⟩,by unfold nz;omega,_,_,?_,_,_,_,yuh hp.1 (by omega),rfl,Qe _⟩;rw[show b.2.tdiv 1=b.2 by simp,xcn (n:=b.2) (by omega) (by omega)];exact mu
theorem z2w(v:Int):(v<0->z2u v = -v)/\(0<=v->z2u v=v):=by
 unfold z2u;constructor
 ·intro h;rw[Zp h]
 ·intro h;rw[Zn (by omega)]
theorem yqv{d:Bool}{v w:Int}(hc:v≠0->(c=true↔v<0))(hd:w≠0->(d=true↔w<0)) :
  (yqu c d (z2u v) (z2u w)).2=z2u (v+w)/\(v+w≠0->((yqu c d (z2u v) (z2u w)).1=true↔v+w<0)):=by
 have av:=z2w v;have aw:=z2w w;have avw:=z2w (v+w);unfold yqu;generalize z2u v=x at *
 generalize z2u w=y at *
 generalize z2u (v+w)=z at *
 cases c <;> cases d <;> simp only[Qc,false_iff,true_iff,if_true,if_false,reduceCtorEq] at hc hd ⊢
 ·exact⟨by omega,λh=>by omega⟩
 ·by_cases h:x<y
  ·rw[Zp h];exact⟨by show y-x=z;omega,λh=>by simp only[true_iff];omega⟩
  ·rw[Zn h];exact⟨by show x-y=z;omega,λh=>by simp only[Qc,false_iff];omega⟩
 ·by_cases h:x<y
  ·rw[Zp h];exact⟨by show y-x=z;omega,λh=>by simp only[Qc,false_iff];omega⟩
  ·rw[Zn h];exact⟨by show x-y=z;omega,λh=>by simp only[true_iff];omega⟩
 ·exact⟨by omega,λh=>by omega⟩
theorem zbi(hN:0<=N)(hD:0<=D):zzn (zbg c N D).1:=by
 unfold zbg;split
 ·exact⟨by show inI 0;unfold inI;omega,by show inI 0;unfold inI;omega⟩
 ·refine⟨?_,by show inI D;unfold inI;omega⟩;show inI (if c=true then 0-N else N);split <;> (unfold inI;omega)
theorem z31(v:Int):0<=z2u v:=by unfold z2u;split <;> omega
theorem yfs:zzn (yfr a b).1:=by
 unfold yfr;split
 ·rename_i h;have d1:=h.1.d1;have d2:=h.1.d2;have d3:=h.2.d1;have d4:=h.2.d2;have ga:=y16 (a:=a) h.2;have gb:=y16 (a:=b) h.1;exact zbi (z31 _) (Qi (Qg (by omega) (by omega)) (Qg (by omega) (by omega)))
 ·exact⟨by show inI 0;unfold inI;omega,by show inI 0;unfold inI;omega⟩
def atM(g:Gp)(t:Int×Int):(Int×Int)×Int :=
 if yk6 g/\okR t then (if (yfr (g.b,1) t).2=0 then z3x g.a (yfr (g.b,1) t).1 else ((0,0),(yfr (g.b,1) t).2)) else ((0,0),8)
theorem y1t{g:Gp}(ht:zzn t):qF F.f48 #[gpV g,.agg #[vi t.1,vi t.2]] H (.tuple #[.agg #[vi (atM g t).1.1,vi (atM g t).1.2],vi (atM g t).2]):=by
 refine vc48 ⟨_,y1s ht,λhc=>?_,λhc=>?_⟩
 ·have h:¬ (yk6 g/\okR t):=λx=>by rw[z7q x.1 x.2] at hc;simp at hc
  unfold atM;rw[Zn h,z7p h];exact⟨rfl,Qe _⟩
 ·have ok:yk6 g/\okR t:=z7r.1 (by simpa using hc);obtain⟨o1,o2,o3,o4,o5,o6,o7,o8,o9⟩:=ok.1;unfold atM;rw[Zp ok];refine⟨_,_,_,yun (a:=(g.b,1)) (okW o8 o9).fit ht,λhb=>?_,λhb=>?_⟩
  ·have hb:(yfr (g.b,1) t).2≠0:=by simpa using hb
   rw[Zn hb];exact⟨rfl,Qe _⟩
  ·have hb:(yfr (g.b,1) t).2=0:=by simpa using hb
   rw[Zp hb];exact⟨_,_,_,yuf o6 o7 yfs,rfl,Qe _⟩
