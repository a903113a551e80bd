/- The engine, parts TL, TM, put together. Conditions: none. -/
import Derived.Test.YtnhdkkblehadjaaGreatPPZ
import Derived.Test.YtnhdkkblehadjaaGreatPHB
import Derived.Test.YtnhdkkblehadjaaGreatPWA
open Go.Eng.Hp renaming le_trans->Qa,le_refl->Qb
open Int renaming ediv_le_self->Qc,toNat_natCast->Qd,ediv_nonneg->Qe
open Prod renaming ext->Qg
set_option linter.unusedVariables false
set_option maxHeartbeats 8000000
section
set_option maxRecDepth 100000
open Go Go.Eng Go.Proofs
namespace Go.Proofs.YtnhdkkblehadjaaGreat
variable{H:Hp}{f:List Pt}{a b:Int×Int}{u:Lu}{p:Pt}{w:Slc}
theorem x8k{x g m:Int}(h:z2u x<=m):z2u (x.tdiv g)<=m:=by
 rw[z30] at h ⊢;rw[Int.natAbs_tdiv];have:x.natAbs.div g.natAbs<=x.natAbs:=Nat.div_le_self x.natAbs g.natAbs;omega
theorem y1n{g:Gp}{t:Int×Int}(og:yk6 g)(a:z7z t):(atM g t).2=0:=by
 obtain⟨ot,a1,a2,a3⟩:=a;have d1:=ot.d1;obtain⟨_,_,_,_,_,ga,ga',gb,gb'⟩:=og;have ow:okR (g.b,1):=okW gb gb';have bd:∀{c:Bool}{N D:Int},N<=9223372036854775807->D<=9223372036854775807->(zbg c N D).2=0:=λh1 h2=>by unfold zbg;rw[Zn (by omega)]
 have hm:(yfr (g.b,1) t).2=0:=by
  unfold yfr;rw[Zp ⟨ow,ot⟩];have q:=z2z (x8k (g:=gA (g.b,1) t) (z2x (x:=g.b) (m:=2097152) gb gb')) (x8k (g:=gA t (g.b,1)) (z2x (x:=t.1) (m:=1073741824) a1 a2));have g1:=(y16 (a:=t) ow).1;have g2:=(y16 (a:=(g.b,1)) ot).1;refine bd (by dsimp only at q ⊢;omega) ?_;have q1:(1:Int)/gA t (g.b,1)<=1:=Qc _ (by omega);have q2:t.2/gA (g.b,1) t<=t.2:=Qc _ (by omega);have q3:0<=t.2/gA (g.b,1) t:=Qe (by omega) (by omega);have q4:0<=(1:Int)/gA t (g.b,1):=Qe (by omega) (by omega);have:=Int.mul_le_mul q1 q2 q3 (by omega);dsimp only at this ⊢;omega
 unfold atM;rw[Zp ⟨⟨by assumption,by assumption,by assumption,by assumption,by assumption,ga,ga',gb,gb'⟩,ot⟩,Zp hm,z3y ow ot hm];have s1:=z2z (z2x (x:=g.a) (m:=2097152) ga ga') (z2x (x:=t.2) (m:=1024) (by omega) a3);have s2:=z2z (z2x (x:=g.b) (m:=2097152) gb gb') (z2x (x:=t.1) (m:=1073741824) a1 a2);have s3:=z2v (g.a*t.2) (g.b*t.1);have g0:0<y2e (g.a*t.2+g.b*t.1) t.2:=y2f (by omega);have n1:z2u (g.a*t.2+g.b*t.1)/y2e (g.a*t.2+g.b*t.1) t.2<=z2u (g.a*t.2+g.b*t.1):=Qc _ (z33 _);have n2:t.2/y2e (g.a*t.2+g.b*t.1) t.2<=t.2:=Qc _ (by omega);exact bd (by omega) (by omega)
section
variable{l:Ls}{f:List Pt}{t:Int×Int}
theorem z07.gap(A:z07 l f t){i:Nat}(hi:i+1<f.length):atM (za1 l.ck.f (l.ord.getD i 0) (l.ord.getD (i+1) 0)) t=((y1j f t i (i+1)).1,0):=by
 have of:=A.of;rw[A.fe,A.ord,yzb (by omega),yzb hi];have m1:=yz7 (t:=t) (show i<f.length by omega);have m2:=yz7 (t:=t) hi;have og:=za3 of (yrb m1) (yrb m2) (yz8 of (Nat.lt_succ_self i) hi);have z:=y1n og A.a;obtain⟨k,k0,k1,k2,ox⟩:=z8i og A.a.1 z;refine Qg ?_ z;have e1:ypx (sP f t i) t=((spot f t i).1,0):=Qg rfl (A.told.T i (by omega));have e2:ypx (sP f t (i+1)) t=((spot f t (i+1)).1,0):=Qg rfl (A.told.T (i+1) hi);refine(x6f (yz9 of (by omega)) (yz9 of hi) A.a.1 e1 e2 (d:=(y1j f t i (i+1)).1) (Qg rfl (y1i of A.a (by omega) hi)) k0 ?_ k2 ox).1.symm;rw[k1];unfold za1 zxg;rw[yz4 of (by omega),yz4 of hi]
theorem y9t(A:z07 l f t)(r:RdL H u l)(hl:f.length<=16):qF F.f18 #[lsV u l] H (.bool true):=by
 have of:=A.of;have ol:(u.o.n:Int)=f.length:=by have:=r.o.len;rw[A.len] at this;omega
 have fl:=A.ok.fit;have eo:ofM l=(y1y l,0):=Zp A.ok;have gl:(y1y l).length=l.num.length:=y22 _ _;have nl:=A.ok.nl;rw[A.len] at nl;have q:=y24 r fl;rw[eo] at q;refine vc18 (q.mono λv H2 ⟨s,hv,l2,m⟩=>⟨s,0,hv,?_⟩);have rs:Rd 4 fGp H2 s (y1y l):=m.rd (λ_=>rfl);have sn:(s.n:Int)=(f.length-1:Nat):=by have:=rs.len;omega
 have r2:=r.le l2;have kz:=y86 r2 fl;rw[zlz A.ok] at kz;rw[ol];have rf:=r2.k.f;rw[A.fe] at rf;by_cases h2:f.length<2
 ·refine vc47 ⟨_,kz,λh=>by simp at h,λ_=>?_⟩;rw[A.now];have wn:(u.k.f.n:Int)=f.length:=by have:=rf.len;omega
  refine vc94 ⟨λ_=>⟨0,0,0,0,42,rfl,0,0,0,0,42,rfl,λ_=>⟨rfl,l2⟩,λh=>?_⟩,λh=>?_⟩
  ·simp at h;omega
  ·rw[wn] at h;have:=Zs h;omega
 refine vc47 ⟨_,kz,λh=>by simp at h,λ_=>?_⟩;rw[A.now];refine(zok rf of A.a hl (by omega)).mono λv H6 ⟨B,hv,l6,bs⟩=>⟨_,_,_,_,_,hv,_,_,_,_,_,rfl,λh=>?_,λ_=>?_⟩
 ·simp at h;omega
 obtain⟨i,k,hik,hk,rfl⟩:=bs.is;have oB:okR (y1j f t i k).1:=y1m of A.a (by omega) hk;have eB:(y1j f t i k).1=(y1j f t i (i+1)).1:=ykd oB (y1m of A.a (by omega) (by omega)) (bs.le i (by omega) (by omega)) (y1q of A.a hik hk);have bl:∀a,a+1<f.length->leR (y1j f t i k).1 (y1j f t a (a+1)).1:=λa h=>bs.le a (by omega) h
 have kB:=yws (H:=H6) oB.fit;rw[zm8 oB] at kB;refine⟨0,λ_=>kB,λh=>by simp at h,λ_=>⟨λc n H'=>∃j:Nat,n=j/\j<=f.length-1/\H'=H6/\(i<j->c=true),λ_ n _=>(s.n-n).toNat,⟨0,rfl,by omega,rfl,λh=>by omega⟩,?_⟩⟩;rintro c n H' ⟨j,rfl,hj,rfl,hc⟩;rw[sn];refine⟨λhn=>?_,λhn=>⟨by rw[hc (by have:=Zs hn;omega)],Qa l2 l6⟩⟩;have hn:j<f.length-1:=by have:=Zr hn;omega
 have ld:=Rd.gGp (rs.le l6) (i:=(j:Int)) (by omega) (by omega);have eg:(y1y l).getD (j:Int).toNat ⟨0,0,0,0⟩=za1 l.ck.f (l.ord.getD j 0) (l.ord.getD (j+1) 0):=by rw[Qd,List.getD_eq_getElem?_getD,y1z (by omega)];rfl
 rw[eg] at ld;have qa:=y1t (H:=H') (g:=za1 l.ck.f (l.ord.getD j 0) (l.ord.getD (j+1) 0)) A.a.1.fit;rw[A.gap (by omega)] at qa;have oj:okR (y1j f t j (j+1)).1:=y1m of A.a (by omega) (by omega);have kj:=yws (H:=H') oj.fit;rw[zm8 oj] at kj;have lj:=bl j (by omega);refine⟨ld.1,_,_,_,_,ld.2,_,_,_,qa,0,λ_=>kj,_,λ_=>yvs oj oB,λh=>?_,λ_=>⟨by unfold inI;omega,⟨j+1,by omega,by omega,rfl,λh=>?_⟩,by dsimp only;omega⟩⟩
 ·have:=zpb.2 lj;simp at h;exact absurd lj (zpe.1 h)
 ·rw[Bool.or_eq_true,Bool.and_eq_true,beq_iff_eq,beq_iff_eq];by_cases e:i<j
  ·exact .inl (hc e)
  ·have:i=j:=by omega
   subst this;exact .inr ⟨congrArg Prod.fst eB.symm,congrArg Prod.snd eB.symm⟩
theorem yzi{a b:Slc}{xs:List Int}(ha:RdI H a xs)(hb:RdI H b xs)(h63:xs.length<=1000000000):qF F.f16 #[a.v,b.v] H (.bool true):=by
 have q:=yzj ha hb h63;rwa [beq_self_eq_true] at q
theorem y8s(ok:yk9 l){k:Nat}(hk:k<l.ord.length):y8r l k=(l.ord.getD k 0,0):=by
 unfold y8r;rw[Zp ok,Zn (by omega),Zn (by omega),Qd]
theorem yt2(A:z07 l f t)(r:RdL H u l)(hl:f.length<=16)(op:okP p)(rm:z20 l.ck 10):qF F.f19 #[lsV u l,sI3 p.1 p.2.1 p.2.2] H (.bool true):=by
 have ok:=A.ok;have rf:=r.k.f;rw[A.fe] at rf;refine vc19 ⟨_,yvu (id:=p.1) rf (by omega),λ_=>⟨rfl,Qb _⟩,λhn=>?_⟩;have hn:yr5 f p.1<0:=by have:=Zs hn;omega
 have ew:xc1 l p=((rkI l p:Int),0):=Zp ⟨ok,op⟩;have qw:=ya1 (p:=p) r ok.fit;rw[ew] at qw;have em:ytc l p=yt7 l p:=Zp ⟨ok,op⟩;have qp:=y9w (p:=p) r ok.fit;rw[em] at qp;obtain⟨z,rm'⟩:=ytb ok op (by rw[A.fe];exact hn) (by rw[A.fe];omega) (rm.less (m:=8) (by omega));obtain⟨_,W⟩:=yta ok z;obtain⟨h1,h2,h3,h4⟩:=ytr ok z;have wok:=W.ok;generalize yt7 l p=x at qp z rm' wok h1 h2 h3 h4;refine⟨_,_,qw,qp.mono λv H5 ⟨y,hv,l5,ry⟩=>⟨_,_,y.k.f,_,y.k.cl,y.k.u1,y.k.u2,y.k.u3,y.k.u4,y.k.u5,y.k.d,y.o,y.n,_,hv,?_⟩⟩;have qk:=ypm (k:=rkI l p) ry wok.fit;rw[y8s wok h3,h2] at qk;have T:=x7w wok (id:=p.1) (by rw[h1];omega);obtain⟨z2,_⟩:=x7p T (k:=0) (rm'.less (by omega));have et:x7q x.1 p.1=x7n x.1 p.1:=by unfold x7q;rw[Zp wok,Zn (by rw[h1];omega)]
 have qt:=y9y (id:=p.1) ry wok.fit;rw[et] at qt;have e2:=(h4 _ (T.after z2)).1;generalize x7n x.1 p.1=y' at qt z2 e2;refine⟨_,_,qk,qt.mono λv H23 ⟨w,hv,l23,rw_⟩=>⟨_,_,w.k.f,_,w.k.cl,w.k.u1,w.k.u2,w.k.u3,w.k.u4,w.k.u5,w.k.d,w.o,w.n,_,hv,true,λ_=>?_,?_⟩⟩
 ·have ro:=rw_.o;rw[e2] at ro;exact yzi ro ((r.o.le l5).le l23) (by rw[A.len];omega)
 ·rw[z,z2];exact⟨by simp,Qa l5 l23⟩
end
def exD:List Pt:=[(1,0,2),(2,6,-1)]
def exE:Ls:=(zbd exD (0,1)).1
theorem zv8:yk9 exE:=zm0.1 (by kernel_rfl)
theorem zva:(x5l exE).2=(1,0):=by kernel_rfl
theorem zv7:y8r (x5l exE).1 0=(1,0):=by kernel_rfl
theorem zv9:yk9 (x5l exE).1:=zm0.1 (by kernel_rfl)
theorem z5s:qF F.f4 #[] H (.bool true):=by
 refine vc4 λb1 H2 hb1 hH2=>?_
 have rf:Rd 3 fD H2 ⟨some ⟨b1,0,none⟩,2,2⟩ exD:=yva (k:=3) (f:=fD) (λ_=>rfl) hH2 rfl rfl;have q:=y85 (t:=(0,1)) rf ⟨by unfold inI;decide,by unfold inI;decide⟩;rw[show zbd exD (0,1)=(exE,0) from Qg rfl (by kernel_rfl)] at q;refine q.mono λv H4 ⟨u,hv,l4,r⟩=>⟨_,_,u.k.f,_,u.k.cl,u.k.u1,u.k.u2,u.k.u3,u.k.u4,u.k.u5,u.k.d,u.o,u.n,_,hv,?_⟩
 have q2:=y89 r zv8.fit;have e2:=zva;have e3:=zv7;have e4:=zv9;generalize x5l exE=s at q2 e2 e3 e4;rw[e2] at q2;refine q2.mono λv H20 ⟨w,hv,l20,r2⟩=>⟨_,_,w.k.f,_,w.k.cl,w.k.u1,w.k.u2,w.k.u3,w.k.u4,w.k.u5,w.k.d,w.o,w.n,_,_,hv,?_⟩
 have q3:=ypm (k:=0) r2 e4.fit;rw[e3] at q3;exact⟨_,_,q3,rfl,Qa (Hp.le_new (Qb _) hb1 hH2) (Qa l4 l20)⟩
def x99(f:List Pt)(a b:Int×Int):Int:=if zlg f≠0 then zlg f else if okR a/\okR b then (if zp5 a b>0 then 2 else 0) else 8
theorem x9a:x99 f a b=0↔okF f/\okR a/\okR b/\leR a b:=by
 unfold x99;by_cases h1:zlg f=0
 ·rw[Zn (by simpa using h1)];have of:=zlh.1 h1;by_cases h2:okR a/\okR b
  ·rw[Zp h2];by_cases h3:zp5 a b>0
   ·rw[Zp h3];refine⟨λh=>by simp at h,λh=>?_⟩;have:=zpb.2 h.2.2.2;omega
   ·rw[Zn h3];exact⟨λ_=>⟨of,h2.1,h2.2,zpb.1 (by omega)⟩,λ_=>rfl⟩
  ·rw[Zn h2];exact⟨λh=>by simp at h,λh=>absurd ⟨h.2.1,h.2.2.1⟩ h2⟩
 ·rw[Zp h1];exact⟨λh=>absurd h h1,λh=>absurd (zlh.2 h.1) h1⟩
theorem yww(hf:Rd 3 fD H w f)(ha:zzn a)(hb:zzn b):qF F.f5 #[vFd w,raW a,raW b] H (vi (x99 f a b)):=by
 refine vc5 ⟨_,yvv hf,λh=>⟨?_,Qb _⟩,λh=>⟨_,yvo ha hb,λh2=>?_,λh2=>?_⟩⟩
 ·have h:zlg f≠0:=bne_iff_ne.1 h;unfold x99;rw[Zp h]
 ·have h:zlg f=0:=bne_eq_false_iff_eq.1 h;by_cases ok:okR a/\okR b
  ·rw[Zp ok] at h2;simp at h2
  ·rw[Zn ok];refine⟨?_,Qb _⟩;unfold x99;rw[Zn (by simpa using h),Zn ok]
 ·have h:zlg f=0:=bne_eq_false_iff_eq.1 h;by_cases ok:okR a/\okR b
  ·refine⟨_,yvs ok.1 ok.2,λh3=>⟨?_,Qb _⟩,λh3=>⟨?_,Qb _⟩⟩
   ·unfold x99;rw[Zn (by simpa using h),Zp ok,Zp (Zr h3)]
   ·unfold x99;rw[Zn (by simpa using h),Zp ok,Zn (Zs h3)]
  ·rw[Zn ok] at h2;simp at h2
theorem yve{u:Slc}{L:List Pr}(r:Rd 4 fM H u L):Rd 4 fG H u (L.map mgP):=by
 refine⟨by rw[List.length_map];exact r.len,r.cap,λh=>r.isS λe=>h (by rw[e];rfl),λi x hx j v hv=>?_⟩;rw[List.getElem?_map] at hx;cases e:L[i]? with
 | none=>rw[e] at hx;cases hx
 | some y=>rw[e] at hx;cases hx;exact r.cell i y e j v hv
theorem x9r(hf:Rd 3 fD H w f)(ha:zzn a)(hb:zzn b) :
  qF F.f3 #[vFd w,raW a,raW b,sI3 p.1 p.2.1 p.2.2] H (.bool true):=by
 have wn:(w.n:Int)=f.length:=by have:=hf.len;omega
 refine vc3 ?_;rw[wn];refine⟨true,z5s,x99 f a b,λ_=>yww hf ha hb,z7s a,λ_=>yvn ha,z7s b,λ_=>yvn hb,zm1 p,λ_=>ywi,λ_=>⟨rfl,Qb _⟩,λhc=>?_⟩;simp only[Bool.or_eq_false_iff,bne_eq_false_iff_eq,Zt] at hc;obtain⟨⟨⟨⟨⟨c1,c3⟩,c4⟩,c5⟩,c6⟩,_⟩:=hc;obtain⟨of,oa,ob,hab⟩:=x9a.1 c3;have aa:z7z a:=z7t.1 c4;have ab:z7z b:=z7t.1 c5;have op:=zm5.1 c6;have few:f.length<=16:=by omega
 have B:=zbo (x8v.2 ⟨of,oa⟩);have bz:=B.z;have bok:=B.ok;have bfe:=B.fe;have bnow:=B.now;have bord:=B.ord;have broom:=B.room;refine(y85 hf ha).mono λv H7 ⟨u,hv,l7,r7⟩=>?_
 generalize (zbd f a).2=e at hv bz;generalize (zbd f a).1=l at hv r7 bok bfe bnow bord broom;subst bz;have fl:=bok.fit;have lno:(u.n.n:Int)=l.num.length:=by have:=r7.n.len;omega
 refine⟨_,_,u.k.f,_,u.k.cl,u.k.u1,u.k.u2,u.k.u3,u.k.u4,u.k.u5,u.k.d,u.o,u.n,0,hv,_,_,_,_,y1x r7 fl,_,_,_,y7o r7 fl,?_⟩;rw[lno];have nxt:((0:Int) != 0||!((zyw l).2.2==0)==((y7p l).2==0)||(zyw l).2.2==0&&(!((zyw l).2.1.1==(y7p l).1.1&&(zyw l).2.1.2==(y7p l).1.2)||decide ((zyw l).1<0)||decide ((zyw l).1>=(l.num.length:Int))))=false:=by
  obtain⟨f1,f2⟩:=zyx bok;obtain⟨q1,_,_,_⟩:=z9v l.ck.now _ (y1y l) rfl;have gl:(y1y l).length=l.num.length:=y22 _ _;unfold zyw;rw[Zp bok];by_cases h:(z9u l.ck.now (y1y l)).1<0
  ·rw[Zp h,f1 h];rfl
  ·rw[Zn h,f2 (by omega)];simp;omega
 refine⟨λh=>absurd h (by rw[nxt];simp),λ_=>?_⟩;have hu:xaf l.ck b=0:=xai.2 ⟨bok.ck,ob,by rw[bnow];exact hab⟩;have A:=z4n (k:=10) bok hu (broom.less (by omega));have sw:=x7f bok hu;rw[bfe,bnow] at sw;have an:=A.n;have az:=A.z;have aok:=A.ok;have anow:=A.now;have af:=A.f;have aord:=A.ord;have aroom:=A.room;rw[bfe] at af aord;rw[sw] at an;have eL:ybh l b=((z49 l b).1,za4 l.ck.f l.ck.now b,0):=Zp az;refine(y84 r7 fl hb).mono λv H30 ⟨x,hv,l30,r30⟩=>?_
 have qL:=zqq (r7.le l30) fl hb;rw[eL,bfe,bnow] at qL;clear eL;generalize (z49 l b).2.2=e2 at hv az;generalize (z49 l b).2.1=e1 at hv an;generalize (z49 l b).1=m at hv r30 aok anow af aord aroom qL;subst az;subst an;have M:z07 m f b:=⟨aok,af,anow,ab⟩;refine⟨_,_,x.k.f,_,x.k.cl,x.k.u1,x.k.u2,x.k.u3,x.k.u4,x.k.u5,x.k.d,x.o,x.n,(za4 f a b).length,0,hv,?_⟩;refine qL.mono λv H47 ⟨y,s,hv,l47,r47,rs⟩=>⟨_,_,y.k.f,_,y.k.cl,y.k.u1,y.k.u2,y.k.u3,y.k.u4,y.k.u5,y.k.d,y.o,y.n,s,0,hv,?_⟩
 have rs:Rd 4 fM H47 s (za4 f a b):=rs;have sn:(s.n:Int)=(za4 f a b).length:=by have:=rs.len;omega
 have ro:=(r7.o.le l30).le l47;rw[bord] at ro;have qP:=zqr ro (yve rs) (λx hx=>((ybf of a b).good x hx).1.fit);rw[show (za4 f a b).map mgP=ybe f a b from rfl,yqs of oa ob hab] at qP;refine qP.mono λv H64 ⟨z,hv,l64,mz⟩=>⟨z,0,hv,?_⟩
 have l3064:=Qa l47 l64;have l064:=Qa l7 (Qa l30 l3064);have mfl:=aok.fit;have r64:=r30.le l3064;have kc:=yw2 r64 mfl;rw[zlz aok] at kc;have xo:=r64.o;rw[aord] at xo;have xn:(x.o.n:Int)=f.length:=by have:=xo.len;rw[ylo] at this;omega
 rw[sn];refine⟨true,λ_=>yw3 (r47.le l64) r64 mfl,0,λ_=>kc,true,λ_=>yzi mz.rdI xo (by rw[ylo];omega),λh=>by simp at h,λ_=>?_⟩;refine⟨λn H'=>∃k:Nat,n=k/\k<=f.length/\H'=H64,λn _=>(f.length-n).toNat,⟨0,rfl,by omega,rfl⟩,?_⟩;rintro n H' ⟨k,rfl,hk,rfl⟩;rw[xn];refine⟨λhn=>?_,λhn=>⟨true,λ_=>y9t M r64 few,true,λ_=>yt2 M r64 few op aroom,rfl,l064⟩⟩;have hn:k<f.length:=by have:=Zr hn;omega
 have qk:=ypm (k:=(k:Int)) r64 mfl;rw[y8s aok (by rw[M.len];exact hn)] at qk;have g:=RdI.get (i:=(k:Int)) r64.o (by omega) (by rw[M.len];omega);rw[Qd] at g;exact⟨_,_,qk,λ_=>r64.o.inS (by omega) (by rw[M.len];omega),_,λ_=>g,λh=>by simp at h,λ_=>⟨by unfold inI;omega,⟨k+1,by omega,by omega,rfl⟩,by dsimp only;omega⟩⟩
