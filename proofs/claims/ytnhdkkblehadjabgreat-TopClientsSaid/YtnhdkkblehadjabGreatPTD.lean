/- The engine, parts TD, TE, put together. Conditions: none. -/
import Derived.Test.YtnhdkkblehadjabGreatPTC
import Derived.Test.YtnhdkkblehadjabGreatPN2
import Derived.Test.YtnhdkkblehadjabGreatPS1
import Derived.Test.YtnhdkkblehadjabGreatPF1
import Derived.Test.YtnhdkkblehadjabGreatVgY
import Derived.Test.YtnhdkkblehadjabGreatVgZ
import Derived.Test.YtnhdkkblehadjabGreatFs
set_option linter.unusedVariables false
section
/- The law TopClients: its parts. Conditions: none. -/
set_option maxRecDepth 100000
open Go Go.Eng Go.Proofs
namespace Go.Proofs.YtnhdkkblehadjabGreat

/-! ### The greatest gap is one -/
theorem y1k:∀{L:List (Int×Int)},(∀x∈L,okR x)->∃d,z0t L d
 | [],_=>⟨(0,1),.inl ⟨rfl,rfl⟩⟩
 | x :: L,ok=>by
  obtain⟨d,h⟩:=y1k (L:=L) λy hy=>ok y (List.mem_cons_of_mem _ hy)
  rcases h with⟨h1,_⟩|⟨h1,h2⟩
  ·subst h1
   exact⟨x,.inr ⟨List.mem_cons_self,λy hy=>by rw[List.mem_singleton.1 hy];exact y6t _⟩⟩
  ·have od:=ok d (List.mem_cons_of_mem _ h1)
   have ox:=ok x List.mem_cons_self
   rcases y6u x d with h|h
   ·exact⟨d,.inr ⟨List.mem_cons_of_mem _ h1,λy hy=>by
     rcases List.mem_cons.1 hy with rfl|hy
     ·exact h
     ·exact h2 y hy⟩⟩
   ·exact⟨x,.inr ⟨List.mem_cons_self,λy hy=>by
     rcases List.mem_cons.1 hy with rfl|hy
     ·exact y6t _
     ·exact y6v (ok y (List.mem_cons_of_mem _ hy)) od ox (h2 y hy) h⟩⟩
theorem y1l{L:List (Int×Int)}(ok:∀x∈L,okR x){d e:Int×Int}(hd:z0t L d)(he:z0t L e):d=e:=by
 rcases hd with⟨h1,h2⟩|⟨h1,h2⟩ <;> rcases he with⟨k1,k2⟩|⟨k1,k2⟩
 ·rw[h2,k2]
 ·rw[h1] at k1;cases k1
 ·rw[k1] at h1;cases h1
 ·exact yha (ok d h1) (ok e k1) (k2 d h1) (h2 e k1)
theorem y1e{H:Hp}{w:Slc}{f:List Pt}{t d:Int×Int}(hf:Rd 3 fD H w f)(of:okF f)(a:z85 t)(hd:z0t (y17 f t (f.length-1)) d):Qf Tryz.prog F.f33 #[vFd w,raW t,.int .i64 1] H (.tuple #[raW d,.int .i64 0]) :=
 (y1d hf of a).mono λv H' ⟨e,hv,l,g⟩=>⟨by rw[hv,y1l (λx hx=>(y18 of a x hx).1) hd g],l⟩
theorem y1b{H:Hp}{w:Slc}{f:List Pt}{t:Int×Int}(hf:Rd 3 fD H w f)(of:okF f)(a:z85 t) :
  Go.Eng.Fn Tryz.prog F.f17 #[vFd w,raW t] H λv H'=>∃g:Slc,v=.tuple #[g.v,.int .i64 0]/\Hp.le H H'/\Rd 2 fH H' g (y17 f t (f.length-1)) :=
 vc17 ((y1a hf of a).mono λv H2 ⟨u,g,hv,l2,_,mg⟩=>⟨u,g,0,hv,g,rfl,l2,mg.rdH⟩)

/-! ### z5r -/
def exC:List Pt:=[(1,0,2),(2,6,-1)]
theorem zst:okF exC:=zke.1 (by kernel_rfl)
theorem z7h:z85 (1,1):=by decide
theorem zss:(zz9 exC (1,1) 0 1).1=(3,1):=by kernel_rfl
theorem z5r{H:Hp}:Qf Tryz.prog F.f4 #[] H (.bool true):=by
 refine vc4 λb1 H2 hb1 hH2=>?_
 have l2:Hp.le H H2:=Hp.le_new (Hp.le_refl _) hb1 hH2
 have rf:Rd 3 fD H2 ⟨some ⟨b1,0,none⟩,2,2⟩ exC:=yrl (k:=3) (f:=fD) (λ_=>rfl) hH2 rfl rfl
 have q1:=x0a rf zst z7h (by decide)
 rw[show exC.length-1=1 from rfl,zss] at q1
 have q2:=y1b rf zst z7h
 refine⟨3,1,0,q1,q2.mono λv H7 ⟨g,hv,l7,rg⟩=>⟨g,0,hv,?_⟩⟩
 have e:y17 exC (1,1) (exC.length-1)=[(3,1)]:=by rw[← zss];rfl
 rw[e] at rg
 have gn:(g.n:Int)=1:=by have:=rg.len;simp at this;omega
 have g0:=rg.gH (i:=0) (by omega) (by simp)
 refine⟨λ_=>rg.inS (by omega) (by simp),3,1,λ_=>g0,?_,Hp.le_trans l2 l7⟩
 rw[gn];rfl

/-! ### The hull of all points -/
set_option maxHeartbeats 1000000 in
theorem y34{H:Hp}{w:Slc}{u:Lu}{l:Ls}{f:List Pt}{t:Int×Int}(A:z08 l f t)(hf:Rd 3 fD H w f)(r:RdL H u l)(h0:0<f.length) :
  Qf Tryz.prog F.f9 #[vFd w,lsV u l,raW t] H (.bool true):=by
 have of:=A.of
 have wn:(w.n:Int)=f.length:=by have:=hf.len;omega
 have fl:=A.ok.fit
 have q1:=x0n r fl r.o
 rw[A.hull h0] at q1
 have q2:=x0a hf of A.a h0
 have o0:=A.spots h0
 have o1:=A.spots (k:=f.length-1) (by omega)
 have q3:=yrw (H:=H) o1.fit o0.fit
 rw[if_pos ⟨o1,o0⟩] at q3
 have q4:=ysm (H:=H) o0 o1
 have e4:(x27 (spot f t 0).1 (spot f t (f.length-1)).1).2=0:=z89 (yuw of h0) (yuw of (by omega)) A.a
 rw[e4] at q4
 obtain⟨c1,c2⟩:=A.count h0
 have q5:=x0m r fl o1.fit o0.fit
 rw[c2,y3u c1] at q5
 have q6:=x0f hf of A.a.1 h0
 have ro:RdI H u.o (yis f t):=by rw[← A.ord];exact r.o
 have on:(u.o.n:Int)=f.length:=by have:=ro.len;rw[yiv] at this;omega
 have g0:=RdI.get (i:=0) ro (by omega) (by rw[yiv];omega)
 have g1:=RdI.get (i:=(f.length:Int)-1) ro (by omega) (by rw[yiv];omega)
 rw[show (0:Int).toNat=0 from rfl,yuy h0] at g0
 rw[show ((f.length:Int)-1).toNat=f.length-1 by omega,yuy (by omega)] at g1
 have l64:=of.len
 refine vc9 ⟨_,_,_,_,0,q1,_,_,0,q2,0,λ_=>q3,λh=>by simp at h,λ_=>⟨_,_,0,q4,_,0,q5,_,_,0,q6,λ_=>ro.inS (by omega) (by rw[yiv];omega),_,λ_=>g0,λ_=>by unfold inI;omega,λ_=>ro.inS (by omega) (by rw[yiv];omega),_,λ_=>g1,?_,Hp.le_refl _⟩⟩
 rw[wn,on]
 simp[zz9]
/-! ### The greatest gap,again -/
set_option maxHeartbeats 1000000 in
theorem y1t{H:Hp}{w:Slc}{f:List Pt}{t:Int×Int}(hf:Rd 3 fD H w f)(of:okF f)(a:z85 t)(h0:0<f.length):Qf Tryz.prog F.f10 #[vFd w,raW t] H (.bool true):=by
 have gok:=y18 of a
 obtain⟨d,hd⟩:=y1k λx hx=>(gok x hx).1
 have od:okR d/\0<=d.1:=by
  rcases hd with⟨_,rfl⟩|⟨h,_⟩
  ·exact⟨⟨by decide,by decide,by decide,by decide,by decide⟩,by decide⟩
  ·exact gok d h
 have hle:∀x∈y17 f t (f.length-1),leR x d:=λx hx=>by
  rcases hd with⟨h,_⟩|⟨_,h⟩
  ·rw[h] at hx;cases hx
  ·exact h x hx
 have l64:=of.len
 refine vc10 ⟨_,_,_,y1e hf of a hd,(y1f hf of a od.1 od.2 hle h0).mono λv H5 ⟨o,s,hv,l5,ro,rs⟩=>⟨o,0,hv,?_⟩⟩
 have q:=zvl (hf.le l5) a.1.fit
 rw[yja of a.1] at q
 refine q.mono λv H9 ⟨x,hv,l9,mx⟩=>⟨x,0,hv,(y1b ((hf.le l5).le l9) of a).mono λv H13 ⟨g,hv,l13,rg⟩=>⟨g,0,hv,?_⟩⟩
 have mx:RdI H9 x (yis f t):=mx.rdI
 have l513:=Hp.le_trans l9 l13
 have on:(o.n:Int)=1:=by have:=ro.len;simp at this;omega
 have ll:(y17 f t (f.length-1)).length=f.length-1:=yqg
 have gn:(g.n:Int)=(y17 f t (f.length-1)).length:=by have:=rg.len;omega
 have s0:=yv7 (rs.le l513) (mx.le l13) (by rw[yiv];omega)
 rw[beq_self_eq_true] at s0
 have ck:=ysj (H:=H13) od.1.fit
 rw[zl4 od.1] at ck
 have lA:=Hp.le_trans l5 l513
 rw[on,gn]
 refine⟨λ_=>(ro.le l513).inS (by omega) (by simp),s,λ_=>(ro.le l513).at0 (by omega) (x:=s) rfl rfl,true,λ_=>s0,0,λ_=>ck,λh=>by simp at h,λ_=>?_⟩
 refine⟨λc n H'=>∃k:Nat,n=k/\k<=(y17 f t (f.length-1)).length/\H'=H13/\(c=true↔d.1=0\/d∈(y17 f t (f.length-1)).take k),λ_ n _=>(((y17 f t (f.length-1)).length:Int)-n).toNat,⟨0,rfl,by omega,rfl,by simp⟩,?_⟩
 rintro c n H23 ⟨k,rfl,hk,rfl,hc⟩
 refine⟨λhn=>?_,λhn=>?_⟩
 ·have hn:k<(y17 f t (f.length-1)).length:=by have:=of_decide_eq_true hn;omega
  have gk:(y17 f t (f.length-1))[k]?=some ((y17 f t (f.length-1)).getD k (0,0)):=by rw[List.getD_eq_getElem?_getD,List.getElem?_eq_getElem hn];rfl
  have mem:=List.mem_of_getElem? gk
  have g1:=rg.gH (i:=(k:Int)) (by omega) (by omega)
  rw[Int.toNat_natCast] at g1
  have ins:=rg.inS (i:=(k:Int)) (by omega) (by omega)
  have tk:(y17 f t (f.length-1)).take (k+1)=(y17 f t (f.length-1)).take k++[(y17 f t (f.length-1)).getD k (0,0)]:=by rw[List.take_add_one,gk];rfl
  have ms:(((y17 f t (f.length-1)).length:Int)-((k:Int)+1)).toNat<(((y17 f t (f.length-1)).length:Int)-(k:Int)).toNat:=by omega
  have ox:=(gok _ mem).1
  have lx:=hle _ mem
  generalize (y17 f t (f.length-1)).getD k (0,0)=x at g1 mem tk ox lx
  have qx:=ysj (H:=H23) ox.fit
  rw[zl4 ox] at qx
  refine⟨ins,_,_,g1,0,qx,λ_=>ins,_,_,λ_=>g1,_,λ_=>yry ox od.1,λh=>?_,λ_=>⟨λ_=>ins,_,_,λ_=>g1,by unfold inI;omega,⟨k+1,by omega,by omega,rfl,?_⟩,ms⟩⟩
  ·have:=zns.2 lx
   simp only[Bool.or_eq_true,decide_eq_true_eq] at h
   rcases h with h|h
   ·simp at h
   ·omega
  ·rw[tk,List.mem_append,List.mem_singleton,Bool.or_eq_true,hc,Bool.and_eq_true,beq_iff_eq,beq_iff_eq]
   constructor
   ·rintro((h|h)|⟨h1,h2⟩)
    ·exact .inl h
    ·exact .inr (.inl h)
    ·exact .inr (.inr (Prod.ext h1 h2).symm)
   ·rintro(h|h|h)
    ·exact .inl (.inl h)
    ·exact .inl (.inr h)
    ·exact .inr ⟨by rw[h],by rw[h]⟩
 ·have hn:k=(y17 f t (f.length-1)).length:=by have:=of_decide_eq_false hn;omega
  subst hn
  rw[List.take_length] at hc
  have:c=true:=hc.2 (by
   rcases hd with⟨_,rfl⟩|⟨h,_⟩
   ·exact .inl rfl
   ·exact .inr h)
  rw[this]
  exact⟨rfl,lA⟩

def x5c(f:List Pt)(a b:Int×Int):Int:=if zkd f≠0 then zkd f else if okR a/\okR b then (if znm a b>0 then 2 else 0) else 8
theorem x5d{f:List Pt}{a b:Int×Int}:x5c f a b=0↔okF f/\okR a/\okR b/\leR a b:=by
 unfold x5c
 by_cases h1:zkd f=0
 ·rw[if_neg (by simpa using h1)]
  have of:=zke.1 h1
  by_cases h2:okR a/\okR b
  ·rw[if_pos h2]
   by_cases h3:znm a b>0
   ·rw[if_pos h3]
    refine⟨λh=>by simp at h,λh=>?_⟩
    have:=zns.2 h.2.2.2
    omega
   ·rw[if_neg h3]
    exact⟨λ_=>⟨of,h2.1,h2.2,zns.1 (by omega)⟩,λ_=>rfl⟩
  ·rw[if_neg h2]
   exact⟨λh=>by simp at h,λh=>absurd ⟨h.2.1,h.2.2.1⟩ h2⟩
 ·rw[if_pos h1]
  exact⟨λh=>absurd h h1,λh=>absurd (zke.2 h.1) h1⟩
theorem ysn{H:Hp}{w:Slc}{f:List Pt}{a b:Int×Int}(hf:Rd 3 fD H w f)(ha:zxh a)(hb:zxh b):Qf Tryz.prog F.f5 #[vFd w,raW a,raW b] H (.int .i64 (x5c f a b)):=by
 refine vc5 ⟨_,ys1 hf,λh=>⟨?_,Hp.le_refl _⟩,λh=>⟨_,yrw ha hb,λh2=>?_,λh2=>?_⟩⟩
 ·have h:zkd f≠0:=bne_iff_ne.1 h
  unfold x5c;rw[if_pos h]
 ·have h:zkd f=0:=bne_eq_false_iff_eq.1 h
  by_cases ok:okR a/\okR b
  ·rw[if_pos ok] at h2;simp at h2
  ·rw[if_neg ok]
   refine⟨?_,Hp.le_refl _⟩
   unfold x5c;rw[if_neg (by simpa using h),if_neg ok]
 ·have h:zkd f=0:=bne_eq_false_iff_eq.1 h
  by_cases ok:okR a/\okR b
  ·refine⟨_,yry ok.1 ok.2,λh3=>⟨?_,Hp.le_refl _⟩,λh3=>⟨?_,Hp.le_refl _⟩⟩
   ·unfold x5c;rw[if_neg (by simpa using h),if_pos ok,if_pos (of_decide_eq_true h3)]
   ·unfold x5c;rw[if_neg (by simpa using h),if_pos ok,if_neg (of_decide_eq_false h3)]
  ·rw[if_neg ok] at h2;simp at h2
theorem yv6{H:Hp}{a b:Slc}{xs:List Int}(ha:RdI H a xs)(hb:RdI H b xs)(h63:xs.length<=1000000000):Qf Tryz.prog F.f15 #[a.v,b.v] H (.bool true):=by
 have q:=yv7 ha hb h63
 rwa [beq_self_eq_true] at q
set_option maxHeartbeats 8000000 in
theorem x5s{H:Hp}{w:Slc}{f:List Pt}{a b:Int×Int}(hf:Rd 3 fD H w f)(ha:zxh a)(hb:zxh b) :
  Qf Tryz.prog F.f3 #[vFd w,raW a,raW b] H (.bool true):=by
 have wn:(w.n:Int)=f.length:=by have:=hf.len;omega
 refine vc3 ?_
 rw[wn]
 refine⟨true,z5r,x5c f a b,λ_=>ysn hf ha hb,z7v a,λ_=>yrv ha,z7v b,λ_=>yrv hb,λ_=>⟨rfl,Hp.le_refl _⟩,λhc=>?_⟩
 simp only[Bool.or_eq_false_iff,bne_eq_false_iff_eq,decide_eq_false_iff_not,Bool.and_eq_false_imp,beq_iff_eq,beq_eq_false_iff_ne] at hc
 obtain⟨⟨⟨⟨⟨⟨c1,c2⟩,c3⟩,c4⟩,c5⟩,c6⟩,_⟩:=hc
 obtain⟨of,oa,ob,hab⟩:=x5d.1 c3
 have aa:z85 a:=z7w.1 c4
 have ab:z85 b:=z7w.1 c5
 have few:f.length<=12:=by omega
 have h0:0<f.length:=by omega
 have R:z24 f a b:=⟨of,few,aa,ab,λh=>by
  have e:=yha oa ob hab h
  exact c6 (congrArg Prod.fst e) (congrArg Prod.snd e)⟩
 have B:=zc1 (x4y.2 ⟨of,oa⟩)
 have bz:=B.z;have bok:=B.ok;have bfe:=B.fe;have bnow:=B.now;have bord:=B.ord;have broom:=B.room
 refine(y5u hf ha).mono λv H6 ⟨u,hv,l6,r6⟩=>?_
 generalize (zbq f a).2=e at hv bz
 generalize (zbq f a).1=l at hv r6 bok bfe bnow bord broom
 subst bz
 have hu:x6i l.ck b=0:=x6l.2 ⟨bok.ck,ob,by rw[bnow];exact hab⟩
 have A:=z4p (k:=0) bok hu (broom.less (by omega))
 have sw:=x3f bok hu
 rw[bfe,bnow] at sw
 have an:=A.n;have az:=A.z;have aok:=A.ok;have anow:=A.now;have af:=A.f;have aord:=A.ord
 rw[bfe] at af aord
 rw[sw] at an
 refine⟨_,_,u.k.f,_,u.k.cl,u.k.u1,u.k.u2,u.k.u3,u.k.u4,u.k.u5,u.k.d,u.o,u.n,0,hv,?_⟩
 refine(y5t r6 bok.fit hb).mono λv H22 ⟨x,hv,l22,r22⟩=>?_
 generalize (z4b l b).2.2=e2 at hv az
 generalize (z4b l b).2.1=e1 at hv an
 generalize (z4b l b).1=m at hv r22 aok anow af aord
 subst az;subst an
 have L1:z08 l f a:=⟨bok,bfe,bnow,aa⟩
 have L2:z08 m f b:=⟨aok,af,anow,ab⟩
 have l022:=Hp.le_trans l6 l22
 have f22:=hf.le l022
 have few1:((zae f a b).length:Int)<=1000000:=by
  have:=x3e bok b
  rw[sw] at this;omega
 refine⟨_,_,x.k.f,_,x.k.cl,x.k.u1,x.k.u2,x.k.u3,x.k.u4,x.k.u5,x.k.d,x.o,x.n,(zae f a b).length,0,hv,true,λ_=>y34 L1 f22 (r6.le l22) h0,true,λ_=>y34 L2 f22 r22 h0,true,λ_=>y1t f22 of aa h0,λh=>by simp at h,λ_=>⟨_,0,y9x f22 of oa ob hab,?_⟩⟩
 refine⟨λn45 n46 n H48=>∃k:Nat,n=k/\k<=f.length/\Hp.le H22 H48/\n45=x2e (ctR a b) (f.take k) f/\n46=x2e (wsR a b) (f.take k) f,λ_ _ n _=>((f.length:Int)-n).toNat,⟨0,rfl,by omega,Hp.le_refl _,rfl,rfl⟩,?_⟩
 rintro n45 n46 n H48 ⟨k,rfl,hk,l48,rfl,rfl⟩
 have f48:=f22.le l48
 have sml:∀R:Pt->Pt->Bool,x2e R (f.take k) f<=144:=λR=>by
  have:∀g:List Pt,x2e R g f<=g.length*12:=λg=>by
   induction g with
   | nil=>exact Nat.le_refl _
   | cons p g ih =>
    have:=List.countP_le_length (p:=R p) (l:=f)
    unfold x2e at ih ⊢
    rw[List.map_cons,List.sum_cons,List.length_cons]
    omega
  have h:=this (f.take k)
  rw[List.length_take] at h;omega
 have s1:=sml (ctR a b)
 have s2:=sml (wsR a b)
 refine⟨λhn=>?_,λhn=>⟨λh=>?_,λ_ b55 H56 hb55 hH56=>?_⟩⟩
 ·have hn:k<f.length:=by have:=of_decide_eq_true hn;omega
  have gk:f[k]?=some (f.getD k (0,0,0)):=by rw[List.getD_eq_getElem?_getD,List.getElem?_eq_getElem hn];rfl
  have gd:=f48.gD (i:=(k:Int)) (by omega) (by omega)
  rw[Int.toNat_natCast] at gd
  have c1:=x2g (ctR a b) f gk
  have c2:=x2g (wsR a b) f gk
  have mem:=List.mem_of_getElem? gk
  generalize f.getD k (0,0,0)=p at gd gk c1 c2 mem
  have t1:=List.countP_le_length (p:=ctR a b p) (l:=f)
  have t2:=List.countP_le_length (p:=wsR a b p) (l:=f)
  have mt:((f.length:Int)-((k:Int)+1)).toNat<((f.length:Int)-(k:Int)).toNat:=by omega
  refine⟨f48.inS (by omega) (by omega),p.1,gd.1,(zjm f48 of mem oa ob hab (by omega)).mono λv H51 ⟨x,y,hv,l51,hx,hy⟩=>⟨l51,x,y,0,hv,λh=>by simp at h,λ_=>⟨by unfold inI;omega,by unfold inI;omega,by unfold inI;omega,⟨k+1,by omega,by omega,Hp.le_trans l48 l51,by omega,by omega⟩,mt⟩⟩⟩
 ·have hn:k=f.length:=by have:=of_decide_eq_false hn;omega
  subst hn
  rw[List.take_length,zcg,x7w] at h
  simp at h
 have hn:k=f.length:=by have:=of_decide_eq_false hn;omega
 subst hn
 clear s1 s2 sml
 have l056:=Hp.le_new (Hp.le_trans l022 l48) hb55 hH56
 have l4856:=Hp.le_new (Hp.le_refl H48) hb55 hH56
 have zn:((⟨none,0,0⟩:Slc))=zs:=rfl
 refine⟨λu n H61=>∃k:Nat,n=k/\k<=f.length/\Mine 7 zud 60 H48 H61 u ((f.take k).map z7s)/\Hp.le H48 H61,λ_ n _=>((f.length:Int)-n).toNat,⟨0,rfl,by omega,hH56▸Mine.empty hb55,l4856⟩,?_⟩
 rintro s n H61 ⟨k,rfl,hk,ms,l61⟩
 have f61:=f48.le l61
 refine⟨λhn=>?_,λhn b70 H71 hb70 hH71=>?_⟩
 ·have hn:k<f.length:=by have:=of_decide_eq_true hn;omega
  have gk:f[k]?=some (f.getD k (0,0,0)):=by rw[List.getD_eq_getElem?_getD,List.getElem?_eq_getElem hn];rfl
  have gd:=f61.gD (i:=(k:Int)) (by omega) (by omega)
  rw[Int.toNat_natCast] at gd
  have tk:(f.take (k+1)).map z7s=(f.take k).map z7s++[z7s (f.getD k (0,0,0))]:=by rw[List.take_add_one,gk];simp
  generalize f.getD k (0,0,0)=p at gd tk
  have mt:((f.length:Int)-((k:Int)+1)).toNat<((f.length:Int)-(k:Int)).toNat:=by omega
  refine⟨f61.inS (by omega) (by omega),_,_,_,gd,λb65 H66 hb65 hH66=>?_⟩
  refine(z78 (k:=7) (f:=zud) (bytes:=56) (x:=z7s p) (by kernel_rfl) (by decide) (λ_=>rfl) zue l61 ms hb65 hH66 rfl (by rw[List.length_map,List.length_take];omega) (by omega)).mono λv H68 ⟨s',hv,l68,m68,_,_⟩=>⟨s',hv,by unfold inI;omega,⟨k+1,by omega,by omega,by rw[tk];exact m68,l68⟩,mt⟩
 have hn:k=f.length:=by have:=of_decide_eq_false hn;omega
 subst hn
 rw[List.take_length] at ms
 refine(z78 (k:=7) (f:=zud) (bytes:=56) (x:=z7y b) (by kernel_rfl) (by decide) (λ_=>rfl) zue l61 ms hb70 hH71 rfl (by rw[List.length_map];omega) (by omega)).mono λv H73 ⟨z,hv,l73,m73,_,_⟩=>⟨z,hv,?_⟩
 have rz:Rd 7 zud H73 z (z8b f b):=Mine.rd (λ_=>rfl) m73
 have zl:(z.n:Int)=f.length+1:=by have:=rz.len;rw[z8e] at this;omega
 refine(yk3 R (w:=zs) Rd.nil rz).mono λv H76 ⟨o,y,L,q,hv,l76,P,ry,Ll,hq,qn⟩=>⟨_,_,o,y,0,hv,?_⟩
 have yn:(y.n:Int)=f.length+1:=by have:=ry.len;omega
 refine(yk2 P of aa ab aa (y6t _) hab).mono λv H83 ⟨o1,hv,l83,r1⟩=>⟨o1,0,hv,?_⟩
 refine(yk2 (P.le l83) of aa ab ab hab (y6t _)).mono λv H87 ⟨o2,hv,l87,r2⟩=>⟨o2,0,hv,?_⟩
 have l2287:Hp.le H22 H87:=Hp.le_trans (Hp.le_trans l48 l73) (Hp.le_trans l76 (Hp.le_trans l83 l87))
 have ry':=(ry.le l83).le l87
 rw[zl,yn]
 have ge:((zrr y.a 6 ((f.length:Int)+1-1)).add 5).add 0=(zrr y.a 6 (f.length:Int)).add 5:=by rw[show (f.length:Int)+1-1=f.length by omega];rfl
 have gy:=ry'.atj (i:=(f.length:Int)) (by omega) (x:=q) (by rw[Int.toNat_natCast];exact hq) (j:=5) rfl
 have lo:(yis f a).length<=1000000000:=by rw[yiv];omega
 have ro1:=((r6.le l22).le l2287).o
 have ro2:=(r22.le l2287).o
 rw[bord] at ro1
 rw[aord] at ro2
 refine⟨λ_=>by unfold inI;omega,λ_=>ry'.inS (by omega) (by omega),q,λ_=>by rw[ge];exact gy,true,λ_=>yv6 (r1.le l87) ro1 lo,true,λ_=>yv6 r2 ro2 (by rw[yiv];omega),?_,Hp.le_trans l022 l2287⟩
 rw[qn]
 simp
end Go.Proofs.YtnhdkkblehadjabGreat
end
