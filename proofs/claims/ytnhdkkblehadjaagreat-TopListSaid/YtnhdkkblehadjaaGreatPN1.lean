/- The engine, parts N1, N2, N3, N4, put together. Conditions: none. -/
import Derived.Test.YtnhdkkblehadjaaGreatPD1
import Derived.Test.YtnhdkkblehadjaaGreatPM2
open Int renaming mul_assoc->Qa,natAbs_natCast->Qb,mul_lt_mul_right->Qc,mul_comm->Qd,le_refl->Qe
open List renaming mem_of_getElem?->Qg,getElem?_eq_some_iff->Qh,mem_iff_getElem?->Qi,pairwise_iff_getElem->Qj
open Nat renaming gcd->Ql,div_mul_cancel->Qm
set_option linter.unusedVariables false
set_option maxHeartbeats 8000000
section
set_option maxRecDepth 100000
open Go Go.Eng Go.Proofs
namespace Go.Proofs.YtnhdkkblehadjaaGreat
variable{l:Ls}{hi a b h x:Int×Int}{k i n:Nat}{xs:List (Int×Int)}{N d:Int}
def plM(l:Ls)(id:Int):(Int×Int)×Int:=ypx (gP l.ck.f (yr5 l.ck.f id)) l.ck.now
def yq5(l:Ls):Nat->List (Int×Int)×Int
 | 0=>([],0)
 | n+1=>if (yq5 l n).2=0 then (if (plM l (l.ord.getD n 0)).2=0 then ((yq5 l n).1++[(plM l (l.ord.getD n 0)).1],0) else ([],(plM l (l.ord.getD n 0)).2)) else yq5 l n
def yq3(l:Ls):List (Int×Int)×Int:=if yk9 l then yq5 l l.ord.length else ([],8)
theorem yqd(h0:(yq5 l n).2=0)(h:(plM l (l.ord.getD n 0)).2=0):yq5 l (n+1)=((yq5 l n).1++[(plM l (l.ord.getD n 0)).1],0):=by
 show (if (yq5 l n).2=0 then _ else _)=_;rw[Zp h0,Zp h]
theorem yqb(h0:(yq5 l n).2=0)(h:(plM l (l.ord.getD n 0)).2≠0):yq5 l (n+1)=([],(plM l (l.ord.getD n 0)).2):=by
 show (if (yq5 l n).2=0 then _ else _)=_;rw[Zp h0,Zn h]
theorem yq7{l:Ls}{n:Nat}(h:(yq5 l n).2≠0):∀m,n<=m->yq5 l m=yq5 l n
 | 0,hm=>by rw[show n=0 by omega]
 | m+1,hm=>by
  by_cases e:n=m+1
  ·rw[e]
  ·have ih:=yq7 h m (by omega);show (if (yq5 l m).2=0 then _ else yq5 l m)=_;rw[ih,Zn h]
theorem yq6{l:Ls}:∀n,(yq5 l n).2=0->(yq5 l n).1.length=n/\∀k,k<n->(yq5 l n).1[k]?=some (plM l (l.ord.getD k 0)).1/\(plM l (l.ord.getD k 0)).2=0
 | 0,_=>⟨rfl,λk hk=>by omega⟩
 | n+1,h=>by
  have h0:(yq5 l n).2=0:=by
   by_cases e:(yq5 l n).2=0
   ·exact e
   ·rw[yq7 e (n+1) (by omega)] at h;exact absurd h e
  have h1:(plM l (l.ord.getD n 0)).2=0:=by
   by_cases e:(plM l (l.ord.getD n 0)).2=0
   ·exact e
   ·rw[yqb h0 e] at h;exact absurd h e
  obtain⟨a,b⟩:=yq6 n h0;rw[yqd h0 h1];refine⟨by simp[a],λk hk=>?_⟩;by_cases e:k<n
  ·refine⟨?_,(b k e).2⟩;rw[List.getElem?_append_left (by omega)];exact(b k e).1
  ·have:k=n:=by omega
   subst this;refine⟨?_,h1⟩;rw[List.getElem?_append_right (by omega),a];simp
theorem zww:∀(x:Int×Int),∀v∈fH x,v.oneCell'=true:=λx v hv=>by
 simp[fH] at hv;rcases hv with rfl|rfl <;> rfl
theorem y1e{f:List Pt}(of:okF f){p:Pt}(hp:p∈f):gP f (yr5 f p.1)=p:=by
 have h0:0<=yr5 f p.1:=by
  by_cases h:yr5 f p.1<0
  ·have:=y5v h p hp;simp at this
  ·omega
 obtain⟨a,b,c⟩:=yra h0;obtain⟨j,hj⟩:=Qi.1 hp;have hi:=Qj.1 (yk2 of);obtain⟨a1,a2⟩:=Qh.1 b;obtain⟨j1,j2⟩:=Qh.1 hj;rcases Nat.lt_trichotomy (yr5 f p.1).toNat j with k|k|k
 ·exact absurd (by rw[a2,j2];exact c) (hi _ _ a1 j1 k)
 ·subst k;rw[b] at hj;exact Option.some.inj hj
 ·exact absurd (by rw[a2,j2];exact c.symm) (hi _ _ j1 a1 k)
def ptL(l:Ls)(k:Nat):Pt:=gP l.ck.f (yr5 l.ck.f (l.ord.getD k 0))
theorem yk9.len(ok:yk9 l):l.ord.length=l.ck.f.length:=by rw[ok.ord,ylo]
theorem yk9.sorted(ok:yk9 l)(hk:k<l.ord.length):(x4k l.ck.f l.ck.now)[k]?=some (ptL l k):=by
 have hl:=ok.len;obtain⟨p,hp⟩:∃p,(x4k l.ck.f l.ck.now)[k]?=some p:=⟨_,List.getElem?_eq_getElem (by rw[x4l];omega)⟩;have hm:p∈l.ck.f:=(x4n l.ck.now l.ck.f).mem_iff.1 (Qg hp);have ho:l.ord[k]?=some p.1:=by rw[ok.ord];unfold yll;rw[List.getElem?_map,hp];rfl
 have hg:l.ord.getD k 0=p.1:=by rw[List.getD_eq_getElem?_getD,ho];rfl
 unfold ptL;rw[hg,y1e ok.ck.f hm];exact hp
theorem yk9.ptOk(ok:yk9 l)(hk:k<l.ord.length):okP (ptL l k)/\ptL l k∈l.ck.f/\(ptL l k).1=l.ord.getD k 0:=by
 have hm:ptL l k∈l.ck.f:=(x4n l.ck.now l.ck.f).mem_iff.1 (Qg (ok.sorted hk));refine⟨ok.ck.f.each _ hm,hm,?_⟩;have:=ok.pos (i:=(k:Int)) (by omega) (by omega);rw[Int.toNat_natCast] at this;exact(yra this).2.2
theorem yk9.leads{l:Ls}(ok:yk9 l){i j:Nat}(hij:i<j)(hj:j<l.ord.length):leads (ptL l i) (ptL l j) l.ck.now=true:=by
 have h:=(x4o (yk2 ok.ck.f) l.ck.now).ord;obtain⟨a1,a2⟩:=Qh.1 (ok.sorted (k:=i) (by omega));obtain⟨b1,b2⟩:=Qh.1 (ok.sorted hj);have:=Qj.1 h i j a1 b1 hij;rw[a2,b2] at this;exact this
theorem yk9.val(ok:yk9 l){j:Nat}(hij:i<j)(hj:j<l.ord.length):xb1 (ptL l j) l.ck.now<=xb1 (ptL l i) l.ck.now:=by
 have:=y9n.1 (ok.leads hij hj);omega
theorem ymo(d1:1<=d)(h:(ymn N d).2=0):∃g:Int,0<g/\(ymn N d).1.1*g=N/\(ymn N d).1.2*g=d/\okR (ymn N d).1:=by
 have hN:∀z:Int,(z2u z).toNat=z.natAbs:=λz=>by rw[z30];simp
 have eg:y2e N d=(Ql N.natAbs d.natAbs:Nat):=by unfold y2e;rw[hN,hN]
 have hG:0<Ql N.natAbs d.natAbs:=Nat.gcd_pos_of_pos_right _ (by omega);have da:=Nat.gcd_dvd_left N.natAbs d.natAbs;have db:=Nat.gcd_dvd_right N.natAbs d.natAbs;have ea:=Qm da;have eb:=Qm db;have cop:=Nat.gcd_div_gcd_div_gcd_of_pos_right (n:=N.natAbs) (m:=d.natAbs) (by omega);have pb:0<d.natAbs/Ql N.natAbs d.natAbs:=Nat.div_pos (Nat.le_of_dvd (by omega) db) hG;unfold ymn at h ⊢;rw[eg,z30] at h ⊢;have ed:d=((d.natAbs:Nat):Int):=by omega
 have e1:((N.natAbs:Nat):Int)/((Ql N.natAbs d.natAbs:Nat):Int)=((N.natAbs/Ql N.natAbs d.natAbs:Nat):Int):=by simp
 have e2:d/((Ql N.natAbs d.natAbs:Nat):Int)=((d.natAbs/Ql N.natAbs d.natAbs:Nat):Int):=by
  have:d/((Ql N.natAbs d.natAbs:Nat):Int)=((d.natAbs:Nat):Int)/((Ql N.natAbs d.natAbs:Nat):Int):=by rw[← ed]
  rw[this];simp
 rw[e1,e2] at h ⊢;generalize Ql N.natAbs d.natAbs=G at *
 generalize N.natAbs/G=a at *
 generalize d.natAbs/G=b at *
 have eaz:(a:Int)*G=N.natAbs:=by exact_mod_cast ea
 have ebz:(b:Int)*G=d:=by rw[ed];exact_mod_cast eb
 unfold zbg at h ⊢;split at h
 ·cases h
 ·rename_i hc;rw[Zn hc];refine⟨G,by omega,?_,ebz,?_⟩
  ·show (if decide (N<0)=true then 0-(a:Int) else (a:Int))*G=N;by_cases hn:N<0
   ·rw[Zu hn,Zp rfl,Int.sub_mul,eaz];omega
   ·rw[Zv hn,Zn (by simp),eaz];omega
  ·have gg:∀c:Bool,Ql (if c=true then 0-(a:Int) else (a:Int)).natAbs (b:Int).natAbs=1:=λc=>by
    cases c with
    | true=>rw[Zp rfl,show (0-(a:Int)).natAbs=a by omega,Qb];exact cop
    | false=>rw[Zn (by simp),Qb,Qb];exact cop
   exact⟨by show (1:Int)<=b;omega,by show (b:Int)<=_;omega,by show _<=(if decide (N<0)=true then 0-(a:Int) else (a:Int));split <;> omega,by show (if decide (N<0)=true then 0-(a:Int) else (a:Int))<=_;split <;> omega,gg _⟩
theorem zox{x y g:Int}(hg:0<g):zoo (x*g) (y*g)=zoo x y:=by
 have h1:x*g<y*g↔x<y:=Qc hg;have h2:y*g<x*g↔y<x:=Qc hg;unfold zoo;simp only[h1,h2,gt_iff_lt]
theorem zpg{M:Int}(d1:1<=d)(h1:(ymn M d).2=0)(h2:(ymn N d).2=0):zp5 (ymn M d).1 (ymn N d).1=zoo M N:=by
 obtain⟨g,g0,ga,gb,_⟩:=ymo d1 h1;obtain⟨k,k0,ka,kb,_⟩:=ymo d1 h2;generalize (ymn M d).1=x at *
 generalize (ymn N d).1=y at *
 unfold zp5;rw[← zox (g:=g) g0,← zox (g:=k) k0];have e1:x.1*y.2*g*k=M*d:=by
  rw[← ga,← kb,Qa x.1,Qd y.2 g,← Qa,Qa (x.1*g)]
 have e2:y.1*x.2*g*k=N*d:=by
  rw[← ka,← gb,Qa y.1,Qa y.1,Qd (x.2*g) k,← Qa]
 rw[e1,e2,zox (by omega)]
theorem yk9.place(ok:yk9 l)(hk:k<l.ord.length):plM l (l.ord.getD k 0)=ymn (xb1 (ptL l k) l.ck.now) l.ck.now.2:=by
 unfold plM;exact ypz (ok.ptOk hk).1 ok.ck.now
structure z0l(xs:List (Int×Int)):Prop where
 ok:∀x∈xs,okR x
 ge:∀(i j:Nat)(x y:Int×Int),i<j->xs[i]?=some x->xs[j]?=some y->0<=zp5 x y
theorem yk9.desc(ok:yk9 l)(h:(yq5 l l.ord.length).2=0):z0l (yq5 l l.ord.length).1:=by
 obtain⟨a,b⟩:=yq6 _ h;have d1:=ok.ck.now.d1;refine⟨λx hx=>?_,λi j x y hij hi hj=>?_⟩
 ·obtain⟨k,hk⟩:=Qi.1 hx;have hl:=(Qh.1 hk).1;rw[a] at hl;obtain⟨b1,b2⟩:=b k hl;rw[b1] at hk;cases hk;rw[ok.place hl] at b2 ⊢;obtain⟨_,_,_,_,o⟩:=ymo d1 b2;exact o
 ·have hl:=(Qh.1 hj).1;rw[a] at hl;obtain⟨b1,b2⟩:=b i (by omega);obtain⟨c1,c2⟩:=b j hl;rw[b1] at hi;rw[c1] at hj;cases hi;cases hj;rw[ok.place (by omega)] at b2 ⊢;rw[ok.place hl] at c2 ⊢;rw[zpg d1 b2 c2];have:=ok.val hij hl;unfold zoo;split <;> (try split) <;> omega
theorem ysc{α:Type}(q:α->Bool):∀(xs:List α),(∀(i j:Nat)(x y:α),i<j->xs[i]?=some x->xs[j]?=some y->q y=true->q x=true)->∀(i:Nat)(x:α),xs[i]?=some x->(q x=true↔i<xs.countP q)
 | [],_,i,x,h=>by simp at h
 | a :: xs,hp,i,x,h=>by
  have ih:=ysc q xs λi j x y hij hi hj=>hp (i+1) (j+1) x y (by omega) (by simpa using hi) (by simpa using hj)
  cases ha:q a with
  | true =>
   rw[List.countP_cons_of_pos ha];cases i with
   | zero=>simp at h;subst h;simp[ha]
   | succ i=>rw[ih i x (by simpa using h)];omega
  | false =>
   rw[List.countP_cons_of_neg (by simp[ha])];have none:∀y∈xs,q y=false:=λy hy=>by
    obtain⟨j,hj⟩:=Qi.1 hy;cases hq:q y with
    | false=>rfl
    | true=>have:=hp 0 (j+1) a y (by omega) rfl (by simpa using hj) hq
            rw[ha] at this;cases this
   have c0:xs.countP q=0:=List.countP_eq_zero.2 λy hy=>by rw[none y hy];simp
   rw[c0];cases i with
   | zero=>simp at h;subst h;simp[ha]
   | succ i=>rw[none x (Qg (by simpa using h))];simp
def upM(xs:List (Int×Int))(h:Int×Int):Nat:=xs.countP λx=>decide (0<zp5 x h)
def loM(xs:List (Int×Int))(h:Int×Int):Nat:=xs.countP λx=>decide (0<=zp5 x h)
theorem zp9:0<=zp5 a b↔b.1*a.2<=a.1*b.2:=by
 unfold zp5 zoo;split <;> (try split) <;> omega
theorem zpa:0<zp5 a b↔b.1*a.2<a.1*b.2:=by
 unfold zp5 zoo;split <;> (try split) <;> omega
theorem zp8:zp5 a b=0↔a.1*b.2=b.1*a.2:=zop
theorem z0l.up(d:z0l xs)(oh:okR h)(hi:xs[i]?=some x):0<zp5 x h↔i<upM xs h:=by
 have:=ysc (λx=>decide (0<zp5 x h)) xs (λi j x y hij hi hj hq=>by
  have o1:=(d.ok x (Qg hi)).d1;have o2:=(d.ok y (Qg hj)).d1;have o3:=oh.d1;have g:=zp9.1 (d.ge i j x y hij hi hj);have hq:0<zp5 y h:=by simpa using hq
  have q:=zpa.1 hq;simp only[Zq];exact zpa.2 (yub (a:=h) (b:=y) (c:=x) o2 o3 o1 (by omega) g (.inl q))) i x hi
 simp only[Zq] at this;exact this
theorem z0l.lo(d:z0l xs)(oh:okR h)(hi:xs[i]?=some x):0<=zp5 x h↔i<loM xs h:=by
 have:=ysc (λx=>decide (0<=zp5 x h)) xs (λi j x y hij hi hj hq=>by
  have o1:=(d.ok x (Qg hi)).d1;have o2:=(d.ok y (Qg hj)).d1;have o3:=oh.d1;have g:=zp9.1 (d.ge i j x y hij hi hj);have hq:0<=zp5 y h:=by simpa using hq
  have q:=zp9.1 hq;simp only[Zq];exact zp9.2 (yua (a:=h) (b:=y) (c:=x) o2 o3 o1 q g)) i x hi
 simp only[Zq] at this;exact this
theorem yb9(xs:List (Int×Int))(h:Int×Int):loM xs h<=xs.length:=List.countP_le_length
theorem z0l.upLo(d:z0l xs){lo:Int×Int}(o1:okR lo)(o2:okR hi)(h:¬ 0<zp5 lo hi):upM xs hi<=loM xs lo:=by
 refine List.countP_mono_left λx hx hq=>?_
 have hq:0<zp5 x hi:=by simpa using hq
 simp only[Zq];have q:=zpa.1 hq;rw[zpa] at h;have ox:=(d.ok x hx).d1;have h1:=o1.d1;have h2:=o2.d1;exact zp9.2 (yua (a:=lo) (b:=hi) (c:=x) h2 h1 ox (by omega) (by omega))
theorem x4y{H:Hp}{n:Int}{a1:Value}{K:Nat}{p:Nat->Bool}(n0:0<=n)(n1:n<=1000000000)(hq:∀i:Int,0<=i->i<n->QfV Tryz.prog a1 [vi i] H (.bool (p i.toNat)))
  (hK:(K:Int)<=n) (h0:∀i,i<K->p i=false) (h1:∀i:Nat,K<=i->(i:Int)<n->p i=true):qF F.f158 #[vi n,a1] H (vi (K:Int)):=by
 refine vc158 ⟨λi j H'=>H'=H/\0<=i/\i<=K/\K<=j/\j<=n,λi j _=>(j-i).toNat,⟨rfl,Qe _,by omega,hK,Qe _⟩,λi j H' ⟨e,i0,i1,i2,i3⟩=>⟨λhc=>?_,λhc=>⟨?_,?_⟩⟩⟩
 ·subst e;have hc:i<j:=by simpa using hc
  rw[yf0 i0 hc (by omega)];have m0:0<=(i+j)/2:=by omega
  have m1:(i+j)/2<n:=by omega
  refine⟨by unfold inI;omega,by unfold nn;omega,_,hq _ m0 m1,λhb=>?_,λhb=>?_⟩
  ·have hb:p ((i+j)/2).toNat=false:=by simpa using hb
   have:¬ K<=((i+j)/2).toNat:=λh=>by rw[h1 _ h (by omega)] at hb;cases hb
   refine⟨by unfold inI;omega,⟨rfl,by omega,by omega,i2,i3⟩,?_⟩;show (j-((i+j)/2+1)).toNat<(j-i).toNat;omega
  ·have hb:p ((i+j)/2).toNat=true:=by simpa using hb
   have:¬ ((i+j)/2).toNat<K:=λh=>by rw[h0 _ h] at hb;cases hb
   refine⟨⟨rfl,i0,i1,by omega,by omega⟩,?_⟩;show ((i+j)/2-i).toNat<(j-i).toNat;omega
 ·have:¬ i<j:=by simpa using hc
  have:i=K:=by omega
  rw[this]
 ·subst e;exact Hp.le_refl _
def z7l(l:Ls)(lo hi:Int×Int):Int:=if yk9 l then (if okR lo/\okR hi then (if 0<zp5 lo hi then 2 else (yq5 l l.ord.length).2) else 8) else 8
def xsM(l:Ls):List (Int×Int):=(yq5 l l.ord.length).1
theorem z7n{lo:Int×Int}:z7l l lo hi=0↔yk9 l/\okR lo/\okR hi/\¬ 0<zp5 lo hi/\(yq5 l l.ord.length).2=0:=by
 unfold z7l;by_cases h1:yk9 l
 ·by_cases h2:okR lo/\okR hi
  ·by_cases h3:0<zp5 lo hi
   ·rw[Zp h1,Zp h2,Zp h3];simp[h3]
   ·rw[Zp h1,Zp h2,Zn h3];simp[h1,h2.1,h2.2];omega
  ·rw[Zp h1,Zn h2];exact⟨λh=>by simp at h,λh=>absurd ⟨h.2.1,h.2.2.1⟩ h2⟩
 ·rw[Zn h1];exact⟨λh=>by simp at h,λh=>absurd h.1 h1⟩
def inM(l:Ls)(lo hi:Int×Int):List Int:=(l.ord.take (loM (xsM l) lo)).drop (upM (xsM l) hi)
def inR(l:Ls)(lo hi:Int×Int):List Int×Int:=if z7l l lo hi=0 then (inM l lo hi,0) else ([],z7l l lo hi)
theorem y62{lo:Int×Int}(h:z7l l lo hi=0):inR l lo hi=(inM l lo hi,0):=Zp h
theorem z7u{lo:Int×Int}(h:z7l l lo hi=0):upM (xsM l) hi<=loM (xsM l) lo/\loM (xsM l) lo<=l.ord.length/\(xsM l).length=l.ord.length/\z0l (xsM l):=by
 obtain⟨ok,o1,o2,hp,hx⟩:=z7n.1 h;have D:=ok.desc hx;have len:=(yq6 _ hx).1;have:=yb9 (xsM l) lo;refine⟨D.upLo o1 o2 hp,?_,len,D⟩;unfold xsM at this ⊢;omega
theorem y5y{lo:Int×Int}(h:z7l l lo hi=0):(inM l lo hi).length=loM (xsM l) lo-upM (xsM l) hi:=by
 obtain⟨a,b,c,d⟩:=z7u h;unfold inM;rw[List.length_drop,List.length_take];omega
def zqf(l:Ls)(lo hi:Int×Int):Int:=((inR l lo hi).1.length:Int)
