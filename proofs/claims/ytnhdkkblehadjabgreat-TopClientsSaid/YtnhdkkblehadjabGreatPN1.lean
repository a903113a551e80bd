/- The engine, parts N1, N2, N3, N4, put together. Conditions: none. -/
import Derived.Test.YtnhdkkblehadjabGreatPD1
import Derived.Test.YtnhdkkblehadjabGreatPM2
import Derived.Test.YtnhdkkblehadjabGreatVgSpan
import Derived.Test.YtnhdkkblehadjabGreatFs
import Derived.Test.YtnhdkkblehadjabGreatVgStd
set_option linter.unusedVariables false
section
/- Places of all points of a list. Conditions: none. -/
set_option maxRecDepth 100000
open Go Go.Eng Go.Proofs
namespace Go.Proofs.YtnhdkkblehadjabGreat

def plM(l:Ls)(id:Int):(Int×Int)×Int:=yma (gP l.ck.f (ynk l.ck.f id)) l.ck.now
def ymj(l:Ls):Nat->List (Int×Int)×Int
 | 0=>([],0)
 | n+1=>if (ymj l n).2=0 then (if (plM l (l.ord.getD n 0)).2=0 then ((ymj l n).1++[(plM l (l.ord.getD n 0)).1],0) else ([],(plM l (l.ord.getD n 0)).2)) else ymj l n
def ymh(l:Ls):List (Int×Int)×Int:=if yh6 l then ymj l l.ord.length else ([],8)
theorem ymr{l:Ls}{n:Nat}(h0:(ymj l n).2=0)(h:(plM l (l.ord.getD n 0)).2=0):ymj l (n+1)=((ymj l n).1++[(plM l (l.ord.getD n 0)).1],0):=by
 show (if (ymj l n).2=0 then _ else _)=_
 rw[if_pos h0,if_pos h]
theorem ymp{l:Ls}{n:Nat}(h0:(ymj l n).2=0)(h:(plM l (l.ord.getD n 0)).2≠0):ymj l (n+1)=([],(plM l (l.ord.getD n 0)).2):=by
 show (if (ymj l n).2=0 then _ else _)=_
 rw[if_pos h0,if_neg h]
theorem yml{l:Ls}{n:Nat}(h:(ymj l n).2≠0):∀m,n<=m->ymj l m=ymj l n
 | 0,hm=>by rw[show n=0 by omega]
 | m+1,hm=>by
  by_cases e:n=m+1
  ·rw[e]
  ·have ih:=yml h m (by omega)
   show (if (ymj l m).2=0 then _ else ymj l m)=_
   rw[ih,if_neg h]
theorem ymm{l:Ls}{n:Nat}(hn:n<l.ord.length)(h0:(ymj l n).2=0)(h:(plM l (l.ord.getD n 0)).2≠0):ymj l l.ord.length=([],(plM l (l.ord.getD n 0)).2):=by
 have e:=ymp h0 h
 rw[yml (n:=n+1) (by rw[e];exact h) _ (by omega),e]
theorem ymk{l:Ls}:∀n,(ymj l n).2=0->(ymj l n).1.length=n/\∀k,k<n->(ymj l n).1[k]?=some (plM l (l.ord.getD k 0)).1/\(plM l (l.ord.getD k 0)).2=0
 | 0,_=>⟨rfl,λk hk=>by omega⟩
 | n+1,h=>by
  have h0:(ymj l n).2=0:=by
   by_cases e:(ymj l n).2=0
   ·exact e
   ·rw[yml e (n+1) (by omega)] at h;exact absurd h e
  have h1:(plM l (l.ord.getD n 0)).2=0:=by
   by_cases e:(plM l (l.ord.getD n 0)).2=0
   ·exact e
   ·rw[ymp h0 e] at h;exact absurd h e
  obtain⟨a,b⟩:=ymk n h0
  rw[ymr h0 h1]
  refine⟨by simp[a],λk hk=>?_⟩
  by_cases e:k<n
  ·refine⟨?_,(b k e).2⟩
   rw[List.getElem?_append_left (by omega)];exact(b k e).1
  ·have:k=n:=by omega
   subst this
   refine⟨?_,h1⟩
   rw[List.getElem?_append_right (by omega),a];simp

theorem zuj:∀(x:Int×Int),∀v∈fH x,v.oneCell'=true:=λx v hv=>by
 simp[fH] at hv
 rcases hv with rfl|rfl <;> rfl
theorem x0o{H:Hp}{u:Lu}{l:Ls}(r:RdL H u l)(fl:zxc l) :
    Go.Eng.Fn Tryz.prog F.f71 #[lsV u l] H λv H'=>∃s:Slc,v=.tuple #[s.v,.int .i64 (ymh l).2]/\Hp.le H H'/\Mine 2 fH T.api_Ratio H H' s (ymh l).1:=by
  have lo:=r.o.len
  have f1:=fl.o
  refine vc71 ⟨_,y5v r fl,λhc=>?_,λhc=>?_⟩
  · have hn:¬ yh6 l:=λok=>by rw[zkv ok] at hc;simp at hc
    rw[zku hn]
    unfold ymh;rw[if_neg hn]
    exact⟨zs,rfl,Hp.le_refl _,.inl ⟨rfl,rfl⟩⟩
  have ok:yh6 l:=zkw.1 (by simpa using hc)
  unfold ymh;rw[if_pos ok]
  refine⟨λs i H'=>0<=i/\i<=l.ord.length/\Hp.le H H'/\(ymj l i.toNat).2=0/\Mine 2 fH T.api_Ratio H H' s (ymj l i.toNat).1,λ_ i _=>(l.ord.length-i).toNat,⟨Int.le_refl _,by omega,Hp.le_refl _,rfl,.inl ⟨rfl,rfl⟩⟩,λs i H' ⟨i0,i1,le,z,m⟩=>⟨λhn=>?_,λhn=>?_⟩⟩
  · have hi:i<l.ord.length:=by have:i<u.o.n:=by simpa using hn
                               omega
    have hp:=ok.pos i0 hi
    have len:=(ymk _ z).1
    have es:(i+1).toNat=i.toNat+1:=by omega
    refine⟨r.o.inN i0 (by omega),_,RdI.get (r.o.le le) i0 hi,_,_,_,_,zvj (r.k.f.le le) ok.ck.f hp,_,_,_,zpv (p:=gP l.ck.f (ynk l.ck.f (l.ord.getD i.toNat 0))) fl.k.now,λhe=>?_,λhe b15 H16 hb hH=>?_⟩
    · have he:(plM l (l.ord.getD i.toNat 0)).2≠0:=by simpa[plM] using he
      rw[ymm (by omega) z he]
      exact⟨zs,rfl,le,.inl ⟨rfl,rfl⟩⟩
    · have he:(plM l (l.ord.getD i.toNat 0)).2=0:=by simpa[plM] using he
      refine(z78 (k:=2) (f:=fH) (bytes:=16) (x:=(plM l (l.ord.getD i.toNat 0)).1) (e:=T.api_Ratio) (by kernel_rfl) (by decide) (λ_=>rfl) zuj le m hb hH rfl (by rw[len];omega) (by omega)).mono λv H18 ⟨d,hv,l18,m18,_,_⟩=>⟨d,hv,by unfold inI;omega,⟨by omega,by omega,l18,?_,?_⟩,?_⟩
      · rw[es,ymr z he]
      · rw[es,ymr z he];exact m18
      · show (l.ord.length-(i+1):Int).toNat<(l.ord.length-i:Int).toNat;omega
  · have hi:i=l.ord.length:=by have:¬ i<u.o.n:=by simpa using hn
                               omega
    rw[hi,Int.toNat_natCast] at m z
    rw[z]
    exact⟨s,rfl,le,m⟩


theorem zz5{f:List Pt}(of:okF f){p:Pt}(hp:p∈f):gP f (ynk f p.1)=p:=by
 have h0:0<=ynk f p.1:=by
  by_cases h:ynk f p.1<0
  ·have:=y3n h p hp
   simp at this
  ·omega
 obtain⟨a,b,c⟩:=ynp h0
 obtain⟨j,hj⟩:=List.mem_iff_getElem?.1 hp
 have hi:=List.pairwise_iff_getElem.1 (ygy of)
 obtain⟨a1,a2⟩:=List.getElem?_eq_some_iff.1 b
 obtain⟨j1,j2⟩:=List.getElem?_eq_some_iff.1 hj
 rcases Nat.lt_trichotomy (ynk f p.1).toNat j with k|k|k
 ·exact absurd (by rw[a2,j2];exact c) (hi _ _ a1 j1 k)
 ·subst k;rw[b] at hj;exact Option.some.inj hj
 ·exact absurd (by rw[a2,j2];exact c.symm) (hi _ _ j1 a1 k)
def ptL(l:Ls)(k:Nat):Pt:=gP l.ck.f (ynk l.ck.f (l.ord.getD k 0))
theorem yh6.len{l:Ls}(ok:yh6 l):l.ord.length=l.ck.f.length:=by rw[ok.ord,yiv]
theorem yh6.sorted{l:Ls}(ok:yh6 l){k:Nat}(hk:k<l.ord.length):(yzt l.ck.f l.ck.now)[k]?=some (ptL l k):=by
 have hl:=ok.len
 obtain⟨p,hp⟩:∃p,(yzt l.ck.f l.ck.now)[k]?=some p:=⟨_,List.getElem?_eq_getElem (by rw[yzu];omega)⟩
 have hm:p∈l.ck.f:=(yzw l.ck.now l.ck.f).mem_iff.1 (List.mem_of_getElem? hp)
 have ho:l.ord[k]?=some p.1:=by rw[ok.ord];unfold yis;rw[List.getElem?_map,hp];rfl
 have hg:l.ord.getD k 0=p.1:=by rw[List.getD_eq_getElem?_getD,ho];rfl
 unfold ptL
 rw[hg,zz5 ok.ck.f hm];exact hp
theorem yh6.ptOk{l:Ls}(ok:yh6 l){k:Nat}(hk:k<l.ord.length):okP (ptL l k)/\ptL l k∈l.ck.f/\(ptL l k).1=l.ord.getD k 0:=by
 have hm:ptL l k∈l.ck.f:=(yzw l.ck.now l.ck.f).mem_iff.1 (List.mem_of_getElem? (ok.sorted hk))
 refine⟨ok.ck.f.each _ hm,hm,?_⟩
 have:=ok.pos (i:=(k:Int)) (by omega) (by omega)
 rw[Int.toNat_natCast] at this
 exact(ynp this).2.2
theorem yh6.leads{l:Ls}(ok:yh6 l){i j:Nat}(hij:i<j)(hj:j<l.ord.length):leads (ptL l i) (ptL l j) l.ck.now=true:=by
 have h:=(yzx (ygy ok.ck.f) l.ck.now).ord
 obtain⟨a1,a2⟩:=List.getElem?_eq_some_iff.1 (ok.sorted (k:=i) (by omega))
 obtain⟨b1,b2⟩:=List.getElem?_eq_some_iff.1 (ok.sorted hj)
 have:=List.pairwise_iff_getElem.1 h i j a1 b1 hij
 rw[a2,b2] at this
 exact this
theorem yh6.val{l:Ls}(ok:yh6 l){i j:Nat}(hij:i<j)(hj:j<l.ord.length):x74 (ptL l j) l.ck.now<=x74 (ptL l i) l.ck.now:=by
 have:=y77.1 (ok.leads hij hj)
 omega

theorem yjo{N d:Int}(d1:1<=d)(h:(yjn N d).2=0):∃g:Int,0<g/\(yjn N d).1.1*g=N/\(yjn N d).1.2*g=d/\okR (yjn N d).1:=by
 have hN:∀z:Int,(z2w z).toNat=z.natAbs:=λz=>by rw[z32];simp
 have eg:zzo N d=(Nat.gcd N.natAbs d.natAbs:Nat):=by unfold zzo;rw[hN,hN]
 have hG:0<Nat.gcd N.natAbs d.natAbs:=Nat.gcd_pos_of_pos_right _ (by omega)
 have da:=Nat.gcd_dvd_left N.natAbs d.natAbs
 have db:=Nat.gcd_dvd_right N.natAbs d.natAbs
 have ea:=Nat.div_mul_cancel da
 have eb:=Nat.div_mul_cancel db
 have cop:=Nat.gcd_div_gcd_div_gcd_of_pos_right (n:=N.natAbs) (m:=d.natAbs) (by omega)
 have pb:0<d.natAbs/Nat.gcd N.natAbs d.natAbs:=Nat.div_pos (Nat.le_of_dvd (by omega) db) hG
 unfold yjn at h ⊢
 rw[eg,z32] at h ⊢
 have ed:d=((d.natAbs:Nat):Int):=by omega
 have e1:((N.natAbs:Nat):Int)/((Nat.gcd N.natAbs d.natAbs:Nat):Int)=((N.natAbs/Nat.gcd N.natAbs d.natAbs:Nat):Int):=by simp
 have e2:d/((Nat.gcd N.natAbs d.natAbs:Nat):Int)=((d.natAbs/Nat.gcd N.natAbs d.natAbs:Nat):Int):=by
  have:d/((Nat.gcd N.natAbs d.natAbs:Nat):Int)=((d.natAbs:Nat):Int)/((Nat.gcd N.natAbs d.natAbs:Nat):Int):=by rw[← ed]
  rw[this];simp
 rw[e1,e2] at h ⊢
 generalize Nat.gcd N.natAbs d.natAbs=G at *
 generalize N.natAbs/G=a at *
 generalize d.natAbs/G=b at *
 have eaz:(a:Int)*G=N.natAbs:=by exact_mod_cast ea
 have ebz:(b:Int)*G=d:=by rw[ed];exact_mod_cast eb
 unfold zbt at h ⊢
 split at h
 ·cases h
 ·rename_i hc
  rw[if_neg hc]
  refine⟨G,by omega,?_,ebz,?_⟩
  ·show (if decide (N<0)=true then 0-(a:Int) else (a:Int))*G=N
   by_cases hn:N<0
   ·rw[decide_eq_true hn,if_pos rfl,Int.sub_mul,eaz];omega
   ·rw[decide_eq_false hn,if_neg (by simp),eaz];omega
  ·have gg:∀c:Bool,Nat.gcd (if c=true then 0-(a:Int) else (a:Int)).natAbs (b:Int).natAbs=1:=λc=>by
    cases c with
    | true=>rw[if_pos rfl,show (0-(a:Int)).natAbs=a by omega,Int.natAbs_natCast];exact cop
    | false=>rw[if_neg (by simp),Int.natAbs_natCast,Int.natAbs_natCast];exact cop
   exact⟨by show (1:Int)<=b;omega,by show (b:Int)<=_;omega,by show _<=(if decide (N<0)=true then 0-(a:Int) else (a:Int));split <;> omega,by show (if decide (N<0)=true then 0-(a:Int) else (a:Int))<=_;split <;> omega,gg _⟩
theorem znd{x y g:Int}(hg:0<g):zn4 (x*g) (y*g)=zn4 x y:=by
 have h1:x*g<y*g↔x<y:=Int.mul_lt_mul_right hg
 have h2:y*g<x*g↔y<x:=Int.mul_lt_mul_right hg
 unfold zn4
 simp only[h1,h2,gt_iff_lt]
theorem znx{M N d:Int}(d1:1<=d)(h1:(yjn M d).2=0)(h2:(yjn N d).2=0):znm (yjn M d).1 (yjn N d).1=zn4 M N:=by
 obtain⟨g,g0,ga,gb,_⟩:=yjo d1 h1
 obtain⟨k,k0,ka,kb,_⟩:=yjo d1 h2
 generalize (yjn M d).1=x at *
 generalize (yjn N d).1=y at *
 unfold znm
 rw[← znd (g:=g) g0,← znd (g:=k) k0]
 have e1:x.1*y.2*g*k=M*d:=by
  rw[← ga,← kb,Int.mul_assoc x.1,Int.mul_comm y.2 g,← Int.mul_assoc,Int.mul_assoc (x.1*g)]
 have e2:y.1*x.2*g*k=N*d:=by
  rw[← ka,← gb,Int.mul_assoc y.1,Int.mul_assoc y.1,Int.mul_comm (x.2*g) k,← Int.mul_assoc]
 rw[e1,e2,znd (by omega)]

theorem yh6.place{l:Ls}(ok:yh6 l){k:Nat}(hk:k<l.ord.length):plM l (l.ord.getD k 0)=yjn (x74 (ptL l k) l.ck.now) l.ck.now.2:=by
 unfold plM
 exact ymc (ok.ptOk hk).1 ok.ck.now
structure z0n(xs:List (Int×Int)):Prop where
 ok:∀x∈xs,okR x
 ge:∀(i j:Nat)(x y:Int×Int),i<j->xs[i]?=some x->xs[j]?=some y->0<=znm x y
theorem yh6.desc{l:Ls}(ok:yh6 l)(h:(ymj l l.ord.length).2=0):z0n (ymj l l.ord.length).1:=by
 obtain⟨a,b⟩:=ymk _ h
 have d1:=ok.ck.now.d1
 refine⟨λx hx=>?_,λi j x y hij hi hj=>?_⟩
 ·obtain⟨k,hk⟩:=List.mem_iff_getElem?.1 hx
  have hl:=(List.getElem?_eq_some_iff.1 hk).1
  rw[a] at hl
  obtain⟨b1,b2⟩:=b k hl
  rw[b1] at hk
  cases hk
  rw[ok.place hl] at b2 ⊢
  obtain⟨_,_,_,_,o⟩:=yjo d1 b2
  exact o
 ·have hl:=(List.getElem?_eq_some_iff.1 hj).1
  rw[a] at hl
  obtain⟨b1,b2⟩:=b i (by omega)
  obtain⟨c1,c2⟩:=b j hl
  rw[b1] at hi;rw[c1] at hj
  cases hi;cases hj
  rw[ok.place (by omega)] at b2 ⊢
  rw[ok.place hl] at c2 ⊢
  rw[znx d1 b2 c2]
  have:=ok.val hij hl
  unfold zn4
  split <;> (try split) <;> omega

theorem yor{α:Type}(q:α->Bool):∀(xs:List α),(∀(i j:Nat)(x y:α),i<j->xs[i]?=some x->xs[j]?=some y->q y=true->q x=true)->∀(i:Nat)(x:α),xs[i]?=some x->(q x=true↔i<xs.countP q)
 | [],_,i,x,h=>by simp at h
 | a :: xs,hp,i,x,h=>by
  have ih:=yor q xs λi j x y hij hi hj=>hp (i+1) (j+1) x y (by omega) (by simpa using hi) (by simpa using hj)
  cases ha:q a with
  | true =>
   rw[List.countP_cons_of_pos ha]
   cases i with
   | zero=>simp at h;subst h;simp[ha]
   | succ i=>rw[ih i x (by simpa using h)];omega
  | false =>
   rw[List.countP_cons_of_neg (by simp[ha])]
   have none:∀y∈xs,q y=false:=λy hy=>by
    obtain⟨j,hj⟩:=List.mem_iff_getElem?.1 hy
    cases hq:q y with
    | false=>rfl
    | true=>have:=hp 0 (j+1) a y (by omega) rfl (by simpa using hj) hq
            rw[ha] at this;cases this
   have c0:xs.countP q=0:=List.countP_eq_zero.2 λy hy=>by rw[none y hy];simp
   rw[c0]
   cases i with
   | zero=>simp at h;subst h;simp[ha]
   | succ i=>rw[none x (List.mem_of_getElem? (by simpa using h))];simp
def upM(xs:List (Int×Int))(h:Int×Int):Nat:=xs.countP λx=>decide (0<znm x h)
def loM(xs:List (Int×Int))(h:Int×Int):Nat:=xs.countP λx=>decide (0<=znm x h)
theorem znq{a b:Int×Int}:0<=znm a b↔b.1*a.2<=a.1*b.2:=by
 unfold znm zn4
 split <;> (try split) <;> omega
theorem znr{a b:Int×Int}:0<znm a b↔b.1*a.2<a.1*b.2:=by
 unfold znm zn4
 split <;> (try split) <;> omega
theorem znp{a b:Int×Int}:znm a b=0↔a.1*b.2=b.1*a.2:=zn5
theorem z0n.up{xs:List (Int×Int)}(d:z0n xs){h:Int×Int}(oh:okR h){i:Nat}{x:Int×Int}(hi:xs[i]?=some x):0<znm x h↔i<upM xs h:=by
 have:=yor (λx=>decide (0<znm x h)) xs (λi j x y hij hi hj hq=>by
  have o1:=(d.ok x (List.mem_of_getElem? hi)).d1
  have o2:=(d.ok y (List.mem_of_getElem? hj)).d1
  have o3:=oh.d1
  have g:=znq.1 (d.ge i j x y hij hi hj)
  have hq:0<znm y h:=by simpa using hq
  have q:=znr.1 hq
  simp only[decide_eq_true_eq]
  exact znr.2 (yqn (a:=h) (b:=y) (c:=x) o2 o3 o1 (by omega) g (.inl q))) i x hi
 simp only[decide_eq_true_eq] at this
 exact this
theorem z0n.lo{xs:List (Int×Int)}(d:z0n xs){h:Int×Int}(oh:okR h){i:Nat}{x:Int×Int}(hi:xs[i]?=some x):0<=znm x h↔i<loM xs h:=by
 have:=yor (λx=>decide (0<=znm x h)) xs (λi j x y hij hi hj hq=>by
  have o1:=(d.ok x (List.mem_of_getElem? hi)).d1
  have o2:=(d.ok y (List.mem_of_getElem? hj)).d1
  have o3:=oh.d1
  have g:=znq.1 (d.ge i j x y hij hi hj)
  have hq:0<=znm y h:=by simpa using hq
  have q:=znq.1 hq
  simp only[decide_eq_true_eq]
  exact znq.2 (yqm (a:=h) (b:=y) (c:=x) o2 o3 o1 q g)) i x hi
 simp only[decide_eq_true_eq] at this
 exact this
theorem x6z(xs:List (Int×Int))(h:Int×Int):upM xs h<=xs.length:=List.countP_le_length
theorem y87(xs:List (Int×Int))(h:Int×Int):loM xs h<=xs.length:=List.countP_le_length
theorem z0n.upLo{xs:List (Int×Int)}(d:z0n xs){lo hi:Int×Int}(o1:okR lo)(o2:okR hi)(h:¬ 0<znm lo hi):upM xs hi<=loM xs lo:=by
 refine List.countP_mono_left λx hx hq=>?_
 have hq:0<znm x hi:=by simpa using hq
 simp only[decide_eq_true_eq]
 have q:=znr.1 hq
 rw[znr] at h
 have ox:=(d.ok x hx).d1
 have h1:=o1.d1;have h2:=o2.d1
 exact znq.2 (yqm (a:=lo) (b:=hi) (c:=x) h2 h1 ox (by omega) (by omega))

theorem x06{H:Hp}{n:Int}{a1:Value}{K:Nat}{p:Nat->Bool}(n0:0<=n)(n1:n<=1000000000)(hq:∀i:Int,0<=i->i<n->QfV Tryz.prog a1 [.int .i64 i] H (.bool (p i.toNat)))
  (hK:(K:Int)<=n) (h0:∀i,i<K->p i=false) (h1:∀i:Nat,K<=i->(i:Int)<n->p i=true):Qf Tryz.prog F.f130 #[.int .i64 n,a1] H (.int .i64 (K:Int)):=by
 refine vc130 ⟨λi j H'=>H'=H/\0<=i/\i<=K/\K<=j/\j<=n,λi j _=>(j-i).toNat,⟨rfl,Int.le_refl _,by omega,hK,Int.le_refl _⟩,λi j H' ⟨e,i0,i1,i2,i3⟩=>⟨λhc=>?_,λhc=>⟨?_,?_⟩⟩⟩
 ·subst e
  have hc:i<j:=by simpa using hc
  rw[ybv i0 hc (by omega)]
  have m0:0<=(i+j)/2:=by omega
  have m1:(i+j)/2<n:=by omega
  refine⟨by unfold inI;omega,by unfold nn;omega,_,hq _ m0 m1,λhb=>?_,λhb=>?_⟩
  ·have hb:p ((i+j)/2).toNat=false:=by simpa using hb
   have:¬ K<=((i+j)/2).toNat:=λh=>by rw[h1 _ h (by omega)] at hb;cases hb
   refine⟨by unfold inI;omega,⟨rfl,by omega,by omega,i2,i3⟩,?_⟩
   show (j-((i+j)/2+1)).toNat<(j-i).toNat;omega
  ·have hb:p ((i+j)/2).toNat=true:=by simpa using hb
   have:¬ ((i+j)/2).toNat<K:=λh=>by rw[h0 _ h] at hb;cases hb
   refine⟨⟨rfl,i0,i1,by omega,by omega⟩,?_⟩
   show ((i+j)/2-i).toNat<(j-i).toNat;omega
 ·have:¬ i<j:=by simpa using hc
  have:i=K:=by omega
  rw[this]
 ·subst e;exact Hp.le_refl _

def z7i(l:Ls)(lo hi:Int×Int):Int:=if yh6 l then (if okR lo/\okR hi then (if 0<znm lo hi then 2 else (ymj l l.ord.length).2) else 8) else 8
def xsM(l:Ls):List (Int×Int):=(ymj l l.ord.length).1
theorem z7k{l:Ls}{lo hi:Int×Int}:z7i l lo hi=0↔yh6 l/\okR lo/\okR hi/\¬ 0<znm lo hi/\(ymj l l.ord.length).2=0:=by
 unfold z7i
 by_cases h1:yh6 l
 ·by_cases h2:okR lo/\okR hi
  ·by_cases h3:0<znm lo hi
   ·rw[if_pos h1,if_pos h2,if_pos h3];simp[h3]
   ·rw[if_pos h1,if_pos h2,if_neg h3];simp[h1,h2.1,h2.2];omega
  ·rw[if_pos h1,if_neg h2];exact⟨λh=>by simp at h,λh=>absurd ⟨h.2.1,h.2.2.1⟩ h2⟩
 ·rw[if_neg h1];exact⟨λh=>by simp at h,λh=>absurd h.1 h1⟩
def zb2(l:Ls)(lo hi:Int×Int):Int×Int×Int:=if z7i l lo hi=0 then ((upM (xsM l) hi:Int),(loM (xsM l) lo:Int),0) else (0,0,z7i l lo hi)
theorem zb5{l:Ls}{lo hi:Int×Int}(h:z7i l lo hi=0):zb2 l lo hi=((upM (xsM l) hi:Int),(loM (xsM l) lo:Int),0):=if_pos h
theorem zb3{l:Ls}{lo hi:Int×Int}{e:Int}(h:z7i l lo hi=e)(hn:e≠0):zb2 l lo hi=(0,0,e):=by
 unfold zb2;rw[if_neg (by rw[h];exact hn),h]
theorem zb0{H:Hp}{s:Slc}{xs:List (Int×Int)}{a1 a2:Addr}{h:Int×Int}{i:Int}(hs:H.at (a1.add 0)=some s.v)(rx:Rd 2 fH H s xs)(h1:H.at (a2.add 0)=some (.int .i64 h.1))(h2:H.at (a2.add 1)=some (.int .i64 h.2))(ok:∀x∈xs,okR x)(oh:okR h)(i0:0<=i)(i1:i<xs.length) :
  QfV Tryz.prog (.func (.func F.f131) #[] #[.pointer (some a1),.pointer (some a2)]) [.int .i64 i] H (.bool (decide (znm (xs.getD i.toNat (0,0)) h<=0))):=by
 have hx:=ok _ (List.mem_of_getElem? (y0r (d:=((0:Int),(0:Int))) i0 i1))
 have rc:=yqw (H:=H) hx.fit oh.fit
 rw[znh hx oh] at rc
 exact⟨F.f131,#[],_,rfl,cb131,vc131 ⟨s,hs,rx.inS i0 i1,_,_,rx.gH i0 i1,_,_,⟨h1,h2⟩,_,_,rc,rfl,Hp.le_refl _⟩⟩
theorem zb1{H:Hp}{s:Slc}{xs:List (Int×Int)}{a1 a2:Addr}{h:Int×Int}{i:Int}(hs:H.at (a1.add 0)=some s.v)(rx:Rd 2 fH H s xs)(h1:H.at (a2.add 0)=some (.int .i64 h.1))(h2:H.at (a2.add 1)=some (.int .i64 h.2))(ok:∀x∈xs,okR x)(oh:okR h)(i0:0<=i)(i1:i<xs.length) :
  QfV Tryz.prog (.func (.func F.f132) #[] #[.pointer (some a1),.pointer (some a2)]) [.int .i64 i] H (.bool (decide (znm (xs.getD i.toNat (0,0)) h<0))):=by
 have hx:=ok _ (List.mem_of_getElem? (y0r (d:=((0:Int),(0:Int))) i0 i1))
 have rc:=yqw (H:=H) hx.fit oh.fit
 rw[znh hx oh] at rc
 exact⟨F.f132,#[],_,rfl,cb132,vc132 ⟨s,hs,rx.inS i0 i1,_,_,rx.gH i0 i1,_,_,⟨h1,h2⟩,_,_,rc,rfl,Hp.le_refl _⟩⟩

theorem ymn{l:Ls}(fl:zxc l):(ymj l l.ord.length).1.length<=1000000:=by
 have f1:=fl.o
 by_cases h:(ymj l l.ord.length).2=0
 ·rw[(ymk _ h).1];exact f1
 ·have:∀n,(ymj l n).2≠0->(ymj l n).1=[]:=by
   intro n
   induction n with
   | zero=>intro h;exact absurd rfl h
   | succ n ih =>
    intro h
    by_cases h0:(ymj l n).2=0
    ·by_cases h1:(plM l (l.ord.getD n 0)).2=0
     ·rw[ymr h0 h1] at h;exact absurd rfl h
     ·rw[ymp h0 h1]
    ·rw[yml h0 (n+1) (by omega)];exact ih h0
  rw[this _ h];simp

set_option maxHeartbeats 1000000 in
theorem x0l{H:Hp}{u:Lu}{l:Ls}{lo hi:Int×Int}(r:RdL H u l)(fl:zxc l)(fo:zxh lo)(fi:zxh hi) :
  Qf Tryz.prog F.f73 #[lsV u l,sI2 lo.1 lo.2,sI2 hi.1 hi.2] H (.tuple #[.int .i64 (zb2 l lo hi).1,.int .i64 (zb2 l lo hi).2.1,.int .i64 (zb2 l lo hi).2.2]):=by
 refine vc73 λb1 H2 hb1 hH2 b3 H4 hb3 hH4=>?_
 have l2:Hp.le H H2:=Hp.le_new (Hp.le_refl _) hb1 hH2
 have l24:Hp.le H2 H4:=Hp.le_new (Hp.le_refl _) hb3 hH4
 have l4:Hp.le H H4:=Hp.le_trans l2 l24
 have a1:H4.at ((Addr.mk b1 0 none).add 0)=some (.int .i64 lo.1):=Hp.at_le l24 (by subst hH2;simp[Hp.at,Hp.put,Addr.add])
 have a2:H4.at ((Addr.mk b1 0 none).add 1)=some (.int .i64 lo.2):=Hp.at_le l24 (by subst hH2;simp[Hp.at,Hp.put,Addr.add])
 have a3:H4.at ((Addr.mk b3 0 none).add 0)=some (.int .i64 hi.1):=by subst hH4;simp[Hp.at,Hp.put,Addr.add]
 have a4:H4.at ((Addr.mk b3 0 none).add 1)=some (.int .i64 hi.2):=by subst hH4;simp[Hp.at,Hp.put,Addr.add]
 have rc:=yqw (H:=H4) fo fi
 refine⟨_,y5v (r.le l4) fl,λhc=>⟨?_,l4⟩,λhc=>⟨_,_,⟨a1,a2⟩,_,_,⟨a3,a4⟩,_,_,rc,λhe=>⟨?_,l4⟩,λhe=>⟨λhp=>⟨?_,l4⟩,λhp=>?_⟩⟩⟩
 ·have hn:¬ yh6 l:=λok=>by rw[zkv ok] at hc;simp at hc
  rw[zku hn,zb3 (e:=8) (by unfold z7i;rw[if_neg hn]) (by decide)]
 ·have ok:yh6 l:=zkw.1 (by simpa using hc)
  have hn:¬ (okR lo/\okR hi):=λh=>by unfold zng at he;rw[if_pos h] at he;simp at he
  unfold zng
  rw[if_neg hn,zb3 (e:=8) (by unfold z7i;rw[if_pos ok,if_neg hn]) (by decide)]
 ·have ok:yh6 l:=zkw.1 (by simpa using hc)
  have hr:okR lo/\okR hi:=by
   by_cases h:okR lo/\okR hi
   ·exact h
   ·unfold zng at he;rw[if_neg h] at he;simp at he
  have hp:0<znm lo hi:=by rw[znh hr.1 hr.2] at hp;simpa using hp
  rw[zb3 (e:=2) (by unfold z7i;rw[if_pos ok,if_pos hr,if_pos hp]) (by decide)]
 ·have ok:yh6 l:=zkw.1 (by simpa using hc)
  have hr:okR lo/\okR hi:=by
   by_cases h:okR lo/\okR hi
   ·exact h
   ·unfold zng at he;rw[if_neg h] at he;simp at he
  have hp:¬ 0<znm lo hi:=by rw[znh hr.1 hr.2] at hp;simpa using hp
  have ea:z7i l lo hi=(ymj l l.ord.length).2:=by unfold z7i;rw[if_pos ok,if_pos hr,if_neg hp]
  have ep:ymh l=ymj l l.ord.length:=by unfold ymh;rw[if_pos ok]
  have plim:=ymn fl
  have sp:=x0o (r.le l4) fl
  rw[ep] at sp
  refine sp.mono λv H13 ⟨s,hv,l13,m⟩=>⟨s,_,hv,λb16 H17 hb16 hH17=>?_⟩
  refine(Var.new hH17).set s.v λH18 hH18=>?_
  have e18:H18=H13.put b16 (.cells #[s.v] T.s_api_Ratio (0,0)):=by rw[hH18,hH17,Hp.put_put]
  have l1318:Hp.le H13 H18:=Hp.le_new (Hp.le_refl _) hb16 e18
  have l418:=Hp.le_trans l13 l1318
  have l18:=Hp.le_trans l4 l418
  refine⟨λhx=>⟨?_,l18⟩,λhx=>?_⟩
  ·have hx:(ymj l l.ord.length).2≠0:=by simpa using hx
   rw[zb3 ea hx]
  have hx:(ymj l l.ord.length).2=0:=by simpa using hx
  rw[zb5 (by rw[ea,hx])]
  have D:=ok.desc hx
  have rx:Rd 2 fH H18 s (ymj l l.ord.length).1:=m.rdH.le l1318
  have lx:=rx.len
  have vs:H18.at ((Addr.mk b16 0 none).add 0)=some s.v:=(Var.new e18).at
  have s1:=x06 (H:=H18) (n:=(s.n:Int)) (K:=upM (xsM l) hi) (p:=λi=>decide (znm ((ymj l l.ord.length).1.getD i (0,0)) hi<=0)) (by omega) (by omega)
   (λi i0 i1=>zb0 vs rx (Hp.at_le l418 a3) (Hp.at_le l418 a4) D.ok hr.2 i0 (by omega)) (by have:=x6z (xsM l) hi;unfold xsM at this ⊢;omega)
   (λi h=>decide_eq_false (by
    have hl:=x6z (xsM l) hi
    have:=(D.up hr.2 (y0r (d:=((0:Int),(0:Int))) (i:=(i:Int)) (by omega) (by unfold xsM at h hl;omega))).2 (by rw[Int.toNat_natCast];exact h)
    rw[Int.toNat_natCast] at this
    omega))
   (λi h h'=>decide_eq_true (by
    have:=mt (D.up hr.2 (y0r (d:=((0:Int),(0:Int))) (i:=(i:Int)) (by omega) (by omega))).1 (by rw[Int.toNat_natCast];exact Nat.not_lt.2 h)
    rw[Int.toNat_natCast] at this
    omega))
  have s2:=x06 (H:=H18) (n:=(s.n:Int)) (K:=loM (xsM l) lo) (p:=λi=>decide (znm ((ymj l l.ord.length).1.getD i (0,0)) lo<0)) (by omega) (by omega)
   (λi i0 i1=>zb1 vs rx (Hp.at_le l418 a1) (Hp.at_le l418 a2) D.ok hr.1 i0 (by omega)) (by have:=y87 (xsM l) lo;unfold xsM at this ⊢;omega)
   (λi h=>decide_eq_false (by
    have hl:=y87 (xsM l) lo
    have:=(D.lo hr.1 (y0r (d:=((0:Int),(0:Int))) (i:=(i:Int)) (by omega) (by unfold xsM at h hl;omega))).2 (by rw[Int.toNat_natCast];exact h)
    rw[Int.toNat_natCast] at this
    omega))
   (λi h h'=>decide_eq_true (by
    have:=mt (D.lo hr.1 (y0r (d:=((0:Int),(0:Int))) (i:=(i:Int)) (by omega) (by omega))).1 (by rw[Int.toNat_natCast];exact Nat.not_lt.2 h)
    rw[Int.toNat_natCast] at this
    omega))
  exact⟨s,vs,_,s1,s,vs,_,s2,rfl,l18⟩

def inM(l:Ls)(lo hi:Int×Int):List Int:=(l.ord.take (loM (xsM l) lo)).drop (upM (xsM l) hi)
def inR(l:Ls)(lo hi:Int×Int):List Int×Int:=if z7i l lo hi=0 then (inM l lo hi,0) else ([],z7i l lo hi)
theorem y3u{l:Ls}{lo hi:Int×Int}(h:z7i l lo hi=0):inR l lo hi=(inM l lo hi,0):=if_pos h
theorem y3s{l:Ls}{lo hi:Int×Int}(h:z7i l lo hi≠0):inR l lo hi=([],z7i l lo hi):=if_neg h
theorem z80{l:Ls}{lo hi:Int×Int}(h:z7i l lo hi=0):upM (xsM l) hi<=loM (xsM l) lo/\loM (xsM l) lo<=l.ord.length/\(xsM l).length=l.ord.length/\z0n (xsM l):=by
 obtain⟨ok,o1,o2,hp,hx⟩:=z7k.1 h
 have D:=ok.desc hx
 have len:=(ymk _ hx).1
 have:=y87 (xsM l) lo
 refine⟨D.upLo o1 o2 hp,?_,len,D⟩
 unfold xsM at this ⊢;omega
theorem y3q{l:Ls}{lo hi:Int×Int}(h:z7i l lo hi=0):(inM l lo hi).length=loM (xsM l) lo-upM (xsM l) hi:=by
 obtain⟨a,b,c,d⟩:=z80 h
 unfold inM;rw[List.length_drop,List.length_take];omega

def zog(l:Ls)(lo hi:Int×Int):Int:=((inR l lo hi).1.length:Int)
theorem x0m{H:Hp}{u:Lu}{l:Ls}{lo hi:Int×Int}(r:RdL H u l)(fl:zxc l)(fo:zxh lo)(fi:zxh hi) :
  Qf Tryz.prog F.f31 #[lsV u l,sI2 lo.1 lo.2,sI2 hi.1 hi.2] H (.tuple #[.int .i64 (zog l lo hi),.int .i64 (inR l lo hi).2]):=by
 have f1:=fl.o
 by_cases he:z7i l lo hi=0
 ·obtain⟨q1,q2,q3,q4⟩:=z80 he
  have il:=y3q he
  refine vc31 ⟨_,_,_,x0l r fl fo fi,?_,?_,Hp.le_refl _⟩
  ·rw[zb5 he];unfold inI;simp only;omega
  ·unfold zog
   rw[zb5 he,y3u he]
   simp only
   rw[il,Int.ofNat_sub q1]
 ·refine vc31 ⟨_,_,_,x0l r fl fo fi,?_,?_,Hp.le_refl _⟩
  ·rw[zb3 rfl he];unfold inI;simp only;omega
  ·unfold zog
   rw[zb3 rfl he,y3s he];rfl

end Go.Proofs.YtnhdkkblehadjabGreat
end
