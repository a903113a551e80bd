/- The engine, parts M1, M2, M3, M4, put together. Conditions: none. -/
import Derived.Test.YtnhdkkblehadjaaGreatPO1
import Derived.Test.YtnhdkkblehadjaaGreatVgKlist
open Bool renaming and_eq_true->Qa,or_eq_false_iff->Qb,not_eq_false'->Qc,false_or->Qd,or_eq_true->Qe,not_true->Qg
open Go.Eng.Hp renaming le_refl->Qh
open Int renaming toNat_natCast->Qi,le_refl->Qj
open List renaming length->Ql,take_length->Qm,range->Qn,mem_range->Qo,all_eq_true->Qp
set_option linter.unusedVariables false
set_option maxHeartbeats 8000000
section
set_option maxRecDepth 100000
open Go Go.Eng Go.Proofs
namespace Go.Proofs.YtnhdkkblehadjaaGreat
variable{H:Hp}{u:Slc}{i a b:Int}{f:List Pt}{k:Nat}{o:List Int}{t now:Int×Int}{s:Int×(Int×Int)}
structure Ls where
 ck:Ck
 ord:List Int
 num:List Int
deriving DecidableEq
def Ls.zero:Ls:=⟨.zero,[],[]⟩
def yn6(o:List Int)(i:Nat):Int×Int:=(o.getD (i+1) 0,o.getD i 0)
def zco(ct:Ct)(o n:List Int)(i:Nat):Bool:=decide (0<=atC ct (n.getD i 0))&&((y2r ct.list (atC ct (n.getD i 0))).2==yn6 o i)
structure yk9(l:Ls):Prop where
 ck:okK l.ck
 ord:l.ord=yll l.ck.f l.ck.now
 nl:l.num.length=l.ord.length-1
 cl:l.ck.ct.list.length=l.num.length
 certs:(Qn l.num.length).all (zco l.ck.ct l.ord l.num)=true
instance (l:Ls):Decidable (yk9 l) :=
 decidable_of_iff (okK l.ck/\l.ord=yll l.ck.f l.ck.now/\l.num.length=l.ord.length-1/\l.ck.ct.list.length=l.num.length/\(Qn l.num.length).all (zco l.ck.ct l.ord l.num)=true)
  ⟨λ⟨a,b,c,d,e⟩=>⟨a,b,c,d,e⟩,λ⟨a,b,c,d,e⟩=>⟨a,b,c,d,e⟩⟩
def zlx(l:Ls):Int:=if yk9 l then 0 else 8
theorem zlz{l:Ls}(h:yk9 l):zlx l=0:=by unfold zlx;rw[Zp h]
theorem zly{l:Ls}(h:¬ yk9 l):zlx l=8:=by unfold zlx;rw[Zn h]
theorem zm0{l:Ls}:zlx l=0↔yk9 l:=by
 unfold zlx;split
 ·simp[*]
 ·simp[*]
theorem yk9.of{l:Ls}(ck:okK l.ck)(ord:l.ord=yll l.ck.f l.ck.now)(nl:l.num.length=l.ord.length-1)(cl:l.ck.ct.list.length=l.num.length)(cs:∀k,k<l.num.length->zco l.ck.ct l.ord l.num k=true):yk9 l :=
 ⟨ck,ord,nl,cl,Qp.2 λk hk=>cs k (Qo.1 hk)⟩
theorem yk9.cert{l:Ls}(h:yk9 l)(hk:k<l.num.length):zco l.ck.ct l.ord l.num k=true:=Qp.1 h.certs k (Qo.2 hk)
structure Lu where
 k:Cu
 o:Slc
 n:Slc
abbrev lsV(u:Lu)(l:Ls):Value:=vLs l.ck.now.1 l.ck.now.2 u.k.f l.ck.ct.next u.k.cl u.k.u1 u.k.u2 u.k.u3 u.k.u4 u.k.u5 u.k.d u.o u.n
structure RdL(H:Hp)(u:Lu)(l:Ls):Prop where
 k:RdK H u.k l.ck
 o:RdI H u.o l.ord
 n:RdI H u.n l.num
theorem RdL.le{H H':Hp}{u:Lu}{l:Ls}(r:RdL H u l)(h:Hp.le H H'):RdL H' u l:=⟨r.k.le h,r.o.le h,r.n.le h⟩
structure zzh(l:Ls):Prop where
 k:zze l.ck
 o:l.ord.length<=1000000
 n:l.num.length<=1000000
theorem yk9.fit{l:Ls}(h:yk9 l):zzh l:=by
 have a:=h.ck.f.small;have b:=congrArg Ql h.ord;rw[ylo] at b;have c:=h.nl;exact⟨h.ck.fit,by omega,by omega⟩
theorem ym9{c:Ck}(ok:okK c):ym8 c.f c.now=(yll c.f c.now,0):=by unfold ym8;rw[Zp (x8v.2 ⟨ok.f,ok.now⟩)]
theorem zul{a b:Slc}{xs ys:List Int}(ha:RdI H a xs)(hb:RdI H b ys)(h63:xs.length<=1000000000):qF F.f73 #[a.v,b.v] H (.bool (xs==ys)):=by
 have la:=ha.len;have lb:=hb.len;refine vc73 ⟨λh=>⟨?_,Qh H⟩,λh=>?_⟩
 ·have hl:(a.n:Int)≠b.n:=by simpa using h
  have:(xs==ys)=false:=by
   rw[beq_eq_false_iff_ne];intro e;subst e;omega
  rw[this]
 ·have hl:(a.n:Int)=b.n:=by simpa using h
  refine⟨λn H4=>H4=H/\0<=n/\n<=xs.length/\xs.take n.toNat=ys.take n.toNat,λn _=>xs.length-n.toNat,⟨rfl,by omega,by omega,by simp⟩,λn H4 ⟨hH,h0,h1,h2⟩=>?_⟩;subst hH;refine⟨λhn=>?_,λhn=>⟨?_,Qh _⟩⟩
  ·have hn:n<a.n:=by simpa using hn
   have gx:=y36 (xs:=xs) h0 (by omega);have gy:=y36 (xs:=ys) h0 (by omega);refine⟨ha.inN h0 hn,_,ha.get h0 (by omega),hb.inN h0 (by omega),_,hb.get h0 (by omega),λhne=>⟨?_,Qh _⟩,λhe=>⟨?_,⟨rfl,by omega,by omega,?_⟩,?_⟩⟩
   ·have:(xs==ys)=false:=by
     rw[beq_eq_false_iff_ne];intro e;subst e;simp at hne
    rw[this]
   ·unfold inI;omega
   ·have e:(n+1).toNat=n.toNat+1:=by omega
    rw[e];exact(x89 gx gy h2).2 (by simpa using he)
   ·show xs.length-(n+1).toNat<xs.length-n.toNat;omega
  ·have hn:n=xs.length:=by
    have:¬ n<a.n:=by simpa using hn
    omega
   subst hn;have:xs=ys:=by
    have e1:xs.take xs.length=xs:=Qm;have e2:ys.take xs.length=ys:=by
     have:xs.length=ys.length:=by omega
     rw[this];exact Qm
    rw[Qi] at h2;rw[← e1,h2,e2]
   subst this;simp
theorem y88(h:RdI H u o)(h0:0<=i)(h1:i+1<o.length)(h2:o.length<=1000000) :
  qF F.f64 #[u.v,vi i] H (sI2 (yn6 o i.toNat).1 (yn6 o i.toNat).2):=by
 have lo:=h.len;refine vc64 ⟨h.inN h0 (by omega),_,h.get h0 (by omega),by unfold inI;omega,h.inN (by omega) (by omega),_,h.get (by omega) (by omega),?_,Qh _⟩;unfold yn6;rw[show (i+1).toNat=i.toNat+1 by omega]
theorem ywn{u:Lu}{l:Ls}(h:RdI H u.o l.ord)(h0:0<=i)(h1:i+1<l.ord.length)(h2:l.ord.length<=1000000) :
  qF F.f46 #[lsV u l,vi i] H (sI2 (yn6 l.ord i.toNat).1 (yn6 l.ord i.toNat).2):=by
 have lo:=h.len;refine vc46 ⟨h.inN h0 (by omega),_,h.get h0 (by omega),by unfold inI;omega,h.inN (by omega) (by omega),_,h.get (by omega) (by omega),?_,Qh _⟩;unfold yn6;rw[show (i+1).toNat=i.toNat+1 by omega]
theorem zcp{ct:Ct}{n:List Int}(ok:okC ct):zco ct o n k=true↔(y2n ct (n.getD k 0)).2=0/\(y2n ct (n.getD k 0)).1=yn6 o k:=by
 unfold zco y2n;rw[Zp ok,Qa,decide_eq_true_iff,beq_iff_eq];by_cases h:atC ct (n.getD k 0)<0
 ·rw[Zp h];exact⟨λ⟨a,_⟩=>by omega,λ⟨a,_⟩=>by simp at a⟩
 ·rw[Zn h];exact⟨λ⟨_,b⟩=>⟨rfl,b⟩,λ⟨_,b⟩=>⟨by omega,b⟩⟩
theorem yah(n:Nat):(if (n:Int)-1>0 then (n:Int)-1 else 0)=((n-1:Nat):Int):=by
 split <;> omega
theorem yka{l:Ls}{c6:Bool}{c:Int}(hn:((!c6||a != b)||c != a)=false):c6=true/\a=b/\c=a:=by
 simp only[Qb,Qc,bne_eq_false_iff_eq] at hn;exact⟨hn.1.1,hn.1.2,hn.2⟩
theorem y86{u:Lu}{l:Ls}(r:RdL H u l)(fl:zzh l):qF F.f31 #[lsV u l] H (vi (zlx l)):=by
  have fk:=fl.k;have lo:=r.o.len;have ln:=r.n.len;have lc:=r.k.cl.len;have f1:=fl.o;have f2:=fl.n;have f3:=fk.ct;have f4:=fk.f;refine vc31 ⟨_,zmq r.k fk,λhc=>⟨?_,Qh _⟩,λhc=>?_⟩
  · have hc:zlr l.ck≠0:=by simpa using hc
    rw[zly λh=>hc (zlv h.ck)]
  have ok:okK l.ck:=zlw.1 (by simpa using hc);have lf:=ok.f.small;refine(zxt r.k.f fk.now).mono λv H3 ⟨o,hv,l3,m⟩=>⟨o,_,hv,?_⟩
  rw[ym9 ok] at m;have mo:=m.rdI;have lm:=mo.len;rw[ylo] at lm;refine⟨_,zul mo (r.o.le l3) (by rw[ylo];omega),λ_=>by unfold inI;omega,λhb=>⟨?_,l3⟩,λhb=>?_⟩
  · rw[yah] at hb
    rw[zly λh=>?_];have h1:=h.ord;have h2:=h.nl;have h3:=h.cl;have h4:=congrArg Ql h1;rw[ylo] at h4;rw[← h1] at hb;simp only[beq_self_eq_true,Qg,Qd,Qe,bne_iff_ne] at hb;omega
  rw[yah] at hb;obtain⟨b1,b2,b3⟩:=yka (l:=l) hb;have eo:yll l.ck.f l.ck.now=l.ord:=by simpa using b1
  have el:=congrArg Ql eo;rw[ylo] at el;rw[eo] at mo;refine upto (N:=l.num.length) (J:=λi=>∀k:Nat,k<i->zco l.ck.ct l.ord l.num k=true) (by omega) (λk hk=>by omega) λi i0 i1 j=>⟨λhn=>?_,λhn=>⟨?_,l3⟩⟩
  · have hi:i<l.num.length:=by have:i<u.n.n:=by simpa using hn
                               omega
    refine⟨r.n.inN i0 (by omega),_,RdI.get (r.n.le l3) i0 hi,_,_,_,zce (c:=l.ck.ct) (n:=l.num.getD i.toNat 0) (r.k.cl.le l3),_,_,λ_=>y88 (o:=l.ord) mo i0 (by omega) (by omega),λhb=>⟨?_,l3⟩,λhb=>upto.nx i0 hi (by omega) ?_⟩
    · rw[zly λh=>?_]
      have:=(zcp (n:=l.num) ok.ct).1 (h.cert (k:=i.toNat) (by omega));rw[this.1,this.2] at hb;simp at hb
    · intro k hk
      by_cases e:k=i.toNat
      · subst e
        rw[zcp ok.ct];simp only[Qb,bne_eq_false_iff_eq,Qc,Qa,beq_iff_eq] at hb;exact⟨hb.1,Prod.ext hb.2.1 hb.2.2⟩
      · exact j k (by omega)
  · have hi:i=l.num.length:=by have:¬ i<u.n.n:=by simpa using hn
                               omega
    rw[zlz (yk9.of ok eo.symm (by omega) (by omega) λk hk=>j k (by omega))]
theorem yw2{u:Lu}{l:Ls}(r:RdL H u l)(fl:zzh l):qF F.f15 #[lsV u l] H (vi (zlx l)):=by
  have fk:=fl.k;have lo:=r.o.len;have ln:=r.n.len;have lc:=r.k.cl.len;have f1:=fl.o;have f2:=fl.n;have f3:=fk.ct;have f4:=fk.f;refine vc15 ⟨_,yvz r.k fk,λhc=>?_,λhc=>?_⟩
  case refine_2 =>
    have hc:zlr l.ck≠0:=by simpa using hc
    have h8:zlr l.ck=8:=zls λok=>hc (zlv ok)
    rw[h8];refine⟨true,λh=>by simp at h,λh=>by simp at h,λh=>⟨?_,Qh _⟩,λh=>by simp at h⟩;rw[zly λh=>hc (zlv h.ck)]
  have h0:zlr l.ck=0:=by simpa using hc
  have ok:okK l.ck:=zlw.1 h0;have lf:=ok.f.small;refine(ywg r.k.f ok.f ok.now).mono λv H3 ⟨o,hv,l3,m⟩=>⟨l3,o,hv,?_⟩
  have mo:=m.rdI;rw[h0];refine⟨_,λ_=>yzj (r.o.le l3) mo (by omega),λ_=>by unfold inI;omega,λhb=>⟨?_,l3⟩,λhb=>?_⟩
  · rw[lo,yah] at hb
    rw[zly λh=>?_];have h1:=h.ord;have h2:=h.nl;have h3:=h.cl;rw[← h1] at hb;simp only[bne_self_eq_false,beq_self_eq_true,Qg,Qd,Qe,bne_iff_ne] at hb;omega
  rw[lo,yah,bne_self_eq_false,Qd] at hb;obtain⟨b1,b2,b3⟩:=yka (l:=l) hb;have eo:l.ord=yll l.ck.f l.ck.now:=by simpa using b1
  have el:=congrArg Ql eo;rw[ylo] at el;refine upto (N:=l.num.length) (J:=λi=>∀k:Nat,k<i->zco l.ck.ct l.ord l.num k=true) (by omega) (λk hk=>by omega) λi i0 i1 j=>⟨λhn=>?_,λhn=>⟨?_,l3⟩⟩
  · have hi:i<l.num.length:=by have:i<u.n.n:=by simpa using hn
                               omega
    have lk:∀h:0<=atC l.ck.ct (l.num.getD i.toNat 0),atC l.ck.ct (l.num.getD i.toNat 0)<l.ck.ct.list.length:=λh=>(z88 h).1
    refine⟨r.n.inN i0 (by omega),_,RdI.get (r.n.le l3) i0 hi,_,yu0 (c:=l.ck.ct) (r.k.cl.le l3) (by omega),λh=>r.k.cl.inS (by simpa using h) (lk (by simpa using h)),_,_,λh=>(r.k.cl.le l3).gD2 (by simpa using h) (lk (by simpa using h)),_,_,λ_=>ywn (u:=u) (l:=l) (r.o.le l3) i0 (by omega) (by omega),λhb=>⟨?_,l3⟩,λhb=>upto.nx i0 hi (by omega) ?_⟩
    · rw[zly λh=>?_]
      have hk:=h.cert (k:=i.toNat) (by omega);unfold zco at hk;simp only[Qa,Zq,beq_iff_eq] at hk;have e2:(l.ck.ct.list.getD (atC l.ck.ct (l.num.getD i.toNat 0)).toNat (0,0,0)).2=yn6 l.ord i.toNat:=hk.2;rw[e2,Zv (by omega)] at hb;simp at hb
    · intro k hk
      by_cases e:k=i.toNat
      · subst e
        unfold zco;simp only[Qb,Zt,Qc,Qa,beq_iff_eq] at hb;simp only[Qa,Zq,beq_iff_eq];exact⟨by omega,Prod.ext hb.2.1 hb.2.2⟩
      · exact j k (by omega)
  · have hi:i=l.num.length:=by have:¬ i<u.n.n:=by simpa using hn
                               omega
    rw[zlz (yk9.of ok eo (by omega) (by omega) λk hk=>j k (by omega))]
theorem zxr{id:Int}(hf:Rd 3 fD H u f)(of:okF f)(h0:0<=yr5 f id) :
  qF F.f120 #[vFd u,vi id] H (.tuple #[ptW (gP f (yr5 f id)),vi 0]):=by
 have hl:=of.small;have hb:=zb4 (n:=id) hf of.inc (by omega);rcases ys1 of.inc id with⟨h1,h2⟩|⟨h1,h2⟩
 ·have e:yr5 f id=yrl (f.map (·.1)) id:=h2;rw[h1,← e] at hb;have hp:qF F.f162 #[vFd u,vi id] H (.tuple #[vi (yr5 f id),vi 0]) :=
   vc162 ⟨_,zxq hf,λh=>by rw[zlh.2 of] at h;simp at h,λ_=>⟨_,_,vc205 ⟨_,_,hb,rfl,Qh _⟩,λh=>by simp at h,λ_=>⟨rfl,Qh _⟩⟩⟩
  refine vc120 ⟨_,_,hp,λh=>by simp at h,λ_=>?_⟩;exact hf.ldD h0 (yr6 h0) ⟨rfl,Qh _⟩
 ·have:yr5 f id = -1:=h2;omega
def za1(f:List Pt)(hi lo:Int):Gp:=⟨hi,lo,(gP f (yr5 f hi)).2.1-(gP f (yr5 f lo)).2.1,(gP f (yr5 f hi)).2.2-(gP f (yr5 f lo)).2.2⟩
theorem za2(of:okF f)(h1:0<=yr5 f a)(h2:0<=yr5 f b):inI (za1 f a b).a/\inI (za1 f a b).b:=by
 have p1:=of.pt h1;have p2:=of.pt h2;have b1:=p1.b;have b2:=p2.b;unfold za1 inI;simp only;omega
theorem y1u(hf:Rd 3 fD H u f)(of:okF f)(h1:0<=yr5 f a)(h2:0<=yr5 f b) :
  qF F.f65 #[vFd u,vi a,vi b] H (gpV (za1 f a b)):=by
 have hi:=za2 of h1 h2;exact vc65 ⟨_,_,_,_,zxr hf of h1,_,_,_,_,zxr hf of h2,hi.1,hi.2,rfl,Qh _⟩
theorem ym6(of:okF f){x:Int}(hx:x∈yll f t):0<=yr5 f x:=by
 obtain⟨p,hp,e⟩:=List.mem_map.1 hx;have hpf:p∈f:=(x4n t f).mem_iff.1 hp;by_cases h:yr5 f x<0
 ·have:=y5v h p hpf;simp at this;exact absurd e this
 ·omega
theorem yk9.pos{l:Ls}(h:yk9 l)(i0:0<=i)(i1:i<l.ord.length):0<=yr5 l.ck.f (l.ord.getD i.toNat 0) :=
 ym6 h.ck.f (t:=l.ck.now) (by rw[← h.ord];exact List.mem_of_getElem? (y36 i0 i1))
def fGp(g:Gp):List Value:=[vi g.hi,vi g.lo,vi g.a,vi g.b]
theorem zwv:∀(x:Gp),∀v∈fGp x,v.oneCell'=true:=λx v hv=>by
 simp[fGp] at hv;rcases hv with rfl|rfl|rfl|rfl <;> rfl
def y21(l:Ls)(n:Nat):List Gp:=(Qn n).map λi=>za1 l.ck.f (l.ord.getD i 0) (l.ord.getD (i+1) 0)
def y1y(l:Ls):List Gp:=y21 l l.num.length
def ofM(l:Ls):List Gp×Int:=if yk9 l then (y1y l,0) else ([],8)
theorem y23(l:Ls)(n:Nat):y21 l (n+1)=y21 l n++[za1 l.ck.f (l.ord.getD n 0) (l.ord.getD (n+1) 0)]:=by
 unfold y21;rw[List.range_succ,List.map_append];rfl
theorem y22(l:Ls)(n:Nat):(y21 l n).length=n:=by unfold y21;simp
theorem y24{u:Lu}{l:Ls}(r:RdL H u l)(fl:zzh l) :
    fN F.f28 #[lsV u l] H λv H'=>∃s:Slc,v=.tuple #[s.v,vi (ofM l).2]/\Hp.le H H'/\Mine 4 fGp T.api_Gap H H' s (ofM l).1:=by
  have lo:=r.o.len;have ln:=r.n.len;have f2:=fl.n;refine vc28 ⟨_,y86 r fl,λhc=>?_,λhc=>?_⟩
  · have hn:¬ yk9 l:=λok=>by rw[zlz ok] at hc;simp at hc
    rw[zly hn];unfold ofM;rw[Zn hn];exact⟨zs,rfl,Qh _,.inl ⟨rfl,rfl⟩⟩
  have ok:yk9 l:=zm0.1 (by simpa using hc);unfold ofM;rw[Zp ok];have nl:=ok.nl;refine⟨λs i H'=>0<=i/\i<=l.num.length/\Hp.le H H'/\Mine 4 fGp T.api_Gap H H' s (y21 l i.toNat),λ_ i _=>(l.num.length-i).toNat,⟨Qj _,by omega,Qh _,.inl ⟨rfl,rfl⟩⟩,λs i H' ⟨i0,i1,le,m⟩=>⟨λhn=>?_,λhn=>?_⟩⟩
  · have hi:i<l.num.length:=by have:i<u.n.n:=by simpa using hn
                               omega
    have h1:=ok.pos i0 (by omega);have h2:=ok.pos (i:=i+1) (by omega) (by omega);refine⟨r.o.inN i0 (by omega),_,RdI.get (r.o.le le) i0 (by omega),by unfold inI;omega,r.o.inN (by omega) (by omega),_,RdI.get (r.o.le le) (by omega) (by omega),_,_,_,_,y1u (r.k.f.le le) ok.ck.f h1 h2,λb H14 hb hH=>?_⟩;refine(z7b (k:=4) (f:=fGp) (bytes:=32) (x:=za1 l.ck.f (l.ord.getD i.toNat 0) (l.ord.getD (i+1).toNat 0)) (e:=T.api_Gap) (by kernel_rfl) (by decide) (λ_=>rfl) zwv le m hb hH rfl (by rw[y22];omega) (by omega)).mono λv H16 ⟨d,hv,l16,m16,_,_⟩=>⟨d,hv,by unfold inI;omega,⟨by omega,by omega,l16,?_⟩,?_⟩
    · rw[show (i+1).toNat=i.toNat+1 by omega] at m16 ⊢
      rw[y23];exact m16
    · show (l.num.length-(i+1):Int).toNat<(l.num.length-i:Int).toNat;omega
  · have hi:i=l.num.length:=by have:¬ i<u.n.n:=by simpa using hn
                               omega
    rw[hi,Qi] at m;exact⟨s,rfl,le,m⟩
theorem zoe{g:Gp}(h:(zod g t).2=0):okR (zod g t).1:=by
 unfold zod at h ⊢;split
 ·rename_i hg;rw[Zp hg] at h;split
  ·rename_i h2;rw[Zp h2] at h;cases h
  ·rename_i h2;obtain⟨hg,_⟩:=hg;unfold yk6 at hg;obtain⟨x,y,gg,h1,e,h3,h4,h5⟩:=yc5 (A:=g.a) (B:=g.b) (by omega) (by omega) (by omega) (by omega);rw[e];exact h5
 ·rename_i hg;rw[Zn hg] at h;cases h
def x5n(now:Int×Int)(s:Int×(Int×Int))(x:Gp×Nat):Int×(Int×Int) :=
 if (zod x.1 now).2=0/\(s.1<0\/zp5 (zod x.1 now).1 s.2<0) then ((x.2:Int),(zod x.1 now).1) else s
theorem x5p{g:Gp}{i:Nat}(h1:(zod g now).2=0)(h2:s.1<0\/zp5 (zod g now).1 s.2<0):x5n now s (g,i)=((i:Int),(zod g now).1):=Zp ⟨h1,h2⟩
theorem x5o{g:Gp}{i:Nat}(h:¬ ((zod g now).2=0/\(s.1<0\/zp5 (zod g now).1 s.2<0))):x5n now s (g,i)=s:=Zn h
def z9u(now:Int×Int)(gs:List Gp):Int×(Int×Int):=gs.zipIdx.foldl (x5n now) (-1,(0,0))
theorem z9w(now:Int×Int)(gs:List Gp)(g:Gp):z9u now (gs++[g])=x5n now (z9u now gs) (g,gs.length):=by
 unfold z9u;rw[List.zipIdx_append,List.foldl_append];simp
theorem z9v(now:Int×Int):∀(n:Nat)(gs:List Gp),gs.length=n->(z9u now gs).1<gs.length/\-1<=(z9u now gs).1/\((z9u now gs).1<0->(z9u now gs).2=(0,0))/\(0<=(z9u now gs).1->okR (z9u now gs).2)
 | 0,gs,h=>by
  have:gs=[]:=List.length_eq_zero_iff.1 h;subst this;exact⟨(show (-1:Int)<0 by omega),(show (-1:Int)<=-1 by omega),λ_=>rfl,λh=>absurd (show (0:Int)<=-1 from h) (by omega)⟩
 | n+1,gs,h=>by
  obtain⟨init,last,rfl⟩:∃i l,gs=i++[l]:=⟨gs.dropLast,gs.getLast (by intro e;subst e;cases h),(List.dropLast_concat_getLast _).symm⟩;have hl:init.length=n:=by simpa using h
  obtain⟨i0,i1,i2,i3⟩:=z9v now n init hl;rw[z9w];unfold x5n;split
  ·rename_i hc;exact⟨by simp;omega,by simp only;omega,λh=>by simp only at h;omega,λ_=>zoe hc.1⟩
  ·exact⟨by simp;omega,i1,i2,i3⟩
theorem zp0{a b:Int×Int}(h1:okR a)(h2:okR b):cmpM a b=(zp5 a b,0):=Zp ⟨h1,h2⟩
theorem zz0:zzn (0,0):=⟨by show inI 0;unfold inI;omega,by show inI 0;unfold inI;omega⟩
def zyw(l:Ls):Int×(Int×Int)×Int :=
 if yk9 l then (if (z9u l.ck.now (y1y l)).1<0 then (0,(0,0),6) else ((z9u l.ck.now (y1y l)).1,(z9u l.ck.now (y1y l)).2,0)) else (0,(0,0),8)
theorem Rd.gGp{xs:List Gp}(h:Rd 4 fGp H u xs)(h0:0<=i)(h1:i<xs.length) :
  y63 u.a u.n i/\H.at (zu4 u.a 4 i)=some (vi (xs.getD i.toNat ⟨0,0,0,0⟩).hi)/\H.at ((zu4 u.a 4 i).add 1)=some (vi (xs.getD i.toNat ⟨0,0,0,0⟩).lo)/\H.at ((zu4 u.a 4 i).add 2)=some (vi (xs.getD i.toNat ⟨0,0,0,0⟩).a)/\H.at ((zu4 u.a 4 i).add 3)=some (vi (xs.getD i.toNat ⟨0,0,0,0⟩).b):=by
 have hg:=y3h (d:=(⟨0,0,0,0⟩:Gp)) h0 h1;exact⟨h.inS h0 h1,h.at0 h0 hg rfl,h.atj (j:=1) h0 hg rfl,h.atj (j:=2) h0 hg rfl,h.atj (j:=3) h0 hg rfl⟩
theorem y1x{u:Lu}{l:Ls}(r:RdL H u l)(fl:zzh l) :
    qF F.f9 #[lsV u l] H (.tuple #[vi (zyw l).1,raW (zyw l).2.1,vi (zyw l).2.2]):=by
  have f2:=fl.n;refine vc9 ((y24 r fl).mono λv H2 ⟨s,hv,l2,m⟩=>⟨s,_,hv,λhc=>?_,λhc=>?_⟩)
  · have hn:¬ yk9 l:=λok=>by
      have:(ofM l).2≠0:=by simpa using hc
      unfold ofM at this;rw[Zp ok] at this;exact this rfl
    unfold zyw ofM;rw[Zn hn,Zn hn];exact⟨rfl,l2⟩
  have ok:yk9 l:=by
    have:(ofM l).2=0:=by simpa using hc
    by_cases h:yk9 l
    · exact h
    · unfold ofM at this;rw[Zn h] at this;cases this
  have eo:ofM l=(y1y l,0):=by unfold ofM;rw[Zp ok]
  rw[eo] at m;have rm:Rd 4 fGp H2 s (y1y l):=m.rd (λ_=>rfl);have lm:=rm.len;have lg:(y1y l).length=l.num.length:=y22 _ _;unfold zyw;rw[Zp ok];refine⟨λb i n9 n10 H'=>H'=H2/\0<=i/\i<=(y1y l).length/\(b,(n9,n10))=z9u l.ck.now ((y1y l).take i.toNat),λ_ i _ _ _=>((y1y l).length-i).toNat,⟨rfl,Qj _,by omega,rfl⟩,λb i n9 n10 H' ⟨e,i0,i1,eb⟩=>?_⟩;subst e;obtain⟨q1,q2,q3,q4⟩:=z9v l.ck.now _ ((y1y l).take i.toNat) rfl;rw[← eb] at q1 q2 q3 q4;simp only at q1 q2 q3 q4;refine⟨λhn=>?_,λhn=>?_⟩
  · have hi:i<(y1y l).length:=by have:i<s.n:=by simpa using hn
                                 omega
    obtain⟨gs,g1,g2,g3,g4⟩:=Rd.gGp rm i0 hi;have hg:=y3h (d:=(⟨0,0,0,0⟩:Gp)) i0 hi;generalize (y1y l).getD i.toNat ⟨0,0,0,0⟩=g at hg g1 g2 g3 g4;have hs:z9u l.ck.now ((y1y l).take (i+1).toNat)=x5n l.ck.now (b,(n9,n10)) (g,i.toNat):=by
      rw[show (i+1).toNat=i.toNat+1 by omega,x88 hg,z9w,← eb,List.length_take,show min i.toNat (y1y l).length=i.toNat by omega]
    have ms:((y1y l).length-(i+1):Int).toNat<((y1y l).length-i:Int).toNat:=by omega
    have lt:=List.length_take_le i.toNat (y1y l);refine⟨gs,_,_,_,_,⟨g1,g2,g3,g4⟩,_,_,_,y1w (g:=g) (t:=l.ck.now) fl.k.now,λhe=>?_,λhe=>?_⟩
    · have he:(zod g l.ck.now).2≠0:=by simpa using he
      exact⟨by unfold inI;omega,⟨rfl,by omega,by omega,by rw[hs,x5o λh=>he h.1]⟩,ms⟩
    · have he:(zod g l.ck.now).2=0:=by simpa using he
      have oc:=zoe he;have fw:zzn (n9,n10):=by
        by_cases hb:b<0
        · rw[q3 hb];exact zz0
        · exact(q4 (by omega)).fit
      have rc:=yuj (H:=H') (a:=(zod g l.ck.now).1) (b:=(n9,n10)) oc.fit fw;refine⟨_,_,rc,λhb=>?_,λhb=>?_⟩
      · refine⟨by unfold inI;omega,⟨rfl,by omega,by omega,?_⟩,ms⟩
        have hb:b<0\/(cmpM (zod g l.ck.now).1 (n9,n10)).1<0:=by simpa using hb
        have hb2:b<0\/zp5 (zod g l.ck.now).1 (n9,n10)<0:=by
          rcases hb with hb|hb
          · exact .inl hb
          · by_cases hb0:b<0
            · exact .inl hb0
            · right;rw[zp0 oc (q4 (by omega))] at hb;exact hb
        rw[hs,x5p he hb2,Int.toNat_of_nonneg i0]
      · have hb:¬ b<0/\¬ (cmpM (zod g l.ck.now).1 (n9,n10)).1<0:=by simpa using hb
        refine⟨by unfold inI;omega,⟨rfl,by omega,by omega,?_⟩,ms⟩;have hc:=hb.2;rw[zp0 oc (q4 (by omega))] at hc;rw[hs,x5o λh=>h.2.elim hb.1 hc]
  · have hi:i=(y1y l).length:=by have:¬ i<s.n:=by simpa using hn
                                 omega
    rw[hi,Qi,Qm] at eb;rw[← eb];refine⟨λhb=>?_,λhb=>?_⟩
    · rw[Zp (by simpa using hb)];exact⟨rfl,l2⟩
    · rw[Zn (by simpa using hb)];exact⟨rfl,l2⟩
theorem yw3{u w:Lu}{l:Ls}(r:RdL H u l)(s:RdL H w l)(fl:zzh l):qF F.f14 #[lsV u l,lsV w l] H (.bool true):=by
 have f1:=fl.o;have f2:=fl.n;refine vc14 ⟨_,yw0 r.k s.k fl.k,_,λ_=>yzj r.o s.o (by omega),_,λ_=>yzj r.n s.n (by omega),?_,Qh _⟩;simp
