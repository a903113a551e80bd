/- The engine, parts M1, M2, M3, M4, put together. Conditions: none. -/
import Derived.Test.YtnhdkkblehadjabGreatPO1
import Derived.Test.YtnhdkkblehadjabGreatVgKlist
import Derived.Test.YtnhdkkblehadjabGreatVgStd
import Derived.Test.YtnhdkkblehadjabGreatFs
import Derived.Test.YtnhdkkblehadjabGreatPK1
import Derived.Test.YtnhdkkblehadjabGreatVgBase
set_option linter.unusedVariables false
section
/- Kinetic lists: which are valid; klist.Check and the reference's. Conditions: none. -/
set_option maxRecDepth 100000
open Go Go.Eng Go.Proofs
namespace Go.Proofs.YtnhdkkblehadjabGreat

structure Ls where
 ck:Ck
 ord:List Int
 num:List Int
deriving DecidableEq
def Ls.zero:Ls:=⟨.zero,[],[]⟩
def ykb(o:List Int)(i:Nat):Int×Int:=(o.getD (i+1) 0,o.getD i 0)
def zd5(ct:Ct)(o n:List Int)(i:Nat):Bool:=decide (0<=atC ct (n.getD i 0))&&((y01 ct.list (atC ct (n.getD i 0))).2==ykb o i)
structure yh6(l:Ls):Prop where
 ck:okK l.ck
 ord:l.ord=yis l.ck.f l.ck.now
 nl:l.num.length=l.ord.length-1
 cl:l.ck.ct.list.length=l.num.length
 certs:(List.range l.num.length).all (zd5 l.ck.ct l.ord l.num)=true
instance (l:Ls):Decidable (yh6 l) :=
 decidable_of_iff (okK l.ck/\l.ord=yis l.ck.f l.ck.now/\l.num.length=l.ord.length-1/\l.ck.ct.list.length=l.num.length/\(List.range l.num.length).all (zd5 l.ck.ct l.ord l.num)=true)
  ⟨λ⟨a,b,c,d,e⟩=>⟨a,b,c,d,e⟩,λ⟨a,b,c,d,e⟩=>⟨a,b,c,d,e⟩⟩
def zkt(l:Ls):Int:=if yh6 l then 0 else 8
theorem zkv{l:Ls}(h:yh6 l):zkt l=0:=by unfold zkt;rw[if_pos h]
theorem zku{l:Ls}(h:¬ yh6 l):zkt l=8:=by unfold zkt;rw[if_neg h]
theorem zkw{l:Ls}:zkt l=0↔yh6 l:=by
 unfold zkt;split
 ·simp[*]
 ·simp[*]
theorem yh6.of{l:Ls}(ck:okK l.ck)(ord:l.ord=yis l.ck.f l.ck.now)(nl:l.num.length=l.ord.length-1)(cl:l.ck.ct.list.length=l.num.length)(cs:∀k,k<l.num.length->zd5 l.ck.ct l.ord l.num k=true):yh6 l :=
 ⟨ck,ord,nl,cl,List.all_eq_true.2 λk hk=>cs k (List.mem_range.1 hk)⟩
theorem yh6.cert{l:Ls}(h:yh6 l){k:Nat}(hk:k<l.num.length):zd5 l.ck.ct l.ord l.num k=true:=List.all_eq_true.1 h.certs k (List.mem_range.2 hk)

structure Lu where
 k:Cu
 o:Slc
 n:Slc
abbrev lsV(u:Lu)(l:Ls):Value:=vLs l.ck.now.1 l.ck.now.2 u.k.f l.ck.ct.next u.k.cl u.k.u1 u.k.u2 u.k.u3 u.k.u4 u.k.u5 u.k.d u.o u.n
structure RdL(H:Hp)(u:Lu)(l:Ls):Prop where
 k:RdK H u.k l.ck
 o:RdI H u.o l.ord
 n:RdI H u.n l.num
theorem RdL.le{H H':Hp}{u:Lu}{l:Ls}(r:RdL H u l)(h:Hp.le H H'):RdL H' u l:=⟨r.k.le h,r.o.le h,r.n.le h⟩
structure zxc(l:Ls):Prop where
 k:zx9 l.ck
 o:l.ord.length<=1000000
 n:l.num.length<=1000000
theorem yh6.fit{l:Ls}(h:yh6 l):zxc l:=by
 have a:=h.ck.f.small
 have b:=congrArg List.length h.ord
 rw[yiv] at b
 have c:=h.nl
 exact⟨h.ck.fit,by omega,by omega⟩

theorem yj9{c:Ck}(ok:okK c):yj8 c.f c.now=(yis c.f c.now,0):=by unfold yj8;rw[if_pos (x4y.2 ⟨ok.f,ok.now⟩)]

theorem zs8{H:Hp}{a b:Slc}{xs ys:List Int}(ha:RdI H a xs)(hb:RdI H b ys)(h63:xs.length<=1000000000):Qf Tryz.prog F.f64 #[a.v,b.v] H (.bool (xs==ys)):=by
 have la:=ha.len
 have lb:=hb.len
 refine vc64 ⟨λh=>⟨?_,Hp.le_refl H⟩,λh=>?_⟩
 ·have hl:(a.n:Int)≠b.n:=by simpa using h
  have:(xs==ys)=false:=by
   rw[beq_eq_false_iff_ne];intro e;subst e;omega
  rw[this]
 ·have hl:(a.n:Int)=b.n:=by simpa using h
  refine⟨λn H4=>H4=H/\0<=n/\n<=xs.length/\xs.take n.toNat=ys.take n.toNat,λn _=>xs.length-n.toNat,⟨rfl,by omega,by omega,by simp⟩,λn H4 ⟨hH,h0,h1,h2⟩=>?_⟩
  subst hH
  refine⟨λhn=>?_,λhn=>⟨?_,Hp.le_refl _⟩⟩
  ·have hn:n<a.n:=by simpa using hn
   have gx:=y0g (xs:=xs) h0 (by omega)
   have gy:=y0g (xs:=ys) h0 (by omega)
   refine⟨ha.inN h0 hn,_,ha.get h0 (by omega),hb.inN h0 (by omega),_,hb.get h0 (by omega),λhne=>⟨?_,Hp.le_refl _⟩,λhe=>⟨?_,⟨rfl,by omega,by omega,?_⟩,?_⟩⟩
   ·have:(xs==ys)=false:=by
     rw[beq_eq_false_iff_ne];intro e;subst e;simp at hne
    rw[this]
   ·unfold inI;omega
   ·have e:(n+1).toNat=n.toNat+1:=by omega
    rw[e]
    exact(x4d gx gy h2).2 (by simpa using he)
   ·show xs.length-(n+1).toNat<xs.length-n.toNat;omega
  ·have hn:n=xs.length:=by
    have:¬ n<a.n:=by simpa using hn
    omega
   subst hn
   have:xs=ys:=by
    have e1:xs.take xs.length=xs:=List.take_length
    have e2:ys.take xs.length=ys:=by
     have:xs.length=ys.length:=by omega
     rw[this];exact List.take_length
    rw[Int.toNat_natCast] at h2
    rw[← e1,h2,e2]
   subst this;simp

theorem y5x{H:Hp}{u:Slc}{o:List Int}{i:Int}(h:RdI H u o)(h0:0<=i)(h1:i+1<o.length)(h2:o.length<=1000000) :
  Qf Tryz.prog F.f62 #[u.v,.int .i64 i] H (sI2 (ykb o i.toNat).1 (ykb o i.toNat).2):=by
 have lo:=h.len
 refine vc62 ⟨h.inN h0 (by omega),_,h.get h0 (by omega),by unfold inI;omega,h.inN (by omega) (by omega),_,h.get (by omega) (by omega),?_,Hp.le_refl _⟩
 unfold ykb
 rw[show (i+1).toNat=i.toNat+1 by omega]
theorem zd6{ct:Ct}{o n:List Int}{k:Nat}(ok:okC ct):zd5 ct o n k=true↔(zzx ct (n.getD k 0)).2=0/\(zzx ct (n.getD k 0)).1=ykb o k:=by
 unfold zd5 zzx
 rw[if_pos ok,Bool.and_eq_true,decide_eq_true_iff,beq_iff_eq]
 by_cases h:atC ct (n.getD k 0)<0
 ·rw[if_pos h]
  exact⟨λ⟨a,_⟩=>by omega,λ⟨a,_⟩=>by simp at a⟩
 ·rw[if_neg h]
  exact⟨λ⟨_,b⟩=>⟨rfl,b⟩,λ⟨_,b⟩=>⟨by omega,b⟩⟩

theorem y7f(n:Nat):(if (n:Int)-1>0 then (n:Int)-1 else 0)=((n-1:Nat):Int):=by
 split <;> omega
theorem yh7{l:Ls}{c6:Bool}{a b c:Int}(hn:((!c6||a != b)||c != a)=false):c6=true/\a=b/\c=a:=by
 simp only[Bool.or_eq_false_iff,Bool.not_eq_false',bne_eq_false_iff_eq] at hn
 exact⟨hn.1.1,hn.1.2,hn.2⟩

theorem y5v{H:Hp}{u:Lu}{l:Ls}(r:RdL H u l)(fl:zxc l):Qf Tryz.prog F.f25 #[lsV u l] H (.int .i64 (zkt l)):=by
  have fk:=fl.k
  have lo:=r.o.len
  have ln:=r.n.len
  have lc:=r.k.cl.len
  have f1:=fl.o;have f2:=fl.n;have f3:=fk.ct;have f4:=fk.f
  refine vc25 ⟨_,zll r.k fk,λhc=>⟨?_,Hp.le_refl _⟩,λhc=>?_⟩
  · have hc:zko l.ck≠0:=by simpa using hc
    rw[zku λh=>hc (zkr h.ck)]
  have ok:okK l.ck:=zks.1 (by simpa using hc)
  have lf:=ok.f.small
  refine(zvl r.k.f fk.now).mono λv H3 ⟨o,hv,l3,m⟩=>⟨o,_,hv,?_⟩
  rw[yj9 ok] at m
  have mo:=m.rdI
  have lm:=mo.len
  rw[yiv] at lm
  refine⟨_,zs8 mo (r.o.le l3) (by rw[yiv];omega),λ_=>by unfold inI;omega,λhb=>⟨?_,l3⟩,λhb=>?_⟩
  · rw[y7f] at hb
    rw[zku λh=>?_]
    have h1:=h.ord;have h2:=h.nl;have h3:=h.cl
    have h4:=congrArg List.length h1
    rw[yiv] at h4
    rw[← h1] at hb
    simp only[beq_self_eq_true,Bool.not_true,Bool.false_or,Bool.or_eq_true,bne_iff_ne] at hb
    omega
  rw[y7f] at hb
  obtain⟨b1,b2,b3⟩:=yh7 (l:=l) hb
  have eo:yis l.ck.f l.ck.now=l.ord:=by simpa using b1
  have el:=congrArg List.length eo
  rw[yiv] at el
  rw[eo] at mo
  refine upto (N:=l.num.length) (J:=λi=>∀k:Nat,k<i->zd5 l.ck.ct l.ord l.num k=true) (by omega) (λk hk=>by omega) λi i0 i1 j=>⟨λhn=>?_,λhn=>⟨?_,l3⟩⟩
  · have hi:i<l.num.length:=by have:i<u.n.n:=by simpa using hn
                               omega
    refine⟨r.n.inN i0 (by omega),_,RdI.get (r.n.le l3) i0 hi,_,_,_,zcv (c:=l.ck.ct) (n:=l.num.getD i.toNat 0) (r.k.cl.le l3),_,_,λ_=>y5x (o:=l.ord) mo i0 (by omega) (by omega),λhb=>⟨?_,l3⟩,λhb=>upto.nx i0 hi (by omega) ?_⟩
    · rw[zku λh=>?_]
      have:=(zd6 (n:=l.num) ok.ct).1 (h.cert (k:=i.toNat) (by omega))
      rw[this.1,this.2] at hb
      simp at hb
    · intro k hk
      by_cases e:k=i.toNat
      · subst e
        rw[zd6 ok.ct]
        simp only[Bool.or_eq_false_iff,bne_eq_false_iff_eq,Bool.not_eq_false',Bool.and_eq_true,beq_iff_eq] at hb
        exact⟨hb.1,Prod.ext hb.2.1 hb.2.2⟩
      · exact j k (by omega)
  · have hi:i=l.num.length:=by have:¬ i<u.n.n:=by simpa using hn
                               omega
    rw[zkv (yh6.of ok eo.symm (by omega) (by omega) λk hk=>j k (by omega))]


theorem zvj{H:Hp}{u:Slc}{f:List Pt}{id:Int}(hf:Rd 3 fD H u f)(of:okF f)(h0:0<=ynk f id) :
  Qf Tryz.prog F.f38 #[vFd u,.int .i64 id] H (.tuple #[ptW (gP f (ynk f id)),.int .i64 0]):=by
 have hl:=of.small
 have hb:=zbh (n:=id) hf of.inc (by omega)
 rcases yog of.inc id with⟨h1,h2⟩|⟨h1,h2⟩
 ·have e:ynk f id=yo0 (f.map (·.1)) id:=h2
  rw[h1,← e] at hb
  have hp:Qf Tryz.prog F.f85 #[vFd u,.int .i64 id] H (.tuple #[.int .i64 (ynk f id),.int .i64 0]) :=
   vc85 ⟨_,zvi hf,λh=>by rw[zke.2 of] at h;simp at h,λ_=>⟨_,_,vc145 ⟨_,_,hb,rfl,Hp.le_refl _⟩,λh=>by simp at h,λ_=>⟨rfl,Hp.le_refl _⟩⟩⟩
  refine vc38 ⟨_,_,hp,λh=>by simp at h,λ_=>?_⟩
  exact hf.ldD h0 (ynl h0) ⟨rfl,Hp.le_refl _⟩
 ·have:ynk f id = -1:=h2
  omega

theorem yj7{f:List Pt}(of:okF f){t:Int×Int}{x:Int}(hx:x∈yis f t):0<=ynk f x:=by
 obtain⟨p,hp,e⟩:=List.mem_map.1 hx
 have hpf:p∈f:=(yzw t f).mem_iff.1 hp
 by_cases h:ynk f x<0
 ·have:=y3n h p hpf
  simp at this
  exact absurd e this
 ·omega
theorem yh6.pos{l:Ls}(h:yh6 l){i:Int}(i0:0<=i)(i1:i<l.ord.length):0<=ynk l.ck.f (l.ord.getD i.toNat 0) :=
 yj7 h.ck.f (t:=l.ck.now) (by rw[← h.ord];exact List.mem_of_getElem? (y0g i0 i1))


theorem znh{a b:Int×Int}(h1:okR a)(h2:okR b):zng a b=(znm a b,0):=if_pos ⟨h1,h2⟩
/-! ### Lists copied,compared -/
end Go.Proofs.YtnhdkkblehadjabGreat
end
