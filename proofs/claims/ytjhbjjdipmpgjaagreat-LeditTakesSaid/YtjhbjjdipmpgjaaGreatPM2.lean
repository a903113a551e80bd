/- The engine, parts M1, M2, M3, M4, put together. Conditions: none. -/
import Derived.Test.YtjhbjjdipmpgjaaGreatPO1
import Derived.Test.YtjhbjjdipmpgjaaGreatVgKlist
import Derived.Test.YtjhbjjdipmpgjaaGreatVgStd
import Derived.Test.YtjhbjjdipmpgjaaGreatFs
import Derived.Test.YtjhbjjdipmpgjaaGreatPK1
import Derived.Test.YtjhbjjdipmpgjaaGreatVgBase
set_option linter.unusedVariables false
section
/- Kinetic lists: which are valid; klist.Check and the reference's. Conditions: none. -/
set_option maxRecDepth 100000
open Go Go.Eng Go.Proofs
namespace Go.Proofs.YtjhbjjdipmpgjaaGreat

structure Ls where
 ck:Ck
 ord:List Int
 num:List Int
deriving DecidableEq
def Ls.zero:Ls:=⟨.zero,[],[]⟩
def ydm (o:List Int) (i:Nat):Int × Int:=(o.getD (i+1) 0,o.getD i 0)
def zax (ct:Ct) (o n:List Int) (i:Nat):Bool:=decide (0≤atC ct (n.getD i 0))&&((zwz ct.list (atC ct (n.getD i 0))).2==ydm o i)
structure ybg (l:Ls):Prop where
 ck:okK l.ck
 ord:l.ord=yck l.ck.f l.ck.now
 nl:l.num.length=l.ord.length-1
 cl:l.ck.ct.list.length=l.num.length
 certs:(List.range l.num.length).all (zax l.ck.ct l.ord l.num)=true
instance (l:Ls):Decidable (ybg l) :=
 decidable_of_iff (okK l.ck∧l.ord=yck l.ck.f l.ck.now∧l.num.length=l.ord.length-1∧l.ck.ct.list.length=l.num.length∧(List.range l.num.length).all (zax l.ck.ct l.ord l.num)=true)
  ⟨fun ⟨a,b,c,d,e⟩=>⟨a,b,c,d,e⟩,fun ⟨a,b,c,d,e⟩=>⟨a,b,c,d,e⟩⟩
def zjf (l:Ls):Int:=if ybg l then 0 else 8
theorem zjh {l:Ls} (h:ybg l):zjf l=0:=by unfold zjf; rw [if_pos h]
theorem zjg {l:Ls} (h:¬ ybg l):zjf l=8:=by unfold zjf; rw [if_neg h]
theorem zji {l:Ls}:zjf l=0↔ybg l:=by
 unfold zjf; split
 ·simp [*]
 ·simp [*]
theorem ybg.of {l:Ls} (ck:okK l.ck) (ord:l.ord=yck l.ck.f l.ck.now) (nl:l.num.length=l.ord.length-1) (cl:l.ck.ct.list.length=l.num.length) (cs:∀ k,k<l.num.length→zax l.ck.ct l.ord l.num k=true):ybg l :=
 ⟨ck,ord,nl,cl,List.all_eq_true.2 fun k hk=>cs k (List.mem_range.1 hk)⟩
theorem ybg.cert {l:Ls} (h:ybg l) {k:Nat} (hk:k<l.num.length):zax l.ck.ct l.ord l.num k=true:=List.all_eq_true.1 h.certs k (List.mem_range.2 hk)

structure Lu where
 k:Cu
 o:Slc
 n:Slc
abbrev lsV (u:Lu) (l:Ls):Value:=vLs l.ck.now.1 l.ck.now.2 u.k.f l.ck.ct.next u.k.cl u.k.u1 u.k.u2 u.k.u3 u.k.u4 u.k.u5 u.k.d u.o u.n
structure RdL (H:Hp) (u:Lu) (l:Ls):Prop where
 k:RdK H u.k l.ck
 o:RdI H u.o l.ord
 n:RdI H u.n l.num
theorem RdL.le {H H':Hp} {u:Lu} {l:Ls} (r:RdL H u l) (h:Hp.le H H'):RdL H' u l:=⟨r.k.le h,r.o.le h,r.n.le h⟩
structure zui (l:Ls):Prop where
 k:zuf l.ck
 o:l.ord.length≤1000000
 n:l.num.length≤1000000
theorem ybg.fit {l:Ls} (h:ybg l):zui l:=by
 have a:=h.ck.f.small
 have b:=congrArg List.length h.ord
 rw [ycn] at b
 have c:=h.nl
 exact ⟨h.ck.fit,by omega,by omega⟩

theorem ycy {c:Ck} (ok:okK c):ycx c.f c.now=(yck c.f c.now,0):=by unfold ycx; rw [if_pos (yxk.2 ⟨ok.f,ok.now⟩)]

theorem zqb {H:Hp} {a b:Slc} {xs ys:List Int} (ha:RdI H a xs) (hb:RdI H b ys) (h63:xs.length≤1000000000):Qf Tryz.prog F.f127 #[a.v,b.v] H (.bool (xs==ys)):=by
 have la:=ha.len
 have lb:=hb.len
 refine vc127 ⟨fun h=>⟨?_,Hp.le_refl H⟩,fun h=>?_⟩
 ·have hl:(a.n:Int)≠b.n:=by simpa using h
  have:(xs==ys)=false:=by
   rw [beq_eq_false_iff_ne]; intro e; subst e; omega
  rw [this]
 ·have hl:(a.n:Int)=b.n:=by simpa using h
  refine ⟨fun n H4=>H4=H∧0≤n∧n≤xs.length∧xs.take n.toNat=ys.take n.toNat,fun n _=>xs.length-n.toNat,⟨rfl,by omega,by omega,by simp⟩,fun n H4 ⟨hH,h0,h1,h2⟩=>?_⟩
  subst hH
  refine ⟨fun hn=>?_,fun hn=>⟨?_,Hp.le_refl _⟩⟩
  ·have hn:n<a.n:=by simpa using hn
   have gx:=zx9 (xs:=xs) h0 (by omega)
   have gy:=zx9 (xs:=ys) h0 (by omega)
   refine ⟨ha.inN h0 hn,_,ha.get h0 (by omega),hb.inN h0 (by omega),_,hb.get h0 (by omega),fun hne=>⟨?_,Hp.le_refl _⟩,fun he=>⟨?_,⟨rfl,by omega,by omega,?_⟩,?_⟩⟩
   ·have:(xs==ys)=false:=by
     rw [beq_eq_false_iff_ne]; intro e; subst e; simp at hne
    rw [this]
   ·unfold inI; omega
   ·have e:(n+1).toNat=n.toNat+1:=by omega
    rw [e]
    exact (yx1 gx gy h2).2 (by simpa using he)
   ·show xs.length-(n+1).toNat<xs.length-n.toNat; omega
  ·have hn:n=xs.length:=by
    have:¬ n<a.n:=by simpa using hn
    omega
   subst hn
   have:xs=ys:=by
    have e1:xs.take xs.length=xs:=List.take_length
    have e2:ys.take xs.length=ys:=by
     have:xs.length=ys.length:=by omega
     rw [this]; exact List.take_length
    rw [Int.toNat_natCast] at h2
    rw [← e1,h2,e2]
   subst this; simp

theorem y1l {H:Hp} {u:Slc} {o:List Int} {i:Int} (h:RdI H u o) (h0:0≤i) (h1:i+1<o.length) (h2:o.length≤1000000) :
  Qf Tryz.prog F.f125 #[u.v,.int .i64 i] H (sI2 (ydm o i.toNat).1 (ydm o i.toNat).2):=by
 have lo:=h.len
 refine vc125 ⟨h.inN h0 (by omega),_,h.get h0 (by omega),by unfold inI; omega,h.inN (by omega) (by omega),_,h.get (by omega) (by omega),?_,Hp.le_refl _⟩
 unfold ydm
 rw [show (i+1).toNat=i.toNat+1 by omega]
theorem yo3 {H:Hp} {u:Lu} {l:Ls} {i:Int} (h:RdI H u.o l.ord) (h0:0≤i) (h1:i+1<l.ord.length) (h2:l.ord.length≤1000000) :
  Qf Tryz.prog F.f51 #[lsV u l,.int .i64 i] H (sI2 (ydm l.ord i.toNat).1 (ydm l.ord i.toNat).2):=by
 have lo:=h.len
 refine vc51 ⟨h.inN h0 (by omega),_,h.get h0 (by omega),by unfold inI; omega,h.inN (by omega) (by omega),_,h.get (by omega) (by omega),?_,Hp.le_refl _⟩
 unfold ydm
 rw [show (i+1).toNat=i.toNat+1 by omega]

theorem zay {ct:Ct} {o n:List Int} {k:Nat} (ok:okC ct):zax ct o n k=true↔(zwv ct (n.getD k 0)).2=0∧(zwv ct (n.getD k 0)).1=ydm o k:=by
 unfold zax zwv
 rw [if_pos ok,Bool.and_eq_true,decide_eq_true_iff,beq_iff_eq]
 by_cases h:atC ct (n.getD k 0)<0
 ·rw [if_pos h]
  exact ⟨fun ⟨a,_⟩=>by omega,fun ⟨a,_⟩=>by simp at a⟩
 ·rw [if_neg h]
  exact ⟨fun ⟨_,b⟩=>⟨rfl,b⟩,fun ⟨_,b⟩=>⟨by omega,b⟩⟩

theorem y3y (n:Nat):(if (n:Int)-1>0 then (n:Int)-1 else 0)=((n-1:Nat):Int):=by
 split <;> omega
theorem ybh {l:Ls} {c6:Bool} {a b c:Int} (hn:((!c6||a != b)||c != a)=false):c6=true∧a=b∧c=a:=by
 simp only [Bool.or_eq_false_iff,Bool.not_eq_false',bne_eq_false_iff_eq] at hn
 exact ⟨hn.1.1,hn.1.2,hn.2⟩

theorem y1j {H:Hp} {u:Lu} {l:Ls} (r:RdL H u l) (fl:zui l):Qf Tryz.prog F.f69 #[lsV u l] H (.int .i64 (zjf l)):=by
  have fk:=fl.k
  have lo:=r.o.len
  have ln:=r.n.len
  have lc:=r.k.cl.len
  have f1:=fl.o; have f2:=fl.n; have f3:=fk.ct; have f4:=fk.f
  refine vc69 ⟨_,zk8 r.k fk,fun hc=>⟨?_,Hp.le_refl _⟩,fun hc=>?_⟩
  · have hc:zja l.ck≠0:=by simpa using hc
    rw [zjg fun h=>hc (zjd h.ck)]
  have ok:okK l.ck:=zje.1 (by simpa using hc)
  have lf:=ok.f.small
  refine (zsx r.k.f fk.now).mono fun v H3 ⟨o,hv,l3,m⟩=>⟨o,_,hv,?_⟩
  rw [ycy ok] at m
  have mo:=m.rdI
  have lm:=mo.len
  rw [ycn] at lm
  refine ⟨_,zqb mo (r.o.le l3) (by rw [ycn]; omega),fun _=>by unfold inI; omega,fun hb=>⟨?_,l3⟩,fun hb=>?_⟩
  · rw [y3y] at hb
    rw [zjg fun h=>?_]
    have h1:=h.ord; have h2:=h.nl; have h3:=h.cl
    have h4:=congrArg List.length h1
    rw [ycn] at h4
    rw [← h1] at hb
    simp only [beq_self_eq_true,Bool.not_true,Bool.false_or,Bool.or_eq_true,bne_iff_ne] at hb
    omega
  rw [y3y] at hb
  obtain ⟨b1,b2,b3⟩:=ybh (l:=l) hb
  have eo:yck l.ck.f l.ck.now=l.ord:=by simpa using b1
  have el:=congrArg List.length eo
  rw [ycn] at el
  rw [eo] at mo
  refine upto (N:=l.num.length) (J:=fun i=>∀ k:Nat,k<i→zax l.ck.ct l.ord l.num k=true) (by omega) (fun k hk=>by omega) fun i i0 i1 j=>⟨fun hn=>?_,fun hn=>⟨?_,l3⟩⟩
  · have hi:i<l.num.length:=by have:i<u.n.n:=by simpa using hn
                               omega
    refine ⟨r.n.inN i0 (by omega),_,RdI.get (r.n.le l3) i0 hi,_,_,_,zan (c:=l.ck.ct) (n:=l.num.getD i.toNat 0) (r.k.cl.le l3),_,_,fun _=>y1l (o:=l.ord) mo i0 (by omega) (by omega),fun hb=>⟨?_,l3⟩,fun hb=>upto.nx i0 hi (by omega) ?_⟩
    · rw [zjg fun h=>?_]
      have:=(zay (n:=l.num) ok.ct).1 (h.cert (k:=i.toNat) (by omega))
      rw [this.1,this.2] at hb
      simp at hb
    · intro k hk
      by_cases e:k=i.toNat
      · subst e
        rw [zay ok.ct]
        simp only [Bool.or_eq_false_iff,bne_eq_false_iff_eq,Bool.not_eq_false',Bool.and_eq_true,beq_iff_eq] at hb
        exact ⟨hb.1,Prod.ext hb.2.1 hb.2.2⟩
      · exact j k (by omega)
  · have hi:i=l.num.length:=by have:¬ i<u.n.n:=by simpa using hn
                               omega
    rw [zjh (ybg.of ok eo.symm (by omega) (by omega) fun k hk=>j k (by omega))]

theorem yn9 {H:Hp} {u:Lu} {l:Ls} (r:RdL H u l) (fl:zui l):Qf Tryz.prog F.f18 #[lsV u l] H (.int .i64 (zjf l)):=by
  have fk:=fl.k
  have lo:=r.o.len
  have ln:=r.n.len
  have lc:=r.k.cl.len
  have f1:=fl.o; have f2:=fl.n; have f3:=fk.ct; have f4:=fk.f
  refine vc18 ⟨_,yn2 r.k fk,fun hc=>?_,fun hc=>?_⟩
  case refine_2 =>
    have hc:zja l.ck≠0:=by simpa using hc
    have h8:zja l.ck=8:=zjb fun ok=>hc (zjd ok)
    rw [h8]
    refine ⟨true,fun h=>by simp at h,fun h=>by simp at h,fun h=>⟨?_,Hp.le_refl _⟩,fun h=>by simp at h⟩
    rw [zjg fun h=>hc (zjd h.ck)]
  have h0:zja l.ck=0:=by simpa using hc
  have ok:okK l.ck:=zje.1 h0
  have lf:=ok.f.small
  refine (ynw r.k.f ok.f ok.now).mono fun v H3 ⟨o,hv,l3,m⟩=>⟨l3,o,hv,?_⟩
  have mo:=m.rdI
  rw [h0]
  refine ⟨_,fun _=>yqq (r.o.le l3) mo (by omega),fun _=>by unfold inI; omega,fun hb=>⟨?_,l3⟩,fun hb=>?_⟩
  · rw [lo,y3y] at hb
    rw [zjg fun h=>?_]
    have h1:=h.ord; have h2:=h.nl; have h3:=h.cl
    rw [← h1] at hb
    simp only [bne_self_eq_false,beq_self_eq_true,Bool.not_true,Bool.false_or,Bool.or_eq_true,bne_iff_ne] at hb
    omega
  rw [lo,y3y,bne_self_eq_false,Bool.false_or] at hb
  obtain ⟨b1,b2,b3⟩:=ybh (l:=l) hb
  have eo:l.ord=yck l.ck.f l.ck.now:=by simpa using b1
  have el:=congrArg List.length eo
  rw [ycn] at el
  refine upto (N:=l.num.length) (J:=fun i=>∀ k:Nat,k<i→zax l.ck.ct l.ord l.num k=true) (by omega) (fun k hk=>by omega) fun i i0 i1 j=>⟨fun hn=>?_,fun hn=>⟨?_,l3⟩⟩
  · have hi:i<l.num.length:=by have:i<u.n.n:=by simpa using hn
                               omega
    have lk:∀ h:0≤atC l.ck.ct (l.num.getD i.toNat 0),atC l.ck.ct (l.num.getD i.toNat 0)<l.ck.ct.list.length:=fun h=>(z7k h).1
    refine ⟨r.n.inN i0 (by omega),_,RdI.get (r.n.le l3) i0 hi,_,yku (c:=l.ck.ct) (r.k.cl.le l3) (by omega),fun h=>r.k.cl.inS (by simpa using h) (lk (by simpa using h)),_,_,fun h=>(r.k.cl.le l3).gD2 (by simpa using h) (lk (by simpa using h)),_,_,fun _=>yo3 (u:=u) (l:=l) (r.o.le l3) i0 (by omega) (by omega),fun hb=>⟨?_,l3⟩,fun hb=>upto.nx i0 hi (by omega) ?_⟩
    · rw [zjg fun h=>?_]
      have hk:=h.cert (k:=i.toNat) (by omega)
      unfold zax at hk
      simp only [Bool.and_eq_true,decide_eq_true_eq,beq_iff_eq] at hk
      have e2:(l.ck.ct.list.getD (atC l.ck.ct (l.num.getD i.toNat 0)).toNat (0,0,0)).2=ydm l.ord i.toNat:=hk.2
      rw [e2,decide_eq_false (by omega)] at hb
      simp at hb
    · intro k hk
      by_cases e:k=i.toNat
      · subst e
        unfold zax
        simp only [Bool.or_eq_false_iff,decide_eq_false_iff_not,Bool.not_eq_false',Bool.and_eq_true,beq_iff_eq] at hb
        simp only [Bool.and_eq_true,decide_eq_true_eq,beq_iff_eq]
        exact ⟨by omega,Prod.ext hb.2.1 hb.2.2⟩
      · exact j k (by omega)
  · have hi:i=l.num.length:=by have:¬ i<u.n.n:=by simpa using hn
                               omega
    rw [zjh (ybg.of ok eo (by omega) (by omega) fun k hk=>j k (by omega))]

theorem zsv {H:Hp} {u:Slc} {f:List Pt} {id:Int} (hf:Rd 3 fD H u f) (of:okF f) (h0:0≤yie f id) :
  Qf Tryz.prog F.f94 #[vFd u,.int .i64 id] H (.tuple #[ptW (gP f (yie f id)),.int .i64 0]):=by
 have hl:=of.small
 have hb:=z9l (n:=id) hf of.inc (by omega)
 rcases yix of.inc id with ⟨h1,h2⟩ | ⟨h1,h2⟩
 ·have e:yie f id=yil (f.map (·.1)) id:=h2
  rw [h1,← e] at hb
  have hp:Qf Tryz.prog F.f62 #[vFd u,.int .i64 id] H (.tuple #[.int .i64 (yie f id),.int .i64 0]) :=
   vc62 ⟨_,zsu hf,fun h=>by rw [zj6.2 of] at h; simp at h,fun _=>⟨_,_,vc64 ⟨_,_,hb,rfl,Hp.le_refl _⟩,fun h=>by simp at h,fun _=>⟨rfl,Hp.le_refl _⟩⟩⟩
  refine vc94 ⟨_,_,hp,fun h=>by simp at h,fun _=>?_⟩
  exact hf.ldD h0 (yif h0) ⟨rfl,Hp.le_refl _⟩
 ·have:yie f id = -1:=h2
  omega

theorem ycw {f:List Pt} (of:okF f) {t:Int × Int} {x:Int} (hx:x∈yck f t):0≤yie f x:=by
 obtain ⟨p,hp,e⟩:=List.mem_map.1 hx
 have hpf:p∈f:=(yua t f).mem_iff.1 hp
 by_cases h:yie f x<0
 ·have:=zzh h p hpf
  simp at this
  exact absurd e this
 ·omega
theorem ybg.pos {l:Ls} (h:ybg l) {i:Int} (i0:0≤i) (i1:i<l.ord.length):0≤yie l.ck.f (l.ord.getD i.toNat 0) :=
 ycw h.ck.f (t:=l.ck.now) (by rw [← h.ord]; exact List.mem_of_getElem? (zx9 i0 i1))


theorem zu2:zun (0,0):=⟨by show inI 0; unfold inI; omega,by show inI 0; unfold inI; omega⟩
/-! ### Lists copied,compared -/
theorem ynd {H:Hp} {u:Lu} {l:Ls} (r:RdL H u l) (fl:zui l) :
  Go.Eng.Fn Tryz.prog F.f11 #[lsV u l] H fun v H'=>∃ w:Lu,v=lsV w l∧Hp.le H H'∧RdL H' w l:=by
 have f1:=fl.o; have f2:=fl.n
 refine vc11 ((yn6 r.k fl.k).mono fun v H2 ⟨w,hv,nk⟩=>⟨nk.le,_,_,w.f,_,w.cl,w.u1,w.u2,w.u3,w.u4,w.u5,w.d,hv,fun b H15 hb hH=>?_⟩)
 have l2:=nk.le
 refine (znt (k:=1) (f:=fI) (bytes:=8) (e:=3) (by kernel_rfl) (by decide) (fun _=>rfl) (fun x v hv=>by simp [fI] at hv; subst hv; rfl) hb hH (r.o.le l2) (by omega) (by omega)).mono
  fun v H17 ⟨o,hv,l17,m1⟩=>⟨o,hv,fun b19 H20 hb19 hH20=>?_⟩
 refine (znt (k:=1) (f:=fI) (bytes:=8) (e:=3) (by kernel_rfl) (by decide) (fun _=>rfl) (fun x v hv=>by simp [fI] at hv; subst hv; rfl) hb19 hH20 ((r.n.le l2).le l17) (by omega) (by omega)).mono
  fun v H22 ⟨n,hv,l22,m2⟩=>⟨n,hv,⟨w,o,n⟩,rfl,Hp.le_trans l2 (Hp.le_trans l17 l22),⟨nk.rd.le (Hp.le_trans l17 l22),m1.rdI.le l22,m2.rdI⟩⟩
def zxw (l:Ls):Bool:=zxv l.ck||decide ((l.ord.length:Int)>80)||decide ((l.num.length:Int)>80)
theorem yna {H:Hp} {u:Lu} {l:Ls} (r:RdL H u l):Qf Tryz.prog F.f10 #[lsV u l] H (.bool (zxw l)):=by
 have a:=r.o.len; have b:=r.n.len
 refine vc10 ⟨_,yn3 r.k,?_,Hp.le_refl _⟩
 rw [a,b]; rfl
theorem ync {H:Hp} {u w:Lu} {l:Ls} (r:RdL H u l) (s:RdL H w l) (fl:zui l):Qf Tryz.prog F.f16 #[lsV u l,lsV w l] H (.bool true):=by
 have f1:=fl.o; have f2:=fl.n
 refine vc16 ⟨_,yn5 r.k s.k fl.k,_,fun _=>yqq r.o s.o (by omega),_,fun _=>yqq r.n s.n (by omega),?_,Hp.le_refl _⟩
 simp
theorem zuh {c:Ck} (hn:zun c.now) (hg:zxv c=false) (hh:∀ x∈c.ag.heap,zun x.at_):zuf c:=by
 unfold zxv zxt zxu at hg
 simp only [Bool.or_eq_false_iff,decide_eq_false_iff_not] at hg
 obtain ⟨⟨⟨h1,h2⟩,h3⟩,⟨⟨⟨h4,h5⟩,h6⟩,h7⟩,h8⟩:=hg
 exact ⟨hn,by omega,by omega,⟨⟨by omega,by omega,by omega⟩,by omega,by omega,hh⟩,by omega⟩
theorem zuk {l:Ls} (hn:zun l.ck.now) (hg:zxw l=false) (hh:∀ y∈l.ck.ag.heap,zun y.at_):zui l:=by
 unfold zxw at hg
 simp only [Bool.or_eq_false_iff,decide_eq_false_iff_not] at hg
 exact ⟨zuh hn hg.1.1 hh,by omega,by omega⟩
end Go.Proofs.YtjhbjjdipmpgjaaGreat
end
