/- The engine, parts M1, M2, M3, M4, put together. Conditions: none. -/
import Derived.Test.YtlbdpklikfddlaaGreatPO1
import Derived.Test.YtlbdpklikfddlaaGreatVgKlist
import Derived.Test.YtlbdpklikfddlaaGreatVgStd
import Derived.Test.YtlbdpklikfddlaaGreatFs
import Derived.Test.YtlbdpklikfddlaaGreatPK1
set_option linter.unusedVariables false
section
/- Kinetic lists: which are valid; klist.Check and the reference's. Conditions: none. -/
set_option maxRecDepth 100000
open Go Go.Eng Go.Proofs
namespace Go.Proofs.YtlbdpklikfddlaaGreat

structure Ls where
 ck:Ck
 ord:List Int
 num:List Int
deriving DecidableEq
def Ls.zero:Ls:=⟨.zero,[],[]⟩
def pairM (o:List Int) (i:Nat):Int × Int:=(o.getD (i+1) 0,o.getD i 0)
def certOK (ct:Ct) (o n:List Int) (i:Nat):Bool:=decide (0≤atC ct (n.getD i 0))&&((getD3 ct.list (atC ct (n.getD i 0))).2==pairM o i)
structure okLs (l:Ls):Prop where
 ck:okK l.ck
 ord:l.ord=ordM l.ck.f l.ck.now
 nl:l.num.length=l.ord.length-1
 cl:l.ck.ct.list.length=l.num.length
 certs:(List.range l.num.length).all (certOK l.ck.ct l.ord l.num)=true
instance (l:Ls):Decidable (okLs l) :=
 decidable_of_iff (okK l.ck∧l.ord=ordM l.ck.f l.ck.now∧l.num.length=l.ord.length-1∧l.ck.ct.list.length=l.num.length∧(List.range l.num.length).all (certOK l.ck.ct l.ord l.num)=true)
  ⟨fun ⟨a,b,c,d,e⟩=>⟨a,b,c,d,e⟩,fun ⟨a,b,c,d,e⟩=>⟨a,b,c,d,e⟩⟩
def chkLs (l:Ls):Int:=if okLs l then 0 else 8
theorem chkLs_ok {l:Ls} (h:okLs l):chkLs l=0:=by unfold chkLs; rw [if_pos h]
theorem chkLs_bad {l:Ls} (h:¬ okLs l):chkLs l=8:=by unfold chkLs; rw [if_neg h]
theorem chkLs_zero {l:Ls}:chkLs l=0↔okLs l:=by
 unfold chkLs; split
 ·simp [*]
 ·simp [*]
theorem okLs.of {l:Ls} (ck:okK l.ck) (ord:l.ord=ordM l.ck.f l.ck.now) (nl:l.num.length=l.ord.length-1) (cl:l.ck.ct.list.length=l.num.length) (cs:∀ k,k<l.num.length→certOK l.ck.ct l.ord l.num k=true):okLs l :=
 ⟨ck,ord,nl,cl,List.all_eq_true.2 fun k hk=>cs k (List.mem_range.1 hk)⟩
theorem okLs.cert {l:Ls} (h:okLs l) {k:Nat} (hk:k<l.num.length):certOK l.ck.ct l.ord l.num k=true:=List.all_eq_true.1 h.certs k (List.mem_range.2 hk)

structure Lu where
 k:Cu
 o:Slc
 n:Slc
abbrev lsV (u:Lu) (l:Ls):Value:=vLs l.ck.now.1 l.ck.now.2 u.k.f l.ck.ct.next u.k.cl u.k.u1 u.k.u2 u.k.u3 u.k.u4 u.k.u5 u.k.d u.o u.n
structure RdL (H:Hp) (u:Lu) (l:Ls):Prop where
 k:RdK H u.k l.ck
 o:RdI H u.o l.ord
 n:RdI H u.n l.num
theorem RdL.le {H H':Hp} {u:Lu} {l:Ls} (r:RdL H u l) (h:Hp.le H H'):RdL H' u l:=⟨r.k.le h,r.o.le h,r.n.le h⟩
structure fitL (l:Ls):Prop where
 k:fitK l.ck
 o:l.ord.length≤1000000
 n:l.num.length≤1000000
theorem okLs.fit {l:Ls} (h:okLs l):fitL l:=by
 have a:=h.ck.f.small
 have b:=congrArg List.length h.ord
 rw [ordM_len] at b
 have c:=h.nl
 exact ⟨h.ck.fit,by omega,by omega⟩

theorem orderM_ok {c:Ck} (ok:okK c):orderM c.f c.now=(ordM c.f c.now,0):=by unfold orderM; rw [if_pos (timedF_zero.2 ⟨ok.f,ok.now⟩)]

theorem equalInts {H:Hp} {a b:Slc} {xs ys:List Int} (ha:RdI H a xs) (hb:RdI H b ys) (h63:xs.length≤1000000000):Qf Tryz.prog F.slices_Equal_int_int #[a.v,b.v] H (.bool (xs==ys)):=by
 have la:=ha.len
 have lb:=hb.len
 refine slices_Equal_int_int_vc ⟨fun h=>⟨?_,Hp.le_refl H⟩,fun h=>?_⟩
 ·have hl:(a.n:Int)≠b.n:=by simpa using h
  have:(xs==ys)=false:=by
   rw [beq_eq_false_iff_ne]; intro e; subst e; omega
  rw [this]
 ·have hl:(a.n:Int)=b.n:=by simpa using h
  refine ⟨fun n H4=>H4=H∧0≤n∧n≤xs.length∧xs.take n.toNat=ys.take n.toNat,fun n _=>xs.length-n.toNat,⟨rfl,by omega,by omega,by simp⟩,fun n H4 ⟨hH,h0,h1,h2⟩=>?_⟩
  subst hH
  refine ⟨fun hn=>?_,fun hn=>⟨?_,Hp.le_refl _⟩⟩
  ·have hn:n<a.n:=by simpa using hn
   have gx:=getI (xs:=xs) h0 (by omega)
   have gy:=getI (xs:=ys) h0 (by omega)
   refine ⟨ha.inN h0 hn,_,ha.get h0 (by omega),hb.inN h0 (by omega),_,hb.get h0 (by omega),fun hne=>⟨?_,Hp.le_refl _⟩,fun he=>⟨?_,⟨rfl,by omega,by omega,?_⟩,?_⟩⟩
   ·have:(xs==ys)=false:=by
     rw [beq_eq_false_iff_ne]; intro e; subst e; simp at hne
    rw [this]
   ·unfold inI; omega
   ·have e:(n+1).toNat=n.toNat+1:=by omega
    rw [e]
    exact (take_succ_eq gx gy h2).2 (by simpa using he)
   ·show xs.length-(n+1).toNat<xs.length-n.toNat; omega
  ·have hn:n=xs.length:=by
    have:¬ n<a.n:=by simpa using hn
    omega
   subst hn
   have:xs=ys:=by
    have e1:xs.take xs.length=xs:=List.take_length
    have e2:ys.take xs.length=ys:=by
     have:xs.length=ys.length:=by omega
     rw [this]; exact List.take_length
    rw [Int.toNat_natCast] at h2
    rw [← e1,h2,e2]
   subst this; simp

theorem klistPair {H:Hp} {u:Slc} {o:List Int} {i:Int} (h:RdI H u o) (h0:0≤i) (h1:i+1<o.length) (h2:o.length≤1000000) :
  Qf Tryz.prog F.klist_pair #[u.v,.int .i64 i] H (sI2 (pairM o i.toNat).1 (pairM o i.toNat).2):=by
 have lo:=h.len
 refine klist_pair_vc ⟨h.inN h0 (by omega),_,h.get h0 (by omega),by unfold inI; omega,h.inN (by omega) (by omega),_,h.get (by omega) (by omega),?_,Hp.le_refl _⟩
 unfold pairM
 rw [show (i+1).toNat=i.toNat+1 by omega]
theorem refPair {H:Hp} {u:Lu} {l:Ls} {i:Int} (h:RdI H u.o l.ord) (h0:0≤i) (h1:i+1<l.ord.length) (h2:l.ord.length≤1000000) :
  Qf Tryz.prog F.pelotonref25_Cert #[lsV u l,.int .i64 i] H (sI2 (pairM l.ord i.toNat).1 (pairM l.ord i.toNat).2):=by
 have lo:=h.len
 refine pelotonref25_Cert_vc ⟨h.inN h0 (by omega),_,h.get h0 (by omega),by unfold inI; omega,h.inN (by omega) (by omega),_,h.get (by omega) (by omega),?_,Hp.le_refl _⟩
 unfold pairM
 rw [show (i+1).toNat=i.toNat+1 by omega]

theorem certOK_get {ct:Ct} {o n:List Int} {k:Nat} (ok:okC ct):certOK ct o n k=true↔(getC ct (n.getD k 0)).2=0∧(getC ct (n.getD k 0)).1=pairM o k:=by
 unfold certOK getC
 rw [if_pos ok,Bool.and_eq_true,decide_eq_true_iff,beq_iff_eq]
 by_cases h:atC ct (n.getD k 0)<0
 ·rw [if_pos h]
  exact ⟨fun ⟨a,_⟩=>by omega,fun ⟨a,_⟩=>by simp at a⟩
 ·rw [if_neg h]
  exact ⟨fun ⟨_,b⟩=>⟨rfl,b⟩,fun ⟨_,b⟩=>⟨by omega,b⟩⟩

theorem less1 (n:Nat):(if (n:Int)-1>0 then (n:Int)-1 else 0)=((n-1:Nat):Int):=by
 split <;> omega
theorem okLs_head {l:Ls} {c6:Bool} {a b c:Int} (hn:((!c6||a != b)||c != a)=false):c6=true∧a=b∧c=a:=by
 simp only [Bool.or_eq_false_iff,Bool.not_eq_false',bne_eq_false_iff_eq] at hn
 exact ⟨hn.1.1,hn.1.2,hn.2⟩

theorem klistCheck {H:Hp} {u:Lu} {l:Ls} (r:RdL H u l) (fl:fitL l):Qf Tryz.prog F.klist_Check #[lsV u l] H (.int .i64 (chkLs l)):=by
  have fk:=fl.k
  have lo:=r.o.len
  have ln:=r.n.len
  have lc:=r.k.cl.len
  have f1:=fl.o; have f2:=fl.n; have f3:=fk.ct; have f4:=fk.f
  refine klist_Check_vc ⟨_,clockCheck r.k fk,fun hc=>⟨?_,Hp.le_refl _⟩,fun hc=>?_⟩
  · have hc:chkK l.ck≠0:=by simpa using hc
    rw [chkLs_bad fun h=>hc (chkK_ok h.ck)]
  have ok:okK l.ck:=chkK_zero.1 (by simpa using hc)
  have lf:=ok.f.small
  refine (fieldOrder r.k.f fk.now).mono fun v H3 ⟨o,hv,l3,m⟩=>⟨o,_,hv,?_⟩
  rw [orderM_ok ok] at m
  have mo:=m.rdI
  have lm:=mo.len
  rw [ordM_len] at lm
  refine ⟨_,equalInts mo (r.o.le l3) (by rw [ordM_len]; omega),fun _=>by unfold inI; omega,fun hb=>⟨?_,l3⟩,fun hb=>?_⟩
  · rw [less1] at hb
    rw [chkLs_bad fun h=>?_]
    have h1:=h.ord; have h2:=h.nl; have h3:=h.cl
    have h4:=congrArg List.length h1
    rw [ordM_len] at h4
    rw [← h1] at hb
    simp only [beq_self_eq_true,Bool.not_true,Bool.false_or,Bool.or_eq_true,bne_iff_ne] at hb
    omega
  rw [less1] at hb
  obtain ⟨b1,b2,b3⟩:=okLs_head (l:=l) hb
  have eo:ordM l.ck.f l.ck.now=l.ord:=by simpa using b1
  have el:=congrArg List.length eo
  rw [ordM_len] at el
  rw [eo] at mo
  refine upto (N:=l.num.length) (J:=fun i=>∀ k:Nat,k<i→certOK l.ck.ct l.ord l.num k=true) (by omega) (fun k hk=>by omega) fun i i0 i1 j=>⟨fun hn=>?_,fun hn=>⟨?_,l3⟩⟩
  · have hi:i<l.num.length:=by have:i<u.n.n:=by simpa using hn
                               omega
    refine ⟨r.n.inN i0 (by omega),_,RdI.get (r.n.le l3) i0 hi,_,_,_,certGet (c:=l.ck.ct) (n:=l.num.getD i.toNat 0) (r.k.cl.le l3),_,_,fun _=>klistPair (o:=l.ord) mo i0 (by omega) (by omega),fun hb=>⟨?_,l3⟩,fun hb=>upto.nx i0 hi (by omega) ?_⟩
    · rw [chkLs_bad fun h=>?_]
      have:=(certOK_get (n:=l.num) ok.ct).1 (h.cert (k:=i.toNat) (by omega))
      rw [this.1,this.2] at hb
      simp at hb
    · intro k hk
      by_cases e:k=i.toNat
      · subst e
        rw [certOK_get ok.ct]
        simp only [Bool.or_eq_false_iff,bne_eq_false_iff_eq,Bool.not_eq_false',Bool.and_eq_true,beq_iff_eq] at hb
        exact ⟨hb.1,Prod.ext hb.2.1 hb.2.2⟩
      · exact j k (by omega)
  · have hi:i=l.num.length:=by have:¬ i<u.n.n:=by simpa using hn
                               omega
    rw [chkLs_ok (okLs.of ok eo.symm (by omega) (by omega) fun k hk=>j k (by omega))]


theorem ord_pos {f:List Pt} (of:okF f) {t:Int × Int} {x:Int} (hx:x∈ordM f t):0≤posF f x:=by
 obtain ⟨p,hp,e⟩:=List.mem_map.1 hx
 have hpf:p∈f:=(sortM_perm t f).mem_iff.1 hp
 by_cases h:posF f x<0
 ·have:=idx_out h p hpf
  simp at this
  exact absurd e this
 ·omega
theorem okLs.pos {l:Ls} (h:okLs l) {i:Int} (i0:0≤i) (i1:i<l.ord.length):0≤posF l.ck.f (l.ord.getD i.toNat 0) :=
 ord_pos h.ck.f (t:=l.ck.now) (by rw [← h.ord]; exact List.mem_of_getElem? (getI i0 i1))


theorem fit00g:fitR (0,0):=⟨by show inI 0; unfold inI; omega,by show inI 0; unfold inI; omega⟩
/-! ### Lists copied,compared -/
def greatL (l:Ls):Bool:=greatK l.ck||decide ((l.ord.length:Int)>80)||decide ((l.num.length:Int)>80)
theorem fitKof {c:Ck} (hn:fitR c.now) (hg:greatK c=false) (hh:∀ x∈c.ag.heap,fitR x.at_):fitK c:=by
 unfold greatK greatF greatG at hg
 simp only [Bool.or_eq_false_iff,decide_eq_false_iff_not] at hg
 obtain ⟨⟨⟨h1,h2⟩,h3⟩,⟨⟨⟨h4,h5⟩,h6⟩,h7⟩,h8⟩:=hg
 exact ⟨hn,by omega,by omega,⟨⟨by omega,by omega,by omega⟩,by omega,by omega,hh⟩,by omega⟩
theorem fitL_of {l:Ls} (hn:fitR l.ck.now) (hg:greatL l=false) (hh:∀ y∈l.ck.ag.heap,fitR y.at_):fitL l:=by
 unfold greatL at hg
 simp only [Bool.or_eq_false_iff,decide_eq_false_iff_not] at hg
 exact ⟨fitKof hn hg.1.1 hh,by omega,by omega⟩
end Go.Proofs.YtlbdpklikfddlaaGreat
end
