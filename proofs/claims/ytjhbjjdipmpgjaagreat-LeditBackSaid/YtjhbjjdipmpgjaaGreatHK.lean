/- The laws LeditBack, LeditFew. Conditions: none. -/
import Derived.Test.YtjhbjjdipmpgjaaGreatPH5
import Derived.Test.YtjhbjjdipmpgjaaGreatVgLLeditBack
import Derived.Test.YtjhbjjdipmpgjaaGreatVgLLeditFew
import Derived.Test.YtjhbjjdipmpgjaaGreatFs
set_option linter.unusedVariables false
set_option maxRecDepth 100000
open Go Go.Eng Go.Proofs
namespace Go.Proofs.YtjhbjjdipmpgjaaGreat

set_option maxHeartbeats 2000000 in
theorem leditBack {H:Hp} {u:Lu} {l:Ls} {p:Pt} (r:RdL H u l) (hn:fitR l.ck.now) (hh:∀ y∈l.ck.ag.heap,fitR y.at_) :
  Qf Tryz.prog F.pelotonlaw26_LeditBack #[lsV u l,.agg #[.int .i64 p.1,.int .i64 p.2.1,.int .i64 p.2.2]] H (.bool true):=by
 have flg:greatL l=false→fitL l:=fun h=>fitL_of hn h hh
 have okg:(greatL l||chkLs l != 0)=false→okLs l:=fun h=>by
  simp only [Bool.or_eq_false_iff,bne_eq_false_iff_eq] at h
  exact chkLs_zero.1 h.2
 have lo:=r.o.len
 refine pelotonlaw26_LeditBack_vc ⟨true,law26alive,greatL l,refLGreat r,chkLs l,fun h=>refLCheck r (flg (by simpa using h)),chkP p,fun _=>refPCheck,posF l.ck.f p.1,fun h=>?_,muchM l,fun h=>refLMuch r (flg (by simp at h; exact h.1.1.1.1)),fun _=>⟨rfl,Hp.le_refl _⟩,fun hc=>?_⟩
 ·have hg:greatL l=false∧chkLs l=0:=by simp at h; exact h.1
  have ok:=chkLs_zero.1 hg.2
  have lf:=ok.ck.f.len
  exact refFAt r.k.f (by omega)
 simp only [Bool.or_eq_false_iff,bne_eq_false_iff_eq,Bool.not_eq_false',decide_eq_false_iff_not] at hc
 obtain ⟨⟨⟨⟨⟨⟨c1,c2⟩,c3⟩,c4⟩,c5⟩,c6⟩,_⟩:=hc
 have fl:=flg c1
 have ok:okLs l:=chkLs_zero.1 c2
 have op:okP p:=chkP_zero.1 c3
 have rm:=muchM_room c6
 have hlen:=ok.len
 have hb:posF l.ck.f p.1<0:=by omega
 have hlt:l.ck.f.length<64:=by omega
 obtain ⟨z,r2⟩:=putL_room ok op hb hlt (k:=1) (rm.less (by omega))
 obtain ⟨P,W⟩:=putL_ok ok z
 obtain ⟨t1,t2,t3,t4⟩:=put_take ok z
 have eM:putM l p=putL l p:=putM_in ok op
 have q1:=leditPut (p:=p) r fl
 rw [eM] at q1
 refine q1.mono fun v H8 ⟨a,hv,l8,ra⟩=>⟨_,_,a.k.f,_,a.k.cl,a.k.u1,a.k.u2,a.k.u3,a.k.u4,a.k.u5,a.k.d,a.o,a.n,_,hv,?_⟩
 have qw:=leditWhereQ (p:=p) (r.le l8) fl
 have ew:whereM l p=((rkI l p:Int),0):=by unfold whereM; rw [if_pos ⟨ok,op⟩]
 rw [ew] at qw
 refine ⟨_,_,qw,?_⟩
 have et:takeM (putL l p).1 p.1=takeL (putL l p).1 p.1:=by unfold takeM; rw [if_pos W.ok,if_neg (by rw [t1]; omega)]
 have T:=takeOk W.ok (id:=p.1) (by rw [t1]; omega)
 obtain ⟨z3,_⟩:=takeL_room T (k:=0) r2
 have K:=T.after z3
 obtain ⟨b1,b2⟩:=t4 _ K
 have q2:=leditTake (id:=p.1) ra W.ok.fit
 rw [et] at q2
 refine q2.mono fun v H26 ⟨b,hv,l26,rb⟩=>⟨_,_,b.k.f,_,b.k.cl,b.k.u1,b.k.u2,b.k.u3,b.k.u4,b.k.u5,b.k.d,b.o,b.n,_,hv,?_⟩
 have ra:=ra.le l26
 have la:(a.o.n:Int)=(putL l p).1.ord.length:=congrArg Nat.cast ra.o.len
 have hat:=RdI.get ra.o (i:=(rkI l p:Int)) (by omega) (by omega)
 rw [Int.toNat_natCast,t2] at hat
 rw [z,z3,la]
 refine ⟨fun _=>ra.o.inS (by omega) (by omega),p.1,fun _=>hat,fun hc=>?_,fun _=>?_⟩
 ·exfalso
  simp at hc
  omega
 ·have q3:=refLCheck rb K.ok.fit
  rw [chkLs_ok K.ok] at q3
  have lb:=K.ok.len
  have lbf:=K.ok.ck.f.len
  have q4:=sameIDs rb.o (r.le (Hp.le_trans l8 l26)).o (by omega)
  have e4:((takeL (putL l p).1 p.1).1.ord==l.ord)=true:=by rw [b1]; simp
  rw [e4] at q4
  have q5:=refFSame rb.k.f (r.le (Hp.le_trans l8 l26)).k.f (by omega)
  have e5:((takeL (putL l p).1 p.1).1.ck.f==l.ck.f)=true:=by rw [b2]; simp
  rw [e5] at q5
  exact ⟨0,fun _=>q3,true,fun _=>q4,true,fun _=>q5,by simp,Hp.le_trans l8 l26⟩

end Go.Proofs.YtjhbjjdipmpgjaaGreat
