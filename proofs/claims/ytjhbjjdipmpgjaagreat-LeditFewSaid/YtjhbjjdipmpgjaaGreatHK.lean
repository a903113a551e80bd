/- The laws LeditBack, LeditFew. Conditions: none. -/
import Derived.Test.YtjhbjjdipmpgjaaGreatPH5
import Derived.Test.YtjhbjjdipmpgjaaGreatVgLLeditBack
import Derived.Test.YtjhbjjdipmpgjaaGreatVgLLeditFew
import Derived.Test.YtjhbjjdipmpgjaaGreatFs
set_option linter.unusedVariables false
set_option maxRecDepth 100000
open Go Go.Eng Go.Proofs
namespace Go.Proofs.YtjhbjjdipmpgjaaGreat

set_option maxHeartbeats 2000000 in
theorem leditFew {H:Hp} {u:Lu} {l:Ls} {p:Pt} {i:Int} (r:RdL H u l) (hn:fitR l.ck.now) (hh:∀ y∈l.ck.ag.heap,fitR y.at_) :
  Qf Tryz.prog F.pelotonlaw26_LeditFew #[lsV u l,.agg #[.int .i64 p.1,.int .i64 p.2.1,.int .i64 p.2.2],.int .i64 i] H (.bool true):=by
 have flg:greatL l=false→fitL l:=fun h=>fitL_of hn h hh
 refine pelotonlaw26_LeditFew_vc ⟨true,law26alive,greatL l,refLGreat r,chkLs l,fun h=>refLCheck r (flg (by simpa using h)),chkP p,fun _=>refPCheck,muchM l,fun h=>refLMuch r (flg (by simp at h; exact h.1.1)),fun _=>⟨rfl,Hp.le_refl _⟩,fun hc=>?_⟩
 simp only [Bool.or_eq_false_iff,bne_eq_false_iff_eq,Bool.not_eq_false'] at hc
 obtain ⟨⟨⟨⟨c1,c2⟩,c3⟩,c4⟩,_⟩:=hc
 have fl:=flg c1
 have ok:okLs l:=chkLs_zero.1 c2
 have op:okP p:=chkP_zero.1 c3
 have rm:=muchM_room c4
 have lf:=ok.ck.f.len
 have hlen:=ok.len
 have lo:(u.o.n:Int)=l.ord.length:=congrArg Nat.cast r.o.len
 have hnx:0≤l.ck.ct.next∧l.ck.ct.next≤1000000000:=by
  unfold muchM at c4
  simp only [Bool.and_eq_true,Bool.not_eq_true',Bool.or_eq_false_iff,decide_eq_false_iff_not] at c4
  omega
 -- what is taken out
 have take:∀ {H8:Hp},Hp.le H H8→0≤i→i<l.ord.length→Go.Eng.Fn Tryz.prog F.ledit_Take #[lsV u l,.int .i64 (l.ord.getD i.toNat 0)] H8 fun v H26=>Hp.le H8 H26∧∃ (b:Lu) (m:Ls),v=.tuple #[lsV b m,.int .i64 0]∧Qf Tryz.prog F.pelotonlaw26_few #[lsV u l,lsV b m,.int .i64 2,.int .i64 1] H26 (.bool true):=by
  intro H8 l8 i0 i1
  have hm:l.ord.getD i.toNat 0∈l.ord:=memD (by omega)
  have hp:0≤posO l.ord (l.ord.getD i.toNat 0):=by
   rcases Int.lt_or_le (posO l.ord (l.ord.getD i.toNat 0)) 0 with h | h
   ·have:=idx_out h _ hm
    simp at this
   ·exact h
  generalize l.ord.getD i.toNat 0=id at *
  have T:=takeOk ok hp
  have e:takeM l id=takeL l id:=by unfold takeM; rw [if_pos ok,if_neg (by omega)]
  obtain ⟨z,_⟩:=takeL_room T (k:=0) (rm.less (by omega))
  have K:=T.after z
  have few:=take_few ok T z
  have q:=leditTake (id:=id) (r.le l8) fl
  rw [e] at q
  refine q.mono fun v H26 ⟨b,hv,l26,rb⟩=>⟨l26,b,_,?_,law26few (g:=2) (k:=1) (r.le (Hp.le_trans l8 l26)) rb few fl K.ok.fit hnx (by decide) (by decide)⟩
  rw [hv,z]
 refine ⟨_,refFAt r.k.f (by omega),fun hb=>?_,fun hb=>?_⟩
 ·have hb:posF l.ck.f p.1<0∧l.ord.length<64:=by
   rw [lo] at hb
   simp only [Bool.and_eq_true,decide_eq_true_eq] at hb
   omega
  obtain ⟨z,_⟩:=putL_room ok op hb.1 (by omega) (k:=0) (rm.less (by omega))
  obtain ⟨P,W⟩:=putL_ok ok z
  have few:=put_few ok z
  have q1:=leditPut (p:=p) r fl
  rw [putM_in ok op] at q1
  refine q1.mono fun v H8 ⟨a,hv,l8,ra⟩=>⟨_,_,a.k.f,_,a.k.cl,a.k.u1,a.k.u2,a.k.u3,a.k.u4,a.k.u5,a.k.d,a.o,a.n,_,hv,?_⟩
  rw [z,lo]
  refine ⟨true,fun _=>law26few (g:=1) (k:=2) (r.le l8) ra few fl W.ok.fit hnx (by decide) (by decide),fun h=>by simp at h,fun _=>⟨fun _=>⟨rfl,l8⟩,fun hi=>?_⟩⟩
  have hi:0≤i∧i<l.ord.length:=by
   simp only [Bool.or_eq_false_iff,decide_eq_false_iff_not] at hi
   omega
  have ro:=(r.le l8).o
  exact ⟨ro.inS hi.1 hi.2,_,RdI.get ro hi.1 hi.2,(take l8 hi.1 hi.2).mono fun v H26 ⟨l26,b,m,hv,q⟩=>⟨l26,_,_,b.k.f,_,b.k.cl,b.k.u1,b.k.u2,b.k.u3,b.k.u4,b.k.u5,b.k.d,b.o,b.n,_,hv,true,fun _=>q,by simp,Hp.le_trans l8 l26⟩⟩
 ·refine ⟨fun _=>⟨rfl,Hp.le_refl _⟩,fun hi=>?_⟩
  rw [lo] at hi
  have hi:0≤i∧i<l.ord.length:=by
   simp only [Bool.or_eq_false_iff,decide_eq_false_iff_not] at hi
   omega
  exact ⟨r.o.inS hi.1 hi.2,_,RdI.get r.o hi.1 hi.2,(take (Hp.le_refl _) hi.1 hi.2).mono fun v H26 ⟨l26,b,m,hv,q⟩=>⟨l26,_,_,b.k.f,_,b.k.cl,b.k.u1,b.k.u2,b.k.u3,b.k.u4,b.k.u5,b.k.d,b.o,b.n,_,hv,true,fun _=>q,by simp,l26⟩⟩
end Go.Proofs.YtjhbjjdipmpgjaaGreat
