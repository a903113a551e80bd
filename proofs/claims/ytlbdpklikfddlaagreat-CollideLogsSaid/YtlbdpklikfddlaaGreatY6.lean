/- The law CollideLogs. Conditions: none. -/
import Derived.Test.YtlbdpklikfddlaaGreatPYB
import Derived.Test.YtlbdpklikfddlaaGreatX2
import Derived.Test.YtlbdpklikfddlaaGreatPS1
import Derived.Test.YtlbdpklikfddlaaGreatPN2
import Derived.Test.YtlbdpklikfddlaaGreatVgCollide
import Derived.Test.YtlbdpklikfddlaaGreatVgLCollideLogs
import Derived.Test.YtlbdpklikfddlaaGreatVgR04
import Derived.Test.YtlbdpklikfddlaaGreatFs
set_option linter.unusedVariables false
set_option maxRecDepth 100000
open Go Go.Eng Go.Proofs
namespace Go.Proofs.YtlbdpklikfddlaaGreat

theorem sameM4 {H:Hp} {a b:Slc} {xs:List Pr} (ha:Rd 4 fM H a xs) (hb:Rd 4 fM H b xs) (h63:xs.length≤1000000000):Qf Tryz.prog F.pelotonref04_Same #[a.v,b.v] H (.bool true):=by
 have la:=ha.len; have lb:=hb.len
 have an:(a.n:Int)=xs.length:=by omega
 refine pelotonref04_Same_vc ⟨fun hc=>?_,fun hc=>?_⟩
 ·have hc:=bne_iff_ne.1 hc; omega
 rw [an]
 refine upto (N:=(xs.length:Int)) (J:=fun _=>True) (by omega) trivial fun n h0 h1 _=>⟨fun hn=>?_,fun hn=>⟨rfl,Hp.le_refl _⟩⟩
 have hn:n<xs.length:=of_decide_eq_true hn
 have ga:=RdM.get ha h0 hn
 have gb:=RdM.get hb h0 hn
 refine ⟨ha.inS h0 hn,_,_,_,_,ga,hb.inS h0 hn,_,_,_,_,gb,fun hc=>?_,fun hc=>upto.nx h0 hn (by omega) trivial⟩
 simp at hc
def logM (l:Ls) (to:Int × Int):Ls × List Pr × Int:=if (advM l to).2.2=0 then ((advM l to).1,betweenM l.ck.f l.ck.now to,0) else (.zero,[],(advM l to).2.2)
theorem advM_zero {l:Ls} {to:Int × Int} (h:(advM l to).2.2=0):okLs l∧untilK l.ck to=0:=by
 by_cases ok:okLs l
 ·refine ⟨ok,?_⟩
  by_cases hu:untilK l.ck to=0
  ·exact hu
  ·rw [advM_until ok hu] at h; exact absurd h hu
 ·rw [advM_bad ok] at h; exact absurd (show (8:Int)=0 from h) (by decide)
theorem colLog {H:Hp} {u:Lu} {l:Ls} {to:Int × Int} (r:RdL H u l) (fl:fitL l) (ht:fitR to) :
  Go.Eng.Fn Tryz.prog F.collide_Log #[lsV u l,raW to] H fun v H'=>∃ (w:Lu) (s:Slc),v=.tuple #[lsV w (logM l to).1,s.v,.int .i64 (logM l to).2.2]∧Hp.le H H'∧RdL H' w (logM l to).1∧Rd 4 fM H' s (logM l to).2.1:=by
 refine collide_Log_vc ((klistAdvance r fl ht).mono fun v H2 ⟨x,hv,l2,r2⟩=>⟨_,_,x.k.f,_,x.k.cl,x.k.u1,x.k.u2,x.k.u3,x.k.u4,x.k.u5,x.k.d,x.o,x.n,_,_,hv,fun h=>?_,fun h=>?_⟩)
 ·have h:=bne_iff_ne.1 h
  have e:logM l to=(.zero,[],(advM l to).2.2):=if_neg h
  rw [e]
  exact ⟨zlu,⟨none,0,0⟩,rfl,l2,RdL.zero,Rd.nil⟩
 ·have h:=bne_eq_false_iff_eq.1 h
  obtain ⟨ok,hu⟩:=advM_zero h
  obtain ⟨_,ot,hle⟩:=untilK_zero.1 hu
  have e:logM l to=((advM l to).1,betweenM l.ck.f l.ck.now to,0):=if_pos h
  rw [e]
  exact (meetAll (r.k.f.le l2) ok.ck.f ok.ck.now ot hle).mono fun v H19 ⟨s,hv,l19,r19⟩=>⟨s,0,hv,x,s,rfl,Hp.le_trans l2 l19,r2.le l19,r19⟩
theorem refLog {H:Hp} {u:Lu} {l:Ls} {to:Int × Int} (r:RdL H u l) (fl:fitL l) (ht:fitR to) :
  Go.Eng.Fn Tryz.prog F.pelotonref29_Log #[lsV u l,raW to] H fun v H'=>∃ (w:Lu) (s:Slc),v=.tuple #[lsV w (logM l to).1,s.v,.int .i64 (logM l to).2.2]∧Hp.le H H'∧RdL H' w (logM l to).1∧Rd 4 fM H' s (logM l to).2.1:=by
 refine pelotonref29_Log_vc ((rAdvance r fl ht).mono fun v H2 ⟨x,hv,l2,r2⟩=>⟨_,_,x.k.f,_,x.k.cl,x.k.u1,x.k.u2,x.k.u3,x.k.u4,x.k.u5,x.k.d,x.o,x.n,_,_,hv,fun h=>?_,fun h=>?_⟩)
 ·have h:=bne_iff_ne.1 h
  have e:logM l to=(.zero,[],(advM l to).2.2):=if_neg h
  rw [e]
  exact ⟨zlu,⟨none,0,0⟩,rfl,l2,RdL.zero,Rd.nil⟩
 ·have h:=bne_eq_false_iff_eq.1 h
  obtain ⟨ok,hu⟩:=advM_zero h
  obtain ⟨_,ot,hle⟩:=untilK_zero.1 hu
  have e:logM l to=((advM l to).1,betweenM l.ck.f l.ck.now to,0):=if_pos h
  rw [e]
  exact (refBetween4 (r.k.f.le l2) ok.ck.f ok.ck.now ot).mono fun v H19 ⟨s,hv,l19,m19⟩=>⟨l19,s,hv,x,s,rfl,Hp.le_trans l2 l19,r2.le l19,m19.rdM⟩
theorem between_few (l:Ls) (to:Int × Int) (ok:okLs l):(betweenM l.ck.f l.ck.now to).length≤1000000:=by
 have h:=metsM_small ok.ck.f
 have:(betweenM l.ck.f l.ck.now to).length≤(metsM l.ck.f).length:=by unfold betweenM; exact List.length_filter_le _ _
 omega
theorem logM_fit (l:Ls) (to:Int × Int):fitL (logM l to).1∧(logM l to).2.1.length≤1000000:=by
 unfold logM
 split
 ·rename_i h
  refine ⟨(advM_ok h).1.fit,?_⟩
  have:=between_few l to (advM_zero h).1
  exact this
 ·exact ⟨fitZl,by simp⟩
theorem collideLogs {H:Hp} {u:Lu} {l:Ls} {to:Int × Int} (r:RdL H u l) (hn:fitR l.ck.now) (hh:∀ y∈l.ck.ag.heap,fitR y.at_) (ht:fitR to) :
  Qf Tryz.prog F.pelotonlaw29_CollideLogs #[lsV u l,raW to] H (.bool true):=by
 refine pelotonlaw29_CollideLogs_vc ⟨greatL l,refLGreat r,fun _=>⟨rfl,Hp.le_refl _⟩,fun hg=>?_⟩
 have fl:=fitL_of hn hg hh
 obtain ⟨f1,f2⟩:=logM_fit l to
 refine (refLTwin r fl).mono fun v H3 ⟨t,hv,l3,r3⟩=>⟨_,_,t.k.f,_,t.k.cl,t.k.u1,t.k.u2,t.k.u3,t.k.u4,t.k.u5,t.k.d,t.o,t.n,hv,?_⟩
 refine (colLog (r.le l3) fl ht).mono fun v H18 ⟨x,s,hv,l18,rx,rs⟩=>⟨_,_,x.k.f,_,x.k.cl,x.k.u1,x.k.u2,x.k.u3,x.k.u4,x.k.u5,x.k.d,x.o,x.n,s,_,hv,?_⟩
 refine (refLog (r3.le l18) fl ht).mono fun v H35 ⟨y,z,hv,l35,ry,rz⟩=>⟨_,_,y.k.f,_,y.k.cl,y.k.u1,y.k.u2,y.k.u3,y.k.u4,y.k.u5,y.k.d,y.o,y.n,z,_,hv,?_⟩
 have l335:=Hp.le_trans l18 l35
 refine ⟨true,refLSame (rx.le l35) ry f1,true,fun _=>sameM4 (rs.le l35) rz (by omega),true,fun _=>refLSame (r.le (Hp.le_trans l3 l335)) (r3.le l335) fl,?_,Hp.le_trans l3 l335⟩
 simp
end Go.Proofs.YtlbdpklikfddlaaGreat
