/- The law KlistOrder. Conditions: none. -/
import Derived.Test.YtlbdpklikfddlaaGreatPYB
import Derived.Test.YtlbdpklikfddlaaGreatPK3
import Derived.Test.YtlbdpklikfddlaaGreatPS1
import Derived.Test.YtlbdpklikfddlaaGreatPF1
import Derived.Test.YtlbdpklikfddlaaGreatPO1
import Derived.Test.YtlbdpklikfddlaaGreatPRW
import Derived.Test.YtlbdpklikfddlaaGreatVgKlist
import Derived.Test.YtlbdpklikfddlaaGreatVgLKlistOrder
import Derived.Test.YtlbdpklikfddlaaGreatFs
set_option linter.unusedVariables false
set_option maxRecDepth 100000
open Go Go.Eng Go.Proofs
namespace Go.Proofs.YtlbdpklikfddlaaGreat

set_option maxHeartbeats 2000000 in
theorem klistOrder {H:Hp} {w:Slc} {f:List Pt} {a b:Int × Int} (hf:Rd 3 fD H w f) (ha:fitR a) (hb:fitR b) :
  Qf Tryz.prog F.pelotonlaw25_KlistOrder #[vFd w,raW a,raW b] H (.bool true):=by
 have wn:(w.n:Int)=f.length:=by have:=hf.len; omega
 have h16:∀ {c:Bool},(!(c||decide ((w.n:Int)>16)))=true→f.length≤16:=fun {c} h=>by
  simp only [Bool.not_eq_true',Bool.or_eq_false_iff,decide_eq_false_iff_not] at h; omega
 refine pelotonlaw25_KlistOrder_vc ⟨true,law25alive,_,pelotonref25_Wide_vc ⟨rfl,Hp.le_refl _⟩,timedF f a,fun _=>refTimed hf ha,chkR b,fun _=>refRCheck hb,cmpR a b,fun h=>?_,fun _=>⟨rfl,Hp.le_refl _⟩,fun hc=>?_⟩
 ·simp only [Bool.not_eq_true',Bool.or_eq_false_iff,bne_eq_false_iff_eq] at h
  exact refCompareR (timedF_zero.1 h.1.2).2 (chkR_zero.1 h.2)
 simp only [Bool.or_eq_false_iff,bne_eq_false_iff_eq,decide_eq_false_iff_not] at hc
 obtain ⟨⟨⟨⟨⟨_,c2⟩,c3⟩,c4⟩,c5⟩,_⟩:=hc
 have lf:f.length≤16:=by omega
 obtain ⟨of,oa⟩:=timedF_zero.1 c3
 have ob:=chkR_zero.1 c4
 have hab:leR a b:=by
  show a.1 * b.2≤b.1 * a.2
  have:=cmpR_gt (a:=a) (b:=b)
  omega
 have B:=built c3
 have bz:=B.z; have bok:=B.ok; have bfe:=B.fe; have bnow:=B.now; have bord:=B.ord; have broom:=B.room
 refine (klistBuild hf ha).mono fun v H7 ⟨u,hv,l7,r7⟩=>?_
 generalize (buildL f a).2=e at hv bz
 generalize (buildL f a).1=l at hv r7 bok bfe bnow bord broom
 subst bz
 have hu:untilK l.ck b=0:=untilK_zero.2 ⟨bok.ck,ob,by rw [bnow]; exact hab⟩
 have A:=advd (k:=0) bok hu (broom.less (by omega))
 have sw:=swaps_between bok hu
 rw [bfe,bnow] at sw
 have an:=A.n; have az:=A.z; have aok:=A.ok; have anow:=A.now; have af:=A.f; have aord:=A.ord
 rw [bfe] at af aord
 refine ⟨_,_,u.k.f,_,u.k.cl,u.k.u1,u.k.u2,u.k.u3,u.k.u4,u.k.u5,u.k.d,u.o,u.n,0,hv,?_⟩
 refine (klistAdvance r7 bok.fit hb).mono fun v H23 ⟨x,hv,l23,r23⟩=>?_
 generalize (advM l b).2.2=e2 at hv az
 generalize (advM l b).2.1=e1 at hv an
 generalize (advM l b).1=m at hv r23 aok anow af aord
 subst az
 refine ⟨_,_,x.k.f,_,x.k.cl,x.k.u1,x.k.u2,x.k.u3,x.k.u4,x.k.u5,x.k.d,x.o,x.n,e1,0,hv,?_⟩
 have l023:=Hp.le_trans l7 l23
 have e3:orderM f a=(ordM f a,0):=by unfold orderM; rw [if_pos c3]
 have e4:orderM f b=(ordM f b,0):=by unfold orderM; rw [if_pos (timedF_zero.2 ⟨of,ob⟩)]
 have q1:=fieldOrder (hf.le l023) ha
 rw [e3] at q1
 refine q1.mono fun v H40 ⟨s,hv,l40,ms⟩=>⟨s,0,hv,?_⟩
 have l040:=Hp.le_trans l023 l40
 have q2:=fieldOrder (hf.le l040) hb
 rw [e4] at q2
 refine q2.mono fun v H44 ⟨t,hv,l44,mt⟩=>⟨t,0,hv,?_⟩
 have l044:=Hp.le_trans l040 l44
 have l2344:=Hp.le_trans l40 l44
 have r7':=r7.le (Hp.le_trans l23 l2344)
 have r23':=r23.le l2344
 have qc:=meetCount (hf.le l044) of oa ob hab
 have k1:=refLCheck r7' bok.fit
 rw [chkLs_ok bok] at k1
 have k2:=refLCheck r23' aok.fit
 rw [chkLs_ok aok] at k2
 have uo:=r7'.o; rw [bord] at uo
 have xo:=r23'.o; rw [aord] at xo
 have oln:∀ t,(ordM f t).length≤1000000000:=fun t=>by rw [ordM_len]; omega
 have s1:=sameIDs uo (ms.rdI.le l44) (oln a)
 have s2:=sameIDs xo mt.rdI (oln b)
 rw [beq_self_eq_true] at s1 s2
 have xf:=r23'.k.f; rw [af] at xf
 have s3:=refFSame xf (hf.le l044) (by omega)
 rw [beq_self_eq_true] at s3
 refine ⟨_,0,qc,0,fun _=>k1,0,fun _=>k2,true,fun _=>s1,true,fun _=>s2,true,fun _=>s3,?_,l044⟩
 rw [an,sw,anow]
 simp
end Go.Proofs.YtlbdpklikfddlaaGreat
