/- The engine, parts HG, HI, HJ, put together. Conditions: none. -/
import Derived.Test.YtjhbjjdipmpgjaaGreatHF
import Derived.Test.YtjhbjjdipmpgjaaGreatPM4
import Derived.Test.YtjhbjjdipmpgjaaGreatVgH26
import Derived.Test.YtjhbjjdipmpgjaaGreatVgKlist
import Derived.Test.YtjhbjjdipmpgjaaGreatFs
import Derived.Test.YtjhbjjdipmpgjaaGreatPK3
import Derived.Test.YtjhbjjdipmpgjaaGreatVgLLeditOrder
set_option linter.unusedVariables false
section
/- The law's own helpers: Much, has, few, example, alive. Conditions: none. -/
set_option maxRecDepth 100000
open Go Go.Eng Go.Proofs
namespace Go.Proofs.YtjhbjjdipmpgjaaGreat

theorem refLMuch {H:Hp} {u:Lu} {l:Ls} (r:RdL H u l) (fl:fitL l):Qf Tryz.prog F.pelotonref25_Much #[lsV u l] H (.bool (muchM l)):=by
  have ru:=r.k.ag.tb.uses
  have lu:=ru.len
  have hs:=fl.k.ag.tb
  refine pelotonref25_Much_vc ⟨fun h=>⟨?_,Hp.le_refl _⟩,fun h=>?_⟩
  · have:(decide (l.ck.ct.next<0)||decide (900000<l.ck.ct.next))=true:=h
    unfold muchM; rw [this]; rfl
  have hb:(decide (l.ck.ct.next<0)||decide (900000<l.ck.ct.next))=false:=h
  have em:muchM l=l.ck.ag.tb.uses.all fun u=>!decide (900000<u):=by unfold muchM; rw [hb]; rfl
  have hl:l.ck.ag.tb.uses.length≤1000000000:=by unfold Tb.small at hs; omega
  rw [em]
  refine upto (N:=l.ck.ag.tb.uses.length) (J:=fun n=>∀ y∈l.ck.ag.tb.uses.take n.toNat,(!decide (900000<y))=true) (by omega) (by simp) fun n n0 n1 hJ=>⟨fun hn=>?_,fun hn=>?_⟩
  · have hn:n<l.ck.ag.tb.uses.length:=by have:n<u.k.u1.n:=by simpa using hn
                                         omega
    have hg:=getI n0 hn
    refine ru.ldI n0 hn ?_
    generalize l.ck.ag.tb.uses.getD n.toNat 0=x at *
    refine ⟨fun hx=>⟨?_,Hp.le_refl _⟩,fun hx=>upto.nx n0 hn (by omega) ?_⟩
    · have:l.ck.ag.tb.uses.all (fun u=>!decide (900000<u))=false:=by
        rw [List.all_eq_false]
        exact ⟨x,List.mem_of_getElem? hg,by simpa using hx⟩
      rw [this]
    · rw [show (n+1).toNat=n.toNat+1 by omega,take_succ hg]
      intro y hy
      rcases List.mem_append.1 hy with hy | hy
      · exact hJ y hy
      · simp only [List.mem_singleton] at hy; subst hy; simpa using hx
  · have hn:n=l.ck.ag.tb.uses.length:=by have:¬ n<u.k.u1.n:=by simpa using hn
                                         omega
    subst hn
    rw [Int.toNat_natCast,List.take_length] at hJ
    have:l.ck.ag.tb.uses.all (fun u=>!decide (900000<u))=true:=List.all_eq_true.2 hJ
    rw [this]; exact ⟨rfl,Hp.le_refl _⟩


def exP7:Ls:=(putM exLs (7,3,0)).1
def exT7:Ls:=(takeM exP7 7).1
theorem exPz:putM exLs (7,3,0)=(exP7,0):=Prod.ext rfl (by kernel_rfl)
theorem exTz:takeM exP7 7=(exT7,0):=Prod.ext rfl (by kernel_rfl)
theorem exPo:exP7.ord=[2,7,1,5]:=by kernel_rfl
theorem exPn:exP7.num=[2,3,1]:=by kernel_rfl
theorem exTo:exT7.ord=[2,1,5]:=by kernel_rfl
theorem exTn:exT7.num=[4,1]:=by kernel_rfl
theorem exPfit:fitL exP7:=(putM_sound exLs (7,3,0)).fitS

theorem law26example_of {H:Hp} {x0:Ls} (h0:buildL exF (0,1)=(x0,0)):Go.Eng.Fn Tryz.prog F.pelotonlaw26_example #[] H fun v H'=>∃ u:Lu,v=lsV u x0∧Hp.le H H'∧RdL H' u x0:=by
 refine pelotonlaw26_example_vc fun b1 H2 hb1 hH2=>?_
 have l2:Hp.le H H2:=Hp.le_new (Hp.le_refl _) hb1 hH2
 have rf:Rd 3 fD H2 ⟨some ⟨b1,0,none⟩,3,3⟩ exF:=rdConst (k:=3) (f:=fD) (fun _=>rfl) hH2 rfl rfl
 have q:=refBuildL rf fit01
 rw [h0] at q
 exact q.mono fun v H4 ⟨u,hv,l4,r4⟩=>⟨_,_,u.k.f,_,u.k.cl,u.k.u1,u.k.u2,u.k.u3,u.k.u4,u.k.u5,u.k.d,u.o,u.n,0,hv,u,rfl,Hp.le_trans l2 l4,r4⟩

set_option maxHeartbeats 2000000 in
theorem law26alive_of {H:Hp} {x0 x1 x2:Ls} (f0:fitL x0) (f1:fitL x1) (ex:∀ {H:Hp},Go.Eng.Fn Tryz.prog F.pelotonlaw26_example #[] H fun v H'=>∃ u:Lu,v=lsV u x0∧Hp.le H H'∧RdL H' u x0)
  (h1:putM x0 (7,3,0)=(x1,0)) (h2:takeM x1 7=(x2,0)) (o1:x1.ord=[2,7,1,5]) (n1:x1.num=[2,3,1]) (o2:x2.ord=[2,1,5]) (n2:x2.num=[4,1]) :
  Qf Tryz.prog F.pelotonlaw26_alive #[] H (.bool true):=by
 refine pelotonlaw26_alive_vc (ex.mono fun v H2 ⟨u,hv,l2,r⟩=>⟨_,_,u.k.f,_,u.k.cl,u.k.u1,u.k.u2,u.k.u3,u.k.u4,u.k.u5,u.k.d,u.o,u.n,hv,?_⟩)
 have q1:=leditPut (p:=(7,3,0)) r f0
 rw [h1] at q1
 refine q1.mono fun v H17 ⟨a,hv,l17,ra⟩=>⟨_,_,a.k.f,_,a.k.cl,a.k.u1,a.k.u2,a.k.u3,a.k.u4,a.k.u5,a.k.d,a.o,a.n,0,hv,?_⟩
 have ra:RdL H17 a x1:=ra
 have q2:=leditTake (id:=7) ra f1
 rw [h2] at q2
 refine q2.mono fun v H33 ⟨b,hv,l33,rb⟩=>⟨_,_,b.k.f,_,b.k.cl,b.k.u1,b.k.u2,b.k.u3,b.k.u4,b.k.u5,b.k.d,b.o,b.n,0,hv,fun _=>fun b48 H49 hb48 hH49=>?_,fun h=>by simp at h⟩
 have rb:RdL H33 b x2:=rb
 have ra:=ra.le l33
 have l49:Hp.le H33 H49:=Hp.le_new (Hp.le_refl _) hb48 hH49
 have c49:RdI H49 ⟨some ⟨b48,0,none⟩,4,4⟩ [2,7,1,5]:=rdConst (k:=1) (f:=fI) (fun _=>rfl) hH49 rfl rfl
 have ao:=ra.o; have an:=ra.n; have bo:=rb.o; have bn:=rb.n
 rw [o1] at ao; rw [n1] at an; rw [o2] at bo; rw [n2] at bn
 refine ⟨true,fun _=>sameIDs (ao.le l49) c49 (by decide),fun _=>fun b51 H52 hb51 hH52=>?_,fun h=>by simp at h⟩
 have l52:Hp.le H49 H52:=Hp.le_new (Hp.le_refl _) hb51 hH52
 have c52:RdI H52 ⟨some ⟨b51,0,none⟩,3,3⟩ [2,3,1]:=rdConst (k:=1) (f:=fI) (fun _=>rfl) hH52 rfl rfl
 have u52:=Hp.le_trans l49 l52
 refine ⟨true,fun _=>sameIDs (an.le u52) c52 (by decide),fun _=>fun b54 H55 hb54 hH55=>?_,fun h=>by simp at h⟩
 have l55:Hp.le H52 H55:=Hp.le_new (Hp.le_refl _) hb54 hH55
 have c55:RdI H55 ⟨some ⟨b54,0,none⟩,3,3⟩ [2,1,5]:=rdConst (k:=1) (f:=fI) (fun _=>rfl) hH55 rfl rfl
 have u55:=Hp.le_trans u52 l55
 refine ⟨true,fun _=>sameIDs (bo.le u55) c55 (by decide),fun _=>fun b57 H58 hb57 hH58=>?_,fun h=>by simp at h⟩
 have l58:Hp.le H55 H58:=Hp.le_new (Hp.le_refl _) hb57 hH58
 have c58:RdI H58 ⟨some ⟨b57,0,none⟩,2,2⟩ [4,1]:=rdConst (k:=1) (f:=fI) (fun _=>rfl) hH58 rfl rfl
 have u58:=Hp.le_trans u55 l58
 exact ⟨true,fun _=>sameIDs (bn.le u58) c58 (by decide),by simp,Hp.le_trans l2 (Hp.le_trans l17 (Hp.le_trans l33 u58))⟩
theorem law26alive {H:Hp}:Qf Tryz.prog F.pelotonlaw26_alive #[] H (.bool true) :=
 law26alive_of exOk.fit exPfit (law26example_of exB) exPz exTz exPo exPn exTo exTn

theorem putF_in {f:List Pt} {p:Pt} (of:okF f) (op:okP p) (hn:posF f p.1<0):putF f p=if f.length=64 then ([],18) else (insF f p,0):=by
 unfold putF
 rw [if_neg (by rw [chkF_zero.2 of]; simp),if_neg (by simpa using op),if_neg (by omega)]
theorem putM_in {l:Ls} (ok:okLs l) {p:Pt} (op:okP p):putM l p=putL l p:=by unfold putM; rw [if_pos ⟨ok,op⟩]
theorem putL_full {l:Ls} (ok:okLs l) {p:Pt} (op:okP p) (hn:posF l.ck.f p.1<0) (hl:l.ck.f.length=64):(putL l p).2=18:=by
 have e:=putF_in ok.ck.f op hn
 rw [if_pos hl] at e
 unfold putL
 rw [e,if_pos (by simp)]
theorem change_room {l:Ls} (ok:okLs l) {p:Pt} (op:okP p) (h0:0≤posF l.ck.f p.1) {k:Nat} (r:Room l.ck (k+3)) :
  (changeM l p).2=0∧okLs (changeM l p).1∧(changeM l p).1.ck.f=setF l.ck.f p∧(changeM l p).1.ck.now=l.ck.now:=by
 have hpos:0≤posO l.ord p.1:=by
  have hm:p.1∈l.ord:=ok.perm.mem_iff.2 (posF_mem.1 h0)
  rcases Int.lt_or_le (posO l.ord p.1) 0 with h | h
  ·have:=idx_out h p.1 hm
   simp at this
  ·exact h
 have T:=takeOk ok hpos
 have e:takeM l p.1=takeL l p.1:=by unfold takeM; rw [if_pos ok,if_neg (by omega)]
 obtain ⟨z,r2⟩:=takeL_room T (k:=k+2) r
 have K:=T.after z
 have ec:changeM l p=putL (takeL l p.1).1 p:=by
  unfold changeM
  rw [if_pos ⟨ok,op⟩,e,if_pos z]
 have hn:posF (takeL l p.1).1.ck.f p.1<0:=by rw [K.f]; exact outF_no _ _
 have q:=posF_range h0
 have hl:(takeL l p.1).1.ck.f.length<64:=by
  rw [K.f]
  have h1:=(outF_perm (okF_nodup ok.ck.f) (List.mem_of_getElem? q.2.1)).length_eq
  rw [q.2.2] at h1
  have:=ok.ck.f.len
  simp at h1
  omega
 obtain ⟨z2,_⟩:=putL_room K.ok op hn hl r2
 obtain ⟨_,W⟩:=putL_ok K.ok z2
 rw [ec]
 refine ⟨z2,W.ok,?_,W.now.trans K.now⟩
 rw [W.f,K.f]
 exact (setF_eq ok.ck.f op h0).1.symm
theorem timed_of {l:Ls} (ok:okLs l) {f:List Pt} (of:okF f):timedF f l.ck.now=0:=timedF_zero.2 ⟨of,ok.ck.now⟩

theorem agree {H:Hp} {a b:Lu} {w:Slc} {f:List Pt} {m n:Ls} {t:Int × Int} (ra:RdL H a m) (rb:RdL H b n) (hw:Rd 3 fD H w f) (om:okLs m) (on:okLs n) (hf:m.ck.f=f) (hnf:n.ck.f=f) (hm:m.ck.now=t) (hnn:n.ck.now=t) :
  Qf Tryz.prog F.pelotonref25_Check #[lsV a m] H (.int .i64 0)∧Qf Tryz.prog F.pelotonref03_Same #[vFd a.k.f,vFd w] H (.bool true)∧Qf Tryz.prog F.pelotonref03_SameIDs #[a.o.v,b.o.v] H (.bool true)∧a.k.cl.n=b.k.cl.n∧a.k.d.n=b.k.d.n:=by
 have q1:=refLCheck ra om.fit
 rw [chkLs_ok om] at q1
 have lf:=om.ck.f.len
 have q2:=refFSame ra.k.f hw (by omega)
 rw [hf] at q2
 have e2:(f==f)=true:=by simp
 rw [e2] at q2
 obtain ⟨o,c,d⟩:=om.alike on (hf.trans hnf.symm) (hm.trans hnn.symm)
 have lo:=om.len
 have q3:=sameIDs ra.o rb.o (by omega)
 have e3:(m.ord==n.ord)=true:=by rw [o]; simp
 rw [e3] at q3
 exact ⟨q1,q2,q3,by rw [ra.k.cl.len,rb.k.cl.len,c],by rw [ra.k.due.len,rb.k.due.len,d]⟩

set_option maxHeartbeats 2000000 in
theorem leditOrder {H:Hp} {u:Lu} {l:Ls} {p:Pt} (r:RdL H u l) (hn:fitR l.ck.now) (hh:∀ y∈l.ck.ag.heap,fitR y.at_) :
  Qf Tryz.prog F.pelotonlaw26_LeditOrder #[lsV u l,.agg #[.int .i64 p.1,.int .i64 p.2.1,.int .i64 p.2.2]] H (.bool true):=by
 have flg:greatL l=false→fitL l:=fun h=>fitL_of hn h hh
 refine pelotonlaw26_LeditOrder_vc ⟨true,law26alive,greatL l,refLGreat r,chkLs l,fun h=>refLCheck r (flg (by simpa using h)),chkP p,fun _=>refPCheck,muchM l,fun h=>refLMuch r (flg (by simp at h; exact h.1.1)),fun _=>⟨rfl,Hp.le_refl _⟩,fun hc=>?_⟩
 simp only [Bool.or_eq_false_iff,bne_eq_false_iff_eq,Bool.not_eq_false'] at hc
 obtain ⟨⟨⟨⟨c1,c2⟩,c3⟩,c4⟩,_⟩:=hc
 have fl:=flg c1
 have ok:okLs l:=chkLs_zero.1 c2
 have op:okP p:=chkP_zero.1 c3
 have rm:=muchM_room c4
 have lf:=ok.ck.f.len
 refine ⟨_,refFAt r.k.f (by omega),(leditChange (p:=p) r fl).mono fun v H8 ⟨a,hv,l8,ra⟩=>⟨_,_,a.k.f,_,a.k.cl,a.k.u1,a.k.u2,a.k.u3,a.k.u4,a.k.u5,a.k.d,a.o,a.n,_,hv,?_⟩⟩
 refine (fieldChange (p:=p) (r.k.f.le l8)).mono fun v H24 ⟨w,hv,l24,rw24⟩=>⟨w,_,hv,fun hb=>?_,fun hb=>?_⟩
 ·have hb:posF l.ck.f p.1<0:=by simpa using hb
  have l024:=Hp.le_trans l8 l24
  refine (leditPut (p:=p) (r.le l024) fl).mono fun v H28 ⟨b,hv,l28,rb⟩=>⟨_,_,b.k.f,_,b.k.cl,b.k.u1,b.k.u2,b.k.u3,b.k.u4,b.k.u5,b.k.d,b.o,b.n,_,hv,?_⟩
  have l028:=Hp.le_trans l024 l28
  refine (fieldPut (p:=p) (r.k.f.le l028)).mono fun v H44 ⟨z,hv,l44,rz⟩=>⟨z,_,hv,fun he=>?_,fun he=>?_⟩
  ·have l044:=Hp.le_trans l028 l44
   rw [putM_in ok op,putF_in ok.ck.f op hb] at he ⊢
   by_cases h64:l.ck.f.length=64
   ·rw [if_pos h64,putL_full ok op hb h64]; exact ⟨rfl,l044⟩
   ·rw [if_neg h64] at he ⊢
    have:=(putL_room ok op hb (by omega) (k:=0) (rm.less (by omega))).1
    rw [this]; exact ⟨rfl,l044⟩
  ·rw [putM_in ok op,putF_in ok.ck.f op hb] at he
   rw [putF_in ok.ck.f op hb] at rz
   rw [putM_in ok op] at rb ⊢
   have h64:¬ l.ck.f.length=64:=fun h=>by rw [if_pos h] at he; simp at he
   rw [if_neg h64] at rz
   have rz:Rd 3 fD H44 z (insF l.ck.f p):=rz
   have hlt:l.ck.f.length<64:=by omega
   obtain ⟨zz,_⟩:=putL_room ok op hb hlt (k:=0) (rm.less (by omega))
   obtain ⟨P,W⟩:=putL_ok ok zz
   have B:=built (timed_of ok (okF_insF ok.ck.f op hb hlt))
   refine (klistBuild rz hn).mono fun v H48 ⟨q,hv,l48,rq⟩=>⟨_,_,q.k.f,_,q.k.cl,q.k.u1,q.k.u2,q.k.u3,q.k.u4,q.k.u5,q.k.d,q.o,q.n,_,hv,?_⟩
   obtain ⟨g1,g2,g3,g4,g5⟩:=agree (rb.le (Hp.le_trans l44 l48)) rq (rz.le l48) W.ok B.ok W.f B.fe W.now B.now
   refine ⟨0,fun _=>g1,true,fun _=>g2,true,fun _=>g3,?_,Hp.le_trans l028 (Hp.le_trans l44 l48)⟩
   rw [B.z,g4,g5,W.now]
   simp
 ·have hb:0≤posF l.ck.f p.1:=by simpa using hb
  have l024:=Hp.le_trans l8 l24
  have ef:changeF l.ck.f p=(setF l.ck.f p,0):=by
   unfold changeF
   rw [if_neg (by rw [chkF_zero.2 ok.ck.f]; simp),if_neg (by simpa using op),if_neg (by omega)]
  obtain ⟨z,om,mf,mn⟩:=change_room ok op hb (k:=0) (rm.less (by omega))
  rw [ef] at rw24 ⊢
  have rw24:Rd 3 fD H24 w (setF l.ck.f p):=rw24
  refine ⟨fun he=>?_,fun he=>?_⟩
  ·rw [z] at he; simp at he
  ·have B:=built (timed_of ok (setF_eq ok.ck.f op hb).2)
   refine (klistBuild rw24 hn).mono fun v H67 ⟨q,hv,l67,rq⟩=>⟨_,_,q.k.f,_,q.k.cl,q.k.u1,q.k.u2,q.k.u3,q.k.u4,q.k.u5,q.k.d,q.o,q.n,_,hv,?_⟩
   obtain ⟨g1,g2,g3,g4,g5⟩:=agree (ra.le (Hp.le_trans l24 l67)) rq (rw24.le l67) om B.ok mf B.fe mn B.now
   refine ⟨0,fun _=>g1,true,fun _=>g2,true,fun _=>g3,?_,Hp.le_trans l024 l67⟩
   rw [B.z,g4,g5,mn]
   simp
end Go.Proofs.YtjhbjjdipmpgjaaGreat
end
