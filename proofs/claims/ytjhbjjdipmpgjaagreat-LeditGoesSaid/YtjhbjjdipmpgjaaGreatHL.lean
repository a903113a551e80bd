/- The law LeditGoes. Conditions: none. -/
import Derived.Test.YtjhbjjdipmpgjaaGreatPH5
import Derived.Test.YtjhbjjdipmpgjaaGreatVgLLeditGoes
import Derived.Test.YtjhbjjdipmpgjaaGreatFs
set_option linter.unusedVariables false
set_option maxRecDepth 100000
open Go Go.Eng Go.Proofs
namespace Go.Proofs.YtjhbjjdipmpgjaaGreat

set_option maxHeartbeats 2000000 in
theorem leditGoes {H:Hp} {u:Lu} {l:Ls} {p q:Pt} {to:Int × Int} (r:RdL H u l) (hn:fitR l.ck.now) (hh:∀ y∈l.ck.ag.heap,fitR y.at_) (ht:fitR to) :
  Qf Tryz.prog F.pelotonlaw26_LeditGoes #[lsV u l,.agg #[.int .i64 p.1,.int .i64 p.2.1,.int .i64 p.2.2],.agg #[.int .i64 q.1,.int .i64 q.2.1,.int .i64 q.2.2],raW to] H (.bool true):=by
 have flg:greatL l=false→fitL l:=fun h=>fitL_of hn h hh
 have lo:(u.o.n:Int)=l.ord.length:=congrArg Nat.cast r.o.len
 have okq:greatL l=false→untilL l to=0→okLs l:=fun _ h=>by
  by_cases ok:okLs l
  ·exact ok
  ·rw [untilL_bad ok] at h; cases h
 refine pelotonlaw26_LeditGoes_vc ⟨true,law26alive,greatL l,refLGreat r,untilL l to,fun h=>rUntil25 r (flg (by simpa using h)) ht,chkP p,fun _=>refPCheck,chkP q,fun _=>refPCheck,fun h=>?_,posF l.ck.f p.1,fun h=>?_,posF l.ck.f q.1,fun h=>?_,muchM l,fun h=>refLMuch r (flg (by simp at h; exact h.1.1.1.1.1.1.1)),fun _=>⟨rfl,Hp.le_refl _⟩,fun hc=>?_⟩
 ·simp at h
  have ok:=okq h.1.1.1.1 h.1.1.1.2
  have:=ok.len; have:=ok.ck.f.len
  rw [lo]; unfold inI; omega
 ·simp at h
  have ok:=okq h.1.1.1.1.1 h.1.1.1.1.2
  have:=ok.ck.f.len
  exact refFAt r.k.f (by omega)
 ·simp at h
  have ok:=okq h.1.1.1.1.1.1 h.1.1.1.1.1.2
  have:=ok.ck.f.len
  exact refFAt r.k.f (by omega)
 simp only [Bool.or_eq_false_iff,bne_eq_false_iff_eq,Bool.not_eq_false',decide_eq_false_iff_not,beq_eq_false_iff_ne] at hc
 obtain ⟨⟨⟨⟨⟨⟨⟨⟨⟨c1,c2⟩,c3⟩,c4⟩,c5⟩,c6⟩,c7⟩,c8⟩,c9⟩,_⟩:=hc
 have fl:=flg c1
 have ok:=okq c1 c2
 have op:okP p:=chkP_zero.1 c3
 have oq:okP q:=chkP_zero.1 c4
 have rm:=muchM_room c9
 have hlen:=ok.len
 rw [untilL_ok ok] at c2
 obtain ⟨_,ot,hle⟩:=untilK_zero.1 c2
 have hp:posF l.ck.f p.1<0:=by omega
 have hq:posF l.ck.f q.1<0:=by omega
 have hl:l.ck.f.length+2≤64:=by omega
 obtain ⟨a1,a2,a3,a4,a5⟩:=puts_two ok op oq hp hq c5 hl (k:=12288) (rm.less (by omega))
 obtain ⟨b1,b2,b3,b4,b5⟩:=puts_two ok oq op hq hp (fun e=>c5 e.symm) hl (k:=12288) (rm.less (by omega))
 have hf:(allM l [p,q] []).1.ck.f=(allM l [q,p] []).1.ck.f:=by rw [a3,b3]; exact insF_swap ok.ck.f op oq hp hq c5 (by omega)
 obtain ⟨o1,_,_⟩:=a2.alike b2 hf (a4.trans b4.symm)
 have ua:untilK (allM l [p,q] []).1.ck to=0:=untilK_zero.2 ⟨a2.ck,ot,by rw [a4]; exact hle⟩
 have ub:untilK (allM l [q,p] []).1.ck to=0:=untilK_zero.2 ⟨b2.ck,ot,by rw [b4]; exact hle⟩
 have A:=advd (k:=0) a2 ua (a5.less (by omega))
 have B:=advd (k:=0) b2 ub (b5.less (by omega))
 have es:swapsM (allM l [p,q] []).1 to=swapsM (allM l [q,p] []).1 to:=by unfold swapsM; rw [hf,o1]
 intro b9 H10 hb9 hH10
 have l10:Hp.le H H10:=Hp.le_new (Hp.le_refl _) hb9 hH10
 have rp:Rd 3 fD H10 ⟨some ⟨b9,0,none⟩,2,2⟩ [p,q]:=rdConst (k:=3) (f:=fD) (fun _=>rfl) hH10 rfl rfl
 refine (leditAll (iv:=⟨none,0,0⟩) (ids:=[]) (r.le l10) fl hn rp Rd.nil (by simp) (by simp)).mono fun v H12 ⟨a,hv,l12,ra⟩=>⟨_,_,a.k.f,_,a.k.cl,a.k.u1,a.k.u2,a.k.u3,a.k.u4,a.k.u5,a.k.d,a.o,a.n,_,hv,fun b27 H28 hb27 hH28=>?_⟩
 have l28:Hp.le H12 H28:=Hp.le_new (Hp.le_refl _) hb27 hH28
 have rq:Rd 3 fD H28 ⟨some ⟨b27,0,none⟩,2,2⟩ [q,p]:=rdConst (k:=3) (f:=fD) (fun _=>rfl) hH28 rfl rfl
 have l028:=Hp.le_trans l10 (Hp.le_trans l12 l28)
 refine (leditAll (iv:=⟨none,0,0⟩) (ids:=[]) (r.le l028) fl hn rq Rd.nil (by simp) (by simp)).mono fun v H30 ⟨b,hv,l30,rb⟩=>⟨_,_,b.k.f,_,b.k.cl,b.k.u1,b.k.u2,b.k.u3,b.k.u4,b.k.u5,b.k.d,b.o,b.n,_,hv,?_⟩
 have ra:=ra.le (Hp.le_trans l28 l30)
 have la:=a2.len; have laf:=a2.ck.f.len
 have q1:=sameIDs ra.o rb.o (by omega)
 have e1:((allM l [p,q] []).1.ord==(allM l [q,p] []).1.ord)=true:=by rw [o1]; simp
 rw [e1] at q1
 rw [a1,b1]
 refine ⟨true,fun _=>q1,fun h=>by simp at h,fun _=>?_⟩
 have l030:=Hp.le_trans l028 l30
 have fa:=a2.fit; have fb:=b2.fit
 generalize (allM l [p,q] []).1=m at *
 generalize (allM l [q,p] []).1=n at *
 refine (klistAdvance ra fa ht).mono fun v H47 ⟨x,hv,l47,rx⟩=>⟨_,_,x.k.f,_,x.k.cl,x.k.u1,x.k.u2,x.k.u3,x.k.u4,x.k.u5,x.k.d,x.o,x.n,_,_,hv,?_⟩
 refine (klistAdvance (rb.le l47) fb ht).mono fun v H64 ⟨y,hv,l64,ry⟩=>⟨_,_,y.k.f,_,y.k.cl,y.k.u1,y.k.u2,y.k.u3,y.k.u4,y.k.u5,y.k.d,y.o,y.n,_,_,hv,?_⟩
 refine (fieldOrder (ra.k.f.le (Hp.le_trans l47 l64)) ht).mono fun v H81 ⟨z,hv,l81,mz⟩=>⟨z,_,hv,?_⟩
 have eo:orderM m.ck.f to=(ordM m.ck.f to,0):=by unfold orderM; rw [if_pos (timedF_zero.2 ⟨a2.ck.f,ot⟩)]
 rw [eo] at mz ⊢
 have rz:RdI H81 z (ordM m.ck.f to):=mz.rdI
 have rx:=rx.le (Hp.le_trans l64 l81)
 have ry:=ry.le l81
 have lx:=A.ok.len; have lxf:=A.ok.ck.f.len
 have q2:=sameIDs rx.o ry.o (by omega)
 have e2:((advM m to).1.ord==(advM n to).1.ord)=true:=by rw [A.ord,B.ord,hf]; simp
 rw [e2] at q2
 have q3:=sameIDs rx.o rz (by omega)
 have e3:((advM m to).1.ord==ordM m.ck.f to)=true:=by rw [A.ord]; simp
 rw [e3] at q3
 have fn:fitR (advM m to).1.ck.now:=by rw [A.now]; exact ht
 have q4:=refRCheck (H:=H81) (r:=(advM m to).1.ck.now) fn
 have e4:chkR (advM m to).1.ck.now=0:=by rw [A.now]; exact chkR_ok ot
 rw [e4] at q4
 refine ⟨true,fun _=>q2,true,fun _=>q3,0,fun _=>q4,?_,Hp.le_trans l030 (Hp.le_trans l47 (Hp.le_trans l64 l81))⟩
 rw [A.z,B.z,A.n,B.n,es]
 simp
end Go.Proofs.YtjhbjjdipmpgjaaGreat
