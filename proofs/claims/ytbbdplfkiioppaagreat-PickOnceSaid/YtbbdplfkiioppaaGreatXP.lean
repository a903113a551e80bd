/- The law PickOnce. Conditions: none. -/
import Derived.Test.YtbbdplfkiioppaaGreatX8
import Derived.Test.YtbbdplfkiioppaaGreatVgKlist
import Derived.Test.YtbbdplfkiioppaaGreatVgLPickOnce
import Derived.Test.YtbbdplfkiioppaaGreatFs
set_option linter.unusedVariables false
set_option maxRecDepth 100000
open Go Go.Eng Go.Proofs
namespace Go.Proofs.YtbbdplfkiioppaaGreat

theorem refLMuch {H:Hp} {u:Lu} {l:Ls} (r:RdL H u l) (fl:fitL l):Qf Tryz.prog F.pelotonref25_Much #[lsV u l] H (.bool (muchM l)):=by
  have ru:=r.k.ag.tb.uses
  have lu:=ru.len
  have hs:=fl.k.ag.tb
  refine pelotonref25_Much_vc ⟨fun h=>⟨?_,Hp.le_refl _⟩,fun h=>?_⟩
  · have:(decide (l.ck.ct.next<0)||decide (900000<l.ck.ct.next))=true:=h
    unfold muchM; rw [this]; rfl
  have hb:(decide (l.ck.ct.next<0)||decide (900000<l.ck.ct.next))=false:=h
  have em:muchM l=l.ck.ag.tb.uses.all fun u=>!decide (900000<u):=by unfold muchM; rw [hb]; rfl
  have hl:l.ck.ag.tb.uses.length≤1000000000:=by unfold Tb.small at hs; omega
  rw [em]
  refine upto (N:=l.ck.ag.tb.uses.length) (J:=fun n=>∀ y∈l.ck.ag.tb.uses.take n.toNat,(!decide (900000<y))=true) (by omega) (by simp) fun n n0 n1 hJ=>⟨fun hn=>?_,fun hn=>?_⟩
  · have hn:n<l.ck.ag.tb.uses.length:=by have:n<u.k.u1.n:=by simpa using hn
                                         omega
    have hg:=getI n0 hn
    refine ru.ldI n0 hn ?_
    generalize l.ck.ag.tb.uses.getD n.toNat 0=x at *
    refine ⟨fun hx=>⟨?_,Hp.le_refl _⟩,fun hx=>upto.nx n0 hn (by omega) ?_⟩
    · have:l.ck.ag.tb.uses.all (fun u=>!decide (900000<u))=false:=by
        rw [List.all_eq_false]
        exact ⟨x,List.mem_of_getElem? hg,by simpa using hx⟩
      rw [this]
    · rw [show (n+1).toNat=n.toNat+1 by omega,take_succ hg]
      intro y hy
      rcases List.mem_append.1 hy with hy | hy
      · exact hJ y hy
      · simp only [List.mem_singleton] at hy; subst hy; simpa using hx
  · have hn:n=l.ck.ag.tb.uses.length:=by have:¬ n<u.k.u1.n:=by simpa using hn
                                         omega
    subst hn
    rw [Int.toNat_natCast,List.take_length] at hJ
    have:l.ck.ag.tb.uses.all (fun u=>!decide (900000<u))=true:=List.all_eq_true.2 hJ
    rw [this]; exact ⟨rfl,Hp.le_refl _⟩


def seenL (f:List Pt) (t:Int × Int) (k:Nat):List Int:=(List.range f.length).map fun i=>(seenM f t k i:Int)
theorem seenL_len (f:List Pt) (t:Int × Int) (k:Nat):(seenL f t k).length=f.length:=by unfold seenL; simp
theorem seenL_get {f:List Pt} {t:Int × Int} {k i:Nat} (h:i<f.length):(seenL f t k).getD i 0=seenM f t k i:=by
 unfold seenL
 rw [List.getD_eq_getElem?_getD,List.getElem?_map,List.getElem?_range h]; rfl
theorem seenL_zero (f:List Pt) (t:Int × Int):seenL f t 0=List.replicate f.length 0:=by
 refine List.ext_getElem? fun i=>?_
 unfold seenL
 rw [List.getElem?_map]
 by_cases h:i<f.length
 ·rw [List.getElem?_range h,List.getElem?_replicate,if_pos h]; rfl
 ·rw [List.getElem?_eq_none (by simp; omega),List.getElem?_replicate,if_neg h]; rfl
theorem seenL_succ {f:List Pt} {t:Int × Int} {k:Nat} {p:Nat} (hp:posF f (keyM f k t)=p):seenL f t (k+1)=(seenL f t k).set p (seenM f t k p+1):=by
 refine List.ext_getElem? fun i=>?_
 unfold seenL
 rw [List.getElem?_map,List.getElem?_set,List.getElem?_map,List.length_map,List.length_range]
 by_cases h:i<f.length
 ·rw [List.getElem?_range h]
  simp only [Option.map_some]
  rw [seenM_succ,hp]
  by_cases e:p=i
  ·subst e; rw [if_pos rfl,if_pos h,if_pos rfl]; rfl
  ·rw [if_neg e,if_neg (by omega)]; rfl
 ·rw [List.getElem?_eq_none (by simp; omega)]
  by_cases e:p=i
  ·subst e; rw [if_pos rfl,if_neg h]; rfl
  ·rw [if_neg e]; rfl
theorem seenM_le (f:List Pt) (t:Int × Int) (k i:Nat):seenM f t k i≤k:=by
 unfold seenM
 exact Nat.le_trans List.countP_le_length (by simp)

set_option maxHeartbeats 2000000 in
theorem pickOnce {H:Hp} {u:Lu} {l:Ls} {mid to:Int × Int} (r:RdL H u l) (hn:fitR l.ck.now) (hh:∀ y∈l.ck.ag.heap,fitR y.at_) (hm:fitR mid) (ht:fitR to) :
  Qf Tryz.prog F.pelotonlaw30_PickOnce #[lsV u l,raW mid,raW to] H (.bool true):=by
 have flg:greatL l=false→fitL l:=fun h=>fitL_of hn h hh
 have lo:(u.o.n:Int)=l.ord.length:=congrArg Nat.cast r.o.len
 have lp:(u.k.f.n:Int)=l.ck.f.length:=congrArg Nat.cast r.k.f.len
 refine pelotonlaw30_PickOnce_vc ⟨true,law30alive,greatL l,refLGreat r,untilL l mid,fun h=>rUntil25 r (flg (by simpa using h)) hm,chkR to,fun _=>refRCheck ht,cmpR mid to,fun h=>?_,muchM l,fun h=>refLMuch r (flg (by simp at h; exact h.1.1.1)),fun _=>⟨rfl,Hp.le_refl _⟩,fun hc=>?_⟩
 ·simp at h
  obtain ⟨_,om,_⟩:=untilK_zero.1 (untilL_zero h.1.2).2
  exact refCompareR om (chkR_zero.1 h.2)
 simp only [Bool.or_eq_false_iff,bne_eq_false_iff_eq,decide_eq_false_iff_not] at hc
 obtain ⟨⟨⟨⟨⟨c1,c2⟩,c3⟩,c4⟩,_⟩,_⟩:=hc
 have fl:=flg c1
 obtain ⟨ok,um⟩:=untilL_zero c2
 obtain ⟨_,om,hle⟩:=untilK_zero.1 um
 have ot:okR to:=chkR_zero.1 c3
 have hmt:leR mid to:=by
  show mid.1 * to.2≤to.1 * mid.2
  have:=cmpR_gt (a:=mid) (b:=to)
  omega
 have ut:untilK l.ck to=0:=untilK_zero.2 ⟨ok.ck,ot,leR_trans ok.ck.now om ot hle hmt⟩
 have of:=ok.ck.f
 have lf:=of.small
 have ln:=ok.len
 refine ⟨⟨rfl,by omega,by omega⟩,fun b7 H8 hb hH=>?_⟩
 have m8:=made_mine (g:=fun x=>Value.int .i64 x) (e:=3) hfI (n:=(u.k.f.n:Int)) (z:=0) hb hH rfl
 have en:(u.k.f.n:Int).toNat=l.ck.f.length:=by omega
 rw [en] at m8 ⊢
 rw [← seenL_zero l.ck.f mid] at m8
 have l8:Hp.le H H8:=Hp.le_new (Hp.le_refl _) hb hH
 generalize hs:(⟨some ⟨b7,0,none⟩,l.ck.f.length,l.ck.f.length⟩:Slc)=s at m8
 have hsa:some (Addr.mk b7 0 none)=s.a:=by rw [← hs]
 have hsn:l.ck.f.length=s.n:=by rw [← hs]
 rw [hsa]
 refine ⟨fun i H'=>0≤i∧i≤l.ord.length∧Hp.le H H'∧Mine 1 fI 3 H H' s (seenL l.ck.f mid i.toNat),fun i _=>((l.ord.length:Int)-i).toNat,⟨Int.le_refl _,by omega,l8,m8⟩,fun i H12 ⟨i0,i1,l12,m12⟩=>⟨fun h=>?_,fun h=>?_⟩⟩
 ·have hi:i<l.ord.length:=by have:=of_decide_eq_true h; omega
  have hin:i.toNat<l.ck.f.length:=by omega
  have ek:kthM l i=(l.ord.getD i.toNat 0,0):=by unfold kthM; rw [if_pos ok,if_neg (by omega),if_neg (by omega)]
  have er:=reignM_go (to:=to) ok ut (show (kthM l i).2=0 by rw [ek])
  have q:=pickReign (k:=i) (r.le l12) fl ht
  have small:=reignL_small ok i.toNat to
  have who:=who_reign ok ut um hmt i.toNat
  rw [er] at q
  refine q.mono fun v H14 ⟨z,hv,l14,mz⟩=>⟨z,0,hv,?_⟩
  have rz:Rd 3 fL H14 z (reignL l i.toNat to):=mz.rdLd
  have fz:∀ x∈reignL l i.toNat to,fitR x.1:=fun x hx=>by
   have hok:ldOk (reignL l i.toNat to)=true:=by
    cases hb:ldOk (reignL l i.toNat to) with
    | true=>rfl
    | false=>unfold whoM at who; rw [if_pos (.inr (.inr hb))] at who; exact absurd (show (8:Int)=0 from congrArg Prod.snd who) (by decide)
   obtain ⟨j,hj,e⟩:=List.mem_iff_getElem.1 hx
   have:=(ldOk_iff.1 hok).1 j hj
   rw [List.getD_eq_getElem?_getD,List.getElem?_eq_getElem hj] at this
   rw [← e]; exact okR.fit this
  have qw:=pickWho (t:=mid) rz fz hm (by omega)
  have ew:whoV (reignL l i.toNat to) mid=.tuple #[.int .i64 (keyM l.ck.f i.toNat mid),.int .i64 0]:=by
   show Value.tuple #[.int .i64 (whoM _ _).1,.int .i64 (whoM _ _).2]=_
   rw [who]
  rw [ew] at qw
  obtain ⟨p0,p1⟩:=keyM_pos of (t:=mid) hin
  have hp:posF l.ck.f (keyM l.ck.f i.toNat mid)=((posF l.ck.f (keyM l.ck.f i.toNat mid)).toNat:Nat):=by omega
  have es:=seenL_succ hp
  generalize hx:posF l.ck.f (keyM l.ck.f i.toNat mid)=x at *
  have m14:=m12.le l14
  have sl:(seenL l.ck.f mid i.toNat).length=l.ck.f.length:=seenL_len _ _ _
  have hxl:x<(seenL l.ck.f mid i.toNat).length:=by omega
  have eg:(seenL l.ck.f mid i.toNat).getD x.toNat 0=seenM l.ck.f mid i.toNat x.toNat:=seenL_get (by omega)
  have sle:=seenM_le l.ck.f mid i.toNat x.toNat
  have gx:=RdI.get m14.rdI p0 hxl
  rw [eg] at gx
  have hin2:inSl s.a l.ck.f.length x:=by rw [hsn]; exact m14.rdI.inS p0 hxl
  have st:=Mine.setI (y:=(seenM l.ck.f mid i.toNat x.toNat:Int)+1) (Q:=fun H21=>inI (i+1)∧(0≤i+1∧i+1≤l.ord.length∧Hp.le H H21∧Mine 1 fI 3 H H21 s (seenL l.ck.f mid (i+1).toNat))∧((l.ord.length:Int)-(i+1)).toNat<((l.ord.length:Int)-i).toNat) m14 p0 hxl fun H21 m21 c21=>?_
  ·exact ⟨keyM l.ck.f i.toNat mid,0,qw,x,by rw [← hx]; exact refFAt (r.k.f.le (Hp.le_trans l12 l14)) (by omega),fun h=>by simp at h; omega,fun _=>⟨hin2,_,gx,by unfold inI; omega,hin2,st.1,st.2⟩⟩
  ·refine ⟨by unfold inI; omega,⟨by omega,by omega,Hp.le_chg (Hp.le_trans l12 l14) c21 m14.isNew,?_⟩,by omega⟩
   rw [show (i+1).toNat=i.toNat+1 by omega,es]; exact m21
 ·have hi:i=l.ord.length:=by have:=of_decide_eq_false h; omega
  rw [hi,Int.toNat_natCast,ln] at m12
  refine ⟨fun j H'=>H'=H12∧0≤j∧j≤l.ck.f.length,fun j _=>((l.ck.f.length:Int)-j).toNat,⟨rfl,Int.le_refl _,by omega⟩,fun j H25 ⟨e,j0,j1⟩=>⟨fun h=>?_,fun h=>⟨rfl,by rw [e]; exact l12⟩⟩⟩
  subst e
  have hj:j<l.ck.f.length:=of_decide_eq_true h
  have gx:=RdI.get m12.rdI j0 (by rw [seenL_len]; exact hj)
  have eg:(seenL l.ck.f mid l.ck.f.length).getD j.toNat 0=1:=by
   rw [seenL_get (by omega),seen_one of mid (by omega)]; rfl
  rw [eg] at gx
  exact ⟨by rw [hsn]; exact m12.rdI.inS j0 (by rw [seenL_len]; exact hj),1,gx,fun h=>by simp at h,fun _=>⟨by unfold inI; omega,⟨rfl,by omega,by omega⟩,by dsimp only; omega⟩⟩
end Go.Proofs.YtbbdplfkiioppaaGreat
