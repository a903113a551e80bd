/- The engine, parts C1, C2, C3, C4, put together. Conditions: none. -/
import Derived.Test.YtlbdpklikfddlaaGreatP1
import Derived.Test.YtlbdpklikfddlaaGreatE5
import Derived.Test.YtlbdpklikfddlaaGreatVgCert
import Derived.Test.YtlbdpklikfddlaaGreatVgStd
import Derived.Test.YtlbdpklikfddlaaGreatFs
import Derived.Test.YtlbdpklikfddlaaGreatVgBase
set_option linter.unusedVariables false
section
/- Contracts of cert and pelotonref08, first part. Conditions: none. -/
open Go Go.Eng Go.Proofs
namespace Go.Proofs.YtlbdpklikfddlaaGreat

theorem isNaN_int {H:Hp} {x:Int}:Qf Tryz.prog F.cmp_isNaN_int #[.int .i64 x] H (.bool false):=cmp_isNaN_int_vc ⟨by simp,Hp.le_refl _⟩
theorem compare_int {H:Hp} {x y:Int}:Qf Tryz.prog F.cmp_Compare_int #[.int .i64 x,.int .i64 y] H (.int .i64 (cmpI x y)):=by
 refine cmp_Compare_int_vc ⟨_,isNaN_int,_,isNaN_int,fun h=>(by cases h),fun _=>⟨fun h=>(by cases h),fun _=>⟨fun h=>⟨?_,Hp.le_refl _⟩,fun h=>⟨fun h'=>⟨?_,Hp.le_refl _⟩,fun h'=>⟨?_,Hp.le_refl _⟩⟩⟩⟩⟩
 ·have:x<y:=by simpa using h
  unfold cmpI; rw [if_pos this]
 ·have h1:¬ x<y:=by simpa using h
  have h2:x>y:=by simpa using h'
  unfold cmpI; rw [if_neg h1,if_pos h2]
 ·have h1:¬ x<y:=by simpa using h
  have h2:¬ x>y:=by simpa using h'
  unfold cmpI; rw [if_neg h1,if_neg h2]

theorem certValid {H:Hp} {x:Int × Int}:Qf Tryz.prog F.cert_valid #[.agg #[.int .i64 x.1,.int .i64 x.2]] H (.bool (validC x)):=by
 refine cert_valid_vc ⟨?_,Hp.le_refl _⟩
 congr 1
 rw [Bool.eq_iff_iff]
 simp only [validC,Bool.and_eq_true,decide_eq_true_eq,bne_iff_ne]
 split <;> split <;> omega

theorem refCert {H:Hp} {x:Int × Int}:Qf Tryz.prog F.pelotonref08_Cert #[.agg #[.int .i64 x.1,.int .i64 x.2]] H (.bool (validC x)):=by
 refine pelotonref08_Cert_vc ⟨?_,Hp.le_refl _⟩
 congr 1

theorem clone_held {H:Hp} {s:Slc} {xs:List (Int × Int × Int)} (hs:Rd 3 fD H s xs) (hl:xs.length≤1000000000) :
  Go.Eng.Fn Tryz.prog F.slices_Clone_api_Held_api_Held #[s.v] H fun v H'=>∃ u:Slc,v=u.v∧Hp.le H H'∧Mine 3 fD T.api_Held H H' u xs :=
 slices_Clone_api_Held_api_Held_vc (clone_vc (k:=3) (f:=fD) (bytes:=24) (by kernel_rfl) (by decide) (fun _=>rfl) hs (by omega) (by omega))

theorem certCheck {H:Hp} {u:Slc} {c:Ct} (h:Rd 3 fD H u c.list):Qf Tryz.prog F.cert_Check #[.agg #[.int .i64 c.next,u.v]] H (.int .i64 (chkC c)):=by
  have lu:=h.len
  have K:KL Tryz.prog T.api_Cert (fun x:Int × Int=>Value.agg #[.int .i64 x.1,.int .i64 x.2]):=KL.pair (t:=T.int) Tryz.underlying118 rfl rfl Tryz.underlying3 rfl rfl (by decide) (by decide) (by kernel_rfl) (by kernel_rfl)
  refine cert_Check_vc ⟨fun hc=>⟨?_,Hp.le_refl _⟩,fun hc b1 H2 hb1 hH2=>?_⟩
  · rw [chkC_bad]
    intro ok
    have:=ok.len; have:=ok.n0; have:=ok.n1
    simp at hc; omega
  · simp at hc
    have le2:Hp.le H H2:=Hp.le_new (Hp.le_refl _) hb1 hH2
    refine ⟨fun last n H'=>0≤n∧n≤c.list.length∧Hp.le H H'∧okL c.next (c.list.take n.toNat)∧(∀ y∈c.list.take n.toNat,y.1≤last)∧(last = -1∨∃ y∈c.list.take n.toNat,y.1=last) ∧
        MapR (fun x:Int × Int=>Value.agg #[.int .i64 x.1,.int .i64 x.2]) H' b1 ((c.list.take n.toNat).map fun y=>(y.2,Value.bool true)),
      fun _ n _=>(c.list.length-n).toNat,⟨by omega,by omega,le2,okL.nil _,by simp,.inl rfl,MapR.new hH2⟩,fun last n H' ⟨i0,i1,i2,i3,i4,i5,i6⟩=>⟨fun hn=>?_,fun hn=>⟨?_,i2⟩⟩⟩
    · have hn:n<c.list.length:=by have:n<u.n:=by simpa using hn
                                  omega
      have hg:=getX (d:=((0:Int),(0:Int),(0:Int))) i0 hn
      refine (h.le i2).ldD i0 hn ?_
      generalize c.list.getD n.toNat (0,0,0)=x at hg ⊢
      have e1:(n+1).toNat=n.toNat+1:=by omega
      have hts:=take_succ hg
      have hget:∀ y:Int × Int,getM ((c.list.take n.toNat).map fun y=>(y.2,Value.bool true)) y=if y∈(c.list.take n.toNat).map (·.2) then some (Value.bool true) else none:=fun y=>by
        generalize c.list.take n.toNat=l
        unfold getM
        induction l with
        | nil=>rfl
        | cons p l ih =>
          rw [List.map_cons,List.find?_cons]
          by_cases e:p.2=y
          · simp [e]
          · have e':¬ y=p.2:=fun h=>e h.symm
            simp only [e,decide_false,List.map_cons,List.mem_cons,e',false_or]
            exact ih
      refine ⟨_,certValid (x:=x.2),decide (x.2∈(c.list.take n.toNat).map (·.2)),fun _=>?_,fun hb=>⟨?_,i2⟩,fun hb=>?_⟩
      · have:=K.look (t:=T.map_api_Cert_bool) (e:=T.bool) (x:=x.2) (z:=.bool false) Tryz.underlying268 (by kernel_rfl) i6
        rw [hget] at this
        by_cases e:x.2∈(c.list.take n.toNat).map (·.2)
        · rw [if_pos e] at this; rw [decide_eq_true e]; exact this
        · rw [if_neg e] at this; rw [decide_eq_false e]; exact this
      · rw [chkC_bad]
        intro ok
        have hp:=ok.ok.take (n.toNat+1)
        rw [hts,okL.snoc] at hp
        obtain ⟨p1,p2,p3,p4,p5,p6⟩:=hp
        simp only [Bool.or_eq_true,Bool.not_eq_true',decide_eq_true_eq] at hb
        rcases hb with ((hb | hb) | hb) | hb
        · rw [p2] at hb; cases hb
        · exact p6 hb
        · rcases i5 with i5 | ⟨y,hy,i5⟩
          · omega
          · have:=p5 y hy; omega
        · omega
      · simp only [Bool.or_eq_false_iff,Bool.not_eq_false',decide_eq_false_iff_not] at hb
        obtain ⟨⟨⟨q1,q2⟩,q3⟩,q4⟩:=hb
        have hadd:=K.add (t:=T.map_api_Cert_bool) (e:=T.bool) (x:=x.2) (v:=.bool true) Tryz.underlying268 i6 (by rw [hget,if_neg q2])
        refine hadd.mono fun v H14 ⟨o,hH,hm⟩=>⟨v,rfl,by unfold inI; omega,⟨by omega,by omega,by subst hH; exact Hp.le_put i2 hb1,?_,fun y hy=>?_,.inr ⟨x,?_,rfl⟩,?_⟩,?_⟩
        · rw [e1,hts,okL.snoc]
          refine ⟨i3,q1,?_,by omega,fun y hy=>by have:=i4 y hy; omega,q2⟩
          rcases i5 with i5 | ⟨y,hy,i5⟩
          · omega
          · have:=(i3.each y hy).2.1; omega
        · rw [e1,hts] at hy
          rcases List.mem_append.1 hy with hy | hy
          · have:=i4 y hy; omega
          · simp only [List.mem_singleton] at hy; subst hy; exact Int.le_refl _
        · rw [e1,hts]; simp
        · rw [e1,hts,List.map_append]; exact hm
        · show ((c.list.length:Int)-(n+1)).toNat<((c.list.length:Int)-n).toNat
          omega
    · have:n=c.list.length:=by have:¬ n<u.n:=by simpa using hn
                               omega
      subst this
      rw [Int.toNat_natCast,List.take_length] at i3
      rw [chkC_ok ⟨by omega,by omega,by omega,i3⟩]

theorem refCheckC {H:Hp} {u:Slc} {c:Ct} (h:Rd 3 fD H u c.list):Qf Tryz.prog F.pelotonref08_Check #[.agg #[.int .i64 c.next,u.v]] H (.int .i64 (chkC c)):=by
  have lu:=h.len
  refine pelotonref08_Check_vc ⟨fun hc=>⟨?_,Hp.le_refl _⟩,fun hc=>?_⟩
  · rw [chkC_bad]
    intro ok
    have:=ok.len; have:=ok.n0; have:=ok.n1
    simp at hc; omega
  · simp at hc
    refine upto (N:=c.list.length) (J:=fun n=>okL c.next (c.list.take n.toNat)) (by omega) (okL.nil _) fun n i0 i1 i3=>⟨fun hn=>?_,fun hn=>⟨?_,Hp.le_refl _⟩⟩
    · have hn:n<c.list.length:=by have:n<u.n:=by simpa using hn
                                  omega
      have hg:=getX (d:=((0:Int),(0:Int),(0:Int))) i0 hn
      refine h.ldD i0 hn ?_
      generalize c.list.getD n.toNat (0,0,0)=x at hg ⊢
      have e1:(n+1).toNat=n.toNat+1:=by omega
      have hts:=take_succ hg
      have hprev:0<n→(c.list.getD (n-1).toNat (0,0,0))∈c.list.take n.toNat∧∀ y∈c.list.take n.toNat,y.1≤(c.list.getD (n-1).toNat (0,0,0)).1:=fun hp=>by
        have hg':=getX (d:=((0:Int),(0:Int),(0:Int))) (i:=n-1) (by omega) (by omega:n-1<c.list.length)
        have hts':=take_succ hg'
        rw [show (n-1).toNat+1=n.toNat by omega] at hts'
        refine ⟨by rw [hts']; simp,fun y hy=>?_⟩
        rw [hts',okL.snoc] at i3
        rw [hts'] at hy
        rcases List.mem_append.1 hy with hy | hy
        · have:=i3.2.2.2.2.1 y hy; omega
        · simp only [List.mem_singleton] at hy; rw [hy]; exact Int.le_refl _
      refine ⟨_,refCert (x:=x.2),fun _=>by unfold inI; omega,fun hb=>h.inS (by simp at hb; omega) (by omega),(c.list.getD (n-1).toNat (0,0,0)).1,fun hb=>(h.gD (by simp at hb; omega) (by omega)).1,fun hb=>⟨?_,Hp.le_refl _⟩,fun hb=>?_⟩
      · rw [chkC_bad]
        intro ok
        have hp:=ok.ok.take (n.toNat+1)
        rw [hts,okL.snoc] at hp
        obtain ⟨p1,p2,p3,p4,p5,p6⟩:=hp
        simp only [Bool.or_eq_true,Bool.and_eq_true,Bool.not_eq_true',decide_eq_true_eq] at hb
        rcases hb with ((hb | hb) | hb) | hb
        · rw [p2] at hb; cases hb
        · omega
        · omega
        · have:=p5 _ (hprev (by omega)).1; omega
      · simp only [Bool.or_eq_false_iff,Bool.not_eq_false',decide_eq_false_iff_not,Bool.and_eq_false_imp,decide_eq_true_eq] at hb
        obtain ⟨⟨⟨q1,q2⟩,q3⟩,q4⟩:=hb
        refine upto (N:=n) (J:=fun m=>∀ y∈c.list.take m.toNat,y.2≠x.2) i0 (by simp) fun m j0 j1 j2=>⟨fun hm=>?_,fun hm=>upto.nx i0 hn (by omega) ?_⟩
        · have hm:m<n:=by simpa using hm
          have hg2:=getX (d:=((0:Int),(0:Int),(0:Int))) j0 (by omega:m<c.list.length)
          have h2:=h.gD2 j0 (by omega:m<c.list.length)
          generalize c.list.getD m.toNat (0,0,0)=y at hg2 h2
          refine ⟨h.inS j0 (by omega),_,_,h2,fun hb=>⟨?_,Hp.le_refl _⟩,fun hb=>upto.nx j0 hm (by omega) ?_⟩
          · rw [chkC_bad]
            intro ok
            have hp:=ok.ok.take (n.toNat+1)
            rw [hts,okL.snoc] at hp
            refine hp.2.2.2.2.2 (List.mem_map.2 ⟨y,?_,?_⟩)
            · exact List.mem_take_iff_getElem.2 ⟨m.toNat,by omega,(List.getElem?_eq_some_iff.1 hg2).2⟩
            · simp only [Bool.and_eq_true,beq_iff_eq] at hb; exact Prod.ext hb.1 hb.2
          · rw [show (m+1).toNat=m.toNat+1 by omega,take_succ hg2]
            intro z hz
            rcases List.mem_append.1 hz with hz | hz
            · exact j2 z hz
            · simp only [List.mem_singleton] at hz; subst hz
              intro e; rw [e] at hb; simp at hb
        · have hm:m=n:=by have:¬ m<n:=by simpa using hm
                          omega
          subst hm
          rw [e1,hts,okL.snoc]
          refine ⟨i3,q1,by omega,by omega,fun y hy=>?_,fun hmem=>?_⟩
          · have hp0:0<m:=by
              rcases Int.lt_or_le 0 m with h' | h'
              · exact h'
              · have:m.toNat=0:=by omega
                rw [this] at hy; simp at hy
            have:=(hprev hp0).2 y hy
            have:=q4 hp0
            omega
          · obtain ⟨y,hy,e⟩:=List.mem_map.1 hmem
            exact j2 y hy e
    · have:n=c.list.length:=by have:¬ n<u.n:=by simpa using hn
                               omega
      subst this
      rw [Int.toNat_natCast,List.take_length] at i3
      rw [chkC_ok ⟨by omega,by omega,by omega,i3⟩]
end Go.Proofs.YtlbdpklikfddlaaGreat
end
section
/- Contracts of cert and pelotonref08,second part. Conditions: none. -/
open Go Go.Eng Go.Proofs
namespace Go.Proofs.YtlbdpklikfddlaaGreat

theorem sameIDs {H:Hp} {a b:Slc} {xs ys:List Int} (ha:RdI H a xs) (hb:RdI H b ys) (h63:xs.length≤1000000000):Qf Tryz.prog F.pelotonref03_SameIDs #[a.v,b.v] H (.bool (xs==ys)):=by
 have la:=ha.len
 have lb:=hb.len
 refine pelotonref03_SameIDs_vc ⟨fun h=>⟨?_,Hp.le_refl H⟩,fun h=>?_⟩
 ·have hl:(a.n:Int)≠b.n:=by simpa using h
  have:(xs==ys)=false:=by
   rw [beq_eq_false_iff_ne]; intro e; subst e; omega
  rw [this]
 ·have hl:(a.n:Int)=b.n:=by simpa using h
  refine upto (N:=xs.length) (J:=fun n=>xs.take n.toNat=ys.take n.toNat) (by omega) (by simp) fun n h0 h1 h2=>⟨fun hn=>?_,fun hn=>⟨?_,Hp.le_refl _⟩⟩
  ·have hn:n<a.n:=by simpa using hn
   have gx:=getI (xs:=xs) h0 (by omega)
   have gy:=getI (xs:=ys) h0 (by omega)
   refine ⟨ha.inN h0 hn,_,ha.get h0 (by omega),hb.inN h0 (by omega),_,hb.get h0 (by omega),fun hne=>⟨?_,Hp.le_refl _⟩,fun he=>upto.nx h0 (by omega) (by omega) ?_⟩
   ·have:(xs==ys)=false:=by
     rw [beq_eq_false_iff_ne]; intro e; subst e; simp at hne
    rw [this]
   ·have e:(n+1).toNat=n.toNat+1:=by omega
    rw [e]
    exact (take_succ_eq gx gy h2).2 (by simpa using he)
  ·have hn:n=xs.length:=by
    have:¬ n<a.n:=by simpa using hn
    omega
   subst hn
   have:xs=ys:=by
    have e1:xs.take xs.length=xs:=List.take_length
    have e2:ys.take xs.length=ys:=by
     have:xs.length=ys.length:=by omega
     rw [this]; exact List.take_length
    rw [Int.toNat_natCast] at h2
    rw [← e1,h2,e2]
   subst this; simp

structure NewC (H0 H:Hp) (u:Slc) (c:Ct):Prop where
 le:Hp.le H0 H
 list:Mine 3 fD T.api_Held H0 H u c.list
theorem NewC.rd {H0 H:Hp} {u:Slc} {c:Ct} (h:NewC H0 H u c):Rd 3 fD H u c.list:=h.list.rdD
theorem NewC.zero {H H':Hp} (h:Hp.le H H'):NewC H H' zs .zero:=⟨h,.inl ⟨rfl,rfl⟩⟩
theorem NewC.up {H H' H'':Hp} {u:Slc} {c:Ct} (h:NewC H H' u c) (hl:Hp.le H' H''):NewC H H'' u c:=⟨Hp.le_trans h.le hl,h.list.le hl⟩
theorem NewC.low {H0 H H':Hp} {u:Slc} {c:Ct} (h:NewC H H' u c) (hl:Hp.le H0 H):NewC H0 H' u c:=⟨Hp.le_trans hl h.le,h.list.low hl⟩

theorem rTwinC {H:Hp} {u:Slc} {c:Ct} (h:Rd 3 fD H u c.list) (hl:c.list.length≤1000000000) :
  Go.Eng.Fn Tryz.prog F.pelotonref08_Twin #[.agg #[.int .i64 c.next,u.v]] H fun v H'=>∃ a:Slc,v=.agg #[.int .i64 c.next,a.v]∧NewC H H' a c:=by
 refine pelotonref08_Twin_vc fun b1 H2 hb1 hH2=>?_
 exact (copy_ok (k:=3) (f:=fD) (bytes:=24) (e:=T.api_Held) (by kernel_rfl) (by decide) (fun _=>rfl) (fun x v hv=>by simp [fD] at hv; rcases hv with rfl | rfl | rfl <;> rfl) hb1 hH2 h (by omega) (by omega)).mono
  fun v H1 ⟨a,hv,hl,hm⟩=>⟨a,hv,a,rfl,hl,hm⟩

theorem rHasC {H:Hp} {u:Slc} {c:Ct} {x:Int × Int} (h:Rd 3 fD H u c.list) (hl:c.list.length≤1000000000):Qf Tryz.prog F.pelotonref08_Has #[.agg #[.int .i64 c.next,u.v],.agg #[.int .i64 x.1,.int .i64 x.2]] H (.bool (hasC c x)):=by
  have lu:=h.len
  refine pelotonref08_Has_vc (upto (N:=c.list.length) (J:=fun i=>∀ y∈c.list.take i.toNat,(y.2==x)=false) (by omega) (by simp) fun i i0 i1 i2=>⟨fun hn=>?_,fun hn=>⟨?_,Hp.le_refl _⟩⟩)
  · have hn:i<c.list.length:=by have:i<u.n:=by simpa using hn
                                omega
    have hg:=getX (d:=((0:Int),(0:Int),(0:Int))) i0 hn
    have h2:=h.gD2 i0 hn
    generalize c.list.getD i.toNat (0,0,0)=y at hg h2
    refine ⟨h.inS i0 hn,_,_,h2,fun hb=>⟨?_,Hp.le_refl _⟩,fun hb=>upto.nx i0 hn (by omega) ?_⟩
    · have:hasC c x=true:=List.any_eq_true.2 ⟨y,List.mem_of_getElem? hg,hb⟩
      rw [this]
    · rw [show (i+1).toNat=i.toNat+1 by omega,take_succ hg]
      intro z hz
      rcases List.mem_append.1 hz with hz | hz
      · exact i2 z hz
      · simp only [List.mem_singleton] at hz; subst hz; exact hb
  · have:i=c.list.length:=by have:¬ i<u.n:=by simpa using hn
                             omega
    subst this
    rw [Int.toNat_natCast,List.take_length] at i2
    have:hasC c x=false:=by
      unfold hasC; rw [List.any_eq_false]; intro y hy; rw [i2 y hy]; simp
    rw [this]

theorem indexFunc_held {H:Hp} {s:Slc} {xs:List (Int × Int × Int)} {fv:Value} {p:Int × Int × Int→Bool} (h:Rd 3 fD H s xs) (hl:xs.length≤1000000000)
    (hf:∀ x,QfV Tryz.prog fv [.agg #[.int .i64 x.1,.int .i64 x.2.1,.int .i64 x.2.2]] H (.bool (p x))):Qf Tryz.prog F.slices_IndexFunc_api_Held_api_Held #[s.v,fv] H (.int .i64 (idx p xs)):=by
  have ls:=h.len
  refine slices_IndexFunc_api_Held_api_Held_vc (upto (N:=xs.length) (J:=fun n=>∀ y∈xs.take n.toNat,p y=false) (by omega) (by simp) fun n h0 h1 hJ=>⟨fun hn=>?_,fun hn=>⟨?_,Hp.le_refl _⟩⟩)
  · have hn:n<xs.length:=by have:n<s.n:=by simpa using hn
                            omega
    have hg:=getX (d:=((0:Int),(0:Int),(0:Int))) h0 hn
    refine h.ldD h0 hn ⟨_,hf (xs.getD n.toNat (0,0,0)),?_⟩
    generalize xs.getD n.toNat (0,0,0)=x at hg ⊢
    refine ⟨fun hb=>⟨?_,Hp.le_refl _⟩,fun hb=>upto.nx h0 hn (by omega) ?_⟩
    · rw [idx_hit hg hb hJ,Int.toNat_of_nonneg h0]
    · rw [show (n+1).toNat=n.toNat+1 by omega,take_succ hg]
      intro y hy
      rcases List.mem_append.1 hy with hy | hy
      · exact hJ y hy
      · simp only [List.mem_singleton] at hy; subst hy; exact hb
  · have:n=xs.length:=by have:¬ n<s.n:=by simpa using hn
                         omega
    subst this
    rw [Int.toNat_natCast,List.take_length] at hJ
    rw [idx_miss hJ]

theorem containsFunc_held {H:Hp} {s:Slc} {xs:List (Int × Int × Int)} {fv:Value} {p:Int × Int × Int→Bool} (h:Rd 3 fD H s xs) (hl:xs.length≤1000000000)
  (hf:∀ x,QfV Tryz.prog fv [.agg #[.int .i64 x.1,.int .i64 x.2.1,.int .i64 x.2.2]] H (.bool (p x))):Qf Tryz.prog F.slices_ContainsFunc_api_Held_api_Held #[s.v,fv] H (.bool (xs.any p)) :=
 slices_ContainsFunc_api_Held_api_Held_vc ⟨_,indexFunc_held h hl hf,by rw [← idx_ge],Hp.le_refl _⟩

theorem certAdd1 {H:Hp} {b:Nat} {x h:Int × Int} {n:Int} {T:TypeId} (hv:H.at ((Addr.mk b 0 none).add 0)=some (.int .i64 x.1)∧H.at ((Addr.mk b 0 none).add 1)=some (.int .i64 x.2)) :
  QfV Tryz.prog (.func (.func F.cert_Add_1) #[] #[.pointer (some ⟨b,0,none⟩)]) [.agg #[.int .i64 n,.int .i64 h.1,.int .i64 h.2]] H (.bool (h==x)):=by
 refine ⟨F.cert_Add_1,#[],_,rfl,cert_Add_1_callable,?_⟩
 exact cert_Add_1_vc (a3:=⟨b,0,none⟩) ⟨_,_,hv,rfl,Hp.le_refl _⟩

theorem pair_at {H H':Hp} {b:Nat} {x y:Value} {T:TypeId} (h:H'=H.put b (.cells #[x,y] T (0,0))):H'.at ((Addr.mk b 0 none).add 0)=some x∧H'.at ((Addr.mk b 0 none).add 1)=some y:=by
 subst h
 constructor
 ·rw [add_zero',Cel.at Cel.put]; try rfl
 ·rw [Addr.add_lit,Cel.at Cel.put]; try rfl

theorem addC_bad {c:Ct} {x:Int × Int} (h:chkC c≠0):addC c x=(.zero,0,8):=by
 unfold addC; rw [if_neg]; intro ⟨h1,_⟩; exact h (chkC_ok h1)

theorem certAdd {H:Hp} {u:Slc} {c:Ct} {x:Int × Int} (h:Rd 3 fD H u c.list) :
  Go.Eng.Fn Tryz.prog F.cert_Add #[.agg #[.int .i64 c.next,u.v],.agg #[.int .i64 x.1,.int .i64 x.2]] H fun v H'=>∃ a:Slc,v=.tuple #[.agg #[.int .i64 (addC c x).1.next,a.v],.int .i64 (addC c x).2.1,.int .i64 (addC c x).2.2]∧NewC H H' a (addC c x).1:=by
 have lu:=h.len
 refine cert_Add_vc fun b1 H2 hb1 hH2=>?_
 have le2:Hp.le H H2:=Hp.le_new (Hp.le_refl _) hb1 hH2
 refine ⟨_,certCheck (h.le le2),fun hc=>?_,fun hc=>?_⟩
 ·have hc:chkC c≠0:=by simpa using hc
  rw [addC_bad hc]
  have h8:chkC c=8:=by unfold chkC at *; split at hc <;> simp_all
  rw [h8]; exact ⟨zs,rfl,NewC.zero le2⟩
 have hc:chkC c=0:=by simpa using hc
 have ok:=chkC_zero.1 hc
 have:=ok.len
 refine ⟨_,_,pair_at hH2,_,certValid (x:=x),fun hv=>?_,fun hv=>?_⟩
 ·have hv:validC x=false:=by simpa using hv
  have:addC c x=(.zero,0,8):=by unfold addC; rw [if_neg (fun hh=>by rw [hv] at hh; exact absurd hh.2 (by simp))]
  rw [this]; exact ⟨zs,rfl,NewC.zero le2⟩
 have hv:validC x=true:=by simpa using hv
 have e:addC c x=(if hasC c x then (.zero,0,14) else if c.list.length=200∨c.next=1000000 then (.zero,0,18) else (⟨c.next+1,c.list++[(c.next,x)]⟩,c.next,0)):=by unfold addC; rw [if_pos ⟨ok,hv⟩]
 rw [e]
 refine ⟨_,containsFunc_held (p:=fun h=>h.2==x) (h.le le2) (by omega) (fun y=>certAdd1 (T:=0) (h:=y.2) (pair_at hH2)),fun hb=>?_,fun hb=>?_⟩
 ·rw [if_pos (show hasC c x=true from hb)]; exact ⟨zs,rfl,NewC.zero le2⟩
 rw [if_neg (by show ¬ hasC c x=true; unfold hasC; rw [hb]; simp)]
 refine ⟨fun hf=>?_,fun hf=>?_⟩
 ·rw [if_pos (by simp at hf; omega)]; exact ⟨zs,rfl,NewC.zero le2⟩
 rw [if_neg (by simp at hf; omega)]
 refine ⟨_,_,pair_at hH2,(clone_held (h.le le2) (by omega)).mono fun v H11 ⟨a,hv,l11,m⟩=>⟨l11,a,hv,fun b13 H14 hb13 hH14=>?_⟩⟩
 refine (append1 (k:=3) (f:=fD) (bytes:=24) (x:=(c.next,x)) (by kernel_rfl) (by decide) (fun _=>rfl) (fun x v hv=>by simp [fD] at hv; rcases hv with rfl | rfl | rfl <;> rfl) (Hp.le_trans le2 l11) (m.low le2) hb13 hH14 rfl (by omega) (by omega)).mono fun v H16 ⟨w,hw,l16,mw,_,_⟩=>?_
 have:=ok.n1
 have:=ok.n0
 exact ⟨w,hw,by unfold inI; omega,w,rfl,l16,mw⟩

theorem rAddC {H:Hp} {u:Slc} {c:Ct} {x:Int × Int} (h:Rd 3 fD H u c.list) :
  Go.Eng.Fn Tryz.prog F.pelotonref08_Add #[.agg #[.int .i64 c.next,u.v],.agg #[.int .i64 x.1,.int .i64 x.2]] H fun v H'=>∃ a:Slc,v=.tuple #[.agg #[.int .i64 (addC c x).1.next,a.v],.int .i64 (addC c x).2.1,.int .i64 (addC c x).2.2]∧NewC H H' a (addC c x).1:=by
 have lu:=h.len
 refine pelotonref08_Add_vc ⟨_,refCheckC h,_,fun _=>refCert (x:=x),fun hc=>?_,fun hc=>?_⟩
 ·have:addC c x=(.zero,0,8):=by
   unfold addC; rw [if_neg]; intro ⟨h1,h2⟩; rw [chkC_ok h1,h2] at hc; simp at hc
  rw [this]; exact ⟨zs,rfl,NewC.zero (Hp.le_refl _)⟩
 simp only [Bool.or_eq_false_iff,bne_eq_false_iff_eq,Bool.not_eq_false'] at hc
 obtain ⟨hc,hv⟩:=hc
 have ok:=chkC_zero.1 hc
 have:=ok.len
 have e:addC c x=(if hasC c x then (.zero,0,14) else if c.list.length=200∨c.next=1000000 then (.zero,0,18) else (⟨c.next+1,c.list++[(c.next,x)]⟩,c.next,0)):=by unfold addC; rw [if_pos ⟨ok,hv⟩]
 rw [e]
 refine ⟨_,rHasC (x:=x) h (by omega),fun hb=>?_,fun hb=>?_⟩
 ·rw [if_pos hb]; exact ⟨zs,rfl,NewC.zero (Hp.le_refl _)⟩
 rw [if_neg (by rw [hb]; simp)]
 refine ⟨fun hf=>?_,fun hf=>?_⟩
 ·rw [if_pos (by simp at hf; omega)]; exact ⟨zs,rfl,NewC.zero (Hp.le_refl _)⟩
 rw [if_neg (by simp at hf; omega)]
 refine (rTwinC h (by omega)).mono fun v H5 ⟨a,hv,m⟩=>⟨_,a,hv,fun b8 H9 hb8 hH9=>?_⟩
 refine (append1 (k:=3) (f:=fD) (bytes:=24) (x:=(c.next,x)) (by kernel_rfl) (by decide) (fun _=>rfl) (fun x v hv=>by simp [fD] at hv; rcases hv with rfl | rfl | rfl <;> rfl) m.le m.list hb8 hH9 rfl (by omega) (by omega)).mono fun v H16 ⟨w,hw,l16,mw,_,_⟩=>?_
 have:=ok.n1
 have:=ok.n0
 exact ⟨w,hw,by unfold inI; omega,w,rfl,l16,mw⟩
end Go.Proofs.YtlbdpklikfddlaaGreat
end
section
/- Contracts of cert and pelotonref08,third part. Conditions: none. -/
open Go Go.Eng Go.Proofs
namespace Go.Proofs.YtlbdpklikfddlaaGreat

theorem mid_eq {i j:Int} (h0:0≤i) (h1:i<j) (hj:j≤1000000000):IntKind.i64.wrap ((wrapU (i+j)).fdiv (2 ^ Min.min (Int.toNat 1) IntKind.u64.bits))=(i+j) / 2:=by
 have e1:wrapU (i+j)=i+j:=by unfold wrapU; omega
 have e2:(2:Int) ^ Min.min (Int.toNat 1) IntKind.u64.bits=2:=by decide
 rw [e1,e2,Int.fdiv_eq_ediv_of_nonneg _ (by omega)]
 exact wrap_i64 (by unfold inI; omega)

theorem bs_lo {l:List Int} {t:Int} (hs:l.Pairwise (·<·)) {m:Nat} {x:Int} (hx:l[m]?=some x) (h:x<t):∀ i y,i<m+1→l[i]?=some y→y<t:=by
 intro i y hi hy
 rcases Nat.lt_or_ge i m with h' | h'
 ·have:=List.pairwise_iff_getElem.1 hs i m (List.getElem?_eq_some_iff.1 hy).1 (List.getElem?_eq_some_iff.1 hx).1 h'
  rw [(List.getElem?_eq_some_iff.1 hy).2,(List.getElem?_eq_some_iff.1 hx).2] at this
  omega
 ·have:i=m:=by omega
  subst this; rw [hx] at hy; cases hy; exact h
theorem bs_hi {l:List Int} {t:Int} (hs:l.Pairwise (·<·)) {m:Nat} {x:Int} (hx:l[m]?=some x) (h:t≤x):∀ i y,m≤i→l[i]?=some y→t≤y:=by
 intro i y hi hy
 rcases Nat.lt_or_ge m i with h' | h'
 ·have:=List.pairwise_iff_getElem.1 hs m i (List.getElem?_eq_some_iff.1 hx).1 (List.getElem?_eq_some_iff.1 hy).1 h'
  rw [(List.getElem?_eq_some_iff.1 hy).2,(List.getElem?_eq_some_iff.1 hx).2] at this
  omega
 ·have:i=m:=by omega
  subst this; rw [hx] at hy; cases hy; exact h

theorem certFind1 {H:Hp} {x:Int × Int × Int} {n:Int}:QfV Tryz.prog (.func (.func F.cert_find_1) #[] #[]) [.agg #[.int .i64 x.1,.int .i64 x.2.1,.int .i64 x.2.2],.int .i64 n] H (.int .i64 (cmpI x.1 n)) :=
 ⟨F.cert_find_1,#[],_,rfl,cert_find_1_callable,cert_find_1_vc ⟨_,compare_int,rfl,Hp.le_refl _⟩⟩

theorem bsearch_held {H:Hp} {s:Slc} {xs:List (Int × Int × Int)} {n:Int} (h:Rd 3 fD H s xs) (hs:(xs.map (·.1)).Pairwise (·<·)) (hl:xs.length≤100000000) :
  Qf Tryz.prog F.slices_BinarySearchFunc_api_Held_api_Held_int #[s.v,.int .i64 n,.func (.func F.cert_find_1) #[] #[]] H
   (.tuple #[.int .i64 (posI (xs.map (·.1)) n),.bool (decide (posI (xs.map (·.1)) n<xs.length)&&(getD3 xs (posI (xs.map (·.1)) n)).1==n)]):=by
 have ls:=h.len
 have hml:(xs.map (·.1)).length=xs.length:=by simp
 refine slices_BinarySearchFunc_api_Held_api_Held_int_vc ⟨fun i j H'=>H'=H∧0≤i∧i≤j∧j≤xs.length∧(∀ k y,k<i.toNat→(xs.map (·.1))[k]?=some y→y<n)∧(∀ k y,j.toNat≤k→(xs.map (·.1))[k]?=some y→n≤y),
  fun i j _=>(j-i).toNat,⟨rfl,Int.le_refl _,by omega,by omega,fun k y hk=>by simp at hk,fun k y hk hy=>?_⟩,fun i j H' ⟨e,i0,i1,i2,i3,i4⟩=>?_⟩
 ·have:=(List.getElem?_eq_some_iff.1 hy).1
  omega
 subst e
 refine ⟨fun hc=>?_,fun hc=>?_⟩
 ·have hc:i<j:=by simpa using hc
  rw [mid_eq i0 hc (by omega)]
  have m0:0≤(i+j) / 2:=by omega
  have m1:(i+j) / 2<xs.length:=by omega
  have hg:=getX (d:=((0:Int),(0:Int),(0:Int))) m0 m1
  refine ⟨by unfold inI; omega,by unfold nn; omega,h.ldD m0 m1 ⟨_,certFind1 (x:=xs.getD ((i+j) / 2).toNat (0,0,0)),?_⟩⟩
  generalize xs.getD ((i+j) / 2).toNat (0,0,0)=x at hg ⊢
  have hm:(xs.map (·.1))[((i+j) / 2).toNat]?=some x.1:=by rw [List.getElem?_map,hg]; try rfl
  refine ⟨fun hlt=>?_,fun hge=>?_⟩
  ·have hlt:x.1<n:=cmpI_lt.1 (by simpa using hlt)
   refine ⟨by unfold inI; omega,⟨rfl,by omega,by omega,i2,?_,i4⟩,?_⟩
   ·rw [show ((i+j) / 2+1).toNat=((i+j) / 2).toNat+1 by omega]; exact bs_lo hs hm hlt
   ·show (j-((i+j) / 2+1)).toNat<(j-i).toNat; omega
  ·have hge:n≤x.1:=by
    have:¬ cmpI x.1 n<0:=by simpa using hge
    rw [cmpI_lt] at this; omega
   refine ⟨⟨rfl,i0,by omega,by omega,i3,bs_hi hs hm hge⟩,?_⟩
   show ((i+j) / 2-i).toNat<(j-i).toNat; omega
 ·have hc:i=j:=by have:¬ i<j:=by simpa using hc
                  omega
  subst hc
  have hp:i.toNat=posI (xs.map (·.1)) n:=posI_eq hs (by omega) i3 i4
  have hpi:(posI (xs.map (·.1)) n:Int)=i:=by omega
  rw [hpi]
  have key:(decide (i<(s.n:Int))=true)→i<xs.length:=fun hh=>by
   have:i<s.n:=by simpa using hh
   omega
  refine ⟨fun hh=>h.inS i0 (key hh),_,_,_,fun hh=>h.gD i0 (key hh),_,fun hh=>certFind1 (x:=xs.getD i.toNat (0,0,0)),?_,Hp.le_refl _⟩
  congr 3
  have e1:decide (i<(s.n:Int))=decide (posI (xs.map (·.1)) n<xs.length):=by
   rw [Bool.eq_iff_iff,decide_eq_true_eq,decide_eq_true_eq]; omega
  rw [e1]
  congr 2
  congr 1
  unfold getD3
  rw [Bool.eq_iff_iff,beq_iff_eq,beq_iff_eq,cmpI_eq]

theorem certFind {H:Hp} {u:Slc} {c:Ct} {n:Int} (h:Rd 3 fD H u c.list) :
  Qf Tryz.prog F.cert_find #[.agg #[.int .i64 c.next,u.v],.int .i64 n] H (.tuple #[.int .i64 (if (getC c n).2=0 then atC c n else 0),.int .i64 (getC c n).2]):=by
 refine cert_find_vc ⟨_,certCheck h,fun hc=>?_,fun hc=>?_⟩
 ·have hc:chkC c≠0:=by simpa using hc
  have h8:chkC c=8:=by unfold chkC at *; split at hc <;> simp_all
  have:getC c n=((0,0),8):=by unfold getC; rw [if_neg fun ok=>hc (chkC_ok ok)]
  rw [this,h8]; exact ⟨rfl,Hp.le_refl _⟩
 have hc:chkC c=0:=by simpa using hc
 have ok:=chkC_zero.1 hc
 have:=ok.len
 refine ⟨_,_,bsearch_held h ok.ok.nums (by omega),fun hb=>?_,fun hb=>?_⟩
 ·rcases at_pos ok.ok n with ⟨h1,h2⟩ | ⟨h1,h2⟩
  ·rw [h1] at hb; cases hb
  ·have:getC c n=((0,0),6):=by unfold getC; rw [if_pos ok,if_pos (by show idx _ _<0; rw [h2]; omega)]
   rw [this]; exact ⟨rfl,Hp.le_refl _⟩
 ·rcases at_pos ok.ok n with ⟨h1,h2⟩ | ⟨h1,h2⟩
  ·have e:atC c n=posI (c.list.map (·.1)) n:=h2
   have:(getC c n).2=0:=by unfold getC; rw [if_pos ok,if_neg (by rw [e]; omega)]
   rw [this,if_pos rfl,e]; exact ⟨rfl,Hp.le_refl _⟩
  ·rw [h1] at hb; simp at hb

theorem getC_ok {c:Ct} {n:Int} (h:(getC c n).2=0):okC c∧0≤atC c n∧atC c n<c.list.length∧(getD3 c.list (atC c n)).1=n∧getC c n=((getD3 c.list (atC c n)).2,0):=by
 unfold getC at h ⊢
 split at h
 ·rename_i ok
  rw [if_pos ok]
  split at h
  ·cases h
  ·rename_i h0
   rw [if_neg h0]
   obtain ⟨a,x,hx,e⟩:=atC_range (c:=c) (n:=n) (by omega)
   refine ⟨ok,by omega,a,?_,rfl⟩
   unfold getD3; rw [List.getD_eq_getElem?_getD,hx]; exact e
 ·cases h

theorem certGet {H:Hp} {u:Slc} {c:Ct} {n:Int} (h:Rd 3 fD H u c.list) :
  Qf Tryz.prog F.cert_Get #[.agg #[.int .i64 c.next,u.v],.int .i64 n] H (.tuple #[.agg #[.int .i64 (getC c n).1.1,.int .i64 (getC c n).1.2],.int .i64 (getC c n).2]):=by
 refine cert_Get_vc ⟨_,_,certFind (n:=n) h,fun hc=>?_,fun hc=>?_⟩
 ·have:(getC c n).1=(0,0):=by
   have hc:(getC c n).2≠0:=by simpa using hc
   unfold getC at hc ⊢
   split
   ·split
    ·rfl
    ·rename_i h1 h2; rw [if_pos h1,if_neg h2] at hc; exact absurd rfl hc
   ·rfl
  rw [this]; exact ⟨rfl,Hp.le_refl _⟩
 ·have hc:(getC c n).2=0:=by simpa using hc
  obtain ⟨_,g0,g1,_,ge⟩:=getC_ok hc
  rw [hc,if_pos rfl]
  refine ⟨h.inS g0 g1,_,_,h.gD2 g0 g1,?_,Hp.le_refl _⟩
  rw [ge]; try rfl


theorem Hp.le.chg {H H':Hp} {v:Slc} (h:Hp.le H H'):Chg H H' v:=fun b hb _=>by
 obtain ⟨o,ho⟩:=Option.ne_none_iff_exists'.1 hb
 rw [ho]; exact h b o ho

theorem Old.zs {H:Hp}:Old H zs:=fun p hp=>by unfold Go.Eng.zs at hp; cases hp

theorem delete_held {H0 H:Hp} {s:Slc} {xs:List (Int × Int × Int)} {i:Int} (hl:Hp.le H0 H) (h:Mine 3 fD T.api_Held H0 H s xs) (h0:0≤i) (h1:i<xs.length) :
  Go.Eng.Fn Tryz.prog F.slices_Delete_api_Held_api_Held #[s.v,.int .i64 i,.int .i64 (i+1)] H fun v H'=>∃ u:Slc,v=u.v∧Hp.le H0 H'∧Mine 3 fD T.api_Held H0 H' u (xs.take i.toNat++xs.drop (i.toNat+1)):=by
 refine slices_Delete_api_Held_api_Held_vc (delete_mine (k:=3) (f:=fD) (bytes:=24) (j:=i+1) (post:=fun v H'=>∃ u:Slc,v=u.v∧Hp.le H0 H'∧Mine 3 fD T.api_Held H0 H' u (xs.take i.toNat++xs.drop (i.toNat+1))) (by kernel_rfl) (by kernel_rfl) (by decide) (fun _=>rfl) (fun x v hv=>by simp [fD] at hv; rcases hv with rfl | rfl | rfl <;> rfl) (by kernel_rfl) hl h h0 (by omega) (by omega) fun u H' g1 g2 _ _=>⟨u,rfl,g1,?_⟩)
 rw [show i.toNat+1=(i+1).toNat by omega]; exact g2

theorem certRemove {H:Hp} {u:Slc} {c:Ct} {n:Int} (h:Rd 3 fD H u c.list) :
  Go.Eng.Fn Tryz.prog F.cert_Remove #[.agg #[.int .i64 c.next,u.v],.int .i64 n] H fun v H'=>∃ a:Slc,v=.tuple #[.agg #[.int .i64 (removeC c n).1.next,a.v],.agg #[.int .i64 (removeC c n).2.1.1,.int .i64 (removeC c n).2.1.2],.int .i64 (removeC c n).2.2]∧NewC H H' a (removeC c n).1:=by
 refine cert_Remove_vc ⟨_,_,certFind (n:=n) h,fun hc=>?_,fun hc=>?_⟩
 ·have hc:(getC c n).2≠0:=by simpa using hc
  have:removeC c n=(.zero,(0,0),(getC c n).2):=by unfold removeC; rw [if_neg hc]
  rw [this]; exact ⟨zs,rfl,NewC.zero (Hp.le_refl _)⟩
 have hc:(getC c n).2=0:=by simpa using hc
 obtain ⟨ok,g0,g1,gn,ge⟩:=getC_ok hc
 have:=ok.len
 have hr:removeC c n=(withoutC c n,(getC c n).1,0):=by unfold removeC; rw [if_pos hc]
 rw [hr,hc,if_pos rfl]
 have hg:=getX (d:=((0:Int),(0:Int),(0:Int))) g0 g1
 have hw:(withoutC c n).list=c.list.take (atC c n).toNat++c.list.drop ((atC c n).toNat+1):=by
  rw [filter_erase ok.ok.inc hg]
  unfold withoutC
  simp only
  congr 1
  funext y
  have:(c.list.getD (atC c n).toNat (0,0,0)).1=n:=gn
  rw [this]
 have fin:∀ {H6 H9:Hp} {a:Slc},Hp.le H H9→Mine 3 fD T.api_Held H H9 a (c.list.take (atC c n).toNat++c.list.drop ((atC c n).toNat+1))→NewC H H9 a (withoutC c n):=fun hl hm=>⟨hl,by rw [hw]; exact hm⟩
 have hv:∀ a:Slc,(Value.tuple #[.agg #[.int .i64 c.next,a.v],.agg #[.int .i64 (c.list.getD (atC c n).toNat (0,0,0)).2.1,.int .i64 (c.list.getD (atC c n).toNat (0,0,0)).2.2],.int .i64 0])=.tuple #[.agg #[.int .i64 (withoutC c n).next,a.v],.agg #[.int .i64 (getC c n).1.1,.int .i64 (getC c n).1.2],.int .i64 0]:=fun a=>by
  rw [ge]; try rfl
 refine ⟨by unfold inI; omega,h.inS g0 g1,⟨_,_,h.gD2 g0 g1,?_⟩,?_⟩
 ·refine (clone_held h (by omega)).mono fun v H6 ⟨a,hva,l6,m⟩=>⟨l6,a,hva,(delete_held l6 m g0 g1).mono fun v H9 ⟨b,hvb,l9,m9⟩=>⟨b,hvb,b,hv b,fin (H6:=H6) l9 m9⟩⟩
 ·refine (clone_held h (by omega)).mono fun v H6 ⟨a,hva,l6,m⟩=>⟨l6,a,hva,⟨_,_,(h.le l6).gD2 g0 g1,(delete_held l6 m g0 g1).mono fun v H9 ⟨b,hvb,l9,m9⟩=>⟨b,hvb,b,hv b,fin (H6:=H6) l9 m9⟩⟩,?_⟩
  exact (delete_held l6 m g0 g1).mono fun v H9 ⟨b,hvb,l9,m9⟩=>⟨b,hvb,_,_,(h.le l9).gD2 g0 g1,b,hv b,fin (H6:=H6) l9 m9⟩

end Go.Proofs.YtlbdpklikfddlaaGreat
end
