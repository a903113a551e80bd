/- collide and its reference: who is in the most meetings. Conditions: none. -/
import Derived.Test.YtnldicbalihomaaWD
import Derived.Test.YtnldicbalihomaaVgCollide
import Derived.Test.YtnldicbalihomaaFs
set_option linter.unusedVariables false
set_option maxRecDepth 100000
open Go Go.Eng Go.Proofs
namespace Go.Proofs.Ytnldicbalihomaa

theorem bestL_snoc (m:List Mg) (l:List Int) (id:Int) (b:Int × Int):bestL m (l++[id]) b=bstep (bestL m l b) (id,(cntG m id:Int)):=by
 unfold bestL; rw [List.foldl_append]; rfl
def mbG (m:List Mg) (l:List Int):Int × Int:=if l.length=0 then (-1,0) else bestL m l (0,0)
theorem mbG_snoc {m:List Mg} {l:List Int} {id:Int} (h:1≤cntG m id):mbG m (l++[id])=bstep (mbG m l) (id,(cntG m id:Int)):=by
 unfold mbG
 rw [if_neg (by simp),bestL_snoc]
 cases l with
 | nil =>
  have:bestL m [] (0,0)=(0,0):=rfl
  rw [this]
  show bstep (0,0) _=bstep (-1,0) _
  unfold bstep
  rw [if_pos (.inl (show (0:Int)<(cntG m id:Int) by omega)),if_pos (.inl (show (0:Int)<(cntG m id:Int) by omega))]
 | cons x l=>rw [if_neg (by simp)]
theorem idsG_succ {m:List Mg} {n:Nat} (h:n<m.length):idsG (m.take (n+1))=idsG (m.take n)++[(m.getD n zMg).2.1]++[(m.getD n zMg).2.2]:=by
 rw [take_snocG h]; unfold idsG; rw [List.flatMap_append]; simp
theorem cnt_in {m:List Mg} {n:Nat} (h:n<m.length):1≤cntG m (m.getD n zMg).2.1∧1≤cntG m (m.getD n zMg).2.2:=by
 have hm:=getG_mem h
 constructor <;> exact idsG_cnt.1 (List.mem_flatMap.2 ⟨_,hm,by simp⟩)
theorem bstep_yes {b e:Int × Int} (h:(decide (e.2>b.2)||e.2==b.2&&decide (e.1<b.1))=true):bstep b e=e:=by
 unfold bstep
 rw [Bool.or_eq_true,Bool.and_eq_true,decide_eq_true_eq,decide_eq_true_eq,beq_iff_eq] at h
 exact if_pos h
theorem bstep_no {b e:Int × Int} (h:(decide (e.2>b.2)||e.2==b.2&&decide (e.1<b.1))=false):bstep b e=b:=by
 unfold bstep
 refine if_neg fun hc=>?_
 have:(decide (e.2>b.2)||e.2==b.2&&decide (e.1<b.1))=true:=by
  rw [Bool.or_eq_true,Bool.and_eq_true,decide_eq_true_eq,decide_eq_true_eq,beq_iff_eq]; exact hc
 rw [this] at h; cases h
theorem mostG_bad {m:List Mg} (h:chkG m≠0):mostG m=((0,0),chkG m):=if_neg h
theorem mostG_none {m:List Mg} (h:chkG m=0) (h0:m.length=0):mostG m=((0,0),6):=by unfold mostG; rw [if_pos h,if_pos h0]
theorem mostG_some {m:List Mg} (h:chkG m=0) (h0:m.length≠0):mostG m=(bestG m,0):=by unfold mostG; rw [if_pos h,if_neg h0]
abbrev mostV (m:List Mg):Value:=.tuple #[.int .i64 (mostG m).1.1,.int .i64 (mostG m).1.2,.int .i64 (mostG m).2]
set_option maxHeartbeats 2000000 in
theorem refMost {H:Hp} {u:Slc} {m:List Mg} (r:Rd 4 fG H u m) (ft:∀ x∈m,fitR x.1) :
    Go.Eng.Fn Try.prog F.pelotonref29_Most #[u.v] H fun v H'=>v=mostV m∧Hp.le H H':=by
  have wn:(u.n:Int)=m.length:=by have:=r.len; omega
  refine pelotonref29_Most_vc ?_
  rw [wn]
  refine ⟨_,refCheckG r ft,fun h=>?_,fun h=>⟨fun hz=>?_,fun hz=>?_⟩⟩
  · unfold mostV; rw [mostG_bad (nz0 h)]; exact ⟨rfl,Hp.le_refl _⟩
  · have h0:m.length=0:=by have:(m.length:Int)=0:=by simpa using hz
                           omega
    unfold mostV; rw [mostG_none (ez0 h) h0]; exact ⟨rfl,Hp.le_refl _⟩
  have h:=ez0 h
  have h0:m.length≠0:=by have:¬ (m.length:Int)=0:=by simpa using hz
                         omega
  have ok:=chkG_zero.1 h
  have few:=ok.few
  unfold mostV; rw [mostG_some h h0]
  refine ⟨fun b c i H'=>0≤i∧i≤m.length∧Hp.le H H'∧(b,c)=mbG m (idsG (m.take i.toNat)),fun _ _ i _=>((m.length:Int)-i).toNat,⟨Int.le_refl _,by omega,Hp.le_refl _,rfl⟩,?_⟩
  rintro b c i H7 ⟨i0,i1,l7,e7⟩
  refine ⟨fun hi=>?_,fun hi=>?_⟩
  · have hi:i<m.length:=by simpa using hi
    have hin:i.toNat<m.length:=by omega
    obtain ⟨c1,c2⟩:=cnt_in hin
    refine ⟨fun b c k H'=>0≤k∧k≤2∧Hp.le H H'∧(b,c)=mbG m (idsG (m.take i.toNat)++[(m.getD i.toNat zMg).2.1,(m.getD i.toNat zMg).2.2].take k.toNat),fun _ _ k _=>(2-k).toNat,⟨Int.le_refl _,by omega,l7,by simpa using e7⟩,?_⟩
    rintro b8 c8 k H13 ⟨k0,k1,l13,e13⟩
    refine ⟨fun hk=>?_,fun hk=>?_⟩
    · have hk:k<2:=by simpa using hk
      have r13:=r.le l13
      have key:∀ (id:Int) (l:List Int),(b8,c8)=mbG m l→1≤cntG m id→∀ (s:Slc),s.n=cntG m id →
          ((decide ((s.n:Int)>c8)||(s.n:Int)==c8&&decide (id<b8))=true→(id,(s.n:Int))=mbG m (l++[id]))∧((decide ((s.n:Int)>c8)||(s.n:Int)==c8&&decide (id<b8))=false→(b8,c8)=mbG m (l++[id])):=fun id l he hc s hs=>by
        rw [mbG_snoc hc,← he,hs]
        exact ⟨fun h=>(bstep_yes (b:=(b8,c8)) (e:=(id,(cntG m id:Int))) h).symm,fun h=>(bstep_no (b:=(b8,c8)) (e:=(id,(cntG m id:Int))) h).symm⟩
      refine ⟨r13.inS i0 hi,_,RdG.gI r13 i0 hi,fun h1=>?_,fun h1=>?_⟩
      · have h1:k=1:=by simpa using h1
        subst h1
        refine ⟨r13.inS i0 hi,_,RdG.gJ r13 i0 hi,(refOf r13 ft).mono fun v H17 ⟨s,hv,l17,ms⟩=>⟨s,_,hv,?_,?_⟩⟩ <;> rw [ofM_ok h] at ms <;>
          (have hs:s.n=cntG m (m.getD i.toNat zMg).2.2:=by have:=ms.rdG.len; rw [ofG_len] at this; omega) <;>
          (have kk:=key _ _ e13 c2 s hs) <;> intro hc
        · refine ⟨by unfold inI; omega,⟨by omega,by omega,Hp.le_trans l13 l17,?_⟩,by dsimp only; omega⟩
          have:=kk.1 hc; simpa using this
        · refine ⟨by unfold inI; omega,⟨by omega,by omega,Hp.le_trans l13 l17,?_⟩,by dsimp only; omega⟩
          have:=kk.2 hc; simpa using this
      · have h1:k≠1:=by simpa using h1
        have h1:k=0:=by omega
        subst h1
        refine (refOf r13 ft).mono fun v H17 ⟨s,hv,l17,ms⟩=>⟨s,_,hv,?_,?_⟩ <;> rw [ofM_ok h] at ms <;>
          (have hs:s.n=cntG m (m.getD i.toNat zMg).2.1:=by have:=ms.rdG.len; rw [ofG_len] at this; omega) <;>
          (have kk:=key _ _ e13 c1 s hs) <;> intro hc
        · refine ⟨by unfold inI; omega,⟨by omega,by omega,Hp.le_trans l13 l17,?_⟩,by dsimp only; omega⟩
          have:=kk.1 hc; simpa using this
        · refine ⟨by unfold inI; omega,⟨by omega,by omega,Hp.le_trans l13 l17,?_⟩,by dsimp only; omega⟩
          have:=kk.2 hc; simpa using this
    · have hk:¬ k<2:=by simpa using hk
      refine ⟨by unfold inI; omega,⟨by omega,by omega,l13,?_⟩,by dsimp only; omega⟩
      rw [show (i+1).toNat=i.toNat+1 by omega,idsG_succ hin,e13,show k.toNat=2 by omega]
      simp
  · have hi:¬ i<m.length:=by simpa using hi
    rw [show i.toNat=m.length by omega,List.take_length] at e7
    have hne:(idsG m).length≠0:=by
      obtain ⟨x,l,rfl⟩:=List.exists_cons_of_ne_nil (l:=m) (fun e=>h0 (by rw [e]; rfl))
      unfold idsG; simp
    unfold mbG at e7
    rw [if_neg hne] at e7
    have:bestG m=(b,c):=e7.symm
    rw [this]
    exact ⟨rfl,l7⟩

/-! ### The count of each ID -/
def cntF (m:List Mg) (n:Nat):Int→Option Value:=fun id=>if 1≤cntG (m.take n) id then some (.int .i64 (cntG (m.take n) id:Int)) else none
theorem cntF_get (m:List Mg) (n:Nat) (id:Int):(cntF m n id).getD (.int .i64 0)=.int .i64 (cntG (m.take n) id:Int):=by
 unfold cntF
 split
 ·rfl
 ·rename_i h
  have:cntG (m.take n) id=0:=by omega
  rw [this]; rfl
theorem cntF_succ {m:List Mg} {n:Nat} (hn:n<m.length) (hne:(m.getD n zMg).2.1≠(m.getD n zMg).2.2) (id:Int) :
  cntF m (n+1) id=updM (updM (cntF m n) (m.getD n zMg).2.1 (.int .i64 ((cntG (m.take n) (m.getD n zMg).2.1:Int)+1))) (m.getD n zMg).2.2 (.int .i64 ((cntG (m.take n) (m.getD n zMg).2.2:Int)+1)) id:=by
 unfold cntF updM
 rw [cntG_succ hn]
 unfold inG
 by_cases h2:id=(m.getD n zMg).2.2
 ·subst h2; simp
 ·rw [if_neg h2]
  by_cases h1:id=(m.getD n zMg).2.1
  ·subst h1; simp
  ·rw [if_neg h1]
   have e1:((m.getD n zMg).2.1==id)=false:=by simpa using fun e=>h1 e.symm
   have e2:((m.getD n zMg).2.2==id)=false:=by simpa using fun e=>h2 e.symm
   rw [e1,e2]; simp
theorem cntF_all (m:List Mg) {e:Int × Int}:cntF m m.length e.1=some (.int .i64 e.2)↔1≤cntG m e.1∧e.2=cntG m e.1:=by
 unfold cntF
 rw [List.take_length]
 split
 ·rename_i h
  refine ⟨fun he=>⟨h,?_⟩,fun he=>(by rw [he.2])⟩
  injection he with he; injection he with _ he; exact he.symm
 ·rename_i h
  exact ⟨fun he=>(by cases he),fun he=>absurd he.1 h⟩
end Go.Proofs.Ytnldicbalihomaa
