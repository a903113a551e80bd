/- collide and its reference: check, the meetings of a point, times. Conditions: none. -/
import Derived.Test.YtnldicbalihomaaR2
import Derived.Test.YtnldicbalihomaaE8
import Derived.Test.YtnldicbalihomaaVgCollide
import Derived.Test.YtnldicbalihomaaVgR04
import Derived.Test.YtnldicbalihomaaFs
set_option linter.unusedVariables false
set_option maxRecDepth 100000
open Go Go.Eng Go.Proofs
namespace Go.Proofs.Ytnldicbalihomaa

def fG (x:Mg):List Value:=[.int .i64 x.1.1,.int .i64 x.1.2,.int .i64 x.2.1,.int .i64 x.2.2]
abbrev mgV (x:Mg):Value:=.agg #[.int .i64 x.1.1,.int .i64 x.1.2,.int .i64 x.2.1,.int .i64 x.2.2]
theorem fG_one:∀ (x:Mg),∀ v∈fG x,v.oneCell'=true:=fun x v hv=>by
 simp [fG] at hv
 rcases hv with rfl | rfl | rfl | rfl <;> rfl
theorem getG {m:List Mg} {i:Int} (h0:0≤i) (h1:i<m.length):m[i.toNat]?=some (m.getD i.toNat zMg):=by
 have h:i.toNat<m.length:=by omega
 rw [List.getD_eq_getElem?_getD,List.getElem?_eq_getElem h]; rfl
theorem RdG.get {H:Hp} {u:Slc} {m:List Mg} {i:Int} (h:Rd 4 fG H u m) (h0:0≤i) (h1:i<m.length) :
  H.at (eaddr u.a 4 i)=some (.int .i64 (m.getD i.toNat zMg).1.1)∧H.at ((eaddr u.a 4 i).add 1)=some (.int .i64 (m.getD i.toNat zMg).1.2)∧H.at ((eaddr u.a 4 i).add 2)=some (.int .i64 (m.getD i.toNat zMg).2.1)∧H.at ((eaddr u.a 4 i).add 3)=some (.int .i64 (m.getD i.toNat zMg).2.2) :=
 ⟨h.at0 h0 (getG h0 h1) rfl,h.atj h0 (getG h0 h1) (j:=1) rfl,h.atj h0 (getG h0 h1) (j:=2) rfl,h.atj h0 (getG h0 h1) (j:=3) rfl⟩
theorem RdG.gI {H:Hp} {u:Slc} {m:List Mg} {i:Int} (h:Rd 4 fG H u m) (h0:0≤i) (h1:i<m.length):H.at (((eaddr u.a 4 i).add 2).add 0)=some (.int .i64 (m.getD i.toNat zMg).2.1):=by
 rw [add_zero']; exact (RdG.get h h0 h1).2.2.1
theorem RdG.gJ {H:Hp} {u:Slc} {m:List Mg} {i:Int} (h:Rd 4 fG H u m) (h0:0≤i) (h1:i<m.length):H.at (((eaddr u.a 4 i).add 3).add 0)=some (.int .i64 (m.getD i.toNat zMg).2.2):=by
 rw [add_zero']; exact (RdG.get h h0 h1).2.2.2
theorem RdG.gA {H:Hp} {u:Slc} {m:List Mg} {i:Int} (h:Rd 4 fG H u m) (h0:0≤i) (h1:i<m.length):H.at (eaddr u.a 4 i)=some (.int .i64 (m.getD i.toNat zMg).1.1)∧H.at ((eaddr u.a 4 i).add 1)=some (.int .i64 (m.getD i.toNat zMg).1.2) :=
 ⟨(RdG.get h h0 h1).1,(RdG.get h h0 h1).2.1⟩

theorem befG_ne {a b:Mg} (h:cmpR a.1 b.1≠0):befG a b=decide (cmpR a.1 b.1<0):=if_neg h
theorem befG_eq {a b:Mg} (h:cmpR a.1 b.1=0):befG a b=decide (a.2.1<b.2.1∨(a.2.1=b.2.1∧a.2.2<b.2.2)):=if_pos h
theorem nz0 {x:Int} (h:(x != 0)=true):x≠0:=by simpa using h
theorem ez0 {x:Int} (h:(x != 0)=false):x=0:=by simpa using h
theorem colBefore {H:Hp} {a b:Mg} (oa:okR a.1) (ob:okR b.1):Qf Try.prog F.collide_before #[mgV a,mgV b] H (.bool (befG a b)):=by
 have e:cmpM a.1 b.1=(cmpR a.1 b.1,0):=if_pos ⟨oa,ob⟩
 have q:=ratioCmp (H:=H) oa.fit ob.fit
 rw [e] at q
 refine collide_before_vc ⟨_,_,q,fun h=>⟨?_,Hp.le_refl _⟩,fun h=>⟨?_,Hp.le_refl _⟩⟩
 ·rw [befG_ne (nz0 h)]
 ·rw [befG_eq (ez0 h)]
  congr 1
  rw [Bool.eq_iff_iff]; simp
theorem refBefore {H:Hp} {a b:Mg} (oa:okR a.1) (ob:okR b.1):Qf Try.prog F.pelotonref04_Before #[mgV a,mgV b] H (.bool (befG a b)):=by
 refine pelotonref04_Before_vc ⟨_,refCompareR oa ob,fun h=>⟨?_,Hp.le_refl _⟩,fun h=>⟨fun hi=>⟨?_,Hp.le_refl _⟩,fun hi=>⟨?_,Hp.le_refl _⟩⟩⟩
 ·rw [befG_ne (nz0 h)]
 ·have hi:a.2.1≠b.2.1:=by simpa using hi
  rw [befG_eq (ez0 h)]
  congr 1
  rw [Bool.eq_iff_iff,decide_eq_true_eq,decide_eq_true_eq]; omega
 ·have hi:a.2.1=b.2.1:=by simpa using hi
  rw [befG_eq (ez0 h)]
  congr 1
  rw [Bool.eq_iff_iff,decide_eq_true_eq,decide_eq_true_eq]; omega

/-! ### Check -/
def seenB (m:List Mg) (n:Nat) (p:Int × Int):Bool:=(m.take n).any fun x=>x.2==p
def seenF (m:List Mg) (n:Nat) (p:Int × Int):Option Value:=if seenB m n p=true then some (.bool true) else none
theorem seenF_get (m:List Mg) (n:Nat) (p:Int × Int):(seenF m n p).getD (.bool false)=.bool (seenB m n p):=by
 unfold seenF
 cases seenB m n p <;> rfl
theorem seenB_iff {m:List Mg} {n:Nat} (hn:n≤m.length) {p:Int × Int}:seenB m n p=true↔∃ j,j<n∧(m.getD j zMg).2=p:=by
 unfold seenB
 rw [List.any_eq_true]
 constructor
 ·rintro ⟨x,hx,e⟩
  obtain ⟨j,hj⟩:=List.mem_iff_getElem?.1 hx
  rw [List.getElem?_take] at hj
  split at hj
  ·rename_i h
   refine ⟨j,h,?_⟩
   rw [List.getD_eq_getElem?_getD,hj]; simpa using e
  ·cases hj
 ·rintro ⟨j,hj,e⟩
  refine ⟨m.getD j zMg,?_,by simpa using e⟩
  refine List.mem_iff_getElem?.2 ⟨j,?_⟩
  rw [List.getElem?_take,if_pos hj,List.getD_eq_getElem?_getD,List.getElem?_eq_getElem (by omega)]; rfl
theorem seenF_succ {m:List Mg} {n:Nat} (hn:n<m.length) (p:Int × Int):seenF m (n+1) p=updM (seenF m n) (m.getD n zMg).2 (.bool true) p:=by
 unfold seenF updM seenB
 rw [take_snocG hn,List.any_append]
 by_cases h:p=(m.getD n zMg).2
 ·subst h; simp
 ·have:((m.getD n zMg).2==p)=false:=by simpa using fun e=>h e.symm
  rw [if_neg h,List.any_cons,this,List.any_nil,Bool.or_false,Bool.or_false]
theorem stpG_iff {m:List Mg} {n:Nat} (hn:n<m.length):stpG m n↔(seenB m n (m.getD n zMg).2||decide ((n:Int)>0)&&!befG (m.getD (n-1) zMg) (m.getD n zMg))=false:=by
 unfold stpG
 rw [Bool.or_eq_false_iff,Bool.eq_false_iff,ne_eq,seenB_iff (by omega),Bool.and_eq_false_iff]
 constructor
 ·rintro ⟨h1,h2⟩
  refine ⟨fun ⟨j,hj,e⟩=>h2 j hj e,?_⟩
  by_cases h:0<n
  ·right; rw [h1 h]; rfl
  ·left; simp; omega
 ·rintro ⟨h1,h2⟩
  refine ⟨fun h=>?_,fun j hj e=>h1 ⟨j,hj,e⟩⟩
  rcases h2 with h2 | h2
  ·simp at h2; omega
  ·simpa using h2
theorem keyPair:KL Try.prog T.a2_int fun x:Int × Int=>Value.agg #[.int .i64 x.1,.int .i64 x.2]:=KL.arr2 (t:=T.int) (by kernel_rfl) (by kernel_rfl) (by kernel_rfl)
theorem colCheck {H:Hp} {u:Slc} {m:List Mg} (r:Rd 4 fG H u m) (ft:∀ x∈m,fitR x.1):Qf Try.prog F.collide_Check #[u.v] H (.int .i64 (chkG m)):=by
 have wn:(u.n:Int)=m.length:=by have:=r.len; omega
 have fm:∀ {k:Nat},k<m.length→fitR (m.getD k zMg).1:=fun h=>ft _ (getG_mem h)
 refine collide_Check_vc ?_
 rw [wn]
 refine ⟨fun h=>⟨?_,Hp.le_refl _⟩,fun h=>?_⟩
 ·have h:(m.length:Int)>5000:=by simpa using h
  rw [chkG_many (by omega)]
 have hl:¬ 5000<m.length:=by have:¬ (m.length:Int)>5000:=by simpa using h
                             omega
 refine upto (N:=(m.length:Int)) (J:=fun n=>∀ j,j<n.toNat→goodG (m.getD j zMg)) (by omega) (fun j hj=>by simp at hj) fun n h0 h1 hJ=>⟨fun hn=>?_,fun hn=>?_⟩
 ·have hn:n<m.length:=by simpa using hn
  refine ⟨r.inS h0 hn,_,_,_,_,RdG.get r h0 hn,_,ratioCheck (fm (by omega)),fun hc=>⟨?_,Hp.le_refl _⟩,fun hc=>?_⟩
  ·rw [chkG_bad hl]
   intro hg
   have g:=hg _ (getG_mem (m:=m) (k:=n.toNat) (by omega))
   obtain ⟨g1,g2,g3,g4⟩:=g
   rw [chkR_ok g1] at hc
   simp only [bne_self_eq_false,Bool.false_or,Bool.or_eq_true,decide_eq_true_eq] at hc
   omega
  ·refine upto.nx h0 hn (by omega) fun j hj=>?_
   by_cases hjn:j<n.toNat
   ·exact hJ j hjn
   ·have:j=n.toNat:=by omega
    subst this
    simp only [Bool.or_eq_false_iff,decide_eq_false_iff_not] at hc
    obtain ⟨⟨⟨c1,c2⟩,c3⟩,c4⟩:=hc
    exact ⟨chkR_zero.1 (ez0 c1),by omega,by omega,by omega⟩
 have hg:∀ x∈m,goodG x:=fun x hx=>by
  have hn:¬ n<m.length:=by simpa using hn
  obtain ⟨j,hj,e⟩:=List.mem_iff_getElem.1 hx
  have:=hJ j (by omega)
  rwa [List.getD_eq_getElem?_getD,List.getElem?_eq_getElem hj,Option.getD_some,e] at this
 intro b H11 hb hH
 have l11:Hp.le H H11:=by subst hH; exact Hp.put_le _ _ hb
 refine uptoH (N:=(m.length:Int)) (J:=fun n H'=>Hp.le H H'∧(∃ es k,MapF (fun x:Int × Int=>Value.agg #[.int .i64 x.1,.int .i64 x.2]) H' b (seenF m n.toNat) es k)∧∀ j,j<n.toNat→stpG m j) (by omega)
  ⟨l11,⟨_,_,(MapF.new hH).ext fun x=>rfl⟩,fun j hj=>by simp at hj⟩ fun n H15 h0 h1 ⟨l15,⟨es,k,hM⟩,hS⟩=>⟨fun hn=>?_,fun hn=>⟨?_,l15⟩⟩
 ·have hn:n<m.length:=by simpa using hn
  have r15:=r.le l15
  have hin:n.toNat<m.length:=by omega
  refine ⟨r15.inS h0 hn,_,_,_,_,RdG.get r15 h0 hn,seenB m n.toNat (m.getD n.toNat zMg).2,?_,fun hc=>?_,fun hc=>?_,(m.getD (n.toNat-1) zMg).1.1,(m.getD (n.toNat-1) zMg).1.2,(m.getD (n.toNat-1) zMg).2.1,(m.getD (n.toNat-1) zMg).2.2,fun hc=>?_,befG (m.getD (n.toNat-1) zMg) (m.getD n.toNat zMg),fun hc=>?_,fun hc=>⟨?_,l15⟩,fun hc=>?_⟩
  ·have:=keyPair.lookF (t:=T.map_a2_int_bool) (e:=T.bool) (z:=.bool false) (by kernel_rfl) (by kernel_rfl) (x:=(m.getD n.toNat zMg).2) hM
   rw [seenF_get] at this
   exact this
  ·rw [Bool.and_eq_true,decide_eq_true_eq] at hc; unfold inI; omega
  ·rw [Bool.and_eq_true,decide_eq_true_eq] at hc; exact r15.inS (by omega) (by omega)
  ·rw [Bool.and_eq_true,decide_eq_true_eq] at hc
   have:=RdG.get r15 (i:=n-1) (by omega) (by omega)
   rwa [show (n-1).toNat=n.toNat-1 by omega] at this
  ·rw [Bool.and_eq_true,decide_eq_true_eq] at hc
   exact colBefore (hg _ (getG_mem (by omega))).1 (hg _ (getG_mem hin)).1
  ·have hs:¬ stpG m n.toNat:=fun h=>by
    rw [stpG_iff hin,Int.toNat_of_nonneg h0] at h
    rw [h] at hc; cases hc
   rw [chkG_order hl hg fun h=>hs (h _ hin)]
  ·have hs:stpG m n.toNat:=by
    rw [stpG_iff hin,Int.toNat_of_nonneg h0]; exact hc
   refine (keyPair.putF (t:=T.map_a2_int_bool) (e:=T.bool) (v:=.bool true) (by kernel_rfl) (x:=(m.getD n.toNat zMg).2) hM).mono fun v H27 ⟨es',k',hH27,hM'⟩=>⟨v,rfl,?_⟩
   refine uptoH.nx h0 hn (by omega) ⟨by subst hH27; exact Hp.le_put l15 hb,⟨es',k',hM'.ext fun x=>?_⟩,fun j hj=>?_⟩
   ·rw [show (n+1).toNat=n.toNat+1 by omega]; exact seenF_succ hin x
   ·by_cases hjn:j<n.toNat
    ·exact hS j hjn
    ·rw [show j=n.toNat by omega]; exact hs
 ·have hn:¬ n<m.length:=by simpa using hn
  rw [chkG_zero.2 ⟨by omega,hg,fun k hk=>hS k (by omega)⟩]
theorem refCheckG {H:Hp} {u:Slc} {m:List Mg} (r:Rd 4 fG H u m) (ft:∀ x∈m,fitR x.1):Qf Try.prog F.pelotonref29_Check #[u.v] H (.int .i64 (chkG m)):=by
 have wn:(u.n:Int)=m.length:=by have:=r.len; omega
 have fm:∀ {k:Nat},k<m.length→fitR (m.getD k zMg).1:=fun h=>ft _ (getG_mem h)
 refine pelotonref29_Check_vc ?_
 rw [wn]
 refine ⟨fun h=>⟨?_,Hp.le_refl _⟩,fun h=>?_⟩
 ·have h:(m.length:Int)>5000:=by simpa using h
  rw [chkG_many (by omega)]
 have hl:¬ 5000<m.length:=by have:¬ (m.length:Int)>5000:=by simpa using h
                             omega
 refine upto (N:=(m.length:Int)) (J:=fun n=>∀ j,j<n.toNat→goodG (m.getD j zMg)) (by omega) (fun j hj=>by simp at hj) fun n h0 h1 hJ=>⟨fun hn=>?_,fun hn=>?_⟩
 ·have hn:n<m.length:=by simpa using hn
  refine ⟨r.inS h0 hn,_,_,RdG.gA r h0 hn,_,refRCheck (fm (by omega)),fun _=>r.inS h0 hn,_,fun _=>RdG.gI r h0 hn,fun _=>r.inS h0 hn,_,fun _=>RdG.gI r h0 hn,fun _=>r.inS h0 hn,_,fun _=>RdG.gJ r h0 hn,fun _=>r.inS h0 hn,_,fun _=>RdG.gJ r h0 hn,fun hc=>⟨?_,Hp.le_refl _⟩,fun hc=>?_⟩
  ·rw [chkG_bad hl]
   intro hg
   have g:=hg _ (getG_mem (m:=m) (k:=n.toNat) (by omega))
   obtain ⟨g1,g2,g3,g4⟩:=g
   rw [chkR_ok g1] at hc
   simp only [bne_self_eq_false,Bool.false_or,Bool.or_eq_true,decide_eq_true_eq] at hc
   omega
  ·refine upto.nx h0 hn (by omega) fun j hj=>?_
   by_cases hjn:j<n.toNat
   ·exact hJ j hjn
   ·have:j=n.toNat:=by omega
    subst this
    simp only [Bool.or_eq_false_iff,decide_eq_false_iff_not] at hc
    obtain ⟨⟨⟨c1,c2⟩,c3⟩,c4⟩:=hc
    exact ⟨chkR_zero.1 (ez0 c1),by omega,by omega,by omega⟩
 have hg:∀ x∈m,goodG x:=fun x hx=>by
  have hn:¬ n<m.length:=by simpa using hn
  obtain ⟨j,hj,e⟩:=List.mem_iff_getElem.1 hx
  have:=hJ j (by omega)
  rwa [List.getD_eq_getElem?_getD,List.getElem?_eq_getElem hj,Option.getD_some,e] at this
 refine upto (N:=(m.length:Int)) (J:=fun n=>∀ j,j<n.toNat→stpG m j) (by omega) (fun j hj=>by simp at hj) fun n h0 h1 hS=>⟨fun hn=>?_,fun hn=>⟨?_,Hp.le_refl _⟩⟩
 ·have hn:n<m.length:=by simpa using hn
  have hin:n.toNat<m.length:=by omega
  have hpos:∀ {c:Bool},(decide (n>0))=true→0≤n-1∧n-1<m.length:=fun hc=>by rw [decide_eq_true_eq] at hc; omega
  refine ⟨fun hc=>?_,fun hc=>?_,(m.getD (n.toNat-1) zMg).1.1,(m.getD (n.toNat-1) zMg).1.2,(m.getD (n.toNat-1) zMg).2.1,(m.getD (n.toNat-1) zMg).2.2,fun hc=>?_,fun hc=>r.inS h0 hn,_,_,_,_,fun hc=>RdG.get r h0 hn,befG (m.getD (n.toNat-1) zMg) (m.getD n.toNat zMg),fun hc=>?_,fun hc=>⟨?_,Hp.le_refl _⟩,fun hc=>?_⟩
  ·rw [decide_eq_true_eq] at hc; unfold inI; omega
  ·rw [decide_eq_true_eq] at hc; exact r.inS (by omega) (by omega)
  ·rw [decide_eq_true_eq] at hc
   have:=RdG.get r (i:=n-1) (by omega) (by omega)
   rwa [show (n-1).toNat=n.toNat-1 by omega] at this
  ·exact refBefore (hg _ (getG_mem (by omega))).1 (hg _ (getG_mem hin)).1
  ·have hs:¬ stpG m n.toNat:=fun h=>by
    rw [stpG_iff hin,Int.toNat_of_nonneg h0,Bool.or_eq_false_iff] at h
    rw [h.2] at hc; cases hc
   rw [chkG_order hl hg fun h=>hs (h _ hin)]
  ·refine upto (N:=n) (J:=fun k=>∀ j,j<k.toNat→(m.getD j zMg).2≠(m.getD n.toNat zMg).2) h0 (fun j hj=>by simp at hj) fun k k0 k1 hK=>⟨fun hk=>?_,fun hk=>?_⟩
   ·have hk:k<n:=by simpa using hk
    refine ⟨r.inS k0 (by omega),_,RdG.gI r k0 (by omega),r.inS h0 hn,_,RdG.gI r h0 hn,fun _=>r.inS k0 (by omega),_,fun _=>RdG.gJ r k0 (by omega),fun _=>r.inS h0 hn,_,fun _=>RdG.gJ r h0 hn,fun he=>⟨?_,Hp.le_refl _⟩,fun he=>?_⟩
    ·rw [Bool.and_eq_true,beq_iff_eq,beq_iff_eq] at he
     have hs:¬ stpG m n.toNat:=fun h=>h.2 k.toNat (by omega) (Prod.ext he.1 he.2)
     rw [chkG_order hl hg fun h=>hs (h _ hin)]
    ·refine upto.nx k0 hk (by omega) fun j hj=>?_
     by_cases hjn:j<k.toNat
     ·exact hK j hjn
     ·have:j=k.toNat:=by omega
      subst this
      intro e
      rw [e] at he; simp at he
   ·have hk:¬ k<n:=by simpa using hk
    refine upto.nx h0 hn (by omega) fun j hj=>?_
    by_cases hjn:j<n.toNat
    ·exact hS j hjn
    ·have:j=n.toNat:=by omega
     subst this
     refine ⟨fun hp=>?_,fun j hj=>hK j (by omega)⟩
     rw [Bool.and_eq_false_iff] at hc
     rcases hc with hc | hc
     ·simp at hc; omega
     ·simpa using hc
 ·have hn:¬ n<m.length:=by simpa using hn
  rw [chkG_zero.2 ⟨by omega,hg,fun k hk=>hS k (by omega)⟩]

/-! ### The meetings of a point -/
def ofM (m:List Mg) (id:Int):List Mg:=if chkG m=0 then ofG m id else []
theorem ofM_ok {m:List Mg} (h:chkG m=0) (id:Int):ofM m id=ofG m id:=if_pos h
theorem ofM_bad {m:List Mg} (h:chkG m≠0) (id:Int):ofM m id=[]:=if_neg h
theorem ofG_lenle (m:List Mg) (id:Int):(ofG m id).length≤m.length:=by unfold ofG; exact List.length_filter_le _ _
set_option maxHeartbeats 1000000 in
theorem colOf {H:Hp} {u:Slc} {m:List Mg} {id:Int} (r:Rd 4 fG H u m) (ft:∀ x∈m,fitR x.1) :
  Go.Eng.Fn Try.prog F.collide_Of #[u.v,.int .i64 id] H fun v H'=>∃ s:Slc,v=.tuple #[s.v,.int .i64 (chkG m)]∧Hp.le H H'∧Mine 4 fG T.api_Meeting H H' s (ofM m id):=by
 have wn:(u.n:Int)=m.length:=by have:=r.len; omega
 refine collide_Of_vc ?_
 rw [wn]
 refine ⟨_,colCheck r ft,fun h=>?_,fun h=>?_⟩
 ·rw [ofM_bad (nz0 h)]; exact ⟨zs,rfl,Hp.le_refl _,.inl ⟨rfl,rfl⟩⟩
 have h:=ez0 h
 have ok:=chkG_zero.1 h
 have few:=ok.few
 rw [ofM_ok h,h]
 refine ⟨fun s n H'=>0≤n∧n≤m.length∧Hp.le H H'∧Mine 4 fG T.api_Meeting H H' s (ofG (m.take n.toNat) id),fun _ n _=>((m.length:Int)-n).toNat,⟨Int.le_refl _,by omega,Hp.le_refl _,.inl ⟨rfl,rfl⟩⟩,?_⟩
 rintro s n H6 ⟨h0,h1,l6,mi⟩
 refine ⟨fun hn=>?_,fun hn=>?_⟩
 ·have hn:n<m.length:=by simpa using hn
  have hin:n.toNat<m.length:=by omega
  have r6:=r.le l6
  have e1:(n+1).toNat=n.toNat+1:=by omega
  refine ⟨r6.inS h0 hn,_,_,_,_,RdG.get r6 h0 hn,fun hc b H12 hb hH=>?_,fun hc=>⟨by unfold inI; omega,⟨by omega,by omega,l6,?_⟩,by dsimp only; omega⟩⟩
  ·have hlen:(ofG (m.take n.toNat) id).length≤100000000:=by have:=ofG_lenle (m.take n.toNat) id; have:=List.length_take_le n.toNat m; omega
   refine (append1 (k:=4) (f:=fG) (bytes:=32) (x:=m.getD n.toNat zMg) (by kernel_rfl) (by decide) (fun _=>rfl) fG_one l6 mi hb hH rfl hlen (by omega)).mono fun v H14 ⟨s',hv,l14,mi',_,_⟩=>⟨s',hv,by unfold inI; omega,⟨by omega,by omega,l14,?_⟩,by dsimp only; omega⟩
   rw [e1,ofG_succ hin,if_pos (show inG id (m.getD n.toNat zMg)=true from hc)]; exact mi'
  ·rw [e1,ofG_succ hin,if_neg (show ¬ inG id (m.getD n.toNat zMg)=true by intro e; rw [show inG id (m.getD n.toNat zMg)=false from hc] at e; cases e)]; exact mi
 ·have hn:¬ n<m.length:=by simpa using hn
  rw [show n.toNat=m.length by omega,List.take_length] at mi
  exact ⟨s,rfl,l6,mi⟩
set_option maxHeartbeats 1000000 in
theorem refOf {H:Hp} {u:Slc} {m:List Mg} {id:Int} (r:Rd 4 fG H u m) (ft:∀ x∈m,fitR x.1) :
  Go.Eng.Fn Try.prog F.pelotonref29_Of #[u.v,.int .i64 id] H fun v H'=>∃ s:Slc,v=.tuple #[s.v,.int .i64 (chkG m)]∧Hp.le H H'∧Mine 4 fG T.api_Meeting H H' s (ofM m id):=by
 have wn:(u.n:Int)=m.length:=by have:=r.len; omega
 refine pelotonref29_Of_vc ?_
 rw [wn]
 refine ⟨_,refCheckG r ft,fun h=>?_,fun h=>?_⟩
 ·rw [ofM_bad (nz0 h)]; exact ⟨zs,rfl,Hp.le_refl _,.inl ⟨rfl,rfl⟩⟩
 have h:=ez0 h
 have ok:=chkG_zero.1 h
 have few:=ok.few
 rw [ofM_ok h,h]
 refine ⟨fun s n H'=>0≤n∧n≤m.length∧Hp.le H H'∧Mine 4 fG T.api_Meeting H H' s (ofG (m.take n.toNat) id),fun _ n _=>((m.length:Int)-n).toNat,⟨Int.le_refl _,by omega,Hp.le_refl _,.inl ⟨rfl,rfl⟩⟩,?_⟩
 rintro s n H6 ⟨h0,h1,l6,mi⟩
 refine ⟨fun hn=>?_,fun hn=>?_⟩
 ·have hn:n<m.length:=by simpa using hn
  have hin:n.toNat<m.length:=by omega
  have r6:=r.le l6
  have e1:(n+1).toNat=n.toNat+1:=by omega
  refine ⟨r6.inS h0 hn,_,RdG.gI r6 h0 hn,fun _=>r6.inS h0 hn,_,fun _=>RdG.gJ r6 h0 hn,fun hc=>⟨r6.inS h0 hn,_,_,_,_,RdG.get r6 h0 hn,fun b H12 hb hH=>?_⟩,fun hc=>⟨by unfold inI; omega,⟨by omega,by omega,l6,?_⟩,by dsimp only; omega⟩⟩
  ·have hlen:(ofG (m.take n.toNat) id).length≤100000000:=by have:=ofG_lenle (m.take n.toNat) id; have:=List.length_take_le n.toNat m; omega
   refine (append1 (k:=4) (f:=fG) (bytes:=32) (x:=m.getD n.toNat zMg) (by kernel_rfl) (by decide) (fun _=>rfl) fG_one l6 mi hb hH rfl hlen (by omega)).mono fun v H14 ⟨s',hv,l14,mi',_,_⟩=>⟨s',hv,by unfold inI; omega,⟨by omega,by omega,l14,?_⟩,by dsimp only; omega⟩
   rw [e1,ofG_succ hin,if_pos (show inG id (m.getD n.toNat zMg)=true from hc)]; exact mi'
  ·rw [e1,ofG_succ hin,if_neg (show ¬ inG id (m.getD n.toNat zMg)=true by intro e; rw [show inG id (m.getD n.toNat zMg)=false from hc] at e; cases e)]; exact mi
 ·have hn:¬ n<m.length:=by simpa using hn
  rw [show n.toNat=m.length by omega,List.take_length] at mi
  exact ⟨s,rfl,l6,mi⟩
end Go.Proofs.Ytnldicbalihomaa
