/- collide and its reference: times, who is in the most meetings. Conditions: none. -/
import Derived.Test.YtnldicbalihomaaWC
import Derived.Test.YtnldicbalihomaaVgCollide
import Derived.Test.YtnldicbalihomaaFs
set_option linter.unusedVariables false
set_option maxRecDepth 100000
open Go Go.Eng Go.Proofs
namespace Go.Proofs.Ytnldicbalihomaa

def fQ (x:Int × Int):List Value:=[.int .i64 x.1,.int .i64 x.2]
theorem fQ_one:∀ (x:Int × Int),∀ v∈fQ x,v.oneCell'=true:=fun x v hv=>by
 simp [fQ] at hv
 rcases hv with rfl | rfl <;> rfl
theorem fI_one:∀ (x:Int),∀ v∈fI x,v.oneCell'=true:=fun x v hv=>by
 simp [fI] at hv
 subst hv; rfl
theorem getQ {m:List (Int × Int)} {i:Int} (h0:0≤i) (h1:i<m.length):m[i.toNat]?=some (m.getD i.toNat (0,0)):=by
 have h:i.toNat<m.length:=by omega
 rw [List.getD_eq_getElem?_getD,List.getElem?_eq_getElem h]; rfl
theorem RdQ.get {H:Hp} {u:Slc} {m:List (Int × Int)} {i:Int} (h:Rd 2 fQ H u m) (h0:0≤i) (h1:i<m.length) :
  H.at (eaddr u.a 2 i)=some (.int .i64 (m.getD i.toNat (0,0)).1)∧H.at ((eaddr u.a 2 i).add 1)=some (.int .i64 (m.getD i.toNat (0,0)).2) :=
 ⟨h.at0 h0 (getQ h0 h1) rfl,h.atj h0 (getQ h0 h1) (j:=1) rfl⟩
theorem _root_.Go.Eng.Mine.rdQ {e:TypeId} {H0 H:Hp} {u:Slc} {xs:List (Int × Int)} (h:Mine 2 fQ e H0 H u xs):Rd 2 fQ H u xs:=Mine.rd (k:=2) (f:=fQ) (fun _=>rfl) h
theorem _root_.Go.Eng.Mine.rdG {e:TypeId} {H0 H:Hp} {u:Slc} {xs:List Mg} (h:Mine 4 fG e H0 H u xs):Rd 4 fG H u xs:=Mine.rd (k:=4) (f:=fG) (fun _=>rfl) h

/-! ### Times -/
def timesM (m:List Mg):List (Int × Int) × List Int:=if chkG m=0 then timesN m m.length else ([],[])
theorem timesM_ok {m:List Mg} (h:chkG m=0):timesM m=timesN m m.length:=if_pos h
theorem timesM_bad {m:List Mg} (h:chkG m≠0):timesM m=([],[]):=if_neg h
structure Two (H H':Hp) (a b:Slc) (p:List (Int × Int) × List Int):Prop where
 le:Hp.le H H'
 ma:Mine 2 fQ T.api_Ratio H H' a p.1
 mb:Mine 1 fI T.int H H' b p.2
 sep:Sep a b
theorem Two.start {H:Hp}:Two H H ⟨none,0,0⟩ ⟨none,0,0⟩ ([],[]):=⟨Hp.le_refl _,.inl ⟨rfl,rfl⟩,.inl ⟨rfl,rfl⟩,Sep.nil⟩
theorem Two.snocA {H H7 H17:Hp} {a b:Slc} {p:List (Int × Int) × List Int} {c:Nat} {x:Int × Int} (t:Two H H7 a b p) (hc:H7 c=none) (hH:H17=H7.put c (.cells #[.int .i64 x.1,.int .i64 x.2] T.api_Ratio (0,0))) (hl:p.1.length≤100000000) :
  OpSem Try.prog (bcall .append #[T.s_api_Ratio,T.s_api_Ratio] T.s_api_Ratio #[false,false] [a.v,.slice (some ⟨c,0,none⟩) 1 1]) H17 fun v H19=>∃ a':Slc,v=a'.v∧Two H H19 a' b (p.1++[x],p.2) :=
 (append1 (k:=2) (f:=fQ) (bytes:=16) (x:=x) (by kernel_rfl) (by decide) (fun _=>rfl) fQ_one t.le t.ma hc hH rfl hl (by omega)).mono fun v H19 ⟨a',hv,l,ma,ch,ex⟩ =>
  ⟨a',hv,l,ma,t.mb.chg ch t.sep.symm,t.sep.ext t.mb.isOld ex⟩
theorem Two.snocB {H H7 H17:Hp} {a b:Slc} {p:List (Int × Int) × List Int} {c:Nat} {x:Int} (t:Two H H7 a b p) (hc:H7 c=none) (hH:H17=H7.put c (.cells #[.int .i64 x] T.int (0,0))) (hl:p.2.length≤100000000) :
  OpSem Try.prog (bcall .append #[T.s_int,T.s_int] T.s_int #[false,false] [b.v,.slice (some ⟨c,0,none⟩) 1 1]) H17 fun v H19=>∃ b':Slc,v=b'.v∧Two H H19 a b' (p.1,p.2++[x]) :=
 (append1 (k:=1) (f:=fI) (bytes:=8) (x:=x) (by kernel_rfl) (by decide) (fun _=>rfl) fI_one t.le t.mb hc hH rfl hl (by omega)).mono fun v H19 ⟨b',hv,l,mb,ch,ex⟩ =>
  ⟨b',hv,l,t.ma.chg ch t.sep,mb,(t.sep.symm.ext t.ma.isOld ex).symm⟩
theorem Two.setB {H H7:Hp} {a b:Slc} {p:List (Int × Int) × List Int} (t:Two H H7 a b p) {i:Int} (h0:0≤i) (h1:i<p.2.length) (y:Int) {Q:Hp→Prop} (q:∀ H',Two H H' a b (p.1,p.2.set i.toNat y)→Q H') :
  H7.canStore (eaddr b.a 1 i) 0 [.int .i64 y]∧∀ H',H'=H7.store (eaddr b.a 1 i) 0 [.int .i64 y]→Q H' :=
 Mine.setI t.mb h0 h1 y fun H' mb ch=>q H' ⟨Hp.le_chg t.le ch t.mb.isNew,t.ma.chg ch t.sep,mb,t.sep⟩
theorem pairB {a b:Int × Int}:(a.1==b.1&&a.2==b.2)=true↔a=b:=by
 rw [Bool.and_eq_true,beq_iff_eq,beq_iff_eq]
 exact ⟨fun h=>Prod.ext h.1 h.2,fun h=>by rw [h]; exact ⟨rfl,rfl⟩⟩
set_option maxHeartbeats 2000000 in
theorem colTimes {H:Hp} {u:Slc} {m:List Mg} (r:Rd 4 fG H u m) (ft:∀ x∈m,fitR x.1) :
  Go.Eng.Fn Try.prog F.collide_Times #[u.v] H fun v H'=>∃ a b:Slc,v=.tuple #[a.v,b.v,.int .i64 (chkG m)]∧Two H H' a b (timesM m):=by
 have wn:(u.n:Int)=m.length:=by have:=r.len; omega
 refine collide_Times_vc ?_
 rw [wn]
 refine ⟨_,colCheck r ft,fun h=>?_,fun h=>?_⟩
 ·rw [timesM_bad (nz0 h)]; exact ⟨zs,zs,rfl,Two.start⟩
 have h:=ez0 h
 have ok:=chkG_zero.1 h
 have few:=ok.few
 rw [timesM_ok h,h]
 refine ⟨fun a b n H'=>0≤n∧n≤m.length∧Two H H' a b (timesN m n.toNat),fun _ _ n _=>((m.length:Int)-n).toNat,⟨Int.le_refl _,by omega,Two.start⟩,?_⟩
 rintro a b n H7 ⟨h0,h1,t⟩
 have an:(a.n:Int)=(timesN m n.toNat).1.length:=by have:=t.ma.rdQ.len; omega
 obtain ⟨t1,t2,t3⟩:=timesN_len m n.toNat
 rw [an]
 refine ⟨fun hn=>?_,fun hn=>?_⟩
 ·have hn:n<m.length:=by simpa using hn
  have hin:n.toNat<m.length:=by omega
  have r7:=r.le t.le
  have e1:(n+1).toNat=n.toNat+1:=by omega
  have e2:(((timesN m n.toNat).1.length:Int)-1).toNat=(timesN m n.toNat).1.length-1:=by omega
  refine ⟨r7.inS h0 hn,_,_,_,_,RdG.get r7 h0 hn,fun hc=>?_,fun hc=>?_,((timesN m n.toNat).1.getD ((timesN m n.toNat).1.length-1) (0,0)).1,((timesN m n.toNat).1.getD ((timesN m n.toNat).1.length-1) (0,0)).2,fun hc=>?_,fun hc=>?_,fun hc=>?_⟩
  ·rw [decide_eq_true_eq] at hc; unfold inI; omega
  ·rw [decide_eq_true_eq] at hc; exact t.ma.rdQ.inS (by omega) (by omega)
  ·rw [decide_eq_true_eq] at hc
   have:=RdQ.get t.ma.rdQ (i:=((timesN m n.toNat).1.length:Int)-1) (by omega) (by omega)
   rwa [e2] at this
  ·rw [Bool.and_eq_true,decide_eq_true_eq,pairB] at hc
   have n0:n.toNat≠0:=fun e=>by rw [e] at hc; exact absurd hc.1 (by simp [timesN])
   have he:(m.getD n.toNat zMg).1=(m.getD (n.toNat-1) zMg).1:=by rw [← hc.2,timesN_last m _ n0]
   have hlt:((timesN m n.toNat).1.length:Int)-1<(timesN m n.toNat).2.length:=by omega
   have hi0:0≤((timesN m n.toNat).1.length:Int)-1:=by omega
   have hval:=timesN_pos m n.toNat ((timesN m n.toNat).2.getD (((timesN m n.toNat).1.length:Int)-1).toNat 0) (List.mem_of_getElem? (getI hi0 hlt))
   refine ⟨by unfold inI; omega,t.mb.rdI.inS hi0 hlt,_,RdI.get t.mb.rdI hi0 hlt,by unfold inI; omega,t.mb.rdI.inS hi0 hlt,?_⟩
   refine t.setB hi0 hlt _ fun H15 t'=>⟨by unfold inI; omega,⟨by omega,by omega,?_⟩,by dsimp only; omega⟩
   rw [e1,timesN_old n0 he]
   have:bumpG (timesN m n.toNat).2=(timesN m n.toNat).2.set (((timesN m n.toNat).1.length:Int)-1).toNat ((timesN m n.toNat).2.getD (((timesN m n.toNat).1.length:Int)-1).toNat 0+1):=by
    unfold bumpG; rw [e2,t1]
   rw [this]; exact t'
  ·have hne:n.toNat=0∨(m.getD n.toNat zMg).1≠(m.getD (n.toNat-1) zMg).1:=by
    by_cases n0:n.toNat=0
    ·exact .inl n0
    ·right
     intro he
     have hl:=timesN_last m _ n0
     have:(decide (((timesN m n.toNat).1.length:Int)>0)&&(((timesN m n.toNat).1.getD ((timesN m n.toNat).1.length-1) (0,0)).1==(m.getD n.toNat zMg).1.1&&((timesN m n.toNat).1.getD ((timesN m n.toNat).1.length-1) (0,0)).2==(m.getD n.toNat zMg).1.2))=true:=by
      rw [Bool.and_eq_true,decide_eq_true_eq,pairB]
      have:=t3 n0
      exact ⟨by omega,by rw [hl,he]⟩
     rw [this] at hc; cases hc
   intro c H17 hc1 hH17
   refine (t.snocA hc1 hH17 (by omega)).mono fun v18 H19 ⟨a',hv18,t'⟩=>⟨a',hv18,fun d H22 hd hH22=>?_⟩
   refine (t'.snocB (x:=1) hd hH22 (show (timesN m n.toNat).2.length≤100000000 by omega)).mono fun v23 H24 ⟨b',hv23,t''⟩=>⟨b',hv23,by unfold inI; omega,⟨by omega,by omega,?_⟩,by dsimp only; omega⟩
   rw [e1,timesN_new hne]; exact t''
 ·have hn:¬ n<m.length:=by simpa using hn
  rw [show n.toNat=m.length by omega] at t
  exact ⟨a,b,rfl,t⟩
set_option maxHeartbeats 2000000 in
theorem refTimes {H:Hp} {u:Slc} {m:List Mg} (r:Rd 4 fG H u m) (ft:∀ x∈m,fitR x.1) :
  Go.Eng.Fn Try.prog F.pelotonref29_Times #[u.v] H fun v H'=>∃ a b:Slc,v=.tuple #[a.v,b.v,.int .i64 (chkG m)]∧Two H H' a b (timesM m):=by
 have wn:(u.n:Int)=m.length:=by have:=r.len; omega
 refine pelotonref29_Times_vc ?_
 rw [wn]
 refine ⟨_,refCheckG r ft,fun h=>?_,fun h=>?_⟩
 ·rw [timesM_bad (nz0 h)]; exact ⟨zs,zs,rfl,Two.start⟩
 have h:=ez0 h
 have ok:=chkG_zero.1 h
 have few:=ok.few
 rw [timesM_ok h,h]
 refine ⟨fun a b n H'=>0≤n∧n≤m.length∧Two H H' a b (timesN m n.toNat),fun _ _ n _=>((m.length:Int)-n).toNat,⟨Int.le_refl _,by omega,Two.start⟩,?_⟩
 rintro a b n H7 ⟨h0,h1,t⟩
 obtain ⟨t1,t2,t3⟩:=timesN_len m n.toNat
 refine ⟨fun hn=>?_,fun hn=>?_⟩
 ·have hn:n<m.length:=by simpa using hn
  have hin:n.toNat<m.length:=by omega
  have r7:=r.le t.le
  have e1:(n+1).toNat=n.toNat+1:=by omega
  have e2:(n-1).toNat=n.toNat-1:=by omega
  refine ⟨fun _=>r7.inS h0 hn,_,_,fun _=>RdG.gA r7 h0 hn,fun hc=>?_,fun hc=>?_,(m.getD (n.toNat-1) zMg).1.1,(m.getD (n.toNat-1) zMg).1.2,fun hc=>?_,fun hc=>?_,fun hc=>?_⟩
  ·unfold inI; omega
  ·have hc:n≠0:=by simpa using hc
   exact r7.inS (by omega) (by omega)
  ·have hc:n≠0:=by simpa using hc
   have:=RdG.gA r7 (i:=n-1) (by omega) (by omega)
   rwa [e2] at this
  ·have hne:n.toNat=0∨(m.getD n.toNat zMg).1≠(m.getD (n.toNat-1) zMg).1:=by
    rw [Bool.or_eq_true,beq_iff_eq] at hc
    rcases hc with hc | hc
    ·left; omega
    ·right
     intro he
     rw [pairB.2 he] at hc; cases hc
   refine ⟨r7.inS h0 hn,_,_,RdG.gA r7 h0 hn,fun c H15 hc1 hH15=>?_⟩
   refine (t.snocA hc1 hH15 (by omega)).mono fun v16 H17 ⟨a',hv16,t'⟩=>⟨a',hv16,fun d H20 hd hH20=>?_⟩
   refine (t'.snocB (x:=0) hd hH20 (show (timesN m n.toNat).2.length≤100000000 by omega)).mono fun v21 H22 ⟨b',hv21,t''⟩=>⟨b',hv21,?_⟩
   have t5:Two H H22 a' b' ((timesN m n.toNat).1++[(m.getD n.toNat zMg).1],(timesN m n.toNat).2++[(0:Int)]):=t''
   have hb5:RdI H22 b' ((timesN m n.toNat).2++[(0:Int)]):=t5.mb.rdI
   have bn:(b'.n:Int)=((timesN m n.toNat).2++[(0:Int)]).length:=by have:=hb5.len; omega
   rw [bn]
   have hl:((timesN m n.toNat).2++[(0:Int)]).length=(timesN m n.toNat).2.length+1:=by simp
   have hi0:0≤(((timesN m n.toNat).2++[(0:Int)]).length:Int)-1:=by omega
   have hlt:(((timesN m n.toNat).2++[(0:Int)]).length:Int)-1<((timesN m n.toNat).2++[(0:Int)]).length:=by omega
   have e3:((((timesN m n.toNat).2++[(0:Int)]).length:Int)-1).toNat=(timesN m n.toNat).2.length:=by omega
   have hv0:((timesN m n.toNat).2++[(0:Int)]).getD ((((timesN m n.toNat).2++[(0:Int)]).length:Int)-1).toNat 0=0:=by rw [e3]; simp
   have hget:=RdI.get hb5 hi0 hlt
   rw [hv0] at hget
   refine ⟨by unfold inI; omega,hb5.inS hi0 hlt,_,hget,by unfold inI; omega,hb5.inS hi0 hlt,?_⟩
   refine t5.setB hi0 hlt _ fun H25 t3=>⟨by unfold inI; omega,⟨by omega,by omega,?_⟩,by dsimp only; omega⟩
   rw [e1,timesN_new hne]
   have:((timesN m n.toNat).2++[(0:Int)]).set ((((timesN m n.toNat).2++[(0:Int)]).length:Int)-1).toNat (0+1)=(timesN m n.toNat).2++[1]:=by rw [e3]; simp
   have t4:Two H H25 a' b' ((timesN m n.toNat).1++[(m.getD n.toNat zMg).1],((timesN m n.toNat).2++[(0:Int)]).set ((((timesN m n.toNat).2++[(0:Int)]).length:Int)-1).toNat (0+1)):=t3
   rwa [this] at t4
  ·rw [Bool.or_eq_false_iff,beq_eq_false_iff_ne] at hc
   have n0:n.toNat≠0:=by omega
   have he:(m.getD n.toNat zMg).1=(m.getD (n.toNat-1) zMg).1:=by
    refine pairB.1 ?_
    cases hx:((m.getD n.toNat zMg).1.1==(m.getD (n.toNat-1) zMg).1.1&&(m.getD n.toNat zMg).1.2==(m.getD (n.toNat-1) zMg).1.2) with
    | true=>rfl
    | false=>rw [hx] at hc; cases hc.2
   have bn:(b.n:Int)=(timesN m n.toNat).2.length:=by have:=t.mb.rdI.len; omega
   rw [bn]
   have:=t3 n0
   have hlt:((timesN m n.toNat).2.length:Int)-1<(timesN m n.toNat).2.length:=by omega
   have hi0:0≤((timesN m n.toNat).2.length:Int)-1:=by omega
   have hval:=timesN_pos m n.toNat ((timesN m n.toNat).2.getD (((timesN m n.toNat).2.length:Int)-1).toNat 0) (List.mem_of_getElem? (getI hi0 hlt))
   refine ⟨by unfold inI; omega,t.mb.rdI.inS hi0 hlt,_,RdI.get t.mb.rdI hi0 hlt,by unfold inI; omega,t.mb.rdI.inS hi0 hlt,?_⟩
   refine t.setB hi0 hlt _ fun H15 t'=>⟨by unfold inI; omega,⟨by omega,by omega,?_⟩,by dsimp only; omega⟩
   rw [e1,timesN_old n0 he]
   have:bumpG (timesN m n.toNat).2=(timesN m n.toNat).2.set (((timesN m n.toNat).2.length:Int)-1).toNat ((timesN m n.toNat).2.getD (((timesN m n.toNat).2.length:Int)-1).toNat 0+1):=by
    unfold bumpG; rw [show (((timesN m n.toNat).2.length:Int)-1).toNat=(timesN m n.toNat).2.length-1 by omega]
   rw [this]; exact t'
 ·have hn:¬ n<m.length:=by simpa using hn
  rw [show n.toNat=m.length by omega] at t
  exact ⟨a,b,rfl,t⟩
end Go.Proofs.Ytnldicbalihomaa
