/- The engine, parts WC, WD, WE, WF, WG, WH, put together. Conditions: none. -/
import Derived.Test.YtlbdpklikfddlaaGreatP4
import Derived.Test.YtlbdpklikfddlaaGreatE8
import Derived.Test.YtlbdpklikfddlaaGreatVgCollide
import Derived.Test.YtlbdpklikfddlaaGreatVgR04
import Derived.Test.YtlbdpklikfddlaaGreatFs
import Derived.Test.YtlbdpklikfddlaaGreatVgStd
set_option linter.unusedVariables false
section
/- collide and its reference: check, the meetings of a point, times. Conditions: none. -/
set_option maxRecDepth 100000
open Go Go.Eng Go.Proofs
namespace Go.Proofs.YtlbdpklikfddlaaGreat

def fG (x:Mg):List Value:=[.int .i64 x.1.1,.int .i64 x.1.2,.int .i64 x.2.1,.int .i64 x.2.2]
abbrev mgV (x:Mg):Value:=.agg #[.int .i64 x.1.1,.int .i64 x.1.2,.int .i64 x.2.1,.int .i64 x.2.2]
theorem fG_one:∀ (x:Mg),∀ v∈fG x,v.oneCell'=true:=fun x v hv=>by
 simp [fG] at hv
 rcases hv with rfl | rfl | rfl | rfl <;> rfl
theorem getG {m:List Mg} {i:Int} (h0:0≤i) (h1:i<m.length):m[i.toNat]?=some (m.getD i.toNat zMg):=by
 have h:i.toNat<m.length:=by omega
 rw [List.getD_eq_getElem?_getD,List.getElem?_eq_getElem h]; rfl
theorem RdG.get {H:Hp} {u:Slc} {m:List Mg} {i:Int} (h:Rd 4 fG H u m) (h0:0≤i) (h1:i<m.length) :
  H.at (eaddr u.a 4 i)=some (.int .i64 (m.getD i.toNat zMg).1.1)∧H.at ((eaddr u.a 4 i).add 1)=some (.int .i64 (m.getD i.toNat zMg).1.2)∧H.at ((eaddr u.a 4 i).add 2)=some (.int .i64 (m.getD i.toNat zMg).2.1)∧H.at ((eaddr u.a 4 i).add 3)=some (.int .i64 (m.getD i.toNat zMg).2.2) :=
 ⟨h.at0 h0 (getG h0 h1) rfl,h.atj h0 (getG h0 h1) (j:=1) rfl,h.atj h0 (getG h0 h1) (j:=2) rfl,h.atj h0 (getG h0 h1) (j:=3) rfl⟩
theorem RdG.gI {H:Hp} {u:Slc} {m:List Mg} {i:Int} (h:Rd 4 fG H u m) (h0:0≤i) (h1:i<m.length):H.at (((eaddr u.a 4 i).add 2).add 0)=some (.int .i64 (m.getD i.toNat zMg).2.1):=by
 rw [add_zero']; exact (RdG.get h h0 h1).2.2.1
theorem RdG.gA {H:Hp} {u:Slc} {m:List Mg} {i:Int} (h:Rd 4 fG H u m) (h0:0≤i) (h1:i<m.length):H.at (eaddr u.a 4 i)=some (.int .i64 (m.getD i.toNat zMg).1.1)∧H.at ((eaddr u.a 4 i).add 1)=some (.int .i64 (m.getD i.toNat zMg).1.2) :=
 ⟨(RdG.get h h0 h1).1,(RdG.get h h0 h1).2.1⟩

theorem befG_ne {a b:Mg} (h:cmpR a.1 b.1≠0):befG a b=decide (cmpR a.1 b.1<0):=if_neg h
theorem befG_eq {a b:Mg} (h:cmpR a.1 b.1=0):befG a b=decide (a.2.1<b.2.1∨(a.2.1=b.2.1∧a.2.2<b.2.2)):=if_pos h
theorem nz0 {x:Int} (h:(x != 0)=true):x≠0:=by simpa using h
theorem ez0 {x:Int} (h:(x != 0)=false):x=0:=by simpa using h
theorem colBefore {H:Hp} {a b:Mg} (oa:okR a.1) (ob:okR b.1):Qf Tryz.prog F.collide_before #[mgV a,mgV b] H (.bool (befG a b)):=by
 have e:cmpM a.1 b.1=(cmpR a.1 b.1,0):=if_pos ⟨oa,ob⟩
 have q:=ratioCmp (H:=H) oa.fit ob.fit
 rw [e] at q
 refine collide_before_vc ⟨_,_,q,fun h=>⟨?_,Hp.le_refl _⟩,fun h=>⟨?_,Hp.le_refl _⟩⟩
 ·rw [befG_ne (nz0 h)]
 ·rw [befG_eq (ez0 h)]
  congr 1
  rw [Bool.eq_iff_iff]; simp
/-! ### Check -/
def seenB (m:List Mg) (n:Nat) (p:Int × Int):Bool:=(m.take n).any fun x=>x.2==p
def seenF (m:List Mg) (n:Nat) (p:Int × Int):Option Value:=if seenB m n p=true then some (.bool true) else none
theorem seenF_get (m:List Mg) (n:Nat) (p:Int × Int):(seenF m n p).getD (.bool false)=.bool (seenB m n p):=by
 unfold seenF
 cases seenB m n p <;> rfl
theorem seenB_iff {m:List Mg} {n:Nat} (hn:n≤m.length) {p:Int × Int}:seenB m n p=true↔∃ j,j<n∧(m.getD j zMg).2=p:=by
 unfold seenB
 rw [List.any_eq_true]
 constructor
 ·rintro ⟨x,hx,e⟩
  obtain ⟨j,hj⟩:=List.mem_iff_getElem?.1 hx
  rw [List.getElem?_take] at hj
  split at hj
  ·rename_i h
   refine ⟨j,h,?_⟩
   rw [List.getD_eq_getElem?_getD,hj]; simpa using e
  ·cases hj
 ·rintro ⟨j,hj,e⟩
  refine ⟨m.getD j zMg,?_,by simpa using e⟩
  refine List.mem_iff_getElem?.2 ⟨j,?_⟩
  rw [List.getElem?_take,if_pos hj,List.getD_eq_getElem?_getD,List.getElem?_eq_getElem (by omega)]; rfl
theorem seenF_succ {m:List Mg} {n:Nat} (hn:n<m.length) (p:Int × Int):seenF m (n+1) p=updM (seenF m n) (m.getD n zMg).2 (.bool true) p:=by
 unfold seenF updM seenB
 rw [take_snocG hn,List.any_append]
 by_cases h:p=(m.getD n zMg).2
 ·subst h; simp
 ·have:((m.getD n zMg).2==p)=false:=by simpa using fun e=>h e.symm
  rw [if_neg h,List.any_cons,this,List.any_nil,Bool.or_false,Bool.or_false]
theorem stpG_iff {m:List Mg} {n:Nat} (hn:n<m.length):stpG m n↔(seenB m n (m.getD n zMg).2||decide ((n:Int)>0)&&!befG (m.getD (n-1) zMg) (m.getD n zMg))=false:=by
 unfold stpG
 rw [Bool.or_eq_false_iff,Bool.eq_false_iff,ne_eq,seenB_iff (by omega),Bool.and_eq_false_iff]
 constructor
 ·rintro ⟨h1,h2⟩
  refine ⟨fun ⟨j,hj,e⟩=>h2 j hj e,?_⟩
  by_cases h:0<n
  ·right; rw [h1 h]; rfl
  ·left; simp; omega
 ·rintro ⟨h1,h2⟩
  refine ⟨fun h=>?_,fun j hj e=>h1 ⟨j,hj,e⟩⟩
  rcases h2 with h2 | h2
  ·simp at h2; omega
  ·simpa using h2
theorem keyPair:KL Tryz.prog T.a2_int fun x:Int × Int=>Value.agg #[.int .i64 x.1,.int .i64 x.2]:=KL.arr2 (t:=T.int) (by kernel_rfl) (by kernel_rfl) (by kernel_rfl)
theorem colCheck {H:Hp} {u:Slc} {m:List Mg} (r:Rd 4 fG H u m) (ft:∀ x∈m,fitR x.1):Qf Tryz.prog F.collide_Check #[u.v] H (.int .i64 (chkG m)):=by
 have wn:(u.n:Int)=m.length:=by have:=r.len; omega
 have fm:∀ {k:Nat},k<m.length→fitR (m.getD k zMg).1:=fun h=>ft _ (getG_mem h)
 refine collide_Check_vc ?_
 rw [wn]
 refine ⟨fun h=>⟨?_,Hp.le_refl _⟩,fun h=>?_⟩
 ·have h:(m.length:Int)>5000:=by simpa using h
  rw [chkG_many (by omega)]
 have hl:¬ 5000<m.length:=by have:¬ (m.length:Int)>5000:=by simpa using h
                             omega
 refine upto (N:=(m.length:Int)) (J:=fun n=>∀ j,j<n.toNat→goodG (m.getD j zMg)) (by omega) (fun j hj=>by simp at hj) fun n h0 h1 hJ=>⟨fun hn=>?_,fun hn=>?_⟩
 ·have hn:n<m.length:=by simpa using hn
  refine ⟨r.inS h0 hn,_,_,_,_,RdG.get r h0 hn,_,ratioCheck (fm (by omega)),fun hc=>⟨?_,Hp.le_refl _⟩,fun hc=>?_⟩
  ·rw [chkG_bad hl]
   intro hg
   have g:=hg _ (getG_mem (m:=m) (k:=n.toNat) (by omega))
   obtain ⟨g1,g2,g3,g4⟩:=g
   rw [chkR_ok g1] at hc
   simp only [bne_self_eq_false,Bool.false_or,Bool.or_eq_true,decide_eq_true_eq] at hc
   omega
  ·refine upto.nx h0 hn (by omega) fun j hj=>?_
   by_cases hjn:j<n.toNat
   ·exact hJ j hjn
   ·have:j=n.toNat:=by omega
    subst this
    simp only [Bool.or_eq_false_iff,decide_eq_false_iff_not] at hc
    obtain ⟨⟨⟨c1,c2⟩,c3⟩,c4⟩:=hc
    exact ⟨chkR_zero.1 (ez0 c1),by omega,by omega,by omega⟩
 have hg:∀ x∈m,goodG x:=fun x hx=>by
  have hn:¬ n<m.length:=by simpa using hn
  obtain ⟨j,hj,e⟩:=List.mem_iff_getElem.1 hx
  have:=hJ j (by omega)
  rwa [List.getD_eq_getElem?_getD,List.getElem?_eq_getElem hj,Option.getD_some,e] at this
 intro b H11 hb hH
 have l11:Hp.le H H11:=by subst hH; exact Hp.put_le _ _ hb
 refine uptoH (N:=(m.length:Int)) (J:=fun n H'=>Hp.le H H'∧(∃ es k,MapF (fun x:Int × Int=>Value.agg #[.int .i64 x.1,.int .i64 x.2]) H' b (seenF m n.toNat) es k)∧∀ j,j<n.toNat→stpG m j) (by omega)
  ⟨l11,⟨_,_,(MapF.new hH).ext fun x=>rfl⟩,fun j hj=>by simp at hj⟩ fun n H15 h0 h1 ⟨l15,⟨es,k,hM⟩,hS⟩=>⟨fun hn=>?_,fun hn=>⟨?_,l15⟩⟩
 ·have hn:n<m.length:=by simpa using hn
  have r15:=r.le l15
  have hin:n.toNat<m.length:=by omega
  refine ⟨r15.inS h0 hn,_,_,_,_,RdG.get r15 h0 hn,seenB m n.toNat (m.getD n.toNat zMg).2,?_,fun hc=>?_,fun hc=>?_,(m.getD (n.toNat-1) zMg).1.1,(m.getD (n.toNat-1) zMg).1.2,(m.getD (n.toNat-1) zMg).2.1,(m.getD (n.toNat-1) zMg).2.2,fun hc=>?_,befG (m.getD (n.toNat-1) zMg) (m.getD n.toNat zMg),fun hc=>?_,fun hc=>⟨?_,l15⟩,fun hc=>?_⟩
  ·have:=keyPair.lookF (t:=T.map_a2_int_bool) (e:=T.bool) (z:=.bool false) (by kernel_rfl) (by kernel_rfl) (x:=(m.getD n.toNat zMg).2) hM
   rw [seenF_get] at this
   exact this
  ·rw [Bool.and_eq_true,decide_eq_true_eq] at hc; unfold inI; omega
  ·rw [Bool.and_eq_true,decide_eq_true_eq] at hc; exact r15.inS (by omega) (by omega)
  ·rw [Bool.and_eq_true,decide_eq_true_eq] at hc
   have:=RdG.get r15 (i:=n-1) (by omega) (by omega)
   rwa [show (n-1).toNat=n.toNat-1 by omega] at this
  ·rw [Bool.and_eq_true,decide_eq_true_eq] at hc
   exact colBefore (hg _ (getG_mem (by omega))).1 (hg _ (getG_mem hin)).1
  ·have hs:¬ stpG m n.toNat:=fun h=>by
    rw [stpG_iff hin,Int.toNat_of_nonneg h0] at h
    rw [h] at hc; cases hc
   rw [chkG_order hl hg fun h=>hs (h _ hin)]
  ·have hs:stpG m n.toNat:=by
    rw [stpG_iff hin,Int.toNat_of_nonneg h0]; exact hc
   refine (keyPair.putF (t:=T.map_a2_int_bool) (e:=T.bool) (v:=.bool true) (by kernel_rfl) (x:=(m.getD n.toNat zMg).2) hM).mono fun v H27 ⟨es',k',hH27,hM'⟩=>⟨v,rfl,?_⟩
   refine uptoH.nx h0 hn (by omega) ⟨by subst hH27; exact Hp.le_put l15 hb,⟨es',k',hM'.ext fun x=>?_⟩,fun j hj=>?_⟩
   ·rw [show (n+1).toNat=n.toNat+1 by omega]; exact seenF_succ hin x
   ·by_cases hjn:j<n.toNat
    ·exact hS j hjn
    ·rw [show j=n.toNat by omega]; exact hs
 ·have hn:¬ n<m.length:=by simpa using hn
  rw [chkG_zero.2 ⟨by omega,hg,fun k hk=>hS k (by omega)⟩]
/-! ### The meetings of a point -/
def ofMg (m:List Mg) (id:Int):List Mg:=if chkG m=0 then ofG m id else []
theorem ofMg_ok {m:List Mg} (h:chkG m=0) (id:Int):ofMg m id=ofG m id:=if_pos h
theorem ofMg_bad {m:List Mg} (h:chkG m≠0) (id:Int):ofMg m id=[]:=if_neg h
theorem ofG_lenle (m:List Mg) (id:Int):(ofG m id).length≤m.length:=by unfold ofG; exact List.length_filter_le _ _
set_option maxHeartbeats 1000000 in
theorem colOf {H:Hp} {u:Slc} {m:List Mg} {id:Int} (r:Rd 4 fG H u m) (ft:∀ x∈m,fitR x.1) :
  Go.Eng.Fn Tryz.prog F.collide_Of #[u.v,.int .i64 id] H fun v H'=>∃ s:Slc,v=.tuple #[s.v,.int .i64 (chkG m)]∧Hp.le H H'∧Mine 4 fG T.api_Meeting H H' s (ofMg m id):=by
 have wn:(u.n:Int)=m.length:=by have:=r.len; omega
 refine collide_Of_vc ?_
 rw [wn]
 refine ⟨_,colCheck r ft,fun h=>?_,fun h=>?_⟩
 ·rw [ofMg_bad (nz0 h)]; exact ⟨zs,rfl,Hp.le_refl _,.inl ⟨rfl,rfl⟩⟩
 have h:=ez0 h
 have ok:=chkG_zero.1 h
 have few:=ok.few
 rw [ofMg_ok h,h]
 refine ⟨fun s n H'=>0≤n∧n≤m.length∧Hp.le H H'∧Mine 4 fG T.api_Meeting H H' s (ofG (m.take n.toNat) id),fun _ n _=>((m.length:Int)-n).toNat,⟨Int.le_refl _,by omega,Hp.le_refl _,.inl ⟨rfl,rfl⟩⟩,?_⟩
 rintro s n H6 ⟨h0,h1,l6,mi⟩
 refine ⟨fun hn=>?_,fun hn=>?_⟩
 ·have hn:n<m.length:=by simpa using hn
  have hin:n.toNat<m.length:=by omega
  have r6:=r.le l6
  have e1:(n+1).toNat=n.toNat+1:=by omega
  refine ⟨r6.inS h0 hn,_,_,_,_,RdG.get r6 h0 hn,fun hc b H12 hb hH=>?_,fun hc=>⟨by unfold inI; omega,⟨by omega,by omega,l6,?_⟩,by dsimp only; omega⟩⟩
  ·have hlen:(ofG (m.take n.toNat) id).length≤100000000:=by have:=ofG_lenle (m.take n.toNat) id; have:=List.length_take_le n.toNat m; omega
   refine (append1 (k:=4) (f:=fG) (bytes:=32) (x:=m.getD n.toNat zMg) (by kernel_rfl) (by decide) (fun _=>rfl) fG_one l6 mi hb hH rfl hlen (by omega)).mono fun v H14 ⟨s',hv,l14,mi',_,_⟩=>⟨s',hv,by unfold inI; omega,⟨by omega,by omega,l14,?_⟩,by dsimp only; omega⟩
   rw [e1,ofG_succ hin,if_pos (show inG id (m.getD n.toNat zMg)=true from hc)]; exact mi'
  ·rw [e1,ofG_succ hin,if_neg (show ¬ inG id (m.getD n.toNat zMg)=true by intro e; rw [show inG id (m.getD n.toNat zMg)=false from hc] at e; cases e)]; exact mi
 ·have hn:¬ n<m.length:=by simpa using hn
  rw [show n.toNat=m.length by omega,List.take_length] at mi
  exact ⟨s,rfl,l6,mi⟩

def fQ (x:Int × Int):List Value:=[.int .i64 x.1,.int .i64 x.2]
theorem fQ_one:∀ (x:Int × Int),∀ v∈fQ x,v.oneCell'=true:=fun x v hv=>by
 simp [fQ] at hv
 rcases hv with rfl | rfl <;> rfl
theorem fI_one:∀ (x:Int),∀ v∈fI x,v.oneCell'=true:=fun x v hv=>by
 simp [fI] at hv
 subst hv; rfl
theorem getQ {m:List (Int × Int)} {i:Int} (h0:0≤i) (h1:i<m.length):m[i.toNat]?=some (m.getD i.toNat (0,0)):=by
 have h:i.toNat<m.length:=by omega
 rw [List.getD_eq_getElem?_getD,List.getElem?_eq_getElem h]; rfl
theorem RdQ.get {H:Hp} {u:Slc} {m:List (Int × Int)} {i:Int} (h:Rd 2 fQ H u m) (h0:0≤i) (h1:i<m.length) :
  H.at (eaddr u.a 2 i)=some (.int .i64 (m.getD i.toNat (0,0)).1)∧H.at ((eaddr u.a 2 i).add 1)=some (.int .i64 (m.getD i.toNat (0,0)).2) :=
 ⟨h.at0 h0 (getQ h0 h1) rfl,h.atj h0 (getQ h0 h1) (j:=1) rfl⟩
theorem _root_.Go.Eng.Mine.rdQ {e:TypeId} {H0 H:Hp} {u:Slc} {xs:List (Int × Int)} (h:Mine 2 fQ e H0 H u xs):Rd 2 fQ H u xs:=Mine.rd (k:=2) (f:=fQ) (fun _=>rfl) h
theorem _root_.Go.Eng.Mine.rdG {e:TypeId} {H0 H:Hp} {u:Slc} {xs:List Mg} (h:Mine 4 fG e H0 H u xs):Rd 4 fG H u xs:=Mine.rd (k:=4) (f:=fG) (fun _=>rfl) h

/-! ### Times -/
def timesM (m:List Mg):List (Int × Int) × List Int:=if chkG m=0 then timesN m m.length else ([],[])
theorem timesM_ok {m:List Mg} (h:chkG m=0):timesM m=timesN m m.length:=if_pos h
theorem timesM_bad {m:List Mg} (h:chkG m≠0):timesM m=([],[]):=if_neg h
structure Two (H H':Hp) (a b:Slc) (p:List (Int × Int) × List Int):Prop where
 le:Hp.le H H'
 ma:Mine 2 fQ T.api_Ratio H H' a p.1
 mb:Mine 1 fI T.int H H' b p.2
 sep:Sep a b
theorem Two.start {H:Hp}:Two H H ⟨none,0,0⟩ ⟨none,0,0⟩ ([],[]):=⟨Hp.le_refl _,.inl ⟨rfl,rfl⟩,.inl ⟨rfl,rfl⟩,Sep.nil⟩
theorem Two.snocA {H H7 H17:Hp} {a b:Slc} {p:List (Int × Int) × List Int} {c:Nat} {x:Int × Int} (t:Two H H7 a b p) (hc:H7 c=none) (hH:H17=H7.put c (.cells #[.int .i64 x.1,.int .i64 x.2] T.api_Ratio (0,0))) (hl:p.1.length≤100000000) :
  OpSem Tryz.prog (bcall .append #[T.s_api_Ratio,T.s_api_Ratio] T.s_api_Ratio #[false,false] [a.v,.slice (some ⟨c,0,none⟩) 1 1]) H17 fun v H19=>∃ a':Slc,v=a'.v∧Two H H19 a' b (p.1++[x],p.2) :=
 (append1 (k:=2) (f:=fQ) (bytes:=16) (x:=x) (by kernel_rfl) (by decide) (fun _=>rfl) fQ_one t.le t.ma hc hH rfl hl (by omega)).mono fun v H19 ⟨a',hv,l,ma,ch,ex⟩ =>
  ⟨a',hv,l,ma,t.mb.chg ch t.sep.symm,t.sep.ext t.mb.isOld ex⟩
theorem Two.snocB {H H7 H17:Hp} {a b:Slc} {p:List (Int × Int) × List Int} {c:Nat} {x:Int} (t:Two H H7 a b p) (hc:H7 c=none) (hH:H17=H7.put c (.cells #[.int .i64 x] T.int (0,0))) (hl:p.2.length≤100000000) :
  OpSem Tryz.prog (bcall .append #[T.s_int,T.s_int] T.s_int #[false,false] [b.v,.slice (some ⟨c,0,none⟩) 1 1]) H17 fun v H19=>∃ b':Slc,v=b'.v∧Two H H19 a b' (p.1,p.2++[x]) :=
 (append1 (k:=1) (f:=fI) (bytes:=8) (x:=x) (by kernel_rfl) (by decide) (fun _=>rfl) fI_one t.le t.mb hc hH rfl hl (by omega)).mono fun v H19 ⟨b',hv,l,mb,ch,ex⟩ =>
  ⟨b',hv,l,t.ma.chg ch t.sep,mb,(t.sep.symm.ext t.ma.isOld ex).symm⟩
theorem Two.setB {H H7:Hp} {a b:Slc} {p:List (Int × Int) × List Int} (t:Two H H7 a b p) {i:Int} (h0:0≤i) (h1:i<p.2.length) (y:Int) {Q:Hp→Prop} (q:∀ H',Two H H' a b (p.1,p.2.set i.toNat y)→Q H') :
  H7.canStore (eaddr b.a 1 i) 0 [.int .i64 y]∧∀ H',H'=H7.store (eaddr b.a 1 i) 0 [.int .i64 y]→Q H' :=
 Mine.setI t.mb h0 h1 y fun H' mb ch=>q H' ⟨Hp.le_chg t.le ch t.mb.isNew,t.ma.chg ch t.sep,mb,t.sep⟩
theorem pairB {a b:Int × Int}:(a.1==b.1&&a.2==b.2)=true↔a=b:=by
 rw [Bool.and_eq_true,beq_iff_eq,beq_iff_eq]
 exact ⟨fun h=>Prod.ext h.1 h.2,fun h=>by rw [h]; exact ⟨rfl,rfl⟩⟩
set_option maxHeartbeats 2000000 in
theorem colTimes {H:Hp} {u:Slc} {m:List Mg} (r:Rd 4 fG H u m) (ft:∀ x∈m,fitR x.1) :
  Go.Eng.Fn Tryz.prog F.collide_Times #[u.v] H fun v H'=>∃ a b:Slc,v=.tuple #[a.v,b.v,.int .i64 (chkG m)]∧Two H H' a b (timesM m):=by
 have wn:(u.n:Int)=m.length:=by have:=r.len; omega
 refine collide_Times_vc ?_
 rw [wn]
 refine ⟨_,colCheck r ft,fun h=>?_,fun h=>?_⟩
 ·rw [timesM_bad (nz0 h)]; exact ⟨zs,zs,rfl,Two.start⟩
 have h:=ez0 h
 have ok:=chkG_zero.1 h
 have few:=ok.few
 rw [timesM_ok h,h]
 refine ⟨fun a b n H'=>0≤n∧n≤m.length∧Two H H' a b (timesN m n.toNat),fun _ _ n _=>((m.length:Int)-n).toNat,⟨Int.le_refl _,by omega,Two.start⟩,?_⟩
 rintro a b n H7 ⟨h0,h1,t⟩
 have an:(a.n:Int)=(timesN m n.toNat).1.length:=by have:=t.ma.rdQ.len; omega
 obtain ⟨t1,t2,t3⟩:=timesN_len m n.toNat
 rw [an]
 refine ⟨fun hn=>?_,fun hn=>?_⟩
 ·have hn:n<m.length:=by simpa using hn
  have hin:n.toNat<m.length:=by omega
  have r7:=r.le t.le
  have e1:(n+1).toNat=n.toNat+1:=by omega
  have e2:(((timesN m n.toNat).1.length:Int)-1).toNat=(timesN m n.toNat).1.length-1:=by omega
  refine ⟨r7.inS h0 hn,_,_,_,_,RdG.get r7 h0 hn,fun hc=>?_,fun hc=>?_,((timesN m n.toNat).1.getD ((timesN m n.toNat).1.length-1) (0,0)).1,((timesN m n.toNat).1.getD ((timesN m n.toNat).1.length-1) (0,0)).2,fun hc=>?_,fun hc=>?_,fun hc=>?_⟩
  ·rw [decide_eq_true_eq] at hc; unfold inI; omega
  ·rw [decide_eq_true_eq] at hc; exact t.ma.rdQ.inS (by omega) (by omega)
  ·rw [decide_eq_true_eq] at hc
   have:=RdQ.get t.ma.rdQ (i:=((timesN m n.toNat).1.length:Int)-1) (by omega) (by omega)
   rwa [e2] at this
  ·rw [Bool.and_eq_true,decide_eq_true_eq,pairB] at hc
   have n0:n.toNat≠0:=fun e=>by rw [e] at hc; exact absurd hc.1 (by simp [timesN])
   have he:(m.getD n.toNat zMg).1=(m.getD (n.toNat-1) zMg).1:=by rw [← hc.2,timesN_last m _ n0]
   have hlt:((timesN m n.toNat).1.length:Int)-1<(timesN m n.toNat).2.length:=by omega
   have hi0:0≤((timesN m n.toNat).1.length:Int)-1:=by omega
   have hval:=timesN_pos m n.toNat ((timesN m n.toNat).2.getD (((timesN m n.toNat).1.length:Int)-1).toNat 0) (List.mem_of_getElem? (getI hi0 hlt))
   refine ⟨by unfold inI; omega,t.mb.rdI.inS hi0 hlt,_,RdI.get t.mb.rdI hi0 hlt,by unfold inI; omega,t.mb.rdI.inS hi0 hlt,?_⟩
   refine t.setB hi0 hlt _ fun H15 t'=>⟨by unfold inI; omega,⟨by omega,by omega,?_⟩,by dsimp only; omega⟩
   rw [e1,timesN_old n0 he]
   have:bumpG (timesN m n.toNat).2=(timesN m n.toNat).2.set (((timesN m n.toNat).1.length:Int)-1).toNat ((timesN m n.toNat).2.getD (((timesN m n.toNat).1.length:Int)-1).toNat 0+1):=by
    unfold bumpG; rw [e2,t1]
   rw [this]; exact t'
  ·have hne:n.toNat=0∨(m.getD n.toNat zMg).1≠(m.getD (n.toNat-1) zMg).1:=by
    by_cases n0:n.toNat=0
    ·exact .inl n0
    ·right
     intro he
     have hl:=timesN_last m _ n0
     have:(decide (((timesN m n.toNat).1.length:Int)>0)&&(((timesN m n.toNat).1.getD ((timesN m n.toNat).1.length-1) (0,0)).1==(m.getD n.toNat zMg).1.1&&((timesN m n.toNat).1.getD ((timesN m n.toNat).1.length-1) (0,0)).2==(m.getD n.toNat zMg).1.2))=true:=by
      rw [Bool.and_eq_true,decide_eq_true_eq,pairB]
      have:=t3 n0
      exact ⟨by omega,by rw [hl,he]⟩
     rw [this] at hc; cases hc
   intro c H17 hc1 hH17
   refine (t.snocA hc1 hH17 (by omega)).mono fun v18 H19 ⟨a',hv18,t'⟩=>⟨a',hv18,fun d H22 hd hH22=>?_⟩
   refine (t'.snocB (x:=1) hd hH22 (show (timesN m n.toNat).2.length≤100000000 by omega)).mono fun v23 H24 ⟨b',hv23,t''⟩=>⟨b',hv23,by unfold inI; omega,⟨by omega,by omega,?_⟩,by dsimp only; omega⟩
   rw [e1,timesN_new hne]; exact t''
 ·have hn:¬ n<m.length:=by simpa using hn
  rw [show n.toNat=m.length by omega] at t
  exact ⟨a,b,rfl,t⟩

theorem bstep_yes {b e:Int × Int} (h:(decide (e.2>b.2)||e.2==b.2&&decide (e.1<b.1))=true):bstep b e=e:=by
 unfold bstep
 rw [Bool.or_eq_true,Bool.and_eq_true,decide_eq_true_eq,decide_eq_true_eq,beq_iff_eq] at h
 exact if_pos h
theorem bstep_no {b e:Int × Int} (h:(decide (e.2>b.2)||e.2==b.2&&decide (e.1<b.1))=false):bstep b e=b:=by
 unfold bstep
 refine if_neg fun hc=>?_
 have:(decide (e.2>b.2)||e.2==b.2&&decide (e.1<b.1))=true:=by
  rw [Bool.or_eq_true,Bool.and_eq_true,decide_eq_true_eq,decide_eq_true_eq,beq_iff_eq]; exact hc
 rw [this] at h; cases h
theorem mostG_bad {m:List Mg} (h:chkG m≠0):mostG m=((0,0),chkG m):=if_neg h
theorem mostG_none {m:List Mg} (h:chkG m=0) (h0:m.length=0):mostG m=((0,0),6):=by unfold mostG; rw [if_pos h,if_pos h0]
theorem mostG_some {m:List Mg} (h:chkG m=0) (h0:m.length≠0):mostG m=(bestG m,0):=by unfold mostG; rw [if_pos h,if_neg h0]
abbrev mostV (m:List Mg):Value:=.tuple #[.int .i64 (mostG m).1.1,.int .i64 (mostG m).1.2,.int .i64 (mostG m).2]
set_option maxHeartbeats 2000000 in
/-! ### The count of each ID -/
def cntF (m:List Mg) (n:Nat):Int→Option Value:=fun id=>if 1≤cntG (m.take n) id then some (.int .i64 (cntG (m.take n) id:Int)) else none
theorem cntF_get (m:List Mg) (n:Nat) (id:Int):(cntF m n id).getD (.int .i64 0)=.int .i64 (cntG (m.take n) id:Int):=by
 unfold cntF
 split
 ·rfl
 ·rename_i h
  have:cntG (m.take n) id=0:=by omega
  rw [this]; rfl
theorem cntF_succ {m:List Mg} {n:Nat} (hn:n<m.length) (hne:(m.getD n zMg).2.1≠(m.getD n zMg).2.2) (id:Int) :
  cntF m (n+1) id=updM (updM (cntF m n) (m.getD n zMg).2.1 (.int .i64 ((cntG (m.take n) (m.getD n zMg).2.1:Int)+1))) (m.getD n zMg).2.2 (.int .i64 ((cntG (m.take n) (m.getD n zMg).2.2:Int)+1)) id:=by
 unfold cntF updM
 rw [cntG_succ hn]
 unfold inG
 by_cases h2:id=(m.getD n zMg).2.2
 ·subst h2; simp
 ·rw [if_neg h2]
  by_cases h1:id=(m.getD n zMg).2.1
  ·subst h1; simp
  ·rw [if_neg h1]
   have e1:((m.getD n zMg).2.1==id)=false:=by simpa using fun e=>h1 e.symm
   have e2:((m.getD n zMg).2.2==id)=false:=by simpa using fun e=>h2 e.symm
   rw [e1,e2]; simp
theorem cntF_all (m:List Mg) {e:Int × Int}:cntF m m.length e.1=some (.int .i64 e.2)↔1≤cntG m e.1∧e.2=cntG m e.1:=by
 unfold cntF
 rw [List.take_length]
 split
 ·rename_i h
  refine ⟨fun he=>⟨h,?_⟩,fun he=>(by rw [he.2])⟩
  injection he with he; injection he with _ he; exact he.symm
 ·rename_i h
  exact ⟨fun he=>(by cases he),fun he=>absurd he.1 h⟩

abbrev kI (x:Int):Value:=.int .i64 x
theorem keyI:KL Tryz.prog T.int kI:=KL.int (by kernel_rfl)
theorem kI_inj {x y:Int} (h:kI x=kI y):x=y:=by injection h
def seenOf (H:Hp) (c:Nat):Array Nat:=match H c with
 | some (.mapIter _ _ s _)=>s
 | _=>#[]
theorem seenOf_at {H:Hp} {c:Nat} {a:Option Nat} {s:Array Nat} {n k:Nat} (h:H c=some (.mapIter a n s k)):seenOf H c=s:=by unfold seenOf; rw [h]
def outE (es:Array MapEntry) (seen:Array Nat) (e:Int × Int):Prop:=∃ q∈es.toList,seen.contains q.born=true∧q.key=kI e.1∧q.val=kI e.2
theorem outE_none (es:Array MapEntry) (e:Int × Int):¬ outE es #[] e:=fun ⟨q,_,h,_⟩=>by simp at h
theorem outE_push {es:Array MapEntry} {seen:Array Nat} {q:MapEntry} {x:Int × Int} (hu:(es.toList.map (·.born)).Nodup) (hq:q∈es.toList) (hk:q.key=kI x.1) (hv:q.val=kI x.2) (e:Int × Int) :
  outE es (seen.push q.born) e↔outE es seen e∨e=x:=by
 constructor
 ·rintro ⟨p,hp,hs,h1,h2⟩
  rw [contains_push,Bool.or_eq_true,beq_iff_eq] at hs
  rcases hs with hs | hs
  ·exact .inl ⟨p,hp,hs,h1,h2⟩
  ·right
   have e1:=find_born p es.toList hu hp
   have e2:=find_born q es.toList hu hq
   rw [hs,e2] at e1
   cases e1
   rw [hk] at h1; rw [hv] at h2
   exact Prod.ext (kI_inj h1.symm) (kI_inj h2.symm)
 ·rintro (⟨p,hp,hs,h1,h2⟩ | rfl)
  ·exact ⟨p,hp,by rw [contains_push,hs]; rfl,h1,h2⟩
  ·exact ⟨q,hq,by rw [contains_push]; simp,hk,hv⟩
theorem left_none {es:Array MapEntry} {seen:Array Nat} (h:(leftOf es seen).size=0) {q:MapEntry} (hq:q∈es.toList):seen.contains q.born=true:=by
 have hem:leftOf es seen=#[]:=Array.eq_empty_of_size_eq_zero h
 unfold leftOf at hem
 rw [Array.filter_eq_empty_iff] at hem
 have:=hem q (Array.mem_toList_iff.1 hq)
 simpa using this
set_option maxHeartbeats 4000000 in
theorem colMost {H:Hp} {u:Slc} {m:List Mg} (r:Rd 4 fG H u m) (ft:∀ x∈m,fitR x.1) :
  Go.Eng.Fn Tryz.prog F.collide_Most #[u.v] H fun v H'=>v=mostV m∧Hp.le H H':=by
 have wn:(u.n:Int)=m.length:=by have:=r.len; omega
 refine collide_Most_vc ?_
 rw [wn]
 refine ⟨_,colCheck r ft,fun h=>?_,fun h b H3 hb hH3=>?_⟩
 ·unfold mostV; rw [mostG_bad (nz0 h)]; exact ⟨rfl,Hp.le_refl _⟩
 have h:=ez0 h
 have ok:=chkG_zero.1 h
 have few:=ok.few
 have l3:Hp.le H H3:=by subst hH3; exact Hp.put_le _ _ hb
 refine uptoH (N:=(m.length:Int)) (J:=fun n H'=>Hp.le H H'∧∃ es k,MapF kI H' b (cntF m n.toNat) es k) (by omega) ⟨l3,_,_,(MapF.new hH3).ext fun x=>?_⟩ fun n H7 h0 h1 ⟨l7,es,k,hM⟩=>⟨fun hn=>?_,fun hn=>?_⟩
 ·unfold cntF cntG; simp
 ·have hn:n<m.length:=by simpa using hn
  have hin:n.toNat<m.length:=by omega
  have r7:=r.le l7
  obtain ⟨_,g2,g3,_⟩:=ok.at hin
  have hne:(m.getD n.toNat zMg).2.1≠(m.getD n.toNat zMg).2.2:=by omega
  have c1:=cntG_le (m.take n.toNat) (m.getD n.toNat zMg).2.1
  have c2:=cntG_le (m.take n.toNat) (m.getD n.toNat zMg).2.2
  have ct:=List.length_take_le n.toNat m
  have q1:=keyI.lookF (t:=T.map_int_int) (e:=T.int) (z:=kI 0) (by kernel_rfl) (by kernel_rfl) (x:=(m.getD n.toNat zMg).2.1) hM
  rw [cntF_get] at q1
  refine ⟨r7.inS h0 hn,_,_,_,_,RdG.get r7 h0 hn,_,q1,by unfold inI; omega,(keyI.putF (t:=T.map_int_int) (e:=T.int) (by kernel_rfl) hM).mono fun v13 H14 ⟨es',k',e14,hM14⟩=>⟨v13,rfl,?_⟩⟩
  have q2:=keyI.lookF (t:=T.map_int_int) (e:=T.int) (z:=kI 0) (by kernel_rfl) (by kernel_rfl) (x:=(m.getD n.toNat zMg).2.2) hM14
  have e2:(updM (cntF m n.toNat) (m.getD n.toNat zMg).2.1 (.int .i64 ((cntG (m.take n.toNat) (m.getD n.toNat zMg).2.1:Int)+1)) (m.getD n.toNat zMg).2.2).getD (kI 0)=kI (cntG (m.take n.toNat) (m.getD n.toNat zMg).2.2:Int):=by
   unfold updM
   rw [if_neg fun e=>hne e.symm]; exact cntF_get _ _ _
  rw [e2] at q2
  refine ⟨_,q2,by unfold inI; omega,(keyI.putF (t:=T.map_int_int) (e:=T.int) (by kernel_rfl) hM14).mono fun v17 H18 ⟨es'',k'',e18,hM18⟩=>⟨v17,rfl,?_⟩⟩
  refine uptoH.nx h0 hn (by omega) ⟨?_,es'',k'',hM18.ext fun x=>?_⟩
  ·subst e18; subst e14; exact Hp.le_put (Hp.le_put l7 hb) hb
  ·rw [show (n+1).toNat=n.toNat+1 by omega]; exact cntF_succ hin hne x
 ·have hn:¬ n<m.length:=by simpa using hn
  rw [show n.toNat=m.length by omega] at hM
  refine rangeF (t:=T.map_int_int) (k:=T.int) (e:=T.int) (by kernel_rfl) hM fun c H21 hc hH21=>⟨⟨c,0,none⟩,rfl,fun id x H'=>Hp.le H H'∧MapF kI H' b (cntF m m.length) es k∧∃ seen,H' c=some (.mapIter (some b) k seen k)∧Best (outE es seen) (id,x),fun _ _ H'=>(leftOf es (seenOf H' c)).size,?_,?_⟩
  ·have hcb:b≠c:=fun e=>by subst e; rw [hM.blk] at hc; cases hc
   have l21:Hp.le H7 H21:=by subst hH21; exact Hp.put_le _ _ hc
   exact ⟨Hp.le_trans l7 l21,hM.le l21,#[],by subst hH21; exact Hp.put_same _ _ _,.inl ⟨rfl,outE_none es⟩⟩
  rintro id x H27 ⟨l27,hM27,seen,hc27,hB⟩
  have hcb:b≠c:=fun e=>by subst e; rw [hM.blk] at hc; cases hc
  have hHc:H c=none:=by
   cases hx:H c with
   | none=>rfl
   | some o=>rw [l7 c o hx] at hc; cases hc
  refine nextF hM27 hc27 rfl rfl (fun hz=>.inl ⟨undef,undef,rfl,fun h=>(by cases h),fun _=>?_⟩) (fun q hq H29 hH29=>.inr ⟨q.key,q.val,rfl,fun _=>?_,fun h=>(by cases h)⟩)
  ·have hB2:Best (fun e=>1≤cntG m e.1∧e.2=cntG m e.1) (id,x):=hB.congr fun e=>by
    rw [← cntF_all]
    constructor
    ·intro he
     obtain ⟨q,hq,h1,h2⟩:=hM27.has he
     exact ⟨q,hq,left_none hz hq,h1,h2⟩
    ·rintro ⟨q,hq,_,h1,h2⟩
     obtain ⟨y,g1,g2⟩:=hM27.entry hq
     rw [h1] at g1
     rw [kI_inj g1,g2,h2]
   have hb:=hB2.uniq (bestG_best m)
   refine ⟨fun hx=>⟨?_,l27⟩,fun hx=>⟨?_,l27⟩⟩
   ·have hx:x=0:=by simpa using hx
    have h0:m.length=0:=by
     rcases Nat.eq_zero_or_pos m.length with h0 | h0
     ·exact h0
     ·obtain ⟨b1,b2,_⟩:=bestG_of (m:=m) fun e=>by rw [e] at h0; simp at h0
      rw [← hb] at b1 b2
      have b2:x=cntG m id:=b2
      have b1:1≤cntG m id:=b1
      omega
    unfold mostV; rw [mostG_none h h0]
   ·have hx:x≠0:=by simpa using hx
    have h0:m.length≠0:=fun h0=>by
     have em:m=[]:=List.length_eq_zero_iff.1 h0
     subst em
     have:bestG []=(0,0):=rfl
     rw [this] at hb
     exact hx (Prod.mk.inj hb).2
    unfold mostV; rw [mostG_some h h0,← hb]
  ·have hmem:=(mem_left hq).1
   obtain ⟨y,g1,g2⟩:=hM27.entry hmem
   have g3:1≤cntG m y∧q.val=kI (cntG m y:Int):=by
    unfold cntF at g2
    rw [List.take_length] at g2
    split at g2
    ·rename_i hy; exact ⟨hy,(Option.some.inj g2).symm⟩
    ·cases g2
   have hM29:MapF kI H29 b (cntF m m.length) es k:=hM27.at (by subst hH29; exact Hp.put_ne _ _ hcb)
   have hc29:H29 c=some (.mapIter (some b) k (seen.push q.born) k):=by subst hH29; exact Hp.put_same _ _ _
   have l29:Hp.le H H29:=by subst hH29; exact Hp.le_put l27 hHc
   have hB2:Best (outE es (seen.push q.born)) (bstep (id,x) (y,(cntG m y:Int))):=(hB.step (e:=(y,(cntG m y:Int))) (show (1:Int)≤(cntG m y:Int) by omega)).congr fun e=>outE_push (x:=(y,(cntG m y:Int))) hM27.uniq hmem g1 g3.2 e
   have hlt:(leftOf es (seenOf H29 c)).size<(leftOf es (seenOf H27 c)).size:=by
    rw [seenOf_at hc29,seenOf_at hc27]; exact left_shrinks es seen q hq
   refine entryF (last:=0) hM29 hmem hc29 ⟨y,(cntG m y:Int),by rw [g1,g3.2],fun hx=>?_,fun hx=>?_⟩
   ·rw [bstep_yes (b:=(id,x)) (e:=(y,(cntG m y:Int))) hx] at hB2
    exact ⟨⟨l29,hM29,_,hc29,hB2⟩,hlt⟩
   ·rw [bstep_no (b:=(id,x)) (e:=(y,(cntG m y:Int))) hx] at hB2
    exact ⟨⟨l29,hM29,_,hc29,hB2⟩,hlt⟩

/-! ### Where the IDs stand -/
def posN (l:List Int) (id:Int):Option Int:=if id∈l then some (posG l id:Int) else none
def atF (l:List Int) (id:Int):Option Value:=(posN l id).map kI
theorem posN_in {l:List Int} {id:Int} (h:id∈l):posN l id=some (posG l id:Int):=if_pos h
theorem posN_out {l:List Int} {id:Int} (h:id∉l):posN l id=none:=if_neg h
theorem atF_get (l:List Int) (id:Int):(atF l id).getD (kI 0)=kI ((posN l id).getD 0):=by
 unfold atF; cases posN l id <;> rfl
theorem atF_some (l:List Int) (id:Int):(atF l id).isSome=decide (id∈l):=by
 unfold atF posN
 by_cases h:id∈l <;> simp [h]
theorem atF_swap {l:List Int} (hd:l.Nodup) {a b:Int} (ha:a∈l) (hb:b∈l) (hne:a≠b) (x:Int):atF (swapI l (posG l a) (posG l b)) x=updM (updM (atF l) a (kI (posG l b:Int))) b (kI (posG l a:Int)) x:=by
 have hp:=posG_lt.2 ha
 have hq:=posG_lt.2 hb
 unfold updM
 by_cases h1:x=b
 ·subst h1
  rw [if_pos rfl]
  unfold atF
  rw [posN_in ((swapI_mem hp hq).2 hb),posG_swap hd ha hb,if_neg fun e=>hne e.symm,if_pos rfl]; rfl
 ·rw [if_neg h1]
  by_cases h2:x=a
  ·subst h2
   rw [if_pos rfl]
   unfold atF
   rw [posN_in ((swapI_mem hp hq).2 ha),posG_swap hd ha hb,if_pos rfl]; rfl
  ·rw [if_neg h2]
   unfold atF
   by_cases hm:x∈l
   ·rw [posN_in hm,posN_in ((swapI_mem hp hq).2 hm),posG_swap hd ha hb,if_neg h2,if_neg h1]
   ·rw [posN_out hm,posN_out fun h=>hm ((swapI_mem hp hq).1 h)]
theorem posG_snoc {l:List Int} {x y:Int}:posG (l++[x]) y=if y∈l then posG l y else if y=x then l.length else l.length+1:=by
 unfold posG
 rw [List.idxOf_append]
 split
 ·rfl
 ·rw [List.idxOf_cons]
  by_cases h:x=y
  ·subst h; simp
  ·have:(x==y)=false:=by simpa using h
   rw [this,if_neg fun e=>h e.symm]
   simp [List.idxOf]; omega
theorem atF_snoc {l:List Int} {x:Int} (h:x∉l) (y:Int):atF (l++[x]) y=updM (atF l) x (kI (l.length:Int)) y:=by
 unfold updM atF posN
 rw [posG_snoc]
 by_cases hy:y=x
 ·subst hy; simp [h]
 ·rw [if_neg hy]
  by_cases hm:y∈l
  ·rw [if_pos hm,if_pos hm,if_pos (List.mem_append_left _ hm),if_neg hy]
  ·simp [hm,hy]
theorem take_snocI {o:List Int} {n:Nat} (h:n<o.length):o.take (n+1)=o.take n++[o.getD n 0]:=by
 rw [List.take_add_one,List.getD_eq_getElem?_getD,List.getElem?_eq_getElem h]; rfl
theorem ordG_snoc {l:List Int} {x:Int} (h:ordG l) (hx:x∉l) (h0:0≤x) (h1:x≤65535):ordG (l++[x]):=by
 refine ⟨fun y hy=>?_,?_⟩
 ·rcases List.mem_append.1 hy with hy | hy
  ·exact h.1 y hy
  ·rw [List.mem_singleton.1 hy]; exact ⟨h0,h1⟩
 ·rw [List.nodup_append]
  refine ⟨h.2,by simp,fun a ha c hc e=>?_⟩
  rw [List.mem_singleton] at hc
  subst hc; subst e
  exact hx ha
theorem ordG_at {o:List Int} (h:ordG o) {n:Nat} (hn:n<o.length):(0≤o.getD n 0∧o.getD n 0≤65535)∧o.getD n 0∉o.take n:=by
 have hm:o.getD n 0∈o:=by rw [List.getD_eq_getElem?_getD,List.getElem?_eq_getElem hn]; exact List.getElem_mem _
 refine ⟨h.1 _ hm,fun hc=>?_⟩
 obtain ⟨j,hj⟩:=List.mem_iff_getElem?.1 hc
 rw [List.getElem?_take] at hj
 split at hj
 ·rename_i hjn
  have e:o.getD j 0=o.getD n 0:=by rw [List.getD_eq_getElem?_getD,hj]; rfl
  have p1:=idxOf_get h.2 (i:=j) (by omega)
  have p2:=idxOf_get h.2 hn
  rw [e,p2] at p1
  omega
 ·cases hj

/-! ### The first that is ready -/
def fiI (p:Mg→Bool) (m:List Mg):Int:=match m.findIdx? p with
 | some i=>(i:Int)
 | none=>-1
theorem fiI_hit {p:Mg→Bool} {m:List Mg} {i:Nat} (hi:i<m.length) (hp:p (m.getD i zMg)=true) (hj:∀ j,j<i→p (m.getD j zMg)=false):fiI p m=i∧m.findIdx? p=some i:=by
 have:m.findIdx? p=some i:=by
  rw [List.findIdx?_eq_some_iff_getElem]
  refine ⟨hi,?_,fun j hji=>?_⟩
  ·rw [List.getD_eq_getElem?_getD,List.getElem?_eq_getElem hi] at hp; exact hp
  ·have:=hj j hji
   rw [List.getD_eq_getElem?_getD,List.getElem?_eq_getElem (by omega)] at this
   simpa using this
 exact ⟨by unfold fiI; rw [this],this⟩
theorem fiI_miss {p:Mg→Bool} {m:List Mg} (hj:∀ j,j<m.length→p (m.getD j zMg)=false):fiI p m = -1∧m.findIdx? p=none:=by
 have:m.findIdx? p=none:=by
  rw [List.findIdx?_eq_none_iff]
  intro x hx
  obtain ⟨j,hl,e⟩:=List.mem_iff_getElem.1 hx
  have:=hj j hl
  rwa [List.getD_eq_getElem?_getD,List.getElem?_eq_getElem hl,Option.getD_some,e] at this
 exact ⟨by unfold fiI; rw [this],this⟩
theorem idxMeeting {H:Hp} {u:Slc} {m:List Mg} {fv:Value} {p:Mg→Bool} (r:Rd 4 fG H u m) (hf:∀ x∈m,QfV Tryz.prog fv [mgV x] H (.bool (p x))) (hl:m.length≤1000000) :
  Qf Tryz.prog F.slices_IndexFunc_api_Meeting_api_Meeting #[u.v,fv] H (.int .i64 (fiI p m)):=by
 have wn:(u.n:Int)=m.length:=by have:=r.len; omega
 refine slices_IndexFunc_api_Meeting_api_Meeting_vc ?_
 rw [wn]
 refine upto (N:=(m.length:Int)) (J:=fun n=>∀ j,j<n.toNat→p (m.getD j zMg)=false) (by omega) (fun j hj=>by simp at hj) fun n h0 h1 hJ=>⟨fun hn=>?_,fun hn=>⟨?_,Hp.le_refl _⟩⟩
 ·have hn:n<m.length:=by simpa using hn
  have hin:n.toNat<m.length:=by omega
  refine ⟨r.inS h0 hn,_,_,_,_,RdG.get r h0 hn,_,hf _ (getG_mem hin),fun hc=>⟨?_,Hp.le_refl _⟩,fun hc=>?_⟩
  ·rw [(fiI_hit hin hc hJ).1,Int.toNat_of_nonneg h0]
  ·refine upto.nx h0 hn (by omega) fun j hj=>?_
   by_cases hjn:j<n.toNat
   ·exact hJ j hjn
   ·rw [show j=n.toNat by omega]; exact hc
 ·have hn:¬ n<m.length:=by simpa using hn
  rw [(fiI_miss fun j hj=>hJ j (by omega)).1]
theorem cloneG {H:Hp} {s:Slc} {xs:List Mg} (hs:Rd 4 fG H s xs) (hl:xs.length≤1000000000) :
  Go.Eng.Fn Tryz.prog F.slices_Clone_api_Meeting_api_Meeting #[s.v] H fun v H'=>∃ u:Slc,v=u.v∧Hp.le H H'∧Mine 4 fG T.api_Meeting H H' u xs :=
 slices_Clone_api_Meeting_api_Meeting_vc (clone_vc (k:=4) (f:=fG) (bytes:=32) (by kernel_rfl) (by decide) (fun _=>rfl) hs (by omega) (by omega))
theorem deleteG {H0 H:Hp} {s:Slc} {xs:List Mg} {i:Int} (hl:Hp.le H0 H) (h:Mine 4 fG T.api_Meeting H0 H s xs) (h0:0≤i) (h1:i<xs.length) :
  Go.Eng.Fn Tryz.prog F.slices_Delete_api_Meeting_api_Meeting #[s.v,.int .i64 i,.int .i64 (i+1)] H fun v H'=>∃ u:Slc,v=u.v∧Hp.le H0 H'∧Mine 4 fG T.api_Meeting H0 H' u (xs.eraseIdx i.toNat)∧Chg H H' s∧Ext H s u :=
 slices_Delete_api_Meeting_api_Meeting_vc (delete_mine (k:=4) (f:=fG) (bytes:=32) (j:=i+1) (post:=fun v H'=>∃ u:Slc,v=u.v∧Hp.le H0 H'∧Mine 4 fG T.api_Meeting H0 H' u (xs.eraseIdx i.toNat)∧Chg H H' s∧Ext H s u) (by kernel_rfl) (by kernel_rfl)
  (by decide) (fun _=>rfl) fG_one (by kernel_rfl) hl h h0 (by omega) (by omega) fun u H' l m c e=>⟨u,rfl,l,by rw [List.eraseIdx_eq_take_drop_succ]; rw [show (i+1).toNat=i.toNat+1 by omega] at m; exact m,c,e⟩)
theorem colPlay1 {H:Hp} {b4 b2 b31:Nat} {l:List Int} {t:Int × Int} {es:Array MapEntry} {n:Nat} {x:Mg} (hv:Var H b4 (.map (some b2)) T.map_int_int) (hM:MapF kI H b2 (atF l) es n) (ht:Cel H b31 #[.int .i64 t.1,.int .i64 t.2] T.api_Ratio) (hl:l.length≤64) :
  Qf Tryz.prog F.collide_Play_1 #[mgV x,.pointer (some ⟨b4,0,none⟩),.pointer (some ⟨b31,0,none⟩)] H (.bool (rdyG l t x)):=by
 have q1:=keyI.lookOkF (t:=T.map_int_int) (e:=T.int) (z:=kI 0) (by kernel_rfl) (by kernel_rfl) (x:=x.2.1) hM
 have q2:=keyI.lookOkF (t:=T.map_int_int) (e:=T.int) (z:=kI 0) (by kernel_rfl) (by kernel_rfl) (x:=x.2.2) hM
 rw [atF_get,atF_some] at q1 q2
 have b1:0≤(posN l x.2.1).getD 0∧(posN l x.2.1).getD 0≤64:=by
  by_cases h:x.2.1∈l
  ·rw [posN_in h]; have:=posG_lt.2 h; show 0≤(posG l x.2.1:Int)∧(posG l x.2.1:Int)≤64; omega
  ·rw [posN_out h]; decide
 have b2:0≤(posN l x.2.2).getD 0∧(posN l x.2.2).getD 0≤64:=by
  by_cases h:x.2.2∈l
  ·rw [posN_in h]; have:=posG_lt.2 h; show 0≤(posG l x.2.2:Int)∧(posG l x.2.2:Int)≤64; omega
  ·rw [posN_out h]; decide
 have c0:H.at ((Addr.mk b31 0 none).add 0)=some (.int .i64 t.1):=by rw [add_zero',Cel.at ht]; rfl
 have c1:H.at ((Addr.mk b31 0 none).add 1)=some (.int .i64 t.2):=by
  have:(Addr.mk b31 0 none).add 1=Addr.mk b31 1 none:=rfl
  rw [this,Cel.at ht]; rfl
 refine collide_Play_1_vc ⟨_,hv.at,_,_,q1,_,hv.at,_,_,q2,_,_,⟨c0,c1⟩,fun _=>?_,?_,Hp.le_refl _⟩
 ·unfold inI; split <;> split <;> omega
 ·congr 1
  rw [Bool.eq_iff_iff]
  unfold rdyG adjG
  simp only [Bool.and_eq_true,Bool.or_eq_true,beq_iff_eq,decide_eq_true_eq]
  constructor
  ·rintro ⟨⟨⟨⟨h1,h2⟩,h3⟩,h4⟩,h5⟩
   rw [posN_in h3,posN_in h4] at h5
   refine ⟨Prod.ext h1 h2,⟨h3,h4⟩,?_⟩
   simp only [Option.getD_some] at h5
   split at h5 <;> split at h5 <;> omega
  ·rintro ⟨h1,⟨h3,h4⟩,h5⟩
   rw [posN_in h3,posN_in h4]
   refine ⟨⟨⟨⟨by rw [h1],by rw [h1]⟩,h3⟩,h4⟩,?_⟩
   simp only [Option.getD_some]
   split <;> split <;> omega

theorem storeAllW {H:Hp} {b:Nat} {cs:Array Value} {T:TypeId} (h:Cel H b cs T) (vs:List Value) (hv:vs.length=cs.size):H.canStore ⟨b,0,none⟩ 0 vs∧H.store ⟨b,0,none⟩ 0 vs=H.put b (.cells vs.toArray T (0,0)):=by
 obtain ⟨can,st⟩:=store_row (b:=b) (off:=0) vs 0 H cs h (by omega)
 refine ⟨can,?_⟩
 rw [st]
 have:cs.toList.drop (0+0+vs.length)=[]:=List.drop_eq_nil_of_le (by rw [Array.length_toList]; omega)
 rw [this]; simp
def blS (b:Nat):Slc:=⟨some ⟨b,0,none⟩,1,1⟩
theorem blS_old {H:Hp} {b:Nat} {o:Obj} (h:H b=some o):Old H (blS b):=fun p hp e=>by
 cases hp; rw [h] at e; cases e
theorem sep_bl {u:Slc} {b:Nat} (h:Sep u (blS b)):∀ p,u.a=some p→p.block≠b:=fun p hp=>h p ⟨b,0,none⟩ hp rfl
theorem _root_.Go.Eng.Var.ne {H:Hp} {b c:Nat} {v:Value} {T:TypeId} {o:Obj} (h:Var H b v T) (hne:b≠c):Var (H.put c o) b v T:=by
 unfold Var Cel at *; rw [Hp.put_ne _ _ hne]; exact h
theorem playM_bad {o:List Int} {m:List Mg} (h:chkG m≠0):playM o m=([],chkG m):=if_neg h
theorem playM_many {o:List Int} {m:List Mg} (h:chkG m=0) (hl:64<o.length):playM o m=([],4):=by unfold playM; rw [if_pos h,if_pos hl]
theorem playM_ord {o:List Int} {m:List Mg} (h:chkG m=0) (hl:¬ 64<o.length) (ho:¬ ordG o):playM o m=([],8):=by unfold playM; rw [if_pos h,if_neg hl,if_neg ho]
theorem playM_none {o:List Int} {m:List Mg} (h:chkG m=0) (hl:¬ 64<o.length) (ho:ordG o) (hp:playG m.length o m=none):playM o m=([],36):=by unfold playM; rw [if_pos h,if_neg hl,if_pos ho,hp]
theorem playM_some {o:List Int} {m:List Mg} {l:List Int} (h:chkG m=0) (hl:¬ 64<o.length) (ho:ordG o) (hp:playG m.length o m=some l):playM o m=(l,0):=by unfold playM; rw [if_pos h,if_neg hl,if_pos ho,hp]
theorem rdyG_in {l:List Int} {t:Int × Int} {x:Mg} (h:rdyG l t x=true):x.2.1∈l∧x.2.2∈l:=by
 unfold rdyG adjG at h
 simp only [Bool.and_eq_true,decide_eq_true_eq] at h
 exact h.2.1
theorem fiI_neg {p:Mg→Bool} {m:List Mg} (h:fiI p m<0):m.findIdx? p=none:=by
 unfold fiI at h
 cases hx:m.findIdx? p with
 | none=>rfl
 | some i=>rw [hx] at h; simp only at h; omega
theorem fiI_pos {p:Mg→Bool} {m:List Mg} (h:¬ fiI p m<0):∃ i,fiI p m=(i:Nat)∧m.findIdx? p=some i∧i<m.length∧p (m.getD i zMg)=true:=by
 unfold fiI at h ⊢
 cases hx:m.findIdx? p with
 | none=>rw [hx] at h; simp only at h; omega
 | some i =>
  obtain ⟨hi,hp,_⟩:=List.findIdx?_eq_some_iff_getElem.1 hx
  refine ⟨i,rfl,rfl,hi,?_⟩
  rw [List.getD_eq_getElem?_getD,List.getElem?_eq_getElem hi]; exact hp

structure PlayI (H:Hp) (b2 b4:Nat) (s:Slc) (o:List Int) (m:List Mg) (d:Slc) (H':Hp) (l:List Int) (left:List Mg) (es:Array MapEntry) (k:Nat):Prop where
 le:Hp.le H H'
 ms:Mine 1 fI 3 H H' s l
 md:Mine 4 fG T.api_Meeting H H' d left
 sd:Sep s d
 s2:Sep s (blS b2)
 s4:Sep s (blS b4)
 d2:Sep d (blS b2)
 d4:Sep d (blS b4)
 vr:Var H' b4 (.map (some b2)) T.map_int_int
 mp:MapF kI H' b2 (atF l) es k
 srt:sortG left
 nd:l.Nodup
 few:l.length≤64
 lot:left.length≤5000
 pl:playG left.length l left=playG m.length o m

set_option maxHeartbeats 4000000 in
theorem colPlay {H:Hp} {w u:Slc} {o:List Int} {m:List Mg} (ro:RdI H w o) (r:Rd 4 fG H u m) (ft:∀ x∈m,fitR x.1) :
  Go.Eng.Fn Tryz.prog F.collide_Play #[w.v,u.v] H fun v H'=>∃ s:Slc,v=.tuple #[s.v,.int .i64 (playM o m).2]∧Hp.le H H'∧Mine 1 fI 3 H H' s (playM o m).1:=by
 have wn:(w.n:Int)=o.length:=by have:=ro.len; omega
 refine collide_Play_vc ?_
 rw [wn]
 refine ⟨_,colCheck r ft,fun h=>?_,fun h=>⟨fun hb=>?_,fun hb b2 H3 hb2 hH3 b4 H5 hb4 hH5=>?_⟩⟩
 ·rw [playM_bad (nz0 h)]; exact ⟨zs,rfl,Hp.le_refl _,.inl ⟨rfl,rfl⟩⟩
 ·have hb:=of_decide_eq_true hb
  rw [playM_many (ez0 h) (by omega)]; exact ⟨zs,rfl,Hp.le_refl _,.inl ⟨rfl,rfl⟩⟩
 have h:=ez0 h
 have ok:=chkG_zero.1 h
 have few:=ok.few
 have hb:=of_decide_eq_false hb
 have hl64:¬ 64<o.length:=by omega
 have l3:Hp.le H H3:=Hp.le_new (Hp.le_refl _) hb2 hH3
 have l5:Hp.le H H5:=Hp.le_new l3 hb4 hH5
 have nb4:H b4=none:=by
  cases hx:H b4 with
  | none=>rfl
  | some x=>rw [l3 _ _ hx] at hb4; cases hb4
 have M3:=MapF.new (fk:=kI) hH3
 have hne:b2≠b4:=fun e=>by subst e; rw [M3.blk] at hb4; cases hb4
 have M5:=M3.le (Hp.le_new (Hp.le_refl _) hb4 hH5)
 have V5:Var H5 b4 (.map none) T.map_int_int:=Var.new hH5
 refine Var.set V5 (.map (some b2)) fun H6 hH6=>?_
 have l6:Hp.le H H6:=by subst hH6; exact Hp.le_put l5 nb4
 have V6:Var H6 b4 (.map (some b2)) T.map_int_int:=Var.new hH6
 have M6:MapF kI H6 b2 (atF []) #[] 0:=(M5.at (by rw [hH6,Hp.put_ne _ _ hne])).ext fun x=>by simp [atF,posN]
 refine ⟨fun n H'=>0≤n∧n≤o.length∧Hp.le H H'∧Var H' b4 (.map (some b2)) T.map_int_int∧(∃ es k,MapF kI H' b2 (atF (o.take n.toNat)) es k)∧ordG (o.take n.toNat),fun n _=>((o.length:Int)-n).toNat,⟨Int.le_refl _,by omega,l6,V6,⟨_,_,M6⟩,by simp [ordG]⟩,fun n H10 ⟨n0,n1,l10,V10,⟨es,k,M10⟩,og⟩=>⟨fun hn=>?_,fun hn=>?_⟩⟩
 ·have hn:n<o.length:=of_decide_eq_true hn
  have hin:n.toNat<o.length:=by omega
  have r10:=ro.le l10
  have q1:=keyI.lookOkF (t:=T.map_int_int) (e:=T.int) (z:=kI 0) (by kernel_rfl) (by kernel_rfl) (x:=o.getD n.toNat 0) M10
  rw [atF_get,atF_some] at q1
  refine ⟨r10.inS n0 hn,_,RdI.get r10 n0 hn,_,V10.at,_,_,q1,fun hc=>?_,fun hc=>?_⟩
  ·rw [playM_ord h hl64 fun ho=>?_]
   ·exact ⟨zs,rfl,l10,.inl ⟨rfl,rfl⟩⟩
   ·obtain ⟨⟨a1,a2⟩,a3⟩:=ordG_at ho hin
    simp only [Bool.or_eq_true,decide_eq_true_eq] at hc
    rcases hc with (hc | hc) | hc
    ·exact a3 hc
    ·omega
    ·omega
  ·simp only [Bool.or_eq_false_iff,decide_eq_false_iff_not] at hc
   obtain ⟨⟨c1,c2⟩,c3⟩:=hc
   have tl:(o.take n.toNat).length=n.toNat:=by rw [List.length_take]; omega
   refine ⟨_,V10.at,(keyI.putF (t:=T.map_int_int) (e:=T.int) (v:=kI n) (by kernel_rfl) M10).mono fun v16 H17 ⟨es',k',e17,M17⟩=>⟨v16,rfl,by unfold inI; omega,⟨by omega,by omega,?_,?_,⟨es',k',M17.ext fun y=>?_⟩,?_⟩,by dsimp only; omega⟩⟩
   ·subst e17; exact Hp.le_put l10 hb2
   ·subst e17; exact V10.ne fun e=>hne e.symm
   ·rw [show (n+1).toNat=n.toNat+1 by omega,take_snocI hin,atF_snoc c1,tl,Int.toNat_of_nonneg n0]
   ·rw [show (n+1).toNat=n.toNat+1 by omega,take_snocI hin]
    exact ordG_snoc og c1 (by omega) (by omega)
 have hn:¬ n<o.length:=of_decide_eq_false hn
 rw [show n.toNat=o.length by omega,List.take_length] at M10 og
 refine (clone_int (ro.le l10) (by omega)).mono fun v19 H20 ⟨s,hv,l20,m20⟩=>⟨s,hv,?_⟩
 have l020:=Hp.le_trans l10 l20
 refine (cloneG (r.le l020) (by omega)).mono fun v22 H23 ⟨d0,hv,l23,m23⟩=>⟨d0,hv,?_⟩
 have o2:Old H10 (blS b2):=blS_old M10.blk
 have o4:Old H10 (blS b4):=blS_old V10
 refine ⟨fun d H'=>∃ l left es k,PlayI H b2 b4 s o m d H' l left es k,fun d _=>d.n,
  ⟨o,m,es,k,⟨Hp.le_trans l020 l23,(m20.le l23).low l10,m23.low l020,Sep.of m20.isOld m23.isNew,(Sep.of o2 m20.isNew).symm,(Sep.of o4 m20.isNew).symm,(Sep.of (o2.le l20) m23.isNew).symm,(Sep.of (o4.le l20) m23.isNew).symm,(V10.le l20).le l23,(M10.le l20).le l23,ok.srt,og.2,by omega,by omega,rfl⟩⟩,?_⟩
 rintro d H28 ⟨l,left,es,k,I⟩
 have rd28:=I.md.rdG
 have dn:d.n=left.length:=rd28.len
 refine ⟨fun hn=>?_,fun hn=>?_⟩
 ·have hn:=of_decide_eq_true hn
  have hpos:0<left.length:=by omega
  obtain ⟨t,ht⟩:∃ t,t=(left.getD 0 zMg).1:=⟨_,rfl⟩
  have g0:=RdG.gA rd28 (i:=0) (by omega) (by omega)
  have g0':H28.at (eaddr d.a 4 0)=some (.int .i64 t.1)∧H28.at ((eaddr d.a 4 0).add 1)=some (.int .i64 t.2):=by rw [ht]; exact g0
  refine ⟨rd28.inS (by omega) (by omega),_,_,g0',fun b31 H32 hb31 hH32=>?_⟩
  have C32:Cel H32 b31 #[.int .i64 0,.int .i64 0] T.api_Ratio:=by subst hH32; exact Cel.put
  obtain ⟨can,sto⟩:=storeAllW C32 [.int .i64 t.1,.int .i64 t.2] rfl
  refine ⟨can,fun H33 hH33=>?_⟩
  rw [sto] at hH33
  have C33:Cel H33 b31 #[.int .i64 t.1,.int .i64 t.2] T.api_Ratio:=by subst hH33; exact Cel.put
  have l33:Hp.le H28 H33:=by subst hH33; exact Hp.le_put (Hp.le_new (Hp.le_refl _) hb31 hH32) hb31
  have V33:=I.vr.le l33
  have M33:=I.mp.le l33
  have rd33:=rd28.le l33
  have ms33:=I.ms.le l33
  have md33:=I.md.le l33
  have le33:=Hp.le_trans I.le l33
  have hf:∀ x∈left,QfV Tryz.prog (.func (.func F.collide_Play_1) #[] #[.pointer (some ⟨b4,0,none⟩),.pointer (some ⟨b31,0,none⟩)]) [mgV x] H33 (.bool (rdyG l t x)):=fun x hx =>
   ⟨_,#[],_,rfl,collide_Play_1_callable,colPlay1 V33 M33 C33 I.few⟩
  have qi:=idxMeeting rd33 hf (by have:=I.lot; omega)
  refine ⟨_,qi,fun hi=>?_,fun hi=>?_⟩
  ·have hi:=fiI_neg (of_decide_eq_true hi)
   have hp:playG m.length o m=none:=by
    rw [← I.pl,playG_go (n:=left.length-1) (by omega),← ht,hi]
   rw [playM_none h hl64 og hp]
   exact ⟨zs,rfl,le33,.inl ⟨rfl,rfl⟩⟩
  ·obtain ⟨i,e1,e2,hil,hrd⟩:=fiI_pos (of_decide_eq_false hi)
   rw [e1]
   have gi:=RdG.get rd33 (i:=(i:Int)) (by omega) (by omega)
   rw [Int.toNat_natCast] at gi
   obtain ⟨y,hy⟩:∃ y,y=left.getD i zMg:=⟨_,rfl⟩
   rw [← hy] at gi hrd
   have gy:goodG y:=by rw [hy]; exact I.srt.1 _ (getG_mem hil)
   obtain ⟨ya,yb⟩:=rdyG_in hrd
   have yne:y.2.1≠y.2.2:=by have:=gy.2.2.1; omega
   have pa:=posG_lt.2 ya
   have pb:=posG_lt.2 yb
   have hfew:=I.few
   have hpl:playG m.length o m=playG (left.eraseIdx i).length (swapI l (posG l y.2.1) (posG l y.2.2)) (left.eraseIdx i):=by
    rw [← I.pl,playG_go (n:=left.length-1) (by omega),← ht,e2]
    simp only
    rw [hy]
   have q1:=keyI.lookF (t:=T.map_int_int) (e:=T.int) (z:=kI 0) (by kernel_rfl) (by kernel_rfl) (x:=y.2.1) M33
   have q2:=keyI.lookF (t:=T.map_int_int) (e:=T.int) (z:=kI 0) (by kernel_rfl) (by kernel_rfl) (x:=y.2.2) M33
   rw [atF_get,posN_in ya,Option.getD_some] at q1
   rw [atF_get,posN_in yb,Option.getD_some] at q2
   have f1:=RdI.get ms33.rdI (i:=(posG l y.2.2:Int)) (by omega) (by omega)
   have f2:=RdI.get ms33.rdI (i:=(posG l y.2.1:Int)) (by omega) (by omega)
   rw [Int.toNat_natCast] at f1 f2
   have is1:=ms33.rdI.inS (i:=(posG l y.2.1:Int)) (by omega) (by omega)
   have is2:=ms33.rdI.inS (i:=(posG l y.2.2:Int)) (by omega) (by omega)
   refine ⟨rd33.inS (by omega) (by omega),_,_,_,_,gi,_,V33.at,_,q1,_,V33.at,_,q2,is2,_,f1,is1,_,f2,is1,?_⟩
   refine Mine.setI ms33 (by omega) (by omega) _ fun H45 m45 c45=>⟨is2,?_⟩
   refine Mine.setI m45 (by omega) (by rw [List.length_set]; omega) _ fun H46 m46 c46=>?_
   rw [Int.toNat_natCast,Int.toNat_natCast] at m46
   have m46:Mine 1 fI 3 H H46 s (swapI l (posG l y.2.1) (posG l y.2.2)):=m46
   have V46:=(V33.chg c45 (sep_bl I.s4)).chg c46 (sep_bl I.s4)
   have M46:=(M33.chg c45 (sep_bl I.s2)).chg c46 (sep_bl I.s2)
   have md46:=(md33.chg c45 I.sd.symm).chg c46 I.sd.symm
   have l46:Hp.le H H46:=Hp.le_chg (Hp.le_chg le33 c45 I.ms.isNew) c46 I.ms.isNew
   have put1:=keyI.putF (t:=T.map_int_int) (e:=T.int) (x:=y.2.1) (v:=kI (posG l y.2.2:Int)) (by kernel_rfl) M46
   have core:∀ H50 es1 k1,H50=H46.put b2 (.map es1 k1)→MapF kI H50 b2 (updM (atF l) y.2.1 (kI (posG l y.2.2:Int))) es1 k1 →
     Var H50 b4 (.map (some b2)) T.map_int_int∧OpSem Tryz.prog (semU (Instr.mapUpdate T.map_int_int (Value.map (some b2)) (Value.int .i64 y.2.2) (Value.int .i64 (posG l y.2.1:Int)))) H50 fun v52 H53=>∃ v54:Value,v52=v54 ∧
      inI ((i:Int)+1)∧Go.Eng.Fn Tryz.prog F.slices_Delete_api_Meeting_api_Meeting #[d.v,Value.int .i64 (i:Int),Value.int .i64 ((i:Int)+1)] H53 fun v55 H56=>∃ u57:Slc,v55=u57.v ∧
       (∃ l left es k,PlayI H b2 b4 s o m u57 H56 l left es k)∧u57.n<d.n:=fun H50 es1 k1 e50 M50=>by
    have V50:Var H50 b4 (.map (some b2)) T.map_int_int:=by subst e50; exact V46.ne fun e=>hne e.symm
    have l50:Hp.le H H50:=by subst e50; exact Hp.le_put l46 hb2
    have low:∀ {k0:Nat} {α:Type} {f:α→List Value} {e:TypeId} {a:Slc} {xs:List α} {H1:Hp} {es0:Array MapEntry} {n0:Nat},Mine k0 f e H H1 a xs→Sep a (blS b2)→Mine k0 f e H (H1.put b2 (.map es0 n0)) a xs:=fun {k0 α f e a xs H1 es0 n0} hm hs =>
     hm.chg (v:=blS b2) (fun c _ hc=>Hp.put_ne _ _ fun e=>hc ⟨b2,0,none⟩ rfl e.symm) hs
    have m50:Mine 1 fI 3 H H50 s (swapI l (posG l y.2.1) (posG l y.2.2)):=by subst e50; exact low m46 I.s2
    have d50:Mine 4 fG T.api_Meeting H H50 d left:=by subst e50; exact low md46 I.d2
    refine ⟨V50,(keyI.putF (t:=T.map_int_int) (e:=T.int) (x:=y.2.2) (v:=kI (posG l y.2.1:Int)) (by kernel_rfl) M50).mono fun v52 H53 ⟨es2,k2,e53,M53⟩=>⟨v52,rfl,by have:=I.lot; unfold inI; omega,?_⟩⟩
    have V53:Var H53 b4 (.map (some b2)) T.map_int_int:=by subst e53; exact V50.ne fun e=>hne e.symm
    have l53:Hp.le H H53:=by subst e53; exact Hp.le_put l50 hb2
    have m53:Mine 1 fI 3 H H53 s (swapI l (posG l y.2.1) (posG l y.2.2)):=by subst e53; exact low m50 I.s2
    have d53:Mine 4 fG T.api_Meeting H H53 d left:=by subst e53; exact low d50 I.d2
    have M53':MapF kI H53 b2 (atF (swapI l (posG l y.2.1) (posG l y.2.2))) es2 k2:=M53.ext fun x=>atF_swap I.nd ya yb yne x
    refine (deleteG l53 d53 (i:=(i:Int)) (by omega) (by omega)).mono fun v55 H56 ⟨d',hv,l56,md,c,x⟩=>⟨d',hv,?_,?_⟩
    ·rw [Int.toNat_natCast] at md
     have os:Old H53 s:=m53.isOld
     refine ⟨_,left.eraseIdx i,es2,k2,⟨l56,m53.chg c I.sd,md,(I.sd.symm.ext os x).symm,I.s2,I.s4,I.d2.ext (blS_old M53.blk) x,I.d4.ext (blS_old V53) x,V53.chg c (sep_bl I.d4),M53'.chg c (sep_bl I.d2),I.srt.erase i,swapI_nodup I.nd pa pb,by rw [swapI_len]; exact hfew,by have:=I.lot; rw [List.length_eraseIdx_of_lt hil]; omega,hpl.symm⟩⟩
    ·have:=md.rdG.len
     rw [Int.toNat_natCast,List.length_eraseIdx_of_lt hil] at this
     omega
   refine ⟨_,V46.at,⟨_,V46.at,put1.mono fun v49 H50 ⟨es1,k1,e50,M50⟩=>⟨v49,rfl,(core H50 es1 k1 e50 M50).2⟩⟩,put1.mono fun v58 H59 ⟨es1,k1,e50,M50⟩=>⟨v58,rfl,_,(core H59 es1 k1 e50 M50).1.at,(core H59 es1 k1 e50 M50).2⟩⟩
 ·have hn:=of_decide_eq_false hn
  have hz:left=[]:=List.eq_nil_of_length_eq_zero (by omega)
  have hp:playG m.length o m=some l:=by rw [← I.pl,hz]; exact playG_nil _ _
  rw [playM_some h hl64 og hp]
  exact ⟨s,rfl,I.le,I.ms⟩
end Go.Proofs.YtlbdpklikfddlaaGreat
end
