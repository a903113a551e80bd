/- The median lies in the middle, in plain words. Conditions: none. -/
import Derived.Test.YtbbdplfkiioppaaGreatPRW
import Derived.Test.YtbbdplfkiioppaaGreatPQ4
set_option linter.unusedVariables false
set_option maxRecDepth 100000
open Go Go.Eng Go.Proofs
namespace Go.Proofs.YtbbdplfkiioppaaGreat

theorem gcd_two (n:Nat):Nat.gcd 2 n=if n % 2=0 then 2 else 1:=by
 have h:Nat.gcd 2 n=Nat.gcd (n % 2) 2:=Nat.gcd_rec 2 n
 rw [h]
 rcases Nat.mod_two_eq_zero_or_one n with e | e <;> rw [e] <;> rfl
theorem half_ok {s:Int × Int} (os:okR s) (h:s.2≤1048576):(mulM s (1,2)).2=0∧okR (mulM s (1,2)).1∧(mulM s (1,2)).1.1 * (s.2 * 2)=s.1 * (mulM s (1,2)).1.2:=by
 have o12:okR (1,2):=⟨by decide,by decide,by decide,by decide,by decide⟩
 have d1:=os.d1
 have g1:gA (1,2) s=1:=by
  show ((Nat.gcd s.2.toNat (absI 1).toNat:Nat):Int)=1
  rw [show (absI 1).toNat=1 by decide,Nat.gcd_one_right]; rfl
 have g2:gA s (1,2)=if s.1 % 2=0 then 2 else 1:=by
  show ((Nat.gcd (2:Int).toNat (absI s.1).toNat:Nat):Int)=_
  rw [show (2:Int).toNat=2 from rfl,gcd_two]
  have:(absI s.1).toNat % 2=0↔s.1 % 2=0:=by unfold absI; split <;> omega
  by_cases e:s.1 % 2=0
  ·rw [if_pos e,if_pos (this.2 e)]; rfl
  ·rw [if_neg e,if_neg (fun h=>e (this.1 h))]; rfl
 have n0:=os.n1; have n1:=os.n2
 have cop:=os.g
 unfold mulM
 rw [if_pos ⟨os,o12⟩,g1,g2]
 show (buildM (!(decide (s.1<0)==decide ((1:Int)<0))&&s.1 != 0&&(1:Int) != 0) (absI (s.1.tdiv (if s.1 % 2=0 then 2 else 1) * (1:Int).tdiv 1)) (s.2 / 1 * (2 / (if s.1 % 2=0 then 2 else 1)))).2=0∧_
 rw [show (1:Int).tdiv 1=1 from rfl,Int.mul_one,Int.ediv_one,show decide ((1:Int)<0)=false from rfl,show ((1:Int) != 0)=true from rfl,Bool.and_true]
 have key:∀ (q:Int),absI q≤9223372036854775807→(q<0↔s.1<0∧s.1≠0)→∀ D:Int,D≤9223372036854775807→buildM (!(decide (s.1<0)==false)&&s.1 != 0) (absI q) D=((q,D),0):=fun q hq hs D hD=>by
  unfold buildM
  rw [if_neg (by omega)]
  have e:(!(decide (s.1<0)==false)&&s.1 != 0)=decide (q<0):=by
   by_cases h:s.1<0
   ·rw [decide_eq_true h,decide_eq_true (hs.2 ⟨h,by omega⟩)]
    have:(s.1 != 0)=true:=bne_iff_ne.2 (by omega)
    rw [this]; rfl
   ·rw [decide_eq_false h,decide_eq_false (fun x=>h (hs.1 x).1)]; rfl
  rw [e]
  have:(if decide (q<0)=true then 0-absI q else absI q)=q:=by
   unfold absI
   by_cases h:q<0
   ·rw [decide_eq_true h,if_pos rfl,if_pos h]; omega
   ·rw [decide_eq_false h,if_neg (by simp),if_neg h]
  rw [this]
 by_cases e:s.1 % 2=0
 ·rw [if_pos e]
  obtain ⟨m,hm⟩:∃ m,s.1=2 * m:=⟨s.1 / 2,by omega⟩
  have ht:s.1.tdiv 2=m:=by rw [hm]; exact Int.mul_tdiv_cancel_left _ (by decide)
  rw [ht,key m (by unfold absI; split <;> omega) (by omega) _ (by omega)]
  refine ⟨rfl,⟨by show (1:Int)≤s.2 * (2 / 2); omega,by show s.2 * (2 / 2)≤_; omega,by show _≤m; omega,by show m≤_; omega,?_⟩,?_⟩
  ·show Nat.gcd m.natAbs (s.2 * (2 / 2)).natAbs=1
   rw [show s.2 * (2 / 2)=s.2 by omega]
   have h2:s.1.natAbs=2 * m.natAbs:=by omega
   rw [h2] at cop
   exact Nat.Coprime.coprime_mul_left cop
  ·show m * (s.2 * 2)=s.1 * (s.2 * (2 / 2))
   rw [show s.2 * (2 / 2)=s.2 by omega,hm,Int.mul_comm s.2 2,← Int.mul_assoc,Int.mul_comm m 2]
 ·rw [if_neg e]
  have ht:s.1.tdiv 1=s.1:=Int.tdiv_one _
  rw [ht,key s.1 (by unfold absI; split <;> omega) (by omega) _ (by omega)]
  refine ⟨rfl,⟨by show (1:Int)≤s.2 * (2 / 1); omega,by show s.2 * (2 / 1)≤_; omega,n0,n1,?_⟩,?_⟩
  ·show Nat.gcd s.1.natAbs (s.2 * (2 / 1)).natAbs=1
   have h2:(s.2 * (2 / 1)).natAbs=s.2.natAbs * 2:=by omega
   rw [h2]
   have c2:Nat.Coprime s.1.natAbs 2:=by
    show Nat.gcd s.1.natAbs 2=1
    rw [Nat.gcd_comm,gcd_two,if_neg (by omega)]
   exact Nat.Coprime.mul_right cop c2
  ·show s.1 * (s.2 * 2)=s.1 * (s.2 * (2 / 1))
   rw [show (2 / 1:Int)=2 from rfl]
theorem addM_den {a b:Int × Int} (oa:okR a) (ob:okR b) (h1:a.2≤1024) (h2:b.2≤1024):(addM a b).1.2≤1048576:=by
 unfold addM
 rw [if_pos ⟨oa,ob⟩]
 unfold buildM
 split
 ·show (0:Int)≤_; omega
 ·show a.2 / gD a b * (b.2 / addH a b)≤_
  have d1:=oa.d1; have d2:=ob.d1
  have x1:(a.2 / gD a b).natAbs≤1024:=Nat.le_trans (Int.natAbs_ediv_le_natAbs _ _) (by omega)
  have x2:(b.2 / addH a b).natAbs≤1024:=Nat.le_trans (Int.natAbs_ediv_le_natAbs _ _) (by omega)
  have x3:=Nat.mul_le_mul x1 x2
  rw [← Int.natAbs_mul] at x3
  omega

/-! ### The median -/
theorem plM_spot {l:Ls} (ok:okLs l) {k:Nat} (hk:k<l.ord.length):plM l (l.ord.getD k 0)=spot l.ck.f l.ck.now k:=by
 have hl:=ok.len
 have e:=ok.sP hk
 unfold plM spot
 rw [← e]; rfl
structure Med (l:Ls) (a b:Nat):Prop where
 z:(medM l).2=0
 ok:okR (medM l).1
 v:(medM l).1.1 * (2 * l.ck.now.2)=(valP (sP l.ck.f l.ck.now a) l.ck.now+valP (sP l.ck.f l.ck.now b) l.ck.now) * (medM l).1.2
set_option maxHeartbeats 1000000 in
theorem med_ok {l:Ls} (ok:okLs l) (ak:askedR l.ck.now) (h0:l.ord.length≠0):Med l ((l.ord.length-1) / 2) (l.ord.length / 2):=by
 have of:=ok.ck.f
 have hl:=ok.len
 have ot:=ok.ck.now
 have d1:=ot.d1
 have W:=asked_told of ak
 have sk:∀ k,k<l.ord.length→(spot l.ck.f l.ck.now k).2=0:=fun k hk=>W.T k (by omega)
 have ka:(l.ord.length-1) / 2<l.ord.length:=by omega
 have kb:l.ord.length / 2<l.ord.length:=by omega
 obtain ⟨ga,ga0,ga1,ga2,oa⟩:=spot_ok of ot (show (l.ord.length-1) / 2<l.ck.f.length by omega) (sk _ ka)
 obtain ⟨gb,gb0,gb1,gb2,ob⟩:=spot_ok of ot (show l.ord.length / 2<l.ck.f.length by omega) (sk _ kb)
 have cross:∀ {x:Int × Int} {g V:Int},x.1 * g=V→x.2 * g=l.ck.now.2→x.1 * l.ck.now.2=V * x.2:=fun {x g V} h1 h2=>by
  rw [← h1,← h2,Int.mul_comm x.2 g,← Int.mul_assoc]
 have ca:=cross ga1 ga2
 have cb:=cross gb1 gb2
 by_cases hp:l.ord.length % 2=1
 ·have e2:l.ord.length / 2=(l.ord.length-1) / 2:=by omega
  have em:medM l=spot l.ck.f l.ck.now ((l.ord.length-1) / 2):=by
   unfold medM
   rw [if_pos ok,if_neg h0,plM_spot ok ka,if_pos (sk _ ka),if_pos hp]
  rw [e2]
  refine ⟨by rw [em]; exact sk _ ka,by rw [em]; exact oa,?_⟩
  rw [em,Int.mul_comm 2,← Int.mul_assoc,ca,Int.add_mul]
  omega
 ·have pa:=asked_place (sP_ok of (t:=l.ck.now) (show (l.ord.length-1) / 2<l.ck.f.length by omega)) ak
  have pb:=asked_place (sP_ok of (t:=l.ck.now) (show l.ord.length / 2<l.ck.f.length by omega)) ak
  have ha:=addM_told oa ob pa.2.1 pb.2.1 pa.2.2 pb.2.2 (by decide) (by decide)
  obtain ⟨os,es⟩:=addM_ok oa ob ha
  have den:=addM_den oa ob pa.2.2 pb.2.2
  obtain ⟨h1,h2,h3⟩:=half_ok os den
  have em:medM l=mulM (addM (spot l.ck.f l.ck.now ((l.ord.length-1) / 2)).1 (spot l.ck.f l.ck.now (l.ord.length / 2)).1).1 (1,2):=by
   unfold medM
   rw [if_pos ok,if_neg h0,plM_spot ok ka,if_pos (sk _ ka),if_neg hp,plM_spot ok kb,if_pos (sk _ kb)]
   unfold meanM
   rw [if_pos ha]
  rw [← em] at h1 h2 h3
  refine ⟨h1,h2,?_⟩
  generalize (medM l).1=m at *
  generalize (addM (spot l.ck.f l.ck.now ((l.ord.length-1) / 2)).1 (spot l.ck.f l.ck.now (l.ord.length / 2)).1).1=s at *
  generalize (spot l.ck.f l.ck.now ((l.ord.length-1) / 2)).1=x at *
  generalize (spot l.ck.f l.ck.now (l.ord.length / 2)).1=y at *
  generalize valP (sP l.ck.f l.ck.now ((l.ord.length-1) / 2)) l.ck.now=A at *
  generalize valP (sP l.ck.f l.ck.now (l.ord.length / 2)) l.ck.now=B at *
  generalize l.ck.now.2=t at *
  have s1:=os.d1; have x1:=oa.d1; have y1:=ob.d1
  -- s.1 * t=(A+B) * s.2
  have e1:s.1 * t * (x.2 * y.2)=(A+B) * s.2 * (x.2 * y.2):=by
   have q1:s.1 * t * (x.2 * y.2)=(s.1 * (x.2 * y.2)) * t:=by ac_rfl
   rw [q1,es]
   have q2:(x.1 * y.2+y.1 * x.2) * s.2 * t=(x.1 * t) * (y.2 * s.2)+(y.1 * t) * (x.2 * s.2):=by
    rw [Int.add_mul,Int.add_mul]; congr 1 <;> ac_rfl
   rw [q2,ca,cb,Int.add_mul,Int.add_mul]; congr 1 <;> ac_rfl
  have e2:s.1 * t=(A+B) * s.2:=Int.eq_of_mul_eq_mul_right (Int.ne_of_gt (Int.mul_pos (by omega) (by omega))) e1
  refine Int.eq_of_mul_eq_mul_right (show s.2≠0 by omega) ?_
  have q3:m.1 * (2 * t) * s.2=(m.1 * (s.2 * 2)) * t:=by ac_rfl
  rw [q3,h3]
  have q4:s.1 * m.2 * t=(s.1 * t) * m.2:=by ac_rfl
  rw [q4,e2]; ac_rfl
theorem med_cmp {l:Ls} (ok:okLs l) (ak:askedR l.ck.now) {a b:Nat} (M:Med l a b) {k:Nat} (hk:k<l.ck.f.length) :
  (0<cmpR (spot l.ck.f l.ck.now k).1 (medM l).1↔valP (sP l.ck.f l.ck.now a) l.ck.now+valP (sP l.ck.f l.ck.now b) l.ck.now<2 * valP (sP l.ck.f l.ck.now k) l.ck.now) ∧
  (cmpR (spot l.ck.f l.ck.now k).1 (medM l).1<0↔2 * valP (sP l.ck.f l.ck.now k) l.ck.now<valP (sP l.ck.f l.ck.now a) l.ck.now+valP (sP l.ck.f l.ck.now b) l.ck.now):=by
 have of:=ok.ck.f
 have ot:=ok.ck.now
 have d1:=ot.d1
 obtain ⟨g,g0,g1,g2,ox⟩:=spot_ok of ot hk ((asked_told of ak).T k hk)
 have mv:=M.v
 have md:=M.ok.d1
 have xd:=ox.d1
 have lt:cmpR (spot l.ck.f l.ck.now k).1 (medM l).1<0↔(spot l.ck.f l.ck.now k).1.1 * (medM l).1.2<(medM l).1.1 * (spot l.ck.f l.ck.now k).1.2:=by rw [cmpR_lt]; unfold leR; omega
 have le:cmpR (spot l.ck.f l.ck.now k).1 (medM l).1≤0↔(spot l.ck.f l.ck.now k).1.1 * (medM l).1.2≤(medM l).1.1 * (spot l.ck.f l.ck.now k).1.2:=cmpR_le
 have gt:0<cmpR (spot l.ck.f l.ck.now k).1 (medM l).1↔(medM l).1.1 * (spot l.ck.f l.ck.now k).1.2<(spot l.ck.f l.ck.now k).1.1 * (medM l).1.2:=by omega
 rw [gt,lt]
 generalize (medM l).1=m at *
 generalize (spot l.ck.f l.ck.now k).1=x at *
 generalize valP (sP l.ck.f l.ck.now a) l.ck.now=A at *
 generalize valP (sP l.ck.f l.ck.now b) l.ck.now=B at *
 generalize valP (sP l.ck.f l.ck.now k) l.ck.now=V at *
 generalize l.ck.now.2=t at *
 have e1:x.1 * m.2 * (2 * t)=(2 * V) * (x.2 * m.2):=by
  rw [← g1,← g2]
  have:x.1 * m.2 * (2 * (x.2 * g))=2 * (x.1 * g) * (x.2 * m.2):=by ac_rfl
  rw [this]
 have e2:m.1 * x.2 * (2 * t)=(A+B) * (x.2 * m.2):=by
  have:m.1 * x.2 * (2 * t)=m.1 * (2 * t) * x.2:=by ac_rfl
  rw [this,mv]; ac_rfl
 have t2:0<2 * t:=by omega
 have xm:0<x.2 * m.2:=Int.mul_pos (by omega) (by omega)
 constructor
 ·rw [← Int.mul_lt_mul_right t2,e1,e2,Int.mul_lt_mul_right xm]
 ·rw [← Int.mul_lt_mul_right t2,e1,e2,Int.mul_lt_mul_right xm]
theorem countP_upto {α:Type} {p:α→Bool}:∀ {l:List α} {k:Nat},(∀ i x,l[i]?=some x→p x=true→i<k)→l.countP p≤k
 | [],_,_=>by simp
 | x :: l,0,h=>by
  rw [List.countP_eq_zero.2 fun y hy hp=>?_]
  ·exact Nat.le_refl _
  ·obtain ⟨i,hi⟩:=List.mem_iff_getElem?.1 hy
   exact absurd (h i y hi hp) (Nat.not_lt_zero _)
 | x :: l,k+1,h=>by
  rw [List.countP_cons]
  have:=countP_upto (l:=l) (k:=k) fun i y hi hp=>by
   have:=h (i+1) y (by simpa using hi) hp; omega
  split <;> omega
theorem countP_from {α:Type} {p:α→Bool} {l:List α} {k:Nat} (h:∀ i x,l[i]?=some x→p x=true→k<i) (hk:k<l.length):l.countP p≤l.length-1-k:=by
 have e:l.countP p=(l.take (k+1)).countP p+(l.drop (k+1)).countP p:=by rw [← List.countP_append,List.take_append_drop]
 have z:(l.take (k+1)).countP p=0:=List.countP_eq_zero.2 fun y hy hp=>by
  obtain ⟨i,hi⟩:=List.mem_iff_getElem?.1 hy
  rw [List.getElem?_take] at hi
  split at hi
  ·have:=h i y hi hp; omega
  ·cases hi
 have:=List.countP_le_length (p:=p) (l:=l.drop (k+1))
 rw [List.length_drop] at this
 omega
theorem median_sides {l:Ls} (ok:okLs l) (ak:askedR l.ck.now) (h0:l.ord.length≠0) :
  2 * l.ck.f.countP (fun q=>decide (0<cmpR (placeM q l.ck.now).1 (medM l).1))≤l.ord.length ∧
  2 * l.ck.f.countP (fun q=>decide (cmpR (placeM q l.ck.now).1 (medM l).1<0))≤l.ord.length ∧
  (l.ord.length % 2=1→0<l.ck.f.countP (fun q=>decide (cmpR (placeM q l.ck.now).1 (medM l).1=0))):=by
 have of:=ok.ck.f
 have hl:=ok.len
 have M:=med_ok ok ak h0
 have perm:=sortM_perm l.ck.now l.ck.f
 have sl:(sortM l.ck.f l.ck.now).length=l.ck.f.length:=perm.length_eq
 have desc:∀ i j,i≤j→j<l.ck.f.length→valP (sP l.ck.f l.ck.now j) l.ck.now≤valP (sP l.ck.f l.ck.now i) l.ck.now:=fun i j hij hj=>by
  rcases Nat.lt_or_ge i j with h | h
  ·exact sP_val of h hj
  ·rw [show i=j by omega]; exact Int.le_refl _
 have at_:∀ i x,(sortM l.ck.f l.ck.now)[i]?=some x→i<l.ck.f.length∧x=sP l.ck.f l.ck.now i:=fun i x h=>by
  have hi:=(List.getElem?_eq_some_iff.1 h).1
  rw [sP_get (by omega)] at h
  cases h
  exact ⟨by omega,rfl⟩
 rw [← perm.countP_eq,← perm.countP_eq,← perm.countP_eq]
 refine ⟨?_,?_,fun hp=>?_⟩
 ·have:=countP_upto (p:=fun q=>decide (0<cmpR (placeM q l.ck.now).1 (medM l).1)) (l:=sortM l.ck.f l.ck.now) (k:=l.ord.length / 2) fun i x hx hq=>by
   obtain ⟨hi,rfl⟩:=at_ i x hx
   have hq:=(med_cmp ok ak M hi).1.1 (of_decide_eq_true hq)
   rcases Nat.lt_or_ge i (l.ord.length / 2) with h | h
   ·exact h
   ·have d1:=desc _ _ h hi
    have d2:=desc ((l.ord.length-1) / 2) (l.ord.length / 2) (by omega) (by omega)
    omega
  omega
 ·have:=countP_from (p:=fun q=>decide (cmpR (placeM q l.ck.now).1 (medM l).1<0)) (l:=sortM l.ck.f l.ck.now) (k:=(l.ord.length-1) / 2) (fun i x hx hq=>by
   obtain ⟨hi,rfl⟩:=at_ i x hx
   have hq:=(med_cmp ok ak M hi).2.1 (of_decide_eq_true hq)
   rcases Nat.lt_or_ge ((l.ord.length-1) / 2) i with h | h
   ·exact h
   ·have d1:=desc _ _ h (by omega)
    have d2:=desc ((l.ord.length-1) / 2) (l.ord.length / 2) (by omega) (by omega)
    omega) (by omega)
  omega
 ·refine List.countP_pos_iff.2 ⟨sP l.ck.f l.ck.now (l.ord.length / 2),List.mem_of_getElem? (sP_get (by omega)),?_⟩
  have c:=med_cmp ok ak M (k:=l.ord.length / 2) (by omega)
  have e2:(l.ord.length-1) / 2=l.ord.length / 2:=by omega
  rw [e2] at c
  exact decide_eq_true (show cmpR (spot l.ck.f l.ck.now (l.ord.length / 2)).1 (medM l).1=0 by omega)
end Go.Proofs.YtbbdplfkiioppaaGreat
