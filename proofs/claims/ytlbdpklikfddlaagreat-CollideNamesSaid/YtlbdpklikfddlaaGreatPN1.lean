/- The engine, parts N1, N2, N3, N4, put together. Conditions: none. -/
import Derived.Test.YtlbdpklikfddlaaGreatPD1
import Derived.Test.YtlbdpklikfddlaaGreatPM2
set_option linter.unusedVariables false
section
/- Places of all points of a list. Conditions: none. -/
set_option maxRecDepth 100000
open Go Go.Eng Go.Proofs
namespace Go.Proofs.YtlbdpklikfddlaaGreat

def plM (l:Ls) (id:Int):(Int × Int) × Int:=placeM (gP l.ck.f (posF l.ck.f id)) l.ck.now
def placesN (l:Ls):Nat→List (Int × Int) × Int
 | 0=>([],0)
 | n+1=>if (placesN l n).2=0 then (if (plM l (l.ord.getD n 0)).2=0 then ((placesN l n).1++[(plM l (l.ord.getD n 0)).1],0) else ([],(plM l (l.ord.getD n 0)).2)) else placesN l n
theorem placesN_yes {l:Ls} {n:Nat} (h0:(placesN l n).2=0) (h:(plM l (l.ord.getD n 0)).2=0):placesN l (n+1)=((placesN l n).1++[(plM l (l.ord.getD n 0)).1],0):=by
 show (if (placesN l n).2=0 then _ else _)=_
 rw [if_pos h0,if_pos h]
theorem placesN_no {l:Ls} {n:Nat} (h0:(placesN l n).2=0) (h:(plM l (l.ord.getD n 0)).2≠0):placesN l (n+1)=([],(plM l (l.ord.getD n 0)).2):=by
 show (if (placesN l n).2=0 then _ else _)=_
 rw [if_pos h0,if_neg h]
theorem placesN_err {l:Ls} {n:Nat} (h:(placesN l n).2≠0):∀ m,n≤m→placesN l m=placesN l n
 | 0,hm=>by rw [show n=0 by omega]
 | m+1,hm=>by
  by_cases e:n=m+1
  ·rw [e]
  ·have ih:=placesN_err h m (by omega)
   show (if (placesN l m).2=0 then _ else placesN l m)=_
   rw [ih,if_neg h]
theorem placesN_all {l:Ls}:∀ n,(placesN l n).2=0→(placesN l n).1.length=n∧∀ k,k<n→(placesN l n).1[k]?=some (plM l (l.ord.getD k 0)).1∧(plM l (l.ord.getD k 0)).2=0
 | 0,_=>⟨rfl,fun k hk=>by omega⟩
 | n+1,h=>by
  have h0:(placesN l n).2=0:=by
   by_cases e:(placesN l n).2=0
   ·exact e
   ·rw [placesN_err e (n+1) (by omega)] at h; exact absurd h e
  have h1:(plM l (l.ord.getD n 0)).2=0:=by
   by_cases e:(plM l (l.ord.getD n 0)).2=0
   ·exact e
   ·rw [placesN_no h0 e] at h; exact absurd h e
  obtain ⟨a,b⟩:=placesN_all n h0
  rw [placesN_yes h0 h1]
  refine ⟨by simp [a],fun k hk=>?_⟩
  by_cases e:k<n
  ·refine ⟨?_,(b k e).2⟩
   rw [List.getElem?_append_left (by omega)]; exact (b k e).1
  ·have:k=n:=by omega
   subst this
   refine ⟨?_,h1⟩
   rw [List.getElem?_append_right (by omega),a]; simp


theorem gP_of {f:List Pt} (of:okF f) {p:Pt} (hp:p∈f):gP f (posF f p.1)=p:=by
 have h0:0≤posF f p.1:=by
  by_cases h:posF f p.1<0
  ·have:=idx_out h p hp
   simp at this
  ·omega
 obtain ⟨a,b,c⟩:=posF_range h0
 obtain ⟨j,hj⟩:=List.mem_iff_getElem?.1 hp
 have hi:=List.pairwise_iff_getElem.1 (okF_ids of)
 obtain ⟨a1,a2⟩:=List.getElem?_eq_some_iff.1 b
 obtain ⟨j1,j2⟩:=List.getElem?_eq_some_iff.1 hj
 rcases Nat.lt_trichotomy (posF f p.1).toNat j with k | k | k
 ·exact absurd (by rw [a2,j2]; exact c) (hi _ _ a1 j1 k)
 ·subst k; rw [b] at hj; exact Option.some.inj hj
 ·exact absurd (by rw [a2,j2]; exact c.symm) (hi _ _ j1 a1 k)
def ptL (l:Ls) (k:Nat):Pt:=gP l.ck.f (posF l.ck.f (l.ord.getD k 0))
theorem okLs.len {l:Ls} (ok:okLs l):l.ord.length=l.ck.f.length:=by rw [ok.ord,ordM_len]
theorem okLs.sorted {l:Ls} (ok:okLs l) {k:Nat} (hk:k<l.ord.length):(sortM l.ck.f l.ck.now)[k]?=some (ptL l k):=by
 have hl:=ok.len
 obtain ⟨p,hp⟩:∃ p,(sortM l.ck.f l.ck.now)[k]?=some p:=⟨_,List.getElem?_eq_getElem (by rw [sortM_len]; omega)⟩
 have hm:p∈l.ck.f:=(sortM_perm l.ck.now l.ck.f).mem_iff.1 (List.mem_of_getElem? hp)
 have ho:l.ord[k]?=some p.1:=by rw [ok.ord]; unfold ordM; rw [List.getElem?_map,hp]; rfl
 have hg:l.ord.getD k 0=p.1:=by rw [List.getD_eq_getElem?_getD,ho]; rfl
 unfold ptL
 rw [hg,gP_of ok.ck.f hm]; exact hp
theorem okLs.ptOk {l:Ls} (ok:okLs l) {k:Nat} (hk:k<l.ord.length):okP (ptL l k)∧ptL l k∈l.ck.f∧(ptL l k).1=l.ord.getD k 0:=by
 have hm:ptL l k∈l.ck.f:=(sortM_perm l.ck.now l.ck.f).mem_iff.1 (List.mem_of_getElem? (ok.sorted hk))
 refine ⟨ok.ck.f.each _ hm,hm,?_⟩
 have:=ok.pos (i:=(k:Int)) (by omega) (by omega)
 rw [Int.toNat_natCast] at this
 exact (posF_range this).2.2
theorem okLs.leads {l:Ls} (ok:okLs l) {i j:Nat} (hij:i<j) (hj:j<l.ord.length):leads (ptL l i) (ptL l j) l.ck.now=true:=by
 have h:=(sortM_sorted (okF_ids ok.ck.f) l.ck.now).ord
 obtain ⟨a1,a2⟩:=List.getElem?_eq_some_iff.1 (ok.sorted (k:=i) (by omega))
 obtain ⟨b1,b2⟩:=List.getElem?_eq_some_iff.1 (ok.sorted hj)
 have:=List.pairwise_iff_getElem.1 h i j a1 b1 hij
 rw [a2,b2] at this
 exact this
theorem okLs.val {l:Ls} (ok:okLs l) {i j:Nat} (hij:i<j) (hj:j<l.ord.length):valP (ptL l j) l.ck.now≤valP (ptL l i) l.ck.now:=by
 have:=leads_iff.1 (ok.leads hij hj)
 omega

theorem overM_eq {N d:Int} (d1:1≤d) (h:(overM N d).2=0):∃ g:Int,0<g∧(overM N d).1.1 * g=N∧(overM N d).1.2 * g=d∧okR (overM N d).1:=by
 have hN:∀ z:Int,(absI z).toNat=z.natAbs:=fun z=>by rw [absI_nat]; simp
 have eg:gcdA N d=(Nat.gcd N.natAbs d.natAbs:Nat):=by unfold gcdA; rw [hN,hN]
 have hG:0<Nat.gcd N.natAbs d.natAbs:=Nat.gcd_pos_of_pos_right _ (by omega)
 have da:=Nat.gcd_dvd_left N.natAbs d.natAbs
 have db:=Nat.gcd_dvd_right N.natAbs d.natAbs
 have ea:=Nat.div_mul_cancel da
 have eb:=Nat.div_mul_cancel db
 have cop:=Nat.gcd_div_gcd_div_gcd_of_pos_right (n:=N.natAbs) (m:=d.natAbs) (by omega)
 have pb:0<d.natAbs / Nat.gcd N.natAbs d.natAbs:=Nat.div_pos (Nat.le_of_dvd (by omega) db) hG
 unfold overM at h ⊢
 rw [eg,absI_nat] at h ⊢
 have ed:d=((d.natAbs:Nat):Int):=by omega
 have e1:((N.natAbs:Nat):Int) / ((Nat.gcd N.natAbs d.natAbs:Nat):Int)=((N.natAbs / Nat.gcd N.natAbs d.natAbs:Nat):Int):=by simp
 have e2:d / ((Nat.gcd N.natAbs d.natAbs:Nat):Int)=((d.natAbs / Nat.gcd N.natAbs d.natAbs:Nat):Int):=by
  have:d / ((Nat.gcd N.natAbs d.natAbs:Nat):Int)=((d.natAbs:Nat):Int) / ((Nat.gcd N.natAbs d.natAbs:Nat):Int):=by rw [← ed]
  rw [this]; simp
 rw [e1,e2] at h ⊢
 generalize Nat.gcd N.natAbs d.natAbs=G at *
 generalize N.natAbs / G=a at *
 generalize d.natAbs / G=b at *
 have eaz:(a:Int) * G=N.natAbs:=by exact_mod_cast ea
 have ebz:(b:Int) * G=d:=by rw [ed]; exact_mod_cast eb
 unfold buildM at h ⊢
 split at h
 ·cases h
 ·rename_i hc
  rw [if_neg hc]
  refine ⟨G,by omega,?_,ebz,?_⟩
  ·show (if decide (N<0)=true then 0-(a:Int) else (a:Int)) * G=N
   by_cases hn:N<0
   ·rw [decide_eq_true hn,if_pos rfl,Int.sub_mul,eaz]; omega
   ·rw [decide_eq_false hn,if_neg (by simp),eaz]; omega
  ·have gg:∀ c:Bool,Nat.gcd (if c=true then 0-(a:Int) else (a:Int)).natAbs (b:Int).natAbs=1:=fun c=>by
    cases c with
    | true=>rw [if_pos rfl,show (0-(a:Int)).natAbs=a by omega,Int.natAbs_natCast]; exact cop
    | false=>rw [if_neg (by simp),Int.natAbs_natCast,Int.natAbs_natCast]; exact cop
   exact ⟨by show (1:Int)≤b; omega,by show (b:Int)≤_; omega,by show _≤(if decide (N<0)=true then 0-(a:Int) else (a:Int)); split <;> omega,by show (if decide (N<0)=true then 0-(a:Int) else (a:Int))≤_; split <;> omega,gg _⟩
theorem cmpI_scale {x y g:Int} (hg:0<g):cmpI (x * g) (y * g)=cmpI x y:=by
 have h1:x * g<y * g↔x<y:=Int.mul_lt_mul_right hg
 have h2:y * g<x * g↔y<x:=Int.mul_lt_mul_right hg
 unfold cmpI
 simp only [h1,h2,gt_iff_lt]
theorem cmpR_over {M N d:Int} (d1:1≤d) (h1:(overM M d).2=0) (h2:(overM N d).2=0):cmpR (overM M d).1 (overM N d).1=cmpI M N:=by
 obtain ⟨g,g0,ga,gb,_⟩:=overM_eq d1 h1
 obtain ⟨k,k0,ka,kb,_⟩:=overM_eq d1 h2
 generalize (overM M d).1=x at *
 generalize (overM N d).1=y at *
 unfold cmpR
 rw [← cmpI_scale (g:=g) g0,← cmpI_scale (g:=k) k0]
 have e1:x.1 * y.2 * g * k=M * d:=by
  rw [← ga,← kb,Int.mul_assoc x.1,Int.mul_comm y.2 g,← Int.mul_assoc,Int.mul_assoc (x.1 * g)]
 have e2:y.1 * x.2 * g * k=N * d:=by
  rw [← ka,← gb,Int.mul_assoc y.1,Int.mul_assoc y.1,Int.mul_comm (x.2 * g) k,← Int.mul_assoc]
 rw [e1,e2,cmpI_scale (by omega)]

theorem okLs.place {l:Ls} (ok:okLs l) {k:Nat} (hk:k<l.ord.length):plM l (l.ord.getD k 0)=overM (valP (ptL l k) l.ck.now) l.ck.now.2:=by
 unfold plM
 exact placeM_ok (ok.ptOk hk).1 ok.ck.now
structure Desc (xs:List (Int × Int)):Prop where
 ok:∀ x∈xs,okR x
 ge:∀ (i j:Nat) (x y:Int × Int),i<j→xs[i]?=some x→xs[j]?=some y→0≤cmpR x y
theorem okLs.desc {l:Ls} (ok:okLs l) (h:(placesN l l.ord.length).2=0):Desc (placesN l l.ord.length).1:=by
 obtain ⟨a,b⟩:=placesN_all _ h
 have d1:=ok.ck.now.d1
 refine ⟨fun x hx=>?_,fun i j x y hij hi hj=>?_⟩
 ·obtain ⟨k,hk⟩:=List.mem_iff_getElem?.1 hx
  have hl:=(List.getElem?_eq_some_iff.1 hk).1
  rw [a] at hl
  obtain ⟨b1,b2⟩:=b k hl
  rw [b1] at hk
  cases hk
  rw [ok.place hl] at b2 ⊢
  obtain ⟨_,_,_,_,o⟩:=overM_eq d1 b2
  exact o
 ·have hl:=(List.getElem?_eq_some_iff.1 hj).1
  rw [a] at hl
  obtain ⟨b1,b2⟩:=b i (by omega)
  obtain ⟨c1,c2⟩:=b j hl
  rw [b1] at hi; rw [c1] at hj
  cases hi; cases hj
  rw [ok.place (by omega)] at b2 ⊢
  rw [ok.place hl] at c2 ⊢
  rw [cmpR_over d1 b2 c2]
  have:=ok.val hij hl
  unfold cmpI
  split <;> (try split) <;> omega

theorem prefix_count {α:Type} (q:α→Bool):∀ (xs:List α),(∀ (i j:Nat) (x y:α),i<j→xs[i]?=some x→xs[j]?=some y→q y=true→q x=true)→∀ (i:Nat) (x:α),xs[i]?=some x→(q x=true↔i<xs.countP q)
 | [],_,i,x,h=>by simp at h
 | a :: xs,hp,i,x,h=>by
  have ih:=prefix_count q xs fun i j x y hij hi hj=>hp (i+1) (j+1) x y (by omega) (by simpa using hi) (by simpa using hj)
  cases ha:q a with
  | true =>
   rw [List.countP_cons_of_pos ha]
   cases i with
   | zero=>simp at h; subst h; simp [ha]
   | succ i=>rw [ih i x (by simpa using h)]; omega
  | false =>
   rw [List.countP_cons_of_neg (by simp [ha])]
   have none:∀ y∈xs,q y=false:=fun y hy=>by
    obtain ⟨j,hj⟩:=List.mem_iff_getElem?.1 hy
    cases hq:q y with
    | false=>rfl
    | true=>have:=hp 0 (j+1) a y (by omega) rfl (by simpa using hj) hq
            rw [ha] at this; cases this
   have c0:xs.countP q=0:=List.countP_eq_zero.2 fun y hy=>by rw [none y hy]; simp
   rw [c0]
   cases i with
   | zero=>simp at h; subst h; simp [ha]
   | succ i=>rw [none x (List.mem_of_getElem? (by simpa using h))]; simp
def upM (xs:List (Int × Int)) (h:Int × Int):Nat:=xs.countP fun x=>decide (0<cmpR x h)
def loM (xs:List (Int × Int)) (h:Int × Int):Nat:=xs.countP fun x=>decide (0≤cmpR x h)
theorem cmpR_ge {a b:Int × Int}:0≤cmpR a b↔b.1 * a.2≤a.1 * b.2:=by
 unfold cmpR cmpI
 split <;> (try split) <;> omega
theorem cmpR_gt {a b:Int × Int}:0<cmpR a b↔b.1 * a.2<a.1 * b.2:=by
 unfold cmpR cmpI
 split <;> (try split) <;> omega
theorem Desc.up {xs:List (Int × Int)} (d:Desc xs) {h:Int × Int} (oh:okR h) {i:Nat} {x:Int × Int} (hi:xs[i]?=some x):0<cmpR x h↔i<upM xs h:=by
 have:=prefix_count (fun x=>decide (0<cmpR x h)) xs (fun i j x y hij hi hj hq=>by
  have o1:=(d.ok x (List.mem_of_getElem? hi)).d1
  have o2:=(d.ok y (List.mem_of_getElem? hj)).d1
  have o3:=oh.d1
  have g:=cmpR_ge.1 (d.ge i j x y hij hi hj)
  have hq:0<cmpR y h:=by simpa using hq
  have q:=cmpR_gt.1 hq
  simp only [decide_eq_true_eq]
  exact cmpR_gt.2 (rat_lt (a:=h) (b:=y) (c:=x) o2 o3 o1 (by omega) g (.inl q))) i x hi
 simp only [decide_eq_true_eq] at this
 exact this
theorem Desc.lo {xs:List (Int × Int)} (d:Desc xs) {h:Int × Int} (oh:okR h) {i:Nat} {x:Int × Int} (hi:xs[i]?=some x):0≤cmpR x h↔i<loM xs h:=by
 have:=prefix_count (fun x=>decide (0≤cmpR x h)) xs (fun i j x y hij hi hj hq=>by
  have o1:=(d.ok x (List.mem_of_getElem? hi)).d1
  have o2:=(d.ok y (List.mem_of_getElem? hj)).d1
  have o3:=oh.d1
  have g:=cmpR_ge.1 (d.ge i j x y hij hi hj)
  have hq:0≤cmpR y h:=by simpa using hq
  have q:=cmpR_ge.1 hq
  simp only [decide_eq_true_eq]
  exact cmpR_ge.2 (rat_le (a:=h) (b:=y) (c:=x) o2 o3 o1 q g)) i x hi
 simp only [decide_eq_true_eq] at this
 exact this


end Go.Proofs.YtlbdpklikfddlaaGreat
end
