/- The engine, parts LD, LE, LF, LG, LH, LI, LK, put together. Conditions: none. -/
import Derived.Test.YtjhbjjdipmpgjaaGreatPL4
import Derived.Test.YtjhbjjdipmpgjaaGreatVgClock
import Derived.Test.YtjhbjjdipmpgjaaGreatFs
set_option linter.unusedVariables false
section
/- The law ClockKeeps. Conditions: none. -/
set_option maxRecDepth 100000
open Go Go.Eng Go.Proofs
namespace Go.Proofs.YtjhbjjdipmpgjaaGreat

theorem fitK.zero:fitK .zero:=⟨⟨by show inI 0; unfold inI; omega,by show inI 0; unfold inI; omega⟩,by simp [Ck.zero],by simp [Ck.zero,Ct.zero],fitG.zero,by simp [Ck.zero]⟩
theorem okK.begin {f:List Pt} {t:Int × Int} (h:timedF f t=0):okK ⟨t,f,.zero,beginA 200,[]⟩:=by
 obtain ⟨of,ot⟩:=timedF_zero.1 h
 have ob:=okA.begin (n:=200) (by omega) (by omega)
 exact ⟨ot,of,(by decide:okC Ct.zero),rfl,ob,by simp [beginA],rfl,rfl⟩

structure Alt (c:Ck) (f:List Pt) (ps:List Ev) (i:Nat) (s:Ag × List (Int × Int × Int)) (new rest:List Ev):Prop where
 ag:okA s.1
 wl:s.1.wh.length=200
 heap:s.1.heap.Perm (new++rest)
 due:s.2=new.map nh
 newT:dueF f c.now (c.ct.list.take i)=new.map nt
 oldT:dueF c.f c.now (c.ct.list.drop i)=rest.map nt
 mem:∀ x∈rest,x∈ps

theorem dueF_cons (f:List Pt) (t:Int × Int) (h:Int × Int × Int) (l:List (Int × Int × Int)):dueF f t (h :: l)=(match whenM f h.2 t with | some s=>[(h.1,s)] | none=>[])++dueF f t l:=by
 unfold dueF
 rw [List.filterMap_cons]
 cases whenM f h.2 t <;> rfl
theorem dueF_no {f:List Pt} {t:Int × Int} {l:List (Int × Int × Int)} {ps:List Ev} (e:dueF f t l=ps.map nt) {x:Ev} (hx:x∈ps):∃ h∈l,h.1=x.no:=by
 have:nt x∈dueF f t l:=by rw [e]; exact List.mem_map_of_mem hx
 obtain ⟨h,hm,h1,_⟩:=dueF_mem.1 this
 exact ⟨h,hm,h1.symm⟩

section
variable {c:Ck} {f:List Pt} {ps:List Ev}
theorem Alt.start (ok:okK c) (e:Evs c ps):Alt c f ps 0 (c.ag,[]) [] ps:=⟨ok.ag,ok.wl,e.heap,rfl,rfl,e.at_,fun _ h=>h⟩

theorem okK.incL (ok:okK c):c.ct.list.Pairwise fun a b=>a.1<b.1:=ok.ct.ok.inc
theorem take_lt {α:Type} {R:α→α→Prop} {l:List α} (hp:l.Pairwise R) {i:Nat} {h x:α} (hi:l[i]?=some h):(x∈l.take i→R x h)∧(x∈l.drop (i+1)→R h x):=by
 have e:l=l.take i++h :: l.drop (i+1):=by rw [← dropX hi]; exact (List.take_append_drop i l).symm
 rw [e] at hp
 obtain ⟨_,h2,h3⟩:=List.pairwise_append.1 hp
 exact ⟨fun hx=>h3 x hx h List.mem_cons_self,fun hx=>(List.pairwise_cons.1 h2).1 x hx⟩

theorem Alt.had (ok:okK c) (e:Evs c ps) {i:Nat} {s:Ag × List (Int × Int × Int)} {new rest:List Ev} (a:Alt c f ps i s new rest) {h:Int × Int × Int} (hi:c.ct.list[i]?=some h) :
  (0≤posD c h.1→∃ x rest',rest=x :: rest'∧x∈ps∧x.no=h.1∧getD3 c.due (posD c h.1)=nh x∧posD c h.1<c.due.length∧dueF c.f c.now (c.ct.list.drop (i+1))=rest'.map nt) ∧
  (posD c h.1<0→dueF c.f c.now (c.ct.list.drop (i+1))=rest.map nt):=by
 have o:=a.oldT
 rw [dropX hi,dueF_cons] at o
 have hm:=List.mem_of_getElem? hi
 cases hw:whenM c.f h.2 c.now with
 | none =>
  rw [hw] at o
  refine ⟨fun h0=>?_,fun _=>o⟩
  obtain ⟨x,hx,hn,_⟩:=e.pos.1 h0
  obtain ⟨h',hm',h1,h2⟩:=e.cert hx
  have:h'=h:=by
   obtain ⟨j,hj⟩:=List.mem_iff_getElem?.1 hm'
   have a1:=(getC_at ok.ct hi).1
   have a2:=(getC_at ok.ct hj).1
   have a3:(j:Int)=i:=by rw [← a1,← a2,h1,hn]
   have a4:j=i:=by omega
   subst a4; rw [hi] at hj; cases hj; rfl
  subst this
  rw [hw] at h2; cases h2
 | some s0 =>
  rw [hw] at o
  cases rest with
  | nil=>cases o
  | cons x rest' =>
   simp only [List.singleton_append,List.map_cons,List.cons.injEq] at o
   have hn:x.no=h.1:=(congrArg Prod.fst o.1).symm
   have hx:=a.mem x List.mem_cons_self
   refine ⟨fun h0=>?_,fun h0=>absurd hn (e.pos.2 h0 x hx)⟩
   obtain ⟨y,hy,hyn,hg,hl⟩:=e.pos.1 h0
   have hxy:y=x:=by
    have hp:=List.pairwise_map.1 (e.inc ok.ct)
    obtain ⟨j,hj⟩:=List.mem_iff_getElem?.1 hy
    obtain ⟨k,hk⟩:=List.mem_iff_getElem?.1 hx
    obtain ⟨j1,j2⟩:=List.getElem?_eq_some_iff.1 hj
    obtain ⟨k1,k2⟩:=List.getElem?_eq_some_iff.1 hk
    have hp':=List.pairwise_iff_getElem.1 hp
    rcases Nat.lt_trichotomy j k with hjk | hjk | hjk
    ·have:=hp' j k j1 k1 hjk; rw [j2,k2] at this; omega
    ·subst hjk; rw [hj] at hk; cases hk; rfl
    ·have:=hp' k j k1 j1 hjk; rw [j2,k2] at this; omega
   subst hxy
   exact ⟨y,rest',rfl,hx,hn,hg,hl,o.2⟩

theorem Alt.mem_heap {i:Nat} {s:Ag × List (Int × Int × Int)} {new rest:List Ev} (a:Alt c f ps i s new rest) {x:Ev} (hx:x∈rest):x∈s.1.heap:=a.heap.mem_iff.2 (List.mem_append_right _ hx)
theorem takeS {α:Type} {l:List α} {i:Nat} {h:α} (hi:l[i]?=some h):l.take (i+1)=l.take i++[h]:=take_succ hi
theorem okA.wl2 {a:Ag} (h:okA a) {n:Nat} (e:a.tb.uses.length=n):a.wh.length=n:=by rw [h.wl,e]

theorem Alt.step (ok:okK c) (e:Evs c ps) (of:okF f) (kn:knownC c.ct f=true) {i:Nat} {s:Ag × List (Int × Int × Int)} {new rest:List Ev} (a:Alt c f ps i s new rest) {h:Int × Int × Int} (hi:c.ct.list[i]?=some h) :
  match altStep c f h s with
  | none=>whenM f h.2 c.now≠none∧posD c h.1<0∧¬ s.1.tb.canTake=true
  | some s'=>∃ new' rest',Alt c f ps (i+1) s' new' rest':=by
 obtain ⟨b1,b2⟩:=a.had ok e hi
 have hm:=List.mem_of_getElem? hi
 have nT:dueF f c.now (c.ct.list.take (i+1))=dueF f c.now (c.ct.list.take i)++(match whenM f h.2 c.now with | some s=>[(h.1,s)] | none=>[]):=by
  rw [takeS hi,dueF_append,dueF_cons]; simp [dueF]
 have uw:s.1.tb.uses.length=200:=by rw [← a.ag.wl]; exact a.wl
 unfold altStep
 cases hw:whenM f h.2 c.now with
 | none =>
  rw [hw] at nT
  simp only
  by_cases h0:0≤posD c h.1
  ·rw [if_pos h0]
   obtain ⟨x,rest',rfl,hx,hn,hg,hl,o⟩:=b1 h0
   have hxh:=a.mem_heap List.mem_cons_self
   obtain ⟨r,hwl⟩:=removedA_wl a.ag hxh
   rw [hg]
   refine ⟨new,rest',r.ok,by rw [← a.wl]; exact hwl,?_,a.due,by rw [nT,List.append_nil]; exact a.newT,o,fun y hy=>a.mem y (List.mem_cons_of_mem _ hy)⟩
   exact ((r.perm.trans a.heap).trans List.perm_middle).cons_inv
  ·rw [if_neg h0]
   exact ⟨new,rest,a.ag,a.wl,a.heap,a.due,by rw [nT,List.append_nil]; exact a.newT,b2 (by omega),a.mem⟩
 | some t =>
  rw [hw] at nT
  simp only
  have ht:okR t:=whenM_okR of kn ok.now hm hw
  by_cases h0:0≤posD c h.1
  ·rw [if_pos h0]
   obtain ⟨x,rest',rfl,hx,hn,hg,hl,o⟩:=b1 h0
   have hxh:=a.mem_heap List.mem_cons_self
   have r:=a.ag.rekeyed (h:=x.h) (t:=t) (a.ag.slot hxh).2.2.2.2 ht
   rw [(find_eq a.ag hxh).2] at r
   rw [hg]
   refine ⟨new++[{ x with at_:=t }],rest',r.ok,?_,?_,?_,?_,o,fun y hy=>a.mem y (List.mem_cons_of_mem _ hy)⟩
   ·exact okA.wl2 r.ok (by rw [r.tb]; exact uw)
   ·have p1:(x :: (rekeyedA s.1 x.h t).heap).Perm (x :: (new++[{ x with at_:=t }]++rest')):=by
     refine r.perm.trans ((List.Perm.cons _ (a.heap.trans List.perm_middle)).trans ?_)
     refine (List.Perm.swap _ _ _).trans (List.Perm.cons _ ?_)
     rw [List.append_assoc]
     exact (List.perm_middle (a:=({ x with at_:=t }:Ev)) (l₁:=new) (l₂:=rest')).symm
    exact p1.cons_inv
   ·rw [a.due,List.map_append]; rfl
   ·rw [nT,a.newT,List.map_append]
    show _++[(h.1,t)]=_++[(x.no,t)]
    rw [hn]
  ·rw [if_neg h0]
   by_cases hc:s.1.tb.canTake=true
   ·rw [if_pos hc]
    have hno:hasA s.1 h.1=false:=by
     unfold hasA
     rw [List.any_eq_false]
     intro y hy hyn
     have hyn:y.no=h.1:=by simpa using hyn
     rcases List.mem_append.1 (a.heap.mem_iff.1 hy) with hy | hy
     ·obtain ⟨h',hm',h1⟩:=dueF_no a.newT hy
      have:=(take_lt ok.incL hi).1 hm'
      omega
     ·obtain ⟨h',hm',h1⟩:=dueF_no (b2 (by omega)) hy
      have:=(take_lt ok.incL hi).2 hm'
      omega
    have bd:=ok.ct.ok.each h hm
    have:=ok.ct.n1
    have pk:=a.ag.pushed (t:=t) (n:=h.1) ht bd.2.1 (by omega) hno hc
    have pp:=pushed_perm (n:=h.1) a.ag ht hc
    refine ⟨new++[⟨t,h.1,nextH s.1⟩],rest,pk,?_,?_,?_,?_,b2 (by omega),a.mem⟩
    ·refine okA.wl2 pk ?_
     show (s.1.tb.taken).uses.length=200
     simpa [Tb.taken] using uw
    ·refine pp.trans ((List.Perm.cons _ a.heap).trans ?_)
     rw [List.append_assoc]
     exact (List.perm_middle (a:=(⟨t,h.1,nextH s.1⟩:Ev)) (l₁:=new) (l₂:=rest)).symm
    ·rw [a.due,List.map_append]; rfl
    ·rw [nT,a.newT,List.map_append]; rfl
   ·rw [if_neg hc]
    exact ⟨by simp,by omega,hc⟩

theorem altL_at (c:Ck) (f:List Pt):∀ (l:List (Int × Int × Int)) (h:Int × Int × Int) (s:Ag × List (Int × Int × Int)),altL c f (l++[h]) s=(altL c f l s).bind (altStep c f h)
 | [],h,s=>by
  show (altStep c f h s).bind (altL c f [])=altStep c f h s
  cases altStep c f h s <;> rfl
 | x :: l,h,s=>by
  show (altStep c f x s).bind (altL c f (l++[h]))=((altStep c f x s).bind (altL c f l)).bind (altStep c f h)
  cases altStep c f x s with
  | none=>rfl
  | some s'=>exact altL_at c f l h s'
theorem altL_none (c:Ck) (f:List Pt):∀ (l m:List (Int × Int × Int)) (s:Ag × List (Int × Int × Int)),altL c f l s=none→altL c f (l++m) s=none
 | [],_,_,h=>by cases h
 | x :: l,m,s,h=>by
  have h:(altStep c f x s).bind (altL c f l)=none:=h
  show (altStep c f x s).bind (altL c f (l++m))=none
  cases hx:altStep c f x s with
  | none=>rfl
  | some s'=>rw [hx] at h; exact altL_none c f l m s' h
theorem altL_stop {c:Ck} {f:List Pt} {i:Nat} {h:Int × Int × Int} {s:Ag × List (Int × Int × Int)} (hi:c.ct.list[i]?=some h) (hs:altL c f (c.ct.list.take i) (c.ag,[])=some s) (hn:altStep c f h s=none):alteredK c f=(.zero,18):=by
 have e:altL c f (c.ct.list.take (i+1)) (c.ag,[])=none:=by rw [takeS hi,altL_at,hs]; exact hn
 have e2:=altL_none c f _ (c.ct.list.drop (i+1)) _ e
 rw [List.take_append_drop] at e2
 unfold alteredK; rw [e2]
theorem Alt.done (ok:okK c) (of:okF f) (kn:knownC c.ct f=true) {s:Ag × List (Int × Int × Int)} {new rest:List Ev} (a:Alt c f ps c.ct.list.length s new rest):okK { c with f:=f,ag:=s.1,due:=s.2 }∧Evs { c with f:=f,ag:=s.1,due:=s.2 } new:=by
 have hr:rest=[]:=by
  have:=a.oldT
  rw [List.drop_length] at this
  exact List.map_eq_nil_iff.1 this.symm
 have hn:=a.newT
 rw [List.take_length] at hn
 have hp:=a.heap
 rw [hr,List.append_nil] at hp
 have ev:Evs { c with f:=f,ag:=s.1,due:=s.2 } new:=⟨hn,a.due,hp⟩
 exact ⟨okK.of ok.now of ok.ct kn a.ag a.wl ev,ev⟩
theorem Alt.upto (ok:okK c) (e:Evs c ps) (of:okF f) (kn:knownC c.ct f=true):∀ (i:Nat),i≤c.ct.list.length→∀ s,altL c f (c.ct.list.take i) (c.ag,[])=some s→∃ new rest,Alt c f ps i s new rest
 | 0,_,s,h=>by cases h; exact ⟨_,_,Alt.start ok e⟩
 | i+1,hi,s,h=>by
  obtain ⟨x,hx⟩:∃ x,c.ct.list[i]?=some x:=⟨_,List.getElem?_eq_getElem (by omega)⟩
  rw [takeS hx,altL_at] at h
  cases h':altL c f (c.ct.list.take i) (c.ag,[]) with
  | none=>rw [h'] at h; cases h
  | some s' =>
   rw [h'] at h
   obtain ⟨new,rest,a⟩:=Alt.upto ok e of kn i (by omega) s' h'
   have st:=a.step ok e of kn hx
   have h:altStep c f x s'=some s:=h
   rw [h] at st
   exact st
theorem okK.altered (ok:okK c) (of:okF f) (kn:knownC c.ct f=true):((alteredK c f).2=0→okK (alteredK c f).1)∧((alteredK c f).2≠0→alteredK c f=(.zero,18)):=by
 obtain ⟨ps,e⟩:=ok.evs
 unfold alteredK
 cases h:altL c f c.ct.list (c.ag,[]) with
 | none=>exact ⟨fun h=>absurd (show (18:Int)=0 from h) (by decide),fun _=>rfl⟩
 | some s =>
  refine ⟨fun _=>?_,fun h=>absurd rfl h⟩
  obtain ⟨new,rest,a⟩:=Alt.upto ok e of kn c.ct.list.length (Nat.le_refl _) s (by rw [List.take_length]; exact h)
  exact (a.done ok of kn).1
end

structure KpS {α:Type} (k:Nat) (f:α→List Value) (H:Hp) (x d:Slc) (xs:List α):Prop where
 rd:Rd k f H x xs
 old:Old H x
 sep:Sep x d
section
variable {α:Type} {k:Nat} {f:α→List Value} {H H':Hp} {x d d':Slc} {xs:List α}
theorem KpS.le (h:KpS k f H x d xs) (l:Hp.le H H'):KpS k f H' x d xs:=⟨h.rd.le l,h.old.le l,h.sep⟩
theorem KpS.app (h:KpS k f H x d xs) (c:Chg H H' d) (e:Ext H d d'):KpS k f H' x d' xs :=
 ⟨h.rd.chg c h.sep,fun p hp=>by rw [c _ (h.old p hp) fun q hq e=>h.sep p q hp hq e.symm]; exact h.old p hp,(h.sep.symm.ext h.old e).symm⟩
theorem KpS.new {e:TypeId} {H0:Hp} (m:Mine k f e H0 H x xs) (hk:∀ x,(f x).length=k) (o:Old H0 d):KpS k f H x d xs:=⟨m.rd hk,m.isOld,(Sep.of o m.isNew).symm⟩
end
structure AgS (H:Hp) (v1 v2 v3 v4 v5 d:Slc) (a:Ag):Prop where
 k1:KpS 1 fI H v1 d a.tb.uses
 k2:KpS 1 fB H v2 d a.tb.used
 k3:KpS 1 fI H v3 d a.tb.free
 k4:KpS 5 fE H v4 d a.heap
 k5:KpS 1 fI H v5 d a.wh
section
variable {H H':Hp} {v1 v2 v3 v4 v5 d d':Slc} {a:Ag}
theorem AgS.rd (h:AgS H v1 v2 v3 v4 v5 d a):RdA H v1 v2 v3 v4 v5 a:=⟨⟨h.k1.rd,h.k2.rd,h.k3.rd⟩,h.k4.rd,h.k5.rd⟩
theorem AgS.le (h:AgS H v1 v2 v3 v4 v5 d a) (l:Hp.le H H'):AgS H' v1 v2 v3 v4 v5 d a:=⟨h.k1.le l,h.k2.le l,h.k3.le l,h.k4.le l,h.k5.le l⟩
theorem AgS.app (h:AgS H v1 v2 v3 v4 v5 d a) (c:Chg H H' d) (e:Ext H d d'):AgS H' v1 v2 v3 v4 v5 d' a:=⟨h.k1.app c e,h.k2.app c e,h.k3.app c e,h.k4.app c e,h.k5.app c e⟩
theorem AgS.new {H0:Hp} (n:NewA H0 H v1 v2 v3 v4 v5 a) (o:Old H0 d):AgS H v1 v2 v3 v4 v5 d a :=
 ⟨KpS.new n.tb.uses (fun _=>rfl) o,KpS.new n.tb.used (fun _=>rfl) o,KpS.new n.tb.free (fun _=>rfl) o,KpS.new n.heap (fun _=>rfl) o,KpS.new n.wh (fun _=>rfl) o⟩
theorem AgS.re {u1 u2 u3 u4 u5:Slc} {b:Ag} (h:AgS H u1 u2 u3 u4 u5 d a) (r:ReA H H' u1 u2 u3 v1 v2 v3 v4 v5 b) (o:Old H d):AgS H' v1 v2 v3 v4 v5 d b:=by
 have k4:KpS 5 fE H' v4 d b.heap:=KpS.new r.my.heap (fun _=>rfl) o
 have k5:KpS 1 fI H' v5 d b.wh:=KpS.new r.my.wh (fun _=>rfl) o
 obtain ⟨t1,t2,t3⟩:=r.tb
 rcases r.or with ⟨rfl,rfl,rfl⟩ | ⟨rfl,rfl,rfl⟩
 ·exact ⟨⟨t1,h.k1.old.le r.le,h.k1.sep⟩,⟨t2,h.k2.old.le r.le,h.k2.sep⟩,⟨t3,h.k3.old.le r.le,h.k3.sep⟩,k4,k5⟩
 ·exact ⟨⟨t1,Old.zs,Sep.nil.symm⟩,⟨t2,Old.zs,Sep.nil.symm⟩,⟨t3,Old.zs,Sep.nil.symm⟩,k4,k5⟩
end

section
variable {c:Ck} {f:List Pt} {ps:List Ev}
theorem Alt.noHas (ok:okK c) (e:Evs c ps) {i:Nat} {s:Ag × List (Int × Int × Int)} {new rest:List Ev} (a:Alt c f ps i s new rest) {h:Int × Int × Int} (hi:c.ct.list[i]?=some h) (h0:posD c h.1<0):hasA s.1 h.1=false:=by
 have b2:=(a.had ok e hi).2 h0
 unfold hasA
 rw [List.any_eq_false]
 intro y hy hyn
 have hyn:y.no=h.1:=by simpa using hyn
 rcases List.mem_append.1 (a.heap.mem_iff.1 hy) with hy | hy
 ·obtain ⟨h',hm',h1⟩:=dueF_no a.newT hy
  have:=(take_lt ok.incL hi).1 hm'
  omega
 ·obtain ⟨h',hm',h1⟩:=dueF_no b2 hy
  have:=(take_lt ok.incL hi).2 hm'
  omega
theorem Alt.push (ok:okK c) (e:Evs c ps) {i:Nat} {s:Ag × List (Int × Int × Int)} {new rest:List Ev} (a:Alt c f ps i s new rest) {h:Int × Int × Int} (hi:c.ct.list[i]?=some h) (h0:posD c h.1<0) {t:Int × Int} (ht:okR t) :
  pushA s.1 t h.1=if s.1.tb.canTake=true then (pushedA s.1 t h.1,nextH s.1,0) else (.zero,(0,0),18):=by
 have hno:=a.noHas ok e hi h0
 have bd:=ok.ct.ok.each h (List.mem_of_getElem? hi)
 have:=ok.ct.n1
 unfold pushA
 rw [if_pos ⟨a.ag,ht⟩,if_neg (by omega),hno,if_neg (by simp)]
theorem dueF_len (f:List Pt) (t:Int × Int) (l:List (Int × Int × Int)):(dueF f t l).length≤l.length:=List.length_filterMap_le _ _
theorem Alt.len (ok:okK c) {i:Nat} {s:Ag × List (Int × Int × Int)} {new rest:List Ev} (a:Alt c f ps i s new rest):s.2.length≤200:=by
 have h1:=congrArg List.length a.newT
 have h2:=dueF_len f c.now (c.ct.list.take i)
 have h3:=ok.ct.len
 rw [a.due]
 simp at h1 h2 ⊢
 omega
end

theorem clockAlter {H:Hp} {u:Cu} {w:Slc} {c:Ck} {f:List Pt} (r:RdK H u c) (fk:fitK c) (hf:Rd 3 fD H w f) :
    Go.Eng.Fn Tryz.prog F.clock_Alter #[ckV u c,vFd w] H fun v H'=>∃ z:Cu,v=.tuple #[ckV z (alterK c f).1,.int .i64 (alterK c f).2]∧Hp.le H H'∧RdK H' z (alterK c f).1:=by
  have lc:=r.cl.len
  have f1:=fk.ct
  refine clock_Alter_vc ⟨_,clockCheck r fk,fun hc=>?_,fun hc=>⟨_,fieldCheck hf,fun hc2=>?_,fun hc2=>?_⟩⟩
  · have hk:¬ okK c:=fun ok=>by rw [chkK_ok ok] at hc; simp at hc
    rw [chkK_bad hk]
    unfold alterK; rw [if_neg hk]
    exact ⟨zu,rfl,Hp.le_refl _,RdK.zero⟩
  · have ok:okK c:=chkK_zero.1 (by simpa using hc)
    have h2:chkF f≠0:=by simpa using hc2
    unfold alterK; rw [if_pos ok,if_neg h2]
    exact ⟨zu,rfl,Hp.le_refl _,RdK.zero⟩
  have ok:okK c:=chkK_zero.1 (by simpa using hc)
  have h2:chkF f=0:=by simpa using hc2
  have of:=chkF_zero.1 h2
  refine upto (N:=c.ct.list.length) (J:=fun i=>∀ y∈c.ct.list.take i.toNat,(!lostX f y.2)=true) (by omega) (by simp) fun i i0 i1 j=>⟨fun hn=>?_,fun hn=>?_⟩
  · have hn:i<c.ct.list.length:=by have:i<u.cl.n:=by simpa using hn
                                   omega
    have hg:=getX (d:=((0:Int),(0:Int),(0:Int))) i0 hn
    refine r.cl.ldD i0 hn ⟨_,_,_,clockPoint hf of,_,_,_,fun _=>clockPoint hf of,fun hb=>?_,fun hb=>upto.nx i0 hn (by omega) ?_⟩
    · rw [pointM_neg of,pointM_neg of] at hb
      have hk:¬ knownC c.ct f=true:=fun h=>by
        rw [knownC_all] at h
        have:=List.all_eq_true.1 h _ (List.mem_of_getElem? hg)
        unfold lostX at this
        rw [hb] at this; cases this
      unfold alterK; rw [if_pos ok,if_pos h2,if_neg hk]
      exact ⟨zu,rfl,Hp.le_refl _,RdK.zero⟩
    · rw [pointM_neg of,pointM_neg of] at hb
      rw [show (i+1).toNat=i.toNat+1 by omega,take_succ hg]
      intro y hy
      rcases List.mem_append.1 hy with hy | hy
      · exact j y hy
      · simp only [List.mem_singleton] at hy; subst hy
        unfold lostX; rw [hb]; rfl
  have hi:i=c.ct.list.length:=by have:¬ i<u.cl.n:=by simpa using hn
                                 omega
  rw [hi,Int.toNat_natCast,List.take_length] at j
  have kn:knownC c.ct f=true:=by rw [knownC_all]; exact List.all_eq_true.2 j
  have ek:alterK c f=alteredK c f:=by unfold alterK; rw [if_pos ok,if_pos h2,if_pos kn]
  rw [ek]
  clear j hi hn i1 i0 i ek
  obtain ⟨ps,e⟩:=ok.evs
  have lf:=of.small
  refine (clockTwin r fk).mono fun v H17 ⟨w0,hv,l17,rw17,m17,s17,o17⟩=>⟨_,_,w0.f,_,w0.cl,w0.u1,w0.u2,w0.u3,w0.u4,w0.u5,w0.d,hv,(clone_pt (hf.le l17) (by omega)).mono fun v H30 ⟨fw,hv,l30,mf⟩=>⟨fw,hv,?_⟩⟩
  have le30:=Hp.le_trans l17 l30
  refine ⟨fun i n1 n2 u37 n38 u39 v1 v2 v3 v4 v5 d H'=>0≤i∧i≤c.ct.list.length∧n1=c.now.1∧n2=c.now.2∧n38=c.ct.next∧Hp.le H H'∧KpS 3 fD H' u37 d f∧KpS 3 fD H' u39 d c.ct.list ∧
      ∃ s,altL c f (c.ct.list.take i.toNat) (c.ag,[])=some s∧AgS H' v1 v2 v3 v4 v5 d s.1∧Mine 3 fD T.api_Due H H' d s.2,
    fun i _ _ _ _ _ _ _ _ _ _ _ _=>(c.ct.list.length-i).toNat,⟨Int.le_refl _,by omega,rfl,rfl,rfl,le30,⟨mf.rdD,mf.isOld,Sep.nil⟩,⟨rw17.cl.le l30,o17.cl.le l30,Sep.nil⟩,(c.ag,[]),rfl,
      ⟨⟨rw17.ag.tb.uses.le l30,o17.u1.le l30,Sep.nil⟩,⟨rw17.ag.tb.used.le l30,o17.u2.le l30,Sep.nil⟩,⟨rw17.ag.tb.free.le l30,o17.u3.le l30,Sep.nil⟩,⟨rw17.ag.heap.le l30,o17.u4.le l30,Sep.nil⟩,⟨rw17.ag.wh.le l30,o17.u5.le l30,Sep.nil⟩⟩,.inl ⟨rfl,rfl⟩⟩,
    fun i n1 n2 u37 n38 u39 v1 v2 v3 v4 v5 d H' ⟨i0,i1,e1,e2,e3,le,kf,kl,s,hs,ags,md⟩=>?_⟩
  subst e1; subst e2; subst e3
  have r46:=r.le le
  have hf46:=hf.le le
  refine ⟨fun hn=>?_,fun hn=>?_⟩
  · have hn:i<c.ct.list.length:=by have:i<u.cl.n:=by simpa using hn
                                   omega
    have hg:=getX (d:=((0:Int),(0:Int),(0:Int))) i0 hn
    obtain ⟨new,rest,a⟩:=Alt.upto ok e of kn i.toNat (by omega) s hs
    obtain ⟨ip,b,hq,hb1,hb2⟩:=clockPlace (n:=(c.ct.list.getD i.toNat (0,0,0)).1) r46 ok
    refine r46.cl.ldD i0 hn ⟨_,_,_,_,clockWhen (x:=(c.ct.list.getD i.toNat (0,0,0)).2) hf46 of fk.now,ip,b,hq,?_⟩
    generalize c.ct.list.getD i.toNat (0,0,0)=x at hg hq hb1 hb2 ⊢
    obtain ⟨p1,p2⟩:=knownC_at kn (List.mem_of_getElem? hg)
    have hv:=(ok.ct.ok.each x (List.mem_of_getElem? hg)).1
    have hne:x.2.1≠x.2.2:=by
      unfold validC at hv
      simp only [Bool.and_eq_true,bne_iff_ne] at hv
      exact hv.2
    rw [whenP_known of ok.now p1 p2 hne]
    have al:=a.len ok
    have had:=a.had ok e hg
    have wok:=whenM_okR (h:=x) of kn ok.now (List.mem_of_getElem? hg) (s:=o2 (whenM f x.2 c.now))
    have nx:∀ {z1 z2 z3 z4 z5 d':Slc} {H2:Hp} {s':Ag × List (Int × Int × Int)},Hp.le H H2→KpS 3 fD H2 u37 d' f→KpS 3 fD H2 u39 d' c.ct.list→altStep c f x s=some s'→AgS H2 z1 z2 z3 z4 z5 d' s'.1→Mine 3 fD T.api_Due H H2 d' s'.2 →
        inI (i+1)∧(0≤i+1∧i+1≤c.ct.list.length∧c.now.1=c.now.1∧c.now.2=c.now.2∧c.ct.next=c.ct.next∧Hp.le H H2∧KpS 3 fD H2 u37 d' f∧KpS 3 fD H2 u39 d' c.ct.list ∧
          ∃ s,altL c f (c.ct.list.take (i+1).toNat) (c.ag,[])=some s∧AgS H2 z1 z2 z3 z4 z5 d' s.1∧Mine 3 fD T.api_Due H H2 d' s.2)∧(c.ct.list.length-(i+1)).toNat<(c.ct.list.length-i).toNat:=by
      intro z1 z2 z3 z4 z5 d' H2 s' g1 g2 g3 g4 g5 g6
      refine ⟨by unfold inI; omega,⟨by omega,by omega,rfl,rfl,rfl,g1,g2,g3,s',?_,g5,g6⟩,by omega⟩
      rw [show (i+1).toNat=i.toNat+1 by omega,takeS hg,altL_at,hs]
      exact g4
    cases hw:whenM f x.2 c.now with
    | some t =>
      have ht:okR t:=whenM_okR of kn ok.now (List.mem_of_getElem? hg) hw
      cases b with
      | true =>
        refine ⟨fun _=>?_,fun h=>by simp at h⟩
        obtain ⟨h0,rfl⟩:=hb1 rfl
        obtain ⟨y,rest',hr,hy,hyn,hgd,hlt,_⟩:=had.1 h0
        have hyh:=a.mem_heap (x:=y) (by rw [hr]; exact List.mem_cons_self)
        have hlv:=(a.ag.slot hyh).2.2.2.2
        have hgd':c.due.getD (posD c x.1).toNat (0,0,0)=nh y:=hgd
        have g2:=r46.due.gD2 h0 hlt
        rw [hgd'] at g2
        have er:rekeyA s.1 y.h t=(rekeyedA s.1 y.h t,0):=by unfold rekeyA; rw [if_pos ⟨a.ag,ht⟩,if_pos hlv]
        refine ⟨r46.due.inS h0 hlt,_,_,g2,(agendaRekey (h:=y.h) (t:=t) ags.rd (okA.fitG a.ag) ht.fit).mono fun v H59 ⟨z1,z2,z3,z4,z5,hv,re⟩=>⟨re.le,z1,z2,z3,z4,z5,_,hv,r46.due.inS h0 hlt,?_⟩⟩
        have g1:=(r46.due.le re.le).gD h0 hlt
        rw [hgd'] at g1
        rw [er] at re ⊢
        refine ⟨_,_,_,g1,fun b69 H70 hb69 hH=>?_⟩
        refine (append1 (k:=3) (f:=fD) (bytes:=24) (x:=nh y) (e:=T.api_Due) (by kernel_rfl) (by decide) (fun _=>rfl) fD_one (Hp.le_trans le re.le) (md.le re.le) hb69 hH rfl (by omega) (by omega)).mono fun v H72 ⟨d',hv,l72,m72,c72,e72⟩=>⟨d',hv,fun h=>by simp at h,fun _=>?_⟩
        refine nx (s':=(rekeyedA s.1 y.h t,s.2++[nh y])) l72 ((kf.le re.le).app c72 e72) ((kl.le re.le).app c72 e72) ?_ ((ags.re re md.isOld).app c72 e72) m72
        unfold altStep; rw [hw]; simp only; rw [if_pos h0,hgd]; rfl
      | false =>
        refine ⟨fun h=>by simp at h,fun _=>⟨fun _=>?_,fun h=>by simp at h⟩⟩
        have h0:=hb2 rfl
        have hp:=a.push ok e hg h0 ht
        refine (agendaPush (t:=t) (n:=x.1) ags.rd (okA.fitG a.ag) ht.fit).mono fun v H75 ⟨z1,z2,z3,z4,z5,hv,na⟩=>⟨z1,z2,z3,z4,z5,_,_,_,hv,fun b84 H85 hb84 hH=>?_⟩
        refine (append1 (k:=3) (f:=fD) (bytes:=24) (x:=(x.1,(pushA s.1 t x.1).2.1)) (e:=T.api_Due) (by kernel_rfl) (by decide) (fun _=>rfl) fD_one (Hp.le_trans le na.le) (md.le na.le) hb84 hH rfl (by omega) (by omega)).mono fun v H87 ⟨d',hv,l87,m87,c87,e87⟩=>⟨d',hv,fun h=>?_,fun h=>?_⟩
        · by_cases hct:s.1.tb.canTake=true
          · rw [hp,if_pos hct] at h; simp at h
          · rw [hp,if_neg hct]
            have es:=altL_stop hg hs (by unfold altStep; rw [hw]; simp only; rw [if_neg (by omega),if_neg hct])
            rw [es]; exact ⟨zu,rfl,l87,RdK.zero⟩
        · by_cases hct:s.1.tb.canTake=true
          · rw [hp,if_pos hct] at na m87
            refine nx (s':=(pushedA s.1 t x.1,s.2++[(x.1,nextH s.1)])) l87 ((kf.le na.le).app c87 e87) ((kl.le na.le).app c87 e87) ?_ ((AgS.new na md.isOld).app c87 e87) m87
            unfold altStep; rw [hw]; simp only; rw [if_neg (by omega),if_pos hct]
          · rw [hp,if_neg hct] at h; simp at h
    | none =>
      refine ⟨fun h=>by simp at h,fun _=>⟨fun h=>by simp at h,fun _=>?_⟩⟩
      cases b with
      | true =>
        refine ⟨fun _=>?_,fun h=>by simp at h⟩
        obtain ⟨h0,rfl⟩:=hb1 rfl
        obtain ⟨y,rest',hr,hy,hyn,hgd,hlt,_⟩:=had.1 h0
        have hyh:=a.mem_heap (x:=y) (by rw [hr]; exact List.mem_cons_self)
        have hgd':c.due.getD (posD c x.1).toNat (0,0,0)=nh y:=hgd
        have g2:=r46.due.gD2 h0 hlt
        rw [hgd'] at g2
        refine ⟨r46.due.inS h0 hlt,_,_,g2,(agendaRemove (h:=y.h) ags.rd (okA.fitG a.ag)).mono fun v H92 ⟨z1,z2,z3,z4,z5,hv,na⟩=>⟨na.le,z1,z2,z3,z4,z5,_,_,_,_,_,_,hv,?_⟩⟩
        rw [removeA_at a.ag hyh] at na ⊢
        refine ⟨fun h=>by simp at h,fun _=>nx (s':=(removedA s.1 y.h,s.2)) (Hp.le_trans le na.le) (kf.le na.le) (kl.le na.le) ?_ (AgS.new na md.isOld) (md.le na.le)⟩
        unfold altStep; rw [hw]; simp only; rw [if_pos h0,hgd]; rfl
      | false =>
        have h0:=hb2 rfl
        refine ⟨fun h=>by simp at h,fun _=>⟨fun h=>by simp at h,fun _=>nx (s':=s) le kf kl ?_ ags md⟩⟩
        unfold altStep; rw [hw]; simp only; rw [if_neg (by omega)]
  · have hi:i=c.ct.list.length:=by have:¬ i<u.cl.n:=by simpa using hn
                                   omega
    rw [hi,Int.toNat_natCast,List.take_length] at hs
    have es:alteredK c f=({ c with f:=f,ag:=s.1,due:=s.2 },0):=by unfold alteredK; rw [hs]
    rw [es]
    exact ⟨⟨u37,u39,v1,v2,v3,v4,v5,d⟩,rfl,le,kf.rd,kl.rd,ags.rd,md.rdD⟩



section
variable {c:Ck} {t:Int × Int}
end


theorem okK.dueLen {c:Ck} (ok:okK c):c.due.length=(dueF c.f c.now c.ct.list).length:=by
 obtain ⟨ps,e⟩:=ok.evs
 rw [e.due,e.at_]; simp
theorem okK.dueLe {c:Ck} (ok:okK c):c.due.length≤c.ct.list.length:=by
 rw [ok.dueLen]; exact List.length_filterMap_le _ _

end Go.Proofs.YtjhbjjdipmpgjaaGreat
end
