/- The engine, parts PR, PW, PV, put together. Conditions: none. -/
import Derived.Test.YtbbdplfkiioppaaGreatMC
import Derived.Test.YtbbdplfkiioppaaGreatPN2
import Derived.Test.YtbbdplfkiioppaaGreatQB
import Derived.Test.YtbbdplfkiioppaaGreatPS1
set_option linter.unusedVariables false
section
/- Meetings in order, reigns and who reigns, in plain words. Conditions: none. -/
set_option maxRecDepth 100000
open Go Go.Eng Go.Proofs
namespace Go.Proofs.YtbbdplfkiioppaaGreat

/-! ### Meetings in order -/
def mtPr (m:Mt):Pr:=(m.2.1,m.2.2,m.1)
def metsM (f:List Pt):List Pr:=sortP ((metL f).map mtPr)
def betweenM (f:List Pt) (a b:Int × Int):List Pr:=(metsM f).filter fun x=>inT a b x.2.2
theorem metR_ok {p:Pt} (op:okP p):∀ ps:List Pt,(∀ q∈ps,okP q)→∀ m∈metR p ps,okR m.1
 | [],_,m,hm=>by cases hm
 | q :: ps,h,m,hm=>by
  have ih:=metR_ok op ps fun x hx=>h x (List.mem_cons_of_mem _ hx)
  unfold metR at hm ih
  rw [List.filterMap_cons] at hm
  by_cases e:p.2.2=q.2.2
  ·rw [if_pos e] at hm; exact ih m hm
  ·rw [if_neg e] at hm
   rcases List.mem_cons.1 hm with rfl | hm
   ·have oq:=h q List.mem_cons_self
    show okR (atP p q)
    have o0:okR (0,1):=⟨by decide,by decide,by decide,by decide,by decide⟩
    rcases Int.lt_or_le p.2.2 q.2.2 with hl | hl
    ·exact (met_lead op oq hl o0).1
    ·rw [atP_sym e]; exact (met_lead oq op (show q.2.2<p.2.2 by omega) o0).1
   ·exact ih m hm
theorem metL_ok:∀ f:List Pt,(∀ q∈f,okP q)→∀ m∈metL f,okR m.1
 | [],_,m,hm=>by cases hm
 | p :: f,h,m,hm=>by
  have hm:m∈metR p f++metL f:=hm
  rcases List.mem_append.1 hm with hm | hm
  ·exact metR_ok (h p List.mem_cons_self) f (fun q hq=>h q (List.mem_cons_of_mem _ hq)) m hm
  ·exact metL_ok f (fun q hq=>h q (List.mem_cons_of_mem _ hq)) m hm
theorem metPr_ok {f:List Pt} (of:okF f):∀ y∈(metL f).map mtPr,okPr y:=fun y hy=>by
 obtain ⟨m,hm,rfl⟩:=List.mem_map.1 hy
 exact metL_ok f of.each m hm
theorem metsM_ok {f:List Pt} (of:okF f):∀ y∈metsM f,okPr y:=fun y hy=>metPr_ok of y ((sortP_perm _).mem_iff.1 hy)
theorem metsM_srt {f:List Pt} (of:okF f):Srt clP (metsM f):=sortP_srt (metPr_ok of)
theorem betweenM_len (f:List Pt) (a b:Int × Int):(betweenM f a b).length=(metL f).countP fun m=>inT a b m.1:=by
 unfold betweenM metsM
 rw [← List.countP_eq_length_filter,(sortP_perm _).countP_eq,List.countP_map]
 rfl
theorem betweenM_ok {f:List Pt} (of:okF f) {a b:Int × Int}:∀ y∈betweenM f a b,okR y.2.2∧¬ leR y.2.2 a∧leR y.2.2 b:=fun y hy=>by
 obtain ⟨h1,h2⟩:=List.mem_filter.1 hy
 unfold inT at h2
 rw [Bool.and_eq_true,Bool.not_eq_true',decide_eq_false_iff_not,decide_eq_true_eq,cmpR_le,cmpR_le] at h2
 exact ⟨metsM_ok of y h1,h2.1,h2.2⟩
theorem swaps_between {l:Ls} (ok:okLs l) {to:Int × Int} (hu:untilK l.ck to=0):swapsM l to=(betweenM l.ck.f l.ck.now to).length:=by
 rw [swaps_met ok hu,betweenM_len]

/-! ### Filters of a sorted list in two parts -/
theorem filter_split {α:Type} {p q r:α→Bool}:∀ {l:List α},(∀ x∈l,r x=(p x||q x))→(∀ x∈l,p x=true→q x=false)→(l.Pairwise fun x y=>q x=true→p y=false)→l.filter r=l.filter p++l.filter q
 | [],_,_,_=>rfl
 | x :: l,h1,h2,h3=>by
  obtain ⟨h3a,h3b⟩:=List.pairwise_cons.1 h3
  have ih:=filter_split (l:=l) (fun y hy=>h1 y (List.mem_cons_of_mem _ hy)) (fun y hy=>h2 y (List.mem_cons_of_mem _ hy)) h3b
  have e:=h1 x List.mem_cons_self
  cases hp:p x with
  | true =>
   have hq:=h2 x List.mem_cons_self hp
   rw [hp,hq] at e
   rw [List.filter_cons_of_pos e,List.filter_cons_of_pos hp,List.filter_cons_of_neg (by rw [hq]; simp),ih]; rfl
  | false =>
   cases hq:q x with
   | true =>
    rw [hp,hq] at e
    have none:l.filter p=[]:=List.filter_eq_nil_iff.2 fun y hy=>by rw [h3a y hy hq]; simp
    rw [List.filter_cons_of_pos e,List.filter_cons_of_neg (by rw [hp]; simp),List.filter_cons_of_pos hq,ih,none]; rfl
   | false =>
    rw [hp,hq] at e
    rw [List.filter_cons_of_neg (by rw [e]; simp),List.filter_cons_of_neg (by rw [hp]; simp),List.filter_cons_of_neg (by rw [hq]; simp),ih]
theorem inT_iff {a b m:Int × Int}:inT a b m=true↔¬ leR m a∧leR m b:=by
 unfold inT
 rw [Bool.and_eq_true,Bool.not_eq_true',decide_eq_false_iff_not,decide_eq_true_eq,cmpR_le,cmpR_le]
theorem between_split {f:List Pt} (of:okF f) {a b c:Int × Int} (oa:okR a) (ob:okR b) (oc:okR c) (h1:leR a b) (h2:leR b c):betweenM f a c=betweenM f a b++betweenM f b c:=by
 unfold betweenM
 refine filter_split (fun x hx=>?_) (fun x hx h=>?_) ?_
 ·have ox:=metsM_ok of x hx
  rw [Bool.eq_iff_iff,Bool.or_eq_true,inT_iff,inT_iff,inT_iff]
  constructor
  ·rintro ⟨x1,x2⟩
   by_cases hb:leR x.2.2 b
   ·exact .inl ⟨x1,hb⟩
   ·exact .inr ⟨hb,x2⟩
  ·rintro (⟨x1,x2⟩ | ⟨x1,x2⟩)
   ·exact ⟨x1,leR_trans ox ob oc x2 h2⟩
   ·exact ⟨fun h=>x1 (leR_trans ox oa ob h h1),x2⟩
 ·have h:=inT_iff.1 h
  cases e:inT b c x.2.2 with
  | false=>rfl
  | true=>exact absurd h.2 (inT_iff.1 e).1
 ·refine List.Pairwise.imp_of_mem (fun {x y} hx hy h hq=>?_) (metsM_srt of)
  have hle:=(clP_no.1 h).1
  have ox:=metsM_ok of x hx
  have oy:=metsM_ok of y hy
  have hq:=inT_iff.1 hq
  cases e:inT a b y.2.2 with
  | false=>rfl
  | true=>exact absurd (leR_trans ox oy ob hle (inT_iff.1 e).2) hq.1

/-! ### The next event is the next meeting -/
theorem advd2 {l:Ls} {to:Int × Int} (ok:okLs l) (hu:untilK l.ck to=0) {k:Nat} (r:Room l.ck (k+3 * swapsM l to)):Advd l to k:=by
 obtain ⟨m,a⟩:=adv_room (swapsM l to) k l ok.weak hu rfl r
 have ea:advM l to=(movedL m to,(swapsM l to:Int),0):=by
  unfold advM
  rw [if_pos ok,if_pos hu,a.e,if_pos rfl]
 have o:=a.okm.moved a.u a.w
 refine ⟨by rw [ea],by rw [ea],by rw [ea]; exact o,by rw [ea]; rfl,by rw [ea]; exact a.fe,?_,by rw [ea]; exact a.room.at _⟩
 rw [ea]
 show m.ord=_
 have:=o.ord
 rw [← a.fe]; exact this
theorem calm_swaps {l:Ls} (ok:okLs l) {to:Int × Int} (hu:untilK l.ck to=0) (hw:waitsK l.ck to=false):swapsM l to=0:=by
 have o:=ok.weak.moved hu hw
 have eo:l.ord=ordM l.ck.f to:=o.ord
 unfold swapsM
 rw [eo]; exact inv_done ok.ck.f to
theorem waits_swaps {l:Ls} (ok:okLs l) {to:Int × Int} (ot:okR to) (hw:waitsK l.ck to=true):0<swapsM l to:=by
 obtain ⟨i,s⟩:=swap_ok ok.weak ot hw
 have lt:=s.lt
 have nl:=ok.weak.nl
 have:=invL_swap (rkT l.ck.f to) (o:=l.ord) (i:=i) (by omega) s.rk
 unfold swapsM; omega
structure NextAt (l:Ls) (t:Int × Int):Prop where
 e:kNextM l=(t,0)
 ot:okR t
 gt:¬ leR t l.ck.now
 h0:0<l.ck.ag.heap.length
 at0:(hp l.ck.ag.heap 0).at_=t
theorem next_none {l:Ls} (ok:okLs l) (h:(kNextM l).2≠0) (to:Int × Int):waitsK l.ck to=false:=by
 unfold kNextM at h
 rw [if_pos ok] at h
 split at h
 ·rename_i h0
  unfold waitsK; rw [h0]; rfl
 ·exact absurd rfl h
theorem next_some {l:Ls} (ok:okLs l) (h:(kNextM l).2=0):NextAt l (kNextM l).1:=by
 unfold kNextM at h ⊢
 rw [if_pos ok] at h ⊢
 by_cases h0:l.ck.ag.heap.length=0
 ·rw [if_pos h0] at h; cases h
 ·rw [if_neg h0]
  have e:kNextM l=((hp l.ck.ag.heap 0).at_,0):=by unfold kNextM; rw [if_pos ok,if_neg h0]
  refine ⟨e,(ok.ck.ag.each _ (hp_mem (by omega))).1,fun hle=>?_,by omega,rfl⟩
  have hq:=ok.quiet
  unfold waitsK at hq
  rw [decide_eq_true (show 0<l.ck.ag.heap.length by omega),Bool.true_and,decide_eq_false_iff_not,cmpR_le] at hq
  exact hq hle
theorem NextAt.waits {l:Ls} {t u:Int × Int} (n:NextAt l t):waitsK l.ck u=true↔leR t u:=by
 unfold waitsK
 rw [decide_eq_true n.h0,Bool.true_and,decide_eq_true_eq,cmpR_le,n.at0]
theorem NextAt.until {l:Ls} {t u:Int × Int} (n:NextAt l t) (ok:okLs l) (ou:okR u) (h:leR t u):untilK l.ck u=0 :=
 untilK_zero.2 ⟨ok.ck,ou,leR_trans ok.ck.now n.ot ou ((leR_total l.ck.now t).resolve_right n.gt) h⟩
theorem NextAt.mets {l:Ls} {t:Int × Int} (n:NextAt l t) (ok:okLs l):betweenM l.ck.f l.ck.now t≠[]∧∀ x∈betweenM l.ck.f l.ck.now t,x.2.2=t:=by
 have hu:=n.until ok n.ot (leR_refl t)
 refine ⟨fun e=>?_,fun x hx=>?_⟩
 ·have h1:=swaps_between ok hu
  rw [e] at h1
  have:=waits_swaps ok n.ot (n.waits.2 (leR_refl t))
  rw [h1] at this; exact Nat.lt_irrefl _ this
 ·obtain ⟨ox,h1,h2⟩:=betweenM_ok ok.ck.f x hx
  by_cases h:leR t x.2.2
  ·exact okR_eq ox n.ot h2 h
  ·exfalso
   have hw:waitsK l.ck x.2.2=false:=by
    cases e:waitsK l.ck x.2.2 with
    | false=>rfl
    | true=>exact absurd (n.waits.1 e) h
   have hu2:untilK l.ck x.2.2=0:=untilK_zero.2 ⟨ok.ck,ox,(leR_total l.ck.now x.2.2).resolve_right h1⟩
   have c0:=calm_swaps ok hu2 hw
   rw [swaps_between ok hu2] at c0
   have hm:x∈betweenM l.ck.f l.ck.now x.2.2:=List.mem_filter.2 ⟨(List.mem_filter.1 hx).1,inT_iff.2 ⟨h1,leR_refl _⟩⟩
   rw [List.length_eq_zero_iff.1 c0] at hm
   cases hm

/-! ### Reigns -/
abbrev Ld:=(Int × Int) × Int
def zLd:Ld:=((0,0),0)
def lastL (out:List Ld):Ld:=out.getD (out.length-1) zLd
theorem lastL_snoc (out:List Ld) (x:Ld):lastL (out++[x])=x:=by
 unfold lastL
 rw [List.length_append,List.length_singleton,List.getD_eq_getElem?_getD,List.getElem?_append_right (by omega)]
 simp
def refLead (key:Int × Int→Int) (out:List Ld) (t:Int × Int):List Ld:=if key t≠(lastL out).2 then out++[(t,key t)] else out
theorem refLead_last (key:Int × Int→Int) (out:List Ld) (t:Int × Int):(lastL (refLead key out t)).2=key t:=by
 unfold refLead
 split
 ·rw [lastL_snoc]
 ·rename_i h; exact (Decidable.not_not.1 h).symm
theorem refLead_idem (key:Int × Int→Int) (out:List Ld) (t:Int × Int):refLead key (refLead key out t) t=refLead key out t:=by
 have h:=refLead_last key out t
 generalize refLead key out t=o at h ⊢
 unfold refLead
 rw [if_neg (by rw [h]; simp)]
theorem refLead_same {key:Int × Int→Int} {t:Int × Int}:∀ {ts:List Pr} {out:List Ld},(∀ x∈ts,x.2.2=t)→(lastL out).2=key t→ts.foldl (fun o x=>refLead key o x.2.2) out=out
 | [],_,_,_=>rfl
 | x :: ts,out,h,hl=>by
  have e:refLead key out x.2.2=out:=by
   rw [h x List.mem_cons_self]
   unfold refLead; rw [if_neg (by rw [hl]; simp)]
  rw [List.foldl_cons,e]
  exact refLead_same (fun y hy=>h y (List.mem_cons_of_mem _ hy)) hl
theorem refLead_same1 {key:Int × Int→Int} {t:Int × Int} {ts:List Pr} {out:List Ld} (hne:ts≠[]) (h:∀ x∈ts,x.2.2=t):ts.foldl (fun o x=>refLead key o x.2.2) out=refLead key out t:=by
 cases ts with
 | nil=>exact absurd rfl hne
 | cons x ts =>
  rw [List.foldl_cons,h x List.mem_cons_self]
  exact refLead_same (fun y hy=>h y (List.mem_cons_of_mem _ hy)) (refLead_last key out t)
def keyM (f:List Pt) (k:Nat) (t:Int × Int):Int:=(ordM f t).getD k 0
def leadS (k:Nat) (out:List Ld) (x:Ls):List Ld:=if out.length=0∨(lastL out).2≠x.ord.getD k 0 then out++[(x.ck.now,x.ord.getD k 0)] else out
theorem leadS_ref {k:Nat} {out:List Ld} {x:Ls} (ok:okLs x) (hne:out.length≠0):leadS k out x=refLead (keyM x.ck.f k) out x.ck.now:=by
 have e:x.ord.getD k 0=keyM x.ck.f k x.ck.now:=by unfold keyM; rw [← ok.ord]
 unfold leadS refLead
 rw [e]
 by_cases h:keyM x.ck.f k x.ck.now=(lastL out).2
 ·rw [if_neg (fun c=>c.elim hne fun c=>c h.symm),if_neg (by rw [h]; simp)]
 ·rw [if_pos (.inr fun e=>h e.symm),if_pos h]
theorem leadS_len {k:Nat} {out:List Ld} {x:Ls} (hne:out.length≠0):(leadS k out x).length≠0:=by
 unfold leadS
 split
 ·simp
 ·exact hne
def runS (to:Int × Int):Nat→Ls→List Ls
 | 0,l=>[l]
 | n+1,l=>if (kNextM l).2=0∧leR (kNextM l).1 to∧(stepL l).2.2=0 then l :: runS to n (stepL l).1 else [l]
structure Stepped (l:Ls) (to:Int × Int) (k:Nat):Prop where
 z:(stepL l).2.2=0
 ok:okLs (stepL l).1
 fe:(stepL l).1.ck.f=l.ck.f
 now:(stepL l).1.ck.now=(kNextM l).1
 unt:untilK (stepL l).1.ck to=0
 room:Room (stepL l).1.ck (k+3 * swapsM (stepL l).1 to)
 less:swapsM (stepL l).1 to<swapsM l to
 btw:betweenM l.ck.f l.ck.now to=betweenM l.ck.f l.ck.now (kNextM l).1++betweenM l.ck.f (kNextM l).1 to
theorem stepped {l:Ls} (ok:okLs l) {to:Int × Int} (ot:okR to) {k:Nat} (r:Room l.ck (k+3 * swapsM l to)) (hz:(kNextM l).2=0) (hle:leR (kNextM l).1 to):Stepped l to k:=by
 have n:=next_some ok hz
 have hu:=n.until ok n.ot (leR_refl _)
 have hto:=n.until ok ot hle
 have hnt:=(untilK_zero.1 hu).2.2
 have sp:=between_split ok.ck.f ok.ck.now n.ot ot hnt hle
 have es:stepL l=advM l (kNextM l).1:=by unfold stepL; rw [if_neg (by rw [hz]; simp)]
 have c1:=swaps_between ok hu
 have c2:=swaps_between ok hto
 rw [sp,List.length_append,← c1] at c2
 have a:=advd2 ok hu (k:=k+3 * (betweenM l.ck.f (kNextM l).1 to).length) (r.less (by omega))
 have hm:untilK (advM l (kNextM l).1).1.ck to=0:=untilK_zero.2 ⟨a.ok.ck,ot,by rw [a.now]; exact hle⟩
 have c3:=swaps_between a.ok hm
 rw [a.now,a.f] at c3
 have pos:=waits_swaps ok n.ot (n.waits.2 (leR_refl _))
 have az:=a.z; have ao:=a.ok; have af:=a.f; have an:=a.now; have ar:=a.room
 rw [← es] at az ao af an ar hm c3
 exact ⟨az,ao,af,an,hm,by rw [c3]; exact ar,by omega,sp⟩
theorem runS_head (to:Int × Int) (n:Nat) (l:Ls):∃ tl,runS to n l=l :: tl:=by
 cases n with
 | zero=>exact ⟨[],rfl⟩
 | succ n =>
  unfold runS
  split
  ·exact ⟨_,rfl⟩
  ·exact ⟨[],rfl⟩
theorem reign_run {to:Int × Int} (ot:okR to) {ix:Nat}:∀ (n:Nat) (l:Ls) (k:Nat) (out:List Ld),okLs l→untilK l.ck to=0→Room l.ck (k+3 * swapsM l to)→swapsM l to≤n→out.length≠0→(lastL out).2=keyM l.ck.f ix l.ck.now →
  (runS to n l).foldl (leadS ix) out=(betweenM l.ck.f l.ck.now to).foldl (fun o x=>refLead (keyM l.ck.f ix) o x.2.2) out
 | n,l,k,out,ok,hu,r,hn,hne,hl=>by
  have first:leadS ix out l=out:=by
   rw [leadS_ref ok hne]
   unfold refLead; rw [if_neg (by rw [hl]; simp)]
  by_cases hg:(kNextM l).2=0∧leR (kNextM l).1 to
  ·have s:=stepped ok ot r hg.1 hg.2
   have nx:=next_some ok hg.1
   cases n with
   | zero=>have:=s.less; omega
   | succ n =>
    have e:runS to (n+1) l=l :: runS to n (stepL l).1:=by
     show (if _ then _ else _)=_
     rw [if_pos ⟨hg.1,hg.2,s.z⟩]
    obtain ⟨m1,m2⟩:=nx.mets ok
    rw [e,List.foldl_cons,first,s.btw,List.foldl_append,refLead_same1 m1 m2]
    have ih:=reign_run ot n (stepL l).1 k (refLead (keyM l.ck.f ix) out (kNextM l).1) s.ok s.unt s.room (by have:=s.less; omega) (by unfold refLead; split; (simp); (exact hne)) (by rw [refLead_last,s.fe,s.now])
    rw [s.fe,s.now] at ih
    rw [← ih]
    obtain ⟨tl,et⟩:=runS_head to n (stepL l).1
    rw [et,List.foldl_cons,List.foldl_cons]
    have f1:leadS ix out (stepL l).1=refLead (keyM l.ck.f ix) out (kNextM l).1:=by rw [leadS_ref s.ok hne,s.fe,s.now]
    have hne2:(refLead (keyM l.ck.f ix) out (kNextM l).1).length≠0:=by rw [← f1]; exact leadS_len hne
    have f2:leadS ix (refLead (keyM l.ck.f ix) out (kNextM l).1) (stepL l).1=refLead (keyM l.ck.f ix) out (kNextM l).1:=by
     rw [leadS_ref s.ok hne2,s.fe,s.now,refLead_idem]
    rw [f1,f2]
  ·have e:runS to n l=[l]:=by
    cases n with
    | zero=>rfl
    | succ n =>
     show (if _ then _ else _)=_
     rw [if_neg fun h=>hg ⟨h.1,h.2.1⟩]
   have hw:waitsK l.ck to=false:=by
    by_cases hz:(kNextM l).2=0
    ·cases ew:waitsK l.ck to with
     | false=>rfl
     | true=>exact absurd ⟨hz,(next_some ok hz).waits.1 ew⟩ hg
    ·exact next_none ok hz to
   have c0:=calm_swaps ok hu hw
   rw [swaps_between ok hu] at c0
   rw [e,List.length_eq_zero_iff.1 c0]
   exact first

def reignL (l:Ls) (ix:Nat) (to:Int × Int):List Ld:=(betweenM l.ck.f l.ck.now to).foldl (fun o x=>refLead (keyM l.ck.f ix) o x.2.2) [(l.ck.now,keyM l.ck.f ix l.ck.now)]
def reignM (l:Ls) (k:Int) (to:Int × Int):List Ld × Int:=if okLs l then (if untilK l.ck to≠0 then ([],untilK l.ck to) else if (kthM l k).2≠0 then ([],(kthM l k).2) else (reignL l k.toNat to,0)) else ([],8)
theorem reign_anew {l:Ls} (ok:okLs l) {to:Int × Int} (hu:untilK l.ck to=0) (ix:Nat):(runS to 4096 (buildL l.ck.f l.ck.now).1).foldl (leadS ix) []=reignL l ix to:=by
 have ht:timedF l.ck.f l.ck.now=0:=timedF_zero.2 ⟨ok.ck.f,ok.ck.now⟩
 obtain ⟨_,ot,hle⟩:=untilK_zero.1 hu
 obtain ⟨_,bo,bfe,bnow,bord,broom⟩:=built ht
 generalize (buildL l.ck.f l.ck.now).1=m at bo bfe bnow bord broom ⊢
 have hm:untilK m.ck to=0:=untilK_zero.2 ⟨bo.ck,ot,by rw [bnow]; exact hle⟩
 have sl:=swapsM_le bo to
 obtain ⟨tl,et⟩:=runS_head to 4096 m
 have e0:leadS ix [] m=[(l.ck.now,keyM l.ck.f ix l.ck.now)]:=by
  unfold leadS
  rw [if_pos (.inl rfl),bnow]
  have:m.ord.getD ix 0=keyM l.ck.f ix l.ck.now:=by unfold keyM; rw [bord]
  rw [this]; rfl
 have key:=reign_run ot (ix:=ix) 4096 m 0 [(l.ck.now,keyM l.ck.f ix l.ck.now)] bo hm (broom.less (by omega)) sl (by simp) (by rw [bfe,bnow]; rfl)
 rw [bfe,bnow] at key
 have l1:leadS ix [(l.ck.now,keyM l.ck.f ix l.ck.now)] m=[(l.ck.now,keyM l.ck.f ix l.ck.now)]:=by
  rw [leadS_ref bo (by simp),bfe,bnow]
  unfold refLead; rw [if_neg (by simp [lastL])]
 rw [et,List.foldl_cons,l1] at key
 rw [et,List.foldl_cons,e0]
 exact key

/-! ### Between meetings the order stays -/
/-! ### Who reigns -/
def ldOk:List Ld→Bool
 | []=>true
 | x :: r=>decide (okR x.1)&&(match r with
  | []=>true
  | y :: _=>decide (cmpR x.1 y.1<0))&&ldOk r
def whoI (r:List Ld) (t:Int × Int):Int:=r.foldl (fun id x=>if cmpR x.1 t≤0 then x.2 else id) 0
def whoM (r:List Ld) (t:Int × Int):Int × Int:=if r.length=0∨¬ okR t∨ldOk r=false then (0,8) else if cmpR t (r.getD 0 zLd).1<0 then (0,44) else (whoI r t,0)
theorem whoI_snoc (r:List Ld) (x:Ld) (t:Int × Int):whoI (r++[x]) t=if cmpR x.1 t≤0 then x.2 else whoI r t:=by
 unfold whoI
 rw [List.foldl_append]; rfl
/-! ### Each point at one index -/
/-! ### As many ahead as the index says -/

theorem ldOk_iff:∀ {r:List Ld},ldOk r=true↔(∀ i,i<r.length→okR (r.getD i zLd).1)∧∀ i,i+1<r.length→cmpR (r.getD i zLd).1 (r.getD (i+1) zLd).1<0
 | []=>⟨fun _=>⟨fun i h=>by simp at h,fun i h=>by simp at h⟩,fun _=>rfl⟩
 | [x]=>by
  have e:ldOk [x]=(decide (okR x.1)&&true&&true):=rfl
  rw [e,Bool.and_true,Bool.and_true,decide_eq_true_eq]
  refine ⟨fun h=>⟨fun i hi=>?_,fun i hi=>?_⟩,fun h=>h.1 0 (by simp)⟩
  ·have:i=0:=by simpa using hi
   subst this; exact h
  ·simp at hi
 | x :: y :: r=>by
  have e:ldOk (x :: y :: r)=(decide (okR x.1)&&decide (cmpR x.1 y.1<0)&&ldOk (y :: r)):=rfl
  rw [e,Bool.and_eq_true,Bool.and_eq_true,decide_eq_true_eq,decide_eq_true_eq,ldOk_iff]
  constructor
  ·rintro ⟨⟨h1,h2⟩,h3,h4⟩
   refine ⟨fun i hi=>?_,fun i hi=>?_⟩
   ·cases i with
    | zero=>exact h1
    | succ i=>exact h3 i (by simpa using hi)
   ·cases i with
    | zero=>exact h2
    | succ i=>exact h4 i (by simpa using hi)
  ·rintro ⟨h1,h2⟩
   exact ⟨⟨h1 0 (by simp),h2 0 (by simp)⟩,fun i hi=>h1 (i+1) (by simpa using hi),fun i hi=>h2 (i+1) (by simpa using hi)⟩
theorem cmpR_leL {a b:Int × Int}:cmpR a b≤0↔a.1 * b.2≤b.1 * a.2:=by
 have:=@cmpI_gt (a.1 * b.2) (b.1 * a.2)
 unfold cmpR
 omega
theorem cmpR_ltI {a b:Int × Int}:cmpR a b<0↔a.1 * b.2<b.1 * a.2:=cmpI_lt
theorem ldOk_lt {r:List Ld} (h:ldOk r=true):∀ {j i:Nat},i<j→j<r.length→cmpR (r.getD i zLd).1 (r.getD j zLd).1<0
 | 0,_,hij,_=>by omega
 | j+1,i,hij,hj=>by
  obtain ⟨h1,h2⟩:=ldOk_iff.1 h
  have st:=h2 j hj
  rcases Nat.lt_or_ge i j with hl | hl
  ·have ih:=ldOk_lt h hl (by omega)
   rw [cmpR_ltI] at *
   exact rat_lt (h1 j (by omega)).d1 (h1 i (by omega)).d1 (h1 (j+1) hj).d1 (by omega) (by omega) (.inl ih)
  ·have:i=j:=by omega
   subst this; exact st
theorem take_snocL {r:List Ld} {n:Nat} (h:n<r.length):r.take (n+1)=r.take n++[r.getD n zLd]:=by
 rw [List.take_add_one,List.getD_eq_getElem?_getD,List.getElem?_eq_getElem h]; rfl
theorem whoI_upto {r:List Ld} {t:Int × Int}:∀ n,n≤r.length→n≠0→(∀ j,j<n→cmpR (r.getD j zLd).1 t≤0)→whoI (r.take n) t=(r.getD (n-1) zLd).2
 | 0,_,h,_=>absurd rfl h
 | n+1,hn,_,h=>by
  rw [take_snocL (by omega),whoI_snoc,if_pos (h n (by omega))]; rfl
theorem whoI_rest {r:List Ld} {t:Int × Int} {n:Nat} (h:∀ j,n≤j→j<r.length→¬ cmpR (r.getD j zLd).1 t≤0):∀ m,n≤m→m≤r.length→whoI (r.take m) t=whoI (r.take n) t
 | 0,h0,_=>by
  have:n=0:=by omega
  rw [this]
 | m+1,hm,hl=>by
  rcases Nat.lt_or_ge m n with hx | hx
  ·have:n=m+1:=by omega
   rw [this]
  ·rw [take_snocL (by omega),whoI_snoc,if_neg (h m hx (by omega)),whoI_rest h m hx (by omega)]
theorem whoI_first {r:List Ld} (ok:ldOk r=true) {t:Int × Int} (ot:okR t) {n:Nat} (h0:n≠0) (hn:n≤r.length) (h1:∀ j,j<n→cmpR (r.getD j zLd).1 t≤0) (h2:n<r.length→0<cmpR (r.getD n zLd).1 t) :
  whoI r t=(r.getD (n-1) zLd).2:=by
 have hz:whoI r t=whoI (r.take n) t:=by
  have:=whoI_rest (r:=r) (t:=t) (n:=n) (fun j hj hl=>by
   have h2:=h2 (by omega)
   rcases Nat.lt_or_ge n j with hx | hx
   ·have lt:=ldOk_lt ok hx hl
    obtain ⟨o1,_⟩:=ldOk_iff.1 ok
    intro hc
    rw [cmpR_ltI] at lt
    rw [cmpR_leL] at hc
    have h2:t.1 * (r.getD n zLd).1.2<(r.getD n zLd).1.1 * t.2:=(cmpI_gt (x:=(r.getD n zLd).1.1 * t.2) (y:=t.1 * (r.getD n zLd).1.2)).1 h2
    have:=rat_lt (o1 j hl).d1 (o1 n (by omega)).d1 ot.d1 (a:=(r.getD n zLd).1) (b:=(r.getD j zLd).1) (c:=t) (by omega) hc (.inl lt)
    omega
   ·have:j=n:=by omega
    subst this; omega) r.length hn (Nat.le_refl _)
  rwa [List.take_length] at this
 rw [hz]
 exact whoI_upto n hn h0 h1
end Go.Proofs.YtbbdplfkiioppaaGreat
end
