/- Meetings of a field are swaps of its order, in plain words. Conditions: none. -/
import Derived.Test.YtlbdpklikfddlaaGreatPF1
set_option linter.unusedVariables false
set_option maxRecDepth 100000
open Go Go.Eng Go.Proofs
namespace Go.Proofs.YtlbdpklikfddlaaGreat

/-! ### Pairs of a list -/
def pairC {α:Type} (R:α→α→Bool):List α→Nat
 | []=>0
 | x :: xs=>xs.countP (R x)+pairC R xs
theorem pairC_perm {α:Type} {R:α→α→Bool} (sym:∀ a b,R a b=R b a) {a b:List α} (h:a.Perm b):pairC R a=pairC R b:=by
 induction h with
 | nil=>rfl
 | cons x h ih=>show _+_=_+_; rw [ih,h.countP_eq]
 | swap x y l =>
  show (x :: l).countP (R y)+(l.countP (R x)+pairC R l)=(y :: l).countP (R x)+(l.countP (R y)+pairC R l)
  rw [List.countP_cons,List.countP_cons,sym y x]
  omega
 | trans _ _ h1 h2=>exact h1.trans h2
theorem countP_congrM {α:Type} {p q:α→Bool}:∀ {l:List α},(∀ x∈l,p x=q x)→l.countP p=l.countP q
 | [],_=>rfl
 | x :: l,h=>by
  rw [List.countP_cons,List.countP_cons,countP_congrM fun y hy=>h y (List.mem_cons_of_mem _ hy),h x List.mem_cons_self]
theorem pairC_congr {α:Type} {R S:α→α→Bool}:∀ {l:List α},(l.Pairwise fun a b=>R a b=S a b)→pairC R l=pairC S l
 | [],_=>rfl
 | x :: l,h=>by
  obtain ⟨h1,h2⟩:=List.pairwise_cons.1 h
  show _+_=_+_
  rw [pairC_congr h2,countP_congrM h1]
theorem invL_map (rk:Int→Nat):∀ s:List Pt,invL rk (s.map (·.1))=pairC (fun p q:Pt=>decide (rk q.1<rk p.1)) s
 | []=>rfl
 | p :: s=>by
  show (s.map (·.1)).countP _+invL rk (s.map (·.1))=_+_
  rw [invL_map rk s,List.countP_map]; rfl

/-! ### Meetings -/
abbrev Mt:=(Int × Int) × Int × Int
def atP (p q:Pt):Int × Int:=(makeM (p.2.1-q.2.1) (q.2.2-p.2.2)).1
def metR (p:Pt) (ps:List Pt):List Mt:=ps.filterMap fun q=>if p.2.2=q.2.2 then none else some (atP p q,p.1,q.1)
def metL:List Pt→List Mt
 | []=>[]
 | p :: ps=>metR p ps++metL ps
theorem atP_sym {p q:Pt} (h:p.2.2≠q.2.2):atP p q=atP q p:=by
 unfold atP
 rw [makeM_neg (show q.2.2-p.2.2≠0 by omega)]
 rw [show -(p.2.1-q.2.1)=q.2.1-p.2.1 by omega,show -(q.2.2-p.2.2)=p.2.2-q.2.2 by omega]
theorem met_lead {p q:Pt} (op:okP p) (oq:okP q) (h:p.2.2<q.2.2) {u:Int × Int} (ou:okR u):okR (atP p q)∧(leads q p u=true↔leR (atP p q) u)∧(leads p q u=true↔¬ leR (atP p q) u):=by
 obtain ⟨x,y,g,g0,em,e1,e2,e3⟩:=meet_parts op oq h
 have ea:atP p q=(x,y):=by unfold atP; rw [em]
 have fv:=farV_at e1 e2 u
 have key:farV p q u≤0↔leR (x,y) u:=by
  rw [fv]
  show _↔x * u.2≤u.1 * y
  constructor
  ·intro hk
   rcases Int.lt_or_le (u.1 * y) (x * u.2) with c | c
   ·have:=Int.mul_pos (show 0<x * u.2-u.1 * y by omega) g0
    omega
   ·exact c
  ·intro hk
   have:=Int.mul_le_mul_of_nonneg_right (show x * u.2-u.1 * y≤0 by omega) (show 0≤g by omega)
   rw [Int.zero_mul] at this; exact this
 have v:=farV_val p q u
 rw [ea]
 refine ⟨e3,?_,?_⟩
 ·rw [← key,leads_iff]; omega
 ·rw [← key,leads_iff]; omega
def inT (a b:Int × Int) (m:Int × Int):Bool:=!decide (cmpR m a≤0)&&decide (cmpR m b≤0)
def swR (a b:Int × Int) (p q:Pt):Bool:=(leads p q a&&leads q p b)||(leads q p a&&leads p q b)
theorem swR_sym (a b:Int × Int) (p q:Pt):swR a b p q=swR a b q p:=by unfold swR; rw [Bool.or_comm]
theorem swR_met {a b:Int × Int} (oa:okR a) (ob:okR b) (hab:leR a b) {p q:Pt} (op:okP p) (oq:okP q) (hne:p.1≠q.1):swR a b p q=(!decide (p.2.2=q.2.2)&&inT a b (atP p q)):=by
 have lt:∀ {p q:Pt},okP p→okP q→p.2.2<q.2.2→swR a b p q=inT a b (atP p q):=fun {p q} op oq h=>by
  obtain ⟨o1,a1,a2⟩:=met_lead op oq h oa
  obtain ⟨_,b1,b2⟩:=met_lead op oq h ob
  have tr:leR (atP p q) a→leR (atP p q) b:=fun x=>leR_trans o1 oa ob x hab
  have c1:∀ u:Int × Int,decide (cmpR (atP p q) u≤0)=decide (leR (atP p q) u):=fun u=>decide_eq_decide.2 cmpR_le
  unfold swR inT
  rw [c1,c1]
  by_cases x:leR (atP p q) a
  ·have y:=tr x
   have l1:leads p q a=false:=by
    cases e:leads p q a with
    | false=>rfl
    | true=>exact absurd x (a2.1 e)
   have l2:leads p q b=false:=by
    cases e:leads p q b with
    | false=>rfl
    | true=>exact absurd y (b2.1 e)
   rw [l1,l2,decide_eq_true x]; simp
  ·have l1:leads q p a=false:=by
    cases e:leads q p a with
    | false=>rfl
    | true=>exact absurd (a1.1 e) x
   rw [l1,a2.2 x,decide_eq_false x]
   simp only [Bool.true_and,Bool.false_and,Bool.or_false,Bool.not_false]
   by_cases y:leR (atP p q) b
   ·rw [b1.2 y,decide_eq_true y]
   ·rw [decide_eq_false y]
    cases e:leads q p b with
    | false=>rfl
    | true=>exact absurd (b1.1 e) y
 rcases Int.lt_trichotomy p.2.2 q.2.2 with h | h | h
 ·rw [lt op oq h,decide_eq_false (by omega)]; rfl
 ·rw [decide_eq_true h]
  have same:∀ u v:Int × Int,okR u→okR v→leads p q u=true→leads q p v=true→False:=fun u v ou ov h1 h2=>by
   rw [leads_iff] at h1 h2
   have hu:=ou.d1; have hv:=ov.d1
   unfold valP at h1 h2
   rw [h] at h1 h2
   have d1:q.2.1 * u.2<p.2.1 * u.2∨p.2.1 * u.2=q.2.1 * u.2∧p.1<q.1:=by omega
   have d2:p.2.1 * v.2<q.2.1 * v.2∨p.2.1 * v.2=q.2.1 * v.2∧q.1<p.1:=by omega
   have m1:q.2.1<p.2.1∨p.2.1=q.2.1∧p.1<q.1:=by
    rcases d1 with d | ⟨d,e⟩
    ·exact .inl (Int.lt_of_mul_lt_mul_right d (by omega))
    ·exact .inr ⟨Int.eq_of_mul_eq_mul_right (by omega) d,e⟩
   have m2:p.2.1<q.2.1∨p.2.1=q.2.1∧q.1<p.1:=by
    rcases d2 with d | ⟨d,e⟩
    ·exact .inl (Int.lt_of_mul_lt_mul_right d (by omega))
    ·exact .inr ⟨Int.eq_of_mul_eq_mul_right (by omega) d,e⟩
   omega
  have:swR a b p q=false:=by
   unfold swR
   cases e1:leads p q a&&leads q p b with
   | true=>rw [Bool.and_eq_true] at e1; exact (same a b oa ob e1.1 e1.2).elim
   | false =>
    cases e2:leads q p a&&leads p q b with
    | true=>rw [Bool.and_eq_true] at e2; exact (same b a ob oa e2.2 e2.1).elim
    | false=>rfl
  rw [this]; rfl
 ·rw [swR_sym,lt oq op h,decide_eq_false (by omega),atP_sym (show q.2.2≠p.2.2 by omega)]; rfl
theorem metR_count (R:Int × Int→Bool) (p:Pt):∀ ps:List Pt,(metR p ps).countP (fun m=>R m.1)=ps.countP fun q=>!decide (p.2.2=q.2.2)&&R (atP p q)
 | []=>rfl
 | q :: ps=>by
  have ih:=metR_count R p ps
  unfold metR at ih ⊢
  rw [List.filterMap_cons,List.countP_cons]
  by_cases h:p.2.2=q.2.2
  ·rw [if_pos h,decide_eq_true h]
   simp only
   rw [ih]; simp
  ·rw [if_neg h,decide_eq_false h]
   simp only
   rw [List.countP_cons,ih]; simp
theorem metL_count (R:Int × Int→Bool):∀ f:List Pt,(metL f).countP (fun m=>R m.1)=pairC (fun p q:Pt=>!decide (p.2.2=q.2.2)&&R (atP p q)) f
 | []=>rfl
 | p :: f=>by
  show (metR p f++metL f).countP _=_+_
  rw [List.countP_append,metR_count,metL_count R f]
theorem swaps_met {l:Ls} (ok:okLs l) {to:Int × Int} (hu:untilK l.ck to=0):swapsM l to=(metL l.ck.f).countP fun m=>inT l.ck.now to m.1:=by
 obtain ⟨_,ot,hle⟩:=untilK_zero.1 hu
 have of:=ok.ck.f
 have S:=sortM_sorted (okF_ids of) l.ck.now
 have os:=S.ids (okF_ids of)
 unfold swapsM
 have eo:l.ord=(sortM l.ck.f l.ck.now).map (·.1):=ok.ord
 rw [eo,invL_map,metL_count (inT l.ck.now to),← pairC_perm (fun a b=>?_) S.perm]
 ·refine pairC_congr ?_
  refine List.Pairwise.imp_of_mem (fun {p q} hp hq h=>?_) (List.Pairwise.and S.ord os)
  have mp:=S.perm.mem_iff.1 hp
  have mq:=S.perm.mem_iff.1 hq
  have op:=of.each p mp
  have oq:=of.each q mq
  rw [← swR_met ok.ck.now ot hle op oq h.2]
  unfold rkT
  rw [gP_of of mp,gP_of of mq]
  unfold swR
  rw [h.1,leads_asymm h.1]
  simp only [Bool.true_and,Bool.false_and,Bool.or_false]
  by_cases x:leads q p to=true
  ·rw [x,decide_eq_true (rank_lt of mp mq x)]
  ·have y:leads p q to=true:=(leads_total (t:=to) h.2).resolve_right x
   have:=rank_lt of mq mp y
   rw [Bool.not_eq_true] at x
   rw [x,decide_eq_false (by omega)]
 ·by_cases h:a.2.2=b.2.2
  ·rw [h]; simp
  ·rw [atP_sym h,decide_eq_false h,decide_eq_false (fun e=>h e.symm)]
end Go.Proofs.YtlbdpklikfddlaaGreat
