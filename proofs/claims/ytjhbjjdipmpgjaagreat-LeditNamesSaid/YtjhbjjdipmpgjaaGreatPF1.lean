/- The engine, parts FA, RO, LQ, LW, put together. Conditions: none. -/
import Derived.Test.YtjhbjjdipmpgjaaGreatPN2
import Derived.Test.YtjhbjjdipmpgjaaGreatPQ1
import Derived.Test.YtjhbjjdipmpgjaaGreatPA1
import Derived.Test.YtjhbjjdipmpgjaaGreatPL5
set_option linter.unusedVariables false
section
/- Points put into a field, taken out, changed, in plain Lean; what becomes of the order. Conditions: none. -/
set_option maxRecDepth 100000
open Go Go.Eng Go.Proofs
namespace Go.Proofs.YtjhbjjdipmpgjaaGreat

def lowF (f:List Pt) (id:Int):Nat:=posI (f.map (·.1)) id
def insF (f:List Pt) (p:Pt):List Pt:=f.take (lowF f p.1)++p :: f.drop (lowF f p.1)
def putF (f:List Pt) (p:Pt):List Pt × Int:=if chkF f≠0 then ([],chkF f) else if ¬ okP p then ([],8) else if 0≤posF f p.1 then ([],14) else if f.length=64 then ([],18) else (insF f p,0)
def outF (f:List Pt) (id:Int):List Pt:=f.filter fun q=>q.1 != id
def takeF (f:List Pt) (id:Int):List Pt × Int:=if chkF f≠0 then ([],chkF f) else if posF f id<0 then ([],6) else (outF f id,0)
theorem insF_perm (f:List Pt) (p:Pt):(insF f p).Perm (p :: f):=by
 unfold insF
 have:=List.perm_middle (a:=p) (l₁:=f.take (lowF f p.1)) (l₂:=f.drop (lowF f p.1))
 rw [List.take_append_drop] at this
 exact this
theorem insF_len (f:List Pt) (p:Pt):(insF f p).length=f.length+1:=by rw [(insF_perm f p).length_eq]; rfl
theorem posF_no {f:List Pt} {id:Int} (h:posF f id<0):∀ q∈f,q.1≠id:=fun q hq e=>by
 have:=idx_out h q hq
 simp at this
 exact this e
theorem posF_yes {f:List Pt} {q:Pt} (hq:q∈f):0≤posF f q.1:=by
 rcases Int.lt_or_le (posF f q.1) 0 with h | h
 ·exact absurd rfl (posF_no h q hq)
 ·exact h
theorem posF_mem {f:List Pt} {id:Int}:0≤posF f id↔id∈f.map (·.1):=by
 constructor
 ·intro h
  obtain ⟨_,h2,h3⟩:=posF_range h
  rw [← h3]; exact List.mem_map_of_mem (List.mem_of_getElem? h2)
 ·intro h
  obtain ⟨q,hq,e⟩:=List.mem_map.1 h
  rw [← e]; exact posF_yes hq
theorem okF_insF {f:List Pt} (of:okF f) {p:Pt} (op:okP p) (hn:posF f p.1<0) (hl:f.length<64):okF (insF f p):=by
 refine ⟨by rw [insF_len]; omega,fun q hq=>?_,?_⟩
 ·rcases List.mem_cons.1 ((insF_perm f p).mem_iff.1 hq) with rfl | h
  ·exact op
  ·exact of.each q h
 ·have hs:=of.inc
  have hk:=posI_le (f.map (·.1)) p.1
  rw [List.length_map] at hk
  have key:(f.take (lowF f p.1)).map (·.1)++p.1 :: (f.drop (lowF f p.1)).map (·.1)=(insF f p).map (·.1):=by unfold insF; rw [List.map_append,List.map_cons]
  rw [← key,List.map_take,List.map_drop,List.pairwise_append]
  have before:∀ x∈(f.map (·.1)).take (lowF f p.1),x<p.1:=fun x hx=>by
   obtain ⟨i,hi,e⟩:=List.mem_take_iff_getElem.1 hx
   exact posI_lt (l:=f.map (·.1)) (t:=p.1) (i:=i) (by unfold lowF at hi; omega) (by rw [← e]; exact List.getElem?_eq_getElem (by omega))
  have behind:∀ x∈(f.map (·.1)).drop (lowF f p.1),p.1<x:=fun x hx=>by
   obtain ⟨i,hi,e⟩:=List.mem_drop_iff_getElem.1 hx
   have h1:=posI_ge hs (t:=p.1) (i:=lowF f p.1+i) (x:=x) (by unfold lowF; omega) (by rw [List.getElem?_eq_getElem (by omega),e])
   have hm:x∈f.map (·.1):=List.mem_of_mem_drop hx
   obtain ⟨q,hq,e2⟩:=List.mem_map.1 hm
   have:=posF_no hn q hq
   omega
  refine ⟨hs.sublist (List.take_sublist _ _),List.pairwise_cons.2 ⟨behind,hs.sublist (List.drop_sublist _ _)⟩,fun x hx y hy=>?_⟩
  have h1:=before x hx
  rcases List.mem_cons.1 hy with rfl | h
  ·exact h1
  ·have:=behind y h; omega
theorem okF_eq {f g:List Pt} (of:okF f) (og:okF g) (h:f.Perm g):f=g:=by
 refine srt_unique (lt:=fun a b:Pt=>decide (a.1<b.1)) (S:=(·∈f)) (fun a b ha hb h1 h2=>?_) f g h (fun x hx=>hx) ?_ ?_
 ·have h1:¬ a.1<b.1:=by simpa using h1
  have h2:¬ b.1<a.1:=by simpa using h2
  have e:a.1=b.1:=by omega
  rw [← gP_of of ha,← gP_of of hb,e]
 ·exact (List.pairwise_map.1 of.inc).imp fun h=>by simp; omega
 ·exact (List.pairwise_map.1 og.inc).imp fun h=>by simp; omega
theorem okF_outF {f:List Pt} (of:okF f) (id:Int):okF (outF f id):=by
 have hs:(outF f id).Sublist f:=List.filter_sublist
 exact ⟨by have:=hs.length_le; have:=of.len; omega,fun q hq=>of.each q (hs.subset hq),of.inc.sublist (hs.map _)⟩
theorem outF_no (f:List Pt) (id:Int):posF (outF f id) id<0:=by
 rcases Int.lt_or_le (posF (outF f id) id) 0 with h | h
 ·exact h
 ·obtain ⟨_,h2,h3⟩:=posF_range h
  have:=(List.mem_filter.1 (List.mem_of_getElem? h2)).2
  rw [h3] at this
  simp at this
theorem outF_mem {f:List Pt} {id:Int} {q:Pt}:q∈outF f id↔q∈f∧q.1≠id:=by
 unfold outF
 rw [List.mem_filter]
 simp
theorem outF_perm:∀ {f:List Pt},(f.map (·.1)).Nodup→∀ {p:Pt},p∈f→f.Perm (p :: outF f p.1)
 | [],_,_,h=>by cases h
 | q :: f,hn,p,h=>by
  rw [List.map_cons,List.nodup_cons] at hn
  by_cases e:q.1=p.1
  ·have hq:p=q:=by
    rcases List.mem_cons.1 h with h | h
    ·exact h
    ·exact absurd (by rw [e]; exact List.mem_map_of_mem h) hn.1
   subst hq
   have:outF (p :: f) p.1=f:=by
    unfold outF
    rw [List.filter_cons_of_neg (by simp)]
    exact List.filter_eq_self.2 fun y hy=>by
     rw [bne_iff_ne]; intro e2; exact hn.1 (by rw [← e2]; exact List.mem_map_of_mem hy)
   rw [this]
  ·have hp:p∈f:=by
    rcases List.mem_cons.1 h with h | h
    ·subst h; exact absurd rfl e
    ·exact h
   have:outF (q :: f) p.1=q :: outF f p.1:=by
    unfold outF
    rw [List.filter_cons_of_pos (by simpa using e)]
   rw [this]
   exact ((outF_perm hn.2 hp).cons q).trans (List.Perm.swap _ _ _)
theorem okF_nodup {f:List Pt} (of:okF f):(f.map (·.1)).Nodup:=of.inc.imp fun h=>by omega
theorem insF_outF {f:List Pt} (of:okF f) {p:Pt} (hp:p∈f):insF (outF f p.1) p=f:=by
 have hperm:=outF_perm (okF_nodup of) hp
 have hl:=hperm.length_eq
 rw [List.length_cons] at hl
 have:=of.len
 exact okF_eq (okF_insF (okF_outF of _) (of.each p hp) (outF_no f p.1) (by omega)) of ((insF_perm _ _).trans hperm.symm)
/-! ### The order -/
def insI (o:List Int) (i:Nat) (x:Int):List Int:=o.take i++x :: o.drop i
def cutI (o:List Int) (i:Nat):List Int:=o.take i++o.drop (i+1)
theorem insI_len {o:List Int} {i:Nat} {x:Int} (h:i≤o.length):(insI o i x).length=o.length+1:=by
 unfold insI
 rw [List.length_append,List.length_cons,List.length_take,List.length_drop]; omega
theorem cutI_len {o:List Int} {i:Nat} (h:i<o.length):(cutI o i).length=o.length-1:=by
 unfold cutI
 rw [List.length_append,List.length_take,List.length_drop]; omega
theorem insI_get {o:List Int} {i:Nat} {x:Int} (h:i≤o.length) (k:Nat):(insI o i x).getD k 0=if k<i then o.getD k 0 else if k=i then x else o.getD (k-1) 0:=by
 have tl:(o.take i).length=i:=by rw [List.length_take]; omega
 unfold insI
 rw [List.getD_eq_getElem?_getD,List.getElem?_append,tl]
 by_cases h1:k<i
 ·rw [if_pos h1,if_pos h1,List.getElem?_take,if_pos h1,List.getD_eq_getElem?_getD]
 ·rw [if_neg h1,if_neg h1]
  by_cases h2:k=i
  ·rw [if_pos h2,h2,Nat.sub_self]; rfl
  ·rw [if_neg h2]
   obtain ⟨j,rfl⟩:∃ j,k=i+j+1:=⟨k-i-1,by omega⟩
   rw [show i+j+1-i=j+1 by omega,List.getElem?_cons_succ,List.getElem?_drop,show i+j+1-1=i+j by omega,List.getD_eq_getElem?_getD]
theorem cutI_get {o:List Int} {i:Nat} (h:i<o.length) (k:Nat):(cutI o i).getD k 0=if k<i then o.getD k 0 else o.getD (k+1) 0:=by
 have tl:(o.take i).length=i:=by rw [List.length_take]; omega
 unfold cutI
 rw [List.getD_eq_getElem?_getD,List.getElem?_append,tl]
 by_cases h1:k<i
 ·rw [if_pos h1,if_pos h1,List.getElem?_take,if_pos h1,List.getD_eq_getElem?_getD]
 ·rw [if_neg h1,if_neg h1,List.getElem?_drop,show i+1+(k-i)=k+1 by omega,List.getD_eq_getElem?_getD]
theorem cut_ins {o:List Int} {i:Nat} {x:Int} (h:i≤o.length):cutI (insI o i x) i=o:=by
 have tl:(o.take i).length=i:=by rw [List.length_take]; omega
 unfold cutI insI
 rw [List.take_append_of_le_length (by omega),List.take_take,Nat.min_self,List.drop_append,tl,show i+1-i=1 by omega,List.drop_eq_nil_of_le (show (o.take i).length≤i+1 by omega)]
 exact List.take_append_drop i o
theorem insI_app {a b:List Int} {i:Nat} {x:Int} (h:a.length=i):insI (a++b) i x=a++x :: b:=by
 subst h; unfold insI; simp
theorem ord_ins {f:List Pt} (of:okF f) {p:Pt} (op:okP p) (hn:posF f p.1<0) (hl:f.length<64) (t:Int × Int):rankM f p t≤f.length∧ordM (insF f p) t=insI (ordM f t) (rankM f p t) p.1:=by
 have o:=okF_insF of op hn hl
 have hp:p∈insF f p:=(insF_perm f p).mem_iff.2 List.mem_cons_self
 have S:=sortM_sorted (okF_ids o) t
 have er:rankM (insF f p) p t=rankM f p t:=by
  unfold rankM
  rw [(insF_perm f p).countP_eq,List.countP_cons,if_neg (by simp)]; rfl
 have ha:=S.at_rank (okF_ids o) hp
 rw [er] at ha
 generalize hs:sortM (insF f p) t=s at *
 have e:s=s.take (rankM f p t)++p :: s.drop (rankM f p t+1):=by rw [← dropX ha]; exact (List.take_append_drop _ s).symm
 have hlt:=(List.getElem?_eq_some_iff.1 ha).1
 have tl:(s.take (rankM f p t)).length=rankM f p t:=by rw [List.length_take]; omega
 have S2:Sorted f t (s.take (rankM f p t)++s.drop (rankM f p t+1)):=by
  refine ⟨?_,?_⟩
  ·have h1:=S.perm.trans (insF_perm f p)
   rw [e] at h1
   exact (List.perm_middle.symm.trans h1).cons_inv
  ·have h1:=S.ord
   rw [e] at h1
   refine h1.sublist ?_
   exact List.Sublist.append_left (List.sublist_cons_self _ _) _
 have e2:=S2.eq (sortM_sorted (okF_ids of) t) (okF_ids of)
 refine ⟨List.countP_le_length,?_⟩
 unfold ordM
 rw [hs,← e2]
 conv=>lhs; rw [e]
 rw [List.map_append,List.map_append,List.map_cons,insI_app (by rw [List.length_map]; exact tl)]
theorem ord_out {f:List Pt} (of:okF f) {p:Pt} (hp:p∈f) (t:Int × Int):posO (ordM f t) p.1=rankM f p t∧rankM f p t<f.length∧ordM (outF f p.1) t=cutI (ordM f t) (rankM f p t):=by
 obtain ⟨a1,a2⟩:=ordM_at (okF_ids of) (t:=t) hp
 have hperm:=outF_perm (okF_nodup of) hp
 have hl:=hperm.length_eq
 rw [List.length_cons] at hl
 have l64:=of.len
 have oi:=ord_ins (okF_outF of p.1) (of.each p hp) (outF_no f p.1) (by omega) t
 rw [insF_outF of hp] at oi
 have er:rankM (outF f p.1) p t=rankM f p t:=by
  unfold rankM
  rw [hperm.countP_eq,List.countP_cons,if_neg (by simp)]; rfl
 rw [er] at oi
 have hd:(ordM f t).Pairwise (·≠·):=by
  unfold ordM
  rw [List.pairwise_map]
  exact (sortM_sorted (okF_ids of) t).ids (okF_ids of)
 refine ⟨posO_at hd a2,a1,?_⟩
 rw [oi.2,cut_ins (by rw [ordM_len]; exact oi.1)]

/-! ### Room for so many certificates -/
structure Room (c:Ck) (k:Nat):Prop where
 next:c.ct.next+k≤1000000
 uses:∀ i:Nat,c.ag.tb.uses.getD i 0+k≤1000000
theorem Room.add {c:Ck} {k:Nat} {y:Int × Int} (ok:okK c) (r:Room c (k+1)) (hv:validC y=true) (hh:hasC c.ct y=false) (hl:c.ct.list.length<200):(addK c y).2.2=0∧Room (addK c y).1 k:=by
 have rn:=r.next
 have ea:addC c.ct y=(⟨c.ct.next+1,c.ct.list++[(c.ct.next,y)]⟩,c.ct.next,0):=by
  unfold addC
  rw [if_pos ⟨ok.ct,hv⟩,hh,if_neg (by simp),if_neg (by omega)]
 have hc:c.ag.tb.canTake=true:=by
  have a1:=ok.ag.hl
  have a2:=ok.wl
  have a3:=ok.ag.wl
  have a4:=ok.hl
  have a5:=ok.dueLe
  exact canTake_iff.2 ⟨by omega,by have:=r.uses (topL c.ag.tb.free).toNat; omega⟩
 have hfl:0<c.ag.tb.free.length:=(canTake_iff.1 hc).1
 obtain ⟨tm,k0,k1⟩:=ok.ag.tb.topR hfl
 unfold addK; rw [ea,if_pos rfl]
 cases whenM c.f y c.now with
 | none =>
  refine ⟨rfl,?_,fun i=>?_⟩
  ·show c.ct.next+1+k≤_; omega
  ·show c.ag.tb.uses.getD i 0+k≤_
   have:=r.uses i; omega
 | some s =>
  simp only; rw [if_pos hc]
  refine ⟨rfl,?_,fun i=>?_⟩
  ·show c.ct.next+1+k≤_; omega
  ·show (c.ag.tb.uses.set _ _).getD i 0+k≤_
   have u1:=r.uses i
   rw [getD_setI (by omega)]
   have:=r.uses (topL c.ag.tb.free).toNat
   split <;> omega
theorem removedA_uses (a:Ag) (h:Int × Int):(removedA a h).tb.uses=a.tb.uses:=by
 unfold removedA
 split <;> rfl
theorem goneK_uses (c:Ck) (n:Int):(goneK c n).ag.tb.uses=c.ag.tb.uses:=by
 unfold goneK
 split
 ·exact removedA_uses _ _
 ·rfl
theorem Room.gone {c:Ck} {k:Nat} (r:Room c k) (n:Int):Room (goneK c n) k:=by
 refine ⟨?_,fun i=>?_⟩
 ·rw [(goneK_ct c n).1]; exact r.next
 ·rw [goneK_uses]; exact r.uses i
theorem Room.goneIf {c:Ck} {k:Nat} (r:Room c k) (b:Bool) (n:Int):Room (Go.Proofs.YtjhbjjdipmpgjaaGreat.goneIf c b n) k:=by
 unfold Go.Proofs.YtjhbjjdipmpgjaaGreat.goneIf
 split
 ·exact r.gone n
 ·exact r
theorem Room.at {c:Ck} {k:Nat} (r:Room c k) (t:Int × Int):Room { c with now:=t } k:=⟨r.next,r.uses⟩

/-! ### Another field with the same failure times -/
theorem alt_calm {c:Ck} (ok:okK c) {f:List Pt}:∀ (l:List (Int × Int × Int)),(∀ h∈l,h∈c.ct.list∧whenM f h.2 c.now=whenM c.f h.2 c.now)→∀ s,∃ s',altL c f l s=some s'∧s'.1.tb.uses=s.1.tb.uses
 | [],_,s=>⟨s,rfl,rfl⟩
 | h :: l,hs,s=>by
  obtain ⟨hm,hw⟩:=hs h List.mem_cons_self
  have rest:=alt_calm ok l fun x hx=>hs x (List.mem_cons_of_mem _ hx)
  have step:∃ s1,altStep c f h s=some s1∧s1.1.tb.uses=s.1.tb.uses:=by
   unfold altStep
   cases e:whenM f h.2 c.now with
   | none =>
    simp only
    split
    ·exact ⟨_,rfl,removedA_uses _ _⟩
    ·exact ⟨_,rfl,rfl⟩
   | some t =>
    rw [hw] at e
    obtain ⟨ps,ev⟩:=ok.evs
    obtain ⟨x,hx,hn,_⟩:=ev.of_cert hm e
    have h0:0≤posD c h.1:=by
     rcases Int.lt_or_le (posD c h.1) 0 with h0 | h0
     ·exact absurd hn (ev.pos.2 h0 x hx)
     ·exact h0
    simp only
    rw [if_pos h0]
    exact ⟨_,rfl,rfl⟩
  obtain ⟨s1,e1,u1⟩:=step
  obtain ⟨s2,e2,u2⟩:=rest s1
  refine ⟨s2,?_,u2.trans u1⟩
  show (altStep c f h s).bind (altL c f l)=_
  rw [e1]; exact e2
structure Calm (c:Ck) (f:List Pt):Prop where
 z:(alteredK c f).2=0
 ok:okK (alteredK c f).1
 ct:(alteredK c f).1.ct=c.ct
 fe:(alteredK c f).1.f=f
 now:(alteredK c f).1.now=c.now
 room:∀ k,Room c k→Room (alteredK c f).1 k
theorem calm {c:Ck} (ok:okK c) {f:List Pt} (of:okF f) (kn:knownC c.ct f=true) (hs:∀ h∈c.ct.list,whenM f h.2 c.now=whenM c.f h.2 c.now):Calm c f:=by
 obtain ⟨s,e,u⟩:=alt_calm ok c.ct.list (fun h hm=>⟨hm,hs h hm⟩) (c.ag,[])
 have ea:alteredK c f=({ c with f:=f,ag:=s.1,due:=s.2 },0):=by unfold alteredK; rw [e]
 have o:=(ok.altered of kn).1 (by rw [ea])
 rw [ea] at o
 refine ⟨by rw [ea],by rw [ea]; exact o,by rw [ea],by rw [ea],by rw [ea],fun k r=>?_⟩
 rw [ea]
 refine ⟨r.next,fun i=>?_⟩
 show s.1.tb.uses.getD i 0+k≤_
 rw [u]; exact r.uses i

/-! ### Certificates made do not fail -/
theorem Mid.of_cert {l:Ls} {lo hi:Nat} (m:Mid l lo hi) {h:Int × Int × Int} (hm:h∈l.ck.ct.list):∃ k,k<l.num.length∧(k<lo∨hi≤k)∧h=(l.num.getD k 0,pairM l.ord k):=by
 have nl:=m.nl; have cl:=m.cl; have le:=m.le; have hl:=m.hl
 obtain ⟨j,hj⟩:=List.mem_iff_getElem?.1 hm
 have hjl:=(List.getElem?_eq_some_iff.1 hj).1
 have gp:∀ i,i<l.ck.ct.list.length→(if i<lo then i else i+(hi-lo))<l.num.length∧((if i<lo then i else i+(hi-lo))<lo∨hi≤(if i<lo then i else i+(hi-lo))):=fun i hi'=>by
  split <;> omega
 have facts:∀ k,k<l.num.length→(k<lo∨hi≤k)→0≤atC l.ck.ct (l.num.getD k 0)∧atC l.ck.ct (l.num.getD k 0)<l.ck.ct.list.length∧getD3 l.ck.ct.list (atC l.ck.ct (l.num.getD k 0))=(l.num.getD k 0,pairM l.ord k):=fun k hk ho=>m.ck.ct.at_mem (m.certs k hk ho)
 obtain ⟨i,hi',he⟩:=all_hit (n:=l.ck.ct.list.length) (f:=fun i=>(atC l.ck.ct (l.num.getD (if i<lo then i else i+(hi-lo)) 0)).toNat) (fun i i' h1 h2 he=>by
  obtain ⟨a1,a2⟩:=gp i h1
  obtain ⟨b1,b2⟩:=gp i' h2
  obtain ⟨a3,a4,a5⟩:=facts _ a1 a2
  obtain ⟨b3,b4,b5⟩:=facts _ b1 b2
  have he:(atC l.ck.ct (l.num.getD (if i<lo then i else i+(hi-lo)) 0)).toNat=(atC l.ck.ct (l.num.getD (if i'<lo then i' else i'+(hi-lo)) 0)).toNat:=he
  have e:atC l.ck.ct (l.num.getD (if i<lo then i else i+(hi-lo)) 0)=atC l.ck.ct (l.num.getD (if i'<lo then i' else i'+(hi-lo)) 0):=by omega
  rw [e,b5] at a5
  have ep:=pair_inj (permNe m.ck.f m.perm) (by omega) (by omega) (congrArg Prod.snd a5)
  split at ep <;> split at ep <;> omega) (fun i h1=>by
  obtain ⟨a1,a2⟩:=gp i h1
  obtain ⟨a3,a4,a5⟩:=facts _ a1 a2
  show (atC l.ck.ct (l.num.getD (if i<lo then i else i+(hi-lo)) 0)).toNat<_
  omega) (k:=j) hjl
 have he:(atC l.ck.ct (l.num.getD (if i<lo then i else i+(hi-lo)) 0)).toNat=j:=he
 obtain ⟨a1,a2⟩:=gp i hi'
 obtain ⟨a3,a4,a5⟩:=facts _ a1 a2
 refine ⟨_,a1,a2,?_⟩
 rw [← a5]
 unfold getD3
 rw [he,List.getD_eq_getElem?_getD,hj]; rfl
/-! ### How many swaps there are -/

/-! ### What is done -/
def rkI (l:Ls) (p:Pt):Nat:=rankM l.ck.f p l.ck.now
def whereM (l:Ls) (p:Pt):Int × Int:=if okLs l∧okP p then ((rkI l p:Int),0) else (0,8)
def putS (l:Ls) (p:Pt):Ls:=⟨goneIf (alteredK l.ck (insF l.ck.f p)).1 (decide (0<rkI l p)&&decide (rkI l p<l.ord.length)) (l.num.getD (rkI l p-1) 0),insI l.ord (rkI l p) p.1,if l.ord.length=0 then l.num else insI l.num (min (rkI l p) (l.ord.length-1)) 0⟩
def putL (l:Ls) (p:Pt):Ls × Int :=
 if (putF l.ck.f p).2≠0 then (.zero,(putF l.ck.f p).2)
 else if (alteredK l.ck (insF l.ck.f p)).2≠0 then (.zero,(alteredK l.ck (insF l.ck.f p)).2)
 else makesN (putS l p) (rkI l p-1) (min (rkI l p+1) l.ord.length-(rkI l p-1))
def putM (l:Ls) (p:Pt):Ls × Int:=if okLs l∧okP p then putL l p else (.zero,8)
def outI (l:Ls) (id:Int):Nat:=(posO l.ord id).toNat
def takeC (l:Ls) (id:Int):Ck:=goneIf (goneIf l.ck (decide (0<outI l id)) (l.num.getD (outI l id-1) 0)) (decide (outI l id<l.num.length)) (l.num.getD (outI l id) 0)
def outS (l:Ls) (id:Int):Ls:=⟨(alteredK (takeC l id) (outF l.ck.f id)).1,cutI l.ord (outI l id),cutI l.num (min (outI l id) (l.num.length-1))⟩
def takeL (l:Ls) (id:Int):Ls × Int :=
 if (alteredK (takeC l id) (outF l.ck.f id)).2≠0 then (.zero,(alteredK (takeC l id) (outF l.ck.f id)).2)
 else if 0<outI l id∧outI l id<l.num.length then madeL (outS l id) (outI l id-1) else (outS l id,0)
def takeM (l:Ls) (id:Int):Ls × Int:=if okLs l then (if posO l.ord id<0 then (.zero,6) else takeL l id) else (.zero,8)
def changeM (l:Ls) (p:Pt):Ls × Int:=if okLs l∧okP p then (if (takeM l p.1).2=0 then putL (takeM l p.1).1 p else (.zero,(takeM l p.1).2)) else (.zero,8)
def putsM:Ls × Int→List Pt→Ls × Int
 | r,[]=>r
 | r,p :: ps=>putsM (if r.2=0 then putM r.1 p else r) ps
def takesM:Ls × Int→List Int→Ls × Int
 | r,[]=>r
 | r,p :: ps=>takesM (if r.2=0 then takeM r.1 p else r) ps
def allM (l:Ls) (ps:List Pt) (ids:List Int):Ls × Int:=if okLs l then takesM (putsM (l,0) ps) ids else (.zero,8)

/-! ### Lists in the middle whose order is that of their time -/
theorem okLs.perm {l:Ls} (ok:okLs l):l.ord.Perm (l.ck.f.map (·.1)):=ok.weak.perm
theorem desc_of {l:Ls} (of:okF l.ck.f) (eo:l.ord=ordM l.ck.f l.ck.now):∀ j i,i<j→j<l.ord.length→valP (ptL l j) l.ck.now≤valP (ptL l i) l.ck.now:=fun j i hij hj=>by
 have hl:l.ord.length=l.ck.f.length:=by rw [eo,ordM_len]
 have e:∀ k,k<l.ck.f.length→ptL l k=sP l.ck.f l.ck.now k:=fun k hk=>by
  unfold ptL
  rw [eo,sP_ordD hk,sP_find of hk]
 rw [e j (by omega),e i (by omega)]
 exact sP_val of hij (by omega)
theorem okM.done {l:Ls} (w:okM l) (eo:l.ord=ordM l.ck.f l.ck.now):okLs l:=okLs.of w.ck eo w.nl w.cl fun k hk=>(certOK_mem w.ck.ct).2 (w.certs k hk)
theorem ordPerm {f:List Pt} {t:Int × Int}:(ordM f t).Perm (f.map (·.1)):=(sortM_perm t f).map _
theorem goneIf_ct (c:Ck) (b:Bool) (n:Int):(goneIf c b n).f=c.f∧(goneIf c b n).now=c.now:=by
 unfold goneIf
 split
 ·exact (goneK_ct c n).2
 ·exact ⟨rfl,rfl⟩
theorem okK.goneIf {c:Ck} (ok:okK c) (b:Bool) (n:Int):okK (Go.Proofs.YtjhbjjdipmpgjaaGreat.goneIf c b n):=by
 unfold Go.Proofs.YtjhbjjdipmpgjaaGreat.goneIf
 split
 ·exact (ok.gone n).1
 ·exact ok
theorem known_of {ct:Ct} {f:List Pt} (h:∀ x∈ct.list,0≤posF f x.2.1∧0≤posF f x.2.2):knownC ct f=true:=by
 unfold knownC
 refine List.all_eq_true.2 fun x hx=>?_
 obtain ⟨a,b⟩:=h x hx
 simp only [Bool.and_eq_true,Bool.not_eq_true',decide_eq_false_iff_not]
 omega
theorem gP_same {f g:List Pt} (of:okF f) (og:okF g) {id:Int} {q:Pt} (h1:q∈f) (h2:q∈g) (e:q.1=id):gP f (posF f id)=gP g (posF g id):=by
 rw [← e,gP_of of h1,gP_of og h2]
theorem whenM_same {f g:List Pt} (of:okF f) (og:okF g) {x t:Int × Int} (h1:0≤posF f x.1) (h2:0≤posF f x.2) (hs:∀ id,0≤posF f id→(id=x.1∨id=x.2)→gP f (posF f id)∈g):whenM g x t=whenM f x t:=by
 have e:∀ id,0≤posF f id→(id=x.1∨id=x.2)→gP g (posF g id)=gP f (posF f id):=fun id h0 hx=>by
  obtain ⟨_,a,b⟩:=posF_range h0
  exact (gP_same of og (List.mem_of_getElem? a) (hs id h0 hx) b).symm
 unfold whenM
 rw [e x.1 h1 (.inl rfl),e x.2 h2 (.inr rfl)]

/-! ### Putting in -/
theorem put_parts {l:Ls} (ok:okLs l) {p:Pt} (hp:(putF l.ck.f p).2=0):okP p∧posF l.ck.f p.1<0∧l.ck.f.length<64∧(putF l.ck.f p).1=insF l.ck.f p:=by
 have l64:=ok.ck.f.len
 unfold putF at hp ⊢
 rw [if_neg (by rw [chkF_zero.2 ok.ck.f]; simp)] at hp ⊢
 split at hp
 ·cases hp
 ·rename_i h1
  split at hp
  ·cases hp
  ·rename_i h2
   split at hp
   ·cases hp
   ·rename_i h3
    rw [if_neg h1,if_neg h2,if_neg h3]
    exact ⟨Decidable.not_not.1 h1,by omega,by omega,rfl⟩
theorem put_calm {l:Ls} (ok:okLs l) {p:Pt} (op:okP p) (hn:posF l.ck.f p.1<0) (hl:l.ck.f.length<64):Calm l.ck (insF l.ck.f p):=by
 have o:=okF_insF ok.ck.f op hn hl
 have sub:∀ q∈l.ck.f,q∈insF l.ck.f p:=fun q hq=>(insF_perm l.ck.f p).mem_iff.2 (List.mem_cons_of_mem _ hq)
 refine calm ok.ck o (known_of fun x hx=>?_) fun h hm=>?_
 ·obtain ⟨a,b⟩:=knownC_at ok.ck.known hx
  obtain ⟨_,a2,a3⟩:=posF_range a
  obtain ⟨_,b2,b3⟩:=posF_range b
  have m1:=posF_yes (sub _ (List.mem_of_getElem? a2))
  have m2:=posF_yes (sub _ (List.mem_of_getElem? b2))
  rw [a3] at m1; rw [b3] at m2
  exact ⟨m1,m2⟩
 ·obtain ⟨a,b⟩:=knownC_at ok.ck.known hm
  exact whenM_same ok.ck.f o a b fun id h0 _=>sub _ (List.mem_of_getElem? (posF_range h0).2.1)
structure PutOk (l:Ls) (p:Pt):Prop where
 op:okP p
 no:posF l.ck.f p.1<0
 len:l.ck.f.length<64
 calm:Calm l.ck (insF l.ck.f p)
 rk:rkI l p≤l.ord.length
 ord:insI l.ord (rkI l p) p.1=ordM (insF l.ck.f p) l.ck.now
 f:(putS l p).ck.f=insF l.ck.f p
 now:(putS l p).ck.now=l.ck.now
 nlen:(putS l p).num.length=l.ord.length
 mid:Mid (putS l p) (rkI l p-1) (min (rkI l p+1) l.ord.length)
 room:∀ k,Room l.ck k→Room (putS l p).ck k
 held:0<rkI l p→rkI l p<l.ord.length→0≤atC (alteredK l.ck (insF l.ck.f p)).1.ct (l.num.getD (rkI l p-1) 0)
theorem putOk {l:Ls} (ok:okLs l) {p:Pt} (op:okP p) (hn:posF l.ck.f p.1<0) (hl:l.ck.f.length<64):PutOk l p:=by
 have ca:=put_calm ok op hn hl
 have ll:=ok.len
 have nl:=ok.nl
 have w:=ok.weak
 obtain ⟨r1,r2⟩:=ord_ins ok.ck.f op hn hl l.ck.now
 have of':=okF_insF ok.ck.f op hn hl
 have r1:rkI l p≤l.ck.f.length:=r1
 have eord:insI l.ord (rkI l p) p.1=ordM (insF l.ck.f p) l.ck.now:=by rw [r2,ok.ord]; rfl
 have ef:(putS l p).ck.f=insF l.ck.f p:=(goneIf_ct _ _ _).1.trans ca.fe
 have en:(putS l p).ck.now=l.ck.now:=(goneIf_ct _ _ _).2.trans ca.now
 have num:∀ k,(putS l p).num.getD k 0=if l.ord.length=0 then 0 else if k<min (rkI l p) (l.ord.length-1) then l.num.getD k 0 else if k=min (rkI l p) (l.ord.length-1) then 0 else l.num.getD (k-1) 0:=fun k=>by
  unfold putS
  simp only
  by_cases h:l.ord.length=0
  ·rw [if_pos h,if_pos h]
   have:l.num=[]:=List.length_eq_zero_iff.1 (by omega)
   rw [this]; rfl
  ·rw [if_neg h,if_neg h]
   exact insI_get (by omega) k
 have nlen:(putS l p).num.length=l.ord.length:=by
  unfold putS
  simp only
  split
  ·omega
  ·rw [insI_len (by omega)]; omega
 have olen:(putS l p).ord.length=l.ord.length+1:=insI_len (by omega)
 have og:∀ k,(putS l p).ord.getD k 0=if k<rkI l p then l.ord.getD k 0 else if k=rkI l p then p.1 else l.ord.getD (k-1) 0:=fun k=>insI_get (by omega) k
 have okc:okK (putS l p).ck:=ca.ok.goneIf _ _
 have act:(alteredK l.ck (insF l.ck.f p)).1.ct=l.ck.ct:=ca.ct
 have cl:=ok.cl
 have midcl:(putS l p).ck.ct.list.length+(min (rkI l p+1) l.ord.length-(rkI l p-1))=l.ord.length∧∀ h,h∈l.ck.ct.list→(0<rkI l p→rkI l p<l.ord.length→h.1≠l.num.getD (rkI l p-1) 0)→h∈(putS l p).ck.ct.list:=by
  show (goneIf _ _ _).ct.list.length+_=_∧∀ h,_→_→h∈(goneIf _ _ _).ct.list
  unfold goneIf
  by_cases hc:0<rkI l p∧rkI l p<l.ord.length
  ·rw [if_pos (by simp only [Bool.and_eq_true,decide_eq_true_eq]; exact hc),(goneK_ct _ _).1,act]
   have hm:=w.certs (rkI l p-1) (by omega)
   have wc:=without_count ok.ck.ct hm
   refine ⟨by omega,fun h h1 h2=>?_⟩
   exact without_mem.2 ⟨h1,h2 hc.1 hc.2⟩
  ·rw [if_neg (by simp only [Bool.and_eq_true,decide_eq_true_eq]; exact hc),act]
   exact ⟨by omega,fun h h1 _=>h1⟩
 have hmid:Mid (putS l p) (rkI l p-1) (min (rkI l p+1) l.ord.length):=by
  refine ⟨okc,?_,by omega,by omega,by omega,by rw [nlen]; exact midcl.1,fun k hk ho=>?_,?_⟩
  ·show (insI l.ord (rkI l p) p.1).Perm _
   rw [eord,ef]
   exact ordPerm
  ·rw [nlen] at hk
   rw [num k,if_neg (by omega)]
   unfold pairM
   rw [og (k+1),og k]
   by_cases hlo:k<rkI l p-1
   ·rw [if_pos (by omega),if_pos (by omega),if_pos (by omega)]
    refine midcl.2 _ (w.certs k (by omega)) fun h1 h2 e=>?_
    have:=w.numInj (i:=k) (j:=rkI l p-1) (by omega) (by omega) e
    omega
   ·rw [if_neg (by omega),if_neg (by omega),if_neg (by omega),if_neg (by omega),if_neg (by omega),if_neg (by omega)]
    have c:=w.certs (k-1) (by omega)
    unfold pairM at c
    rw [show k-1+1=k+1-1 by omega] at c
    refine midcl.2 _ c fun h1 h2 e=>?_
    have:=w.numInj (i:=k-1) (j:=rkI l p-1) (by omega) (by omega) e
    omega
  ·exact desc_of (l:=putS l p) (by rw [ef]; exact of') (by rw [ef,en]; exact eord)
 refine ⟨op,hn,hl,ca,by omega,eord,ef,en,nlen,hmid,fun k r=>(ca.room k r).goneIf _ _,fun h1 h2=>?_⟩
 rw [act]
 exact (ok.ck.ct.at_mem (w.certs (rkI l p-1) (by omega))).1
structure Putted (l:Ls) (p:Pt) (m:Ls):Prop where
 ok:okLs m
 f:m.ck.f=insF l.ck.f p
 now:m.ck.now=l.ck.now
 ord:m.ord=insI l.ord (rkI l p) p.1
theorem PutOk.after {l:Ls} {p:Pt} (P:PutOk l p) (hz:(makesN (putS l p) (rkI l p-1) (min (rkI l p+1) l.ord.length-(rkI l p-1))).2=0):Putted l p (makesN (putS l p) (rkI l p-1) (min (rkI l p+1) l.ord.length-(rkI l p-1))).1:=by
 have le:=P.mid.le
 obtain ⟨a1,a2,a3,a4,a5⟩:=P.mid.makes _ (by omega) hz
 rw [show rkI l p-1+(min (rkI l p+1) l.ord.length-(rkI l p-1))=min (rkI l p+1) l.ord.length by omega] at a1
 have eo:(makesN (putS l p) (rkI l p-1) (min (rkI l p+1) l.ord.length-(rkI l p-1))).1.ord=insI l.ord (rkI l p) p.1:=a4
 refine ⟨a1.done.done ?_,a2.trans P.f,a3.trans P.now,eo⟩
 rw [eo,a2,a3,P.f,P.now]
 exact P.ord
theorem putL_err {l:Ls} {p:Pt} (h:(putL l p).2≠0):(putL l p).1=.zero:=by
 unfold putL at h ⊢
 split
 ·rfl
 ·rename_i h1
  rw [if_neg h1] at h
  split
  ·rfl
  ·rename_i h2
   rw [if_neg h2] at h
   exact makesN_zero _ h
theorem putL_ok {l:Ls} (ok:okLs l) {p:Pt} (h:(putL l p).2=0):PutOk l p∧Putted l p (putL l p).1:=by
 unfold putL at h ⊢
 split at h
 ·rename_i h1; exact absurd h h1
 ·rename_i h1
  split at h
  ·rename_i h2; exact absurd h h2
  ·rename_i h2
   rw [if_neg h1,if_neg h2]
   obtain ⟨a,b,c,_⟩:=put_parts ok (Decidable.not_not.1 h1)
   have P:=putOk ok a b c
   exact ⟨P,P.after h⟩
/-! ### Taking out -/
structure TakeOk (l:Ls) (id:Int):Prop where
 lt:outI l id<l.ord.length
 here:l.ord.getD (outI l id) 0=id
 pos:0≤posF l.ck.f id
 held0:0<outI l id→0≤atC l.ck.ct (l.num.getD (outI l id-1) 0)
 held1:outI l id<l.num.length→okK (goneIf l.ck (decide (0<outI l id)) (l.num.getD (outI l id-1) 0))∧0≤atC (goneIf l.ck (decide (0<outI l id)) (l.num.getD (outI l id-1) 0)).ct (l.num.getD (outI l id) 0)
 okc:okK (takeC l id)
 fc:(takeC l id).f=l.ck.f
 nowc:(takeC l id).now=l.ck.now
 known:knownC (takeC l id).ct (outF l.ck.f id)=true
 calm:Calm (takeC l id) (outF l.ck.f id)
 ord:cutI l.ord (outI l id)=ordM (outF l.ck.f id) l.ck.now
 nlen:(outS l id).num.length=l.num.length-1
 olen:(outS l id).ord.length=l.ord.length-1
 mid:Mid (outS l id) (outI l id-1) (outI l id-1+if 0<outI l id∧outI l id<l.num.length then 1 else 0)
 room:∀ k,Room l.ck k→Room (outS l id).ck k
theorem takeOk {l:Ls} (ok:okLs l) {id:Int} (h0:0≤posO l.ord id):TakeOk l id:=by
 obtain ⟨p1,p2⟩:=posO_in h0
 have ll:=ok.len
 have nl:=ok.nl
 have cl:=ok.cl
 have w:=ok.weak
 have lt:outI l id<l.ord.length:=by unfold outI; omega
 have here:l.ord.getD (outI l id) 0=id:=by
  unfold outI
  rw [List.getD_eq_getElem?_getD,p2]; rfl
 obtain ⟨t1,t2,t3⟩:=ok.ptOk lt
 rw [here] at t3
 have pos:0≤posF l.ck.f id:=by have:=posF_yes t2; rwa [t3] at this
 have oo:=ord_out ok.ck.f t2 l.ck.now
 rw [t3] at oo
 have ei:rankM l.ck.f (ptL l (outI l id)) l.ck.now=outI l id:=by
  have h1:=oo.1
  rw [← ok.ord] at h1
  have h2:outI l id=(posO l.ord id).toNat:=rfl
  omega
 rw [ei] at oo
 have eord:cutI l.ord (outI l id)=ordM (outF l.ck.f id) l.ck.now:=by rw [oo.2.2,← ok.ord]
 have held0:0<outI l id→0≤atC l.ck.ct (l.num.getD (outI l id-1) 0):=fun h=>(ok.ck.ct.at_mem (w.certs (outI l id-1) (by omega))).1
 -- the certificates that are left
 have g0:okK (goneIf l.ck (decide (0<outI l id)) (l.num.getD (outI l id-1) 0))∧(∀ h,h∈(goneIf l.ck (decide (0<outI l id)) (l.num.getD (outI l id-1) 0)).ct.list↔h∈l.ck.ct.list∧(0<outI l id→h.1≠l.num.getD (outI l id-1) 0))∧(goneIf l.ck (decide (0<outI l id)) (l.num.getD (outI l id-1) 0)).ct.list.length+(if 0<outI l id then 1 else 0)=l.num.length:=by
  refine ⟨ok.ck.goneIf _ _,fun h=>?_,?_⟩
  ·unfold goneIf
   by_cases hc:0<outI l id
   ·rw [if_pos (decide_eq_true hc),(goneK_ct _ _).1]
    obtain ⟨m,x⟩:=h
    rw [without_mem]
    exact ⟨fun ⟨a,b⟩=>⟨a,fun _=>b⟩,fun ⟨a,b⟩=>⟨a,b hc⟩⟩
   ·rw [if_neg (by simpa using hc)]
    exact ⟨fun a=>⟨a,fun h=>absurd h hc⟩,fun a=>a.1⟩
  ·unfold goneIf
   by_cases hc:0<outI l id
   ·rw [if_pos (decide_eq_true hc),if_pos hc,(goneK_ct _ _).1]
    have:=without_count ok.ck.ct (w.certs (outI l id-1) (by omega))
    omega
   ·rw [if_neg (by simpa using hc),if_neg hc]; omega
 obtain ⟨ok0,mem0,len0⟩:=g0
 have held1:outI l id<l.num.length→(l.num.getD (outI l id) 0,pairM l.ord (outI l id))∈(goneIf l.ck (decide (0<outI l id)) (l.num.getD (outI l id-1) 0)).ct.list:=fun h=>by
  refine (mem0 _).2 ⟨w.certs _ h,fun hp e=>?_⟩
  have:=w.numInj h (j:=outI l id-1) (by omega) e
  omega
 have g1:okK (takeC l id)∧(∀ h,h∈(takeC l id).ct.list↔h∈l.ck.ct.list∧(0<outI l id→h.1≠l.num.getD (outI l id-1) 0)∧(outI l id<l.num.length→h.1≠l.num.getD (outI l id) 0))∧(takeC l id).ct.list.length+(if 0<outI l id then 1 else 0)+(if outI l id<l.num.length then 1 else 0)=l.num.length:=by
  have yes:outI l id<l.num.length→takeC l id=goneK (goneIf l.ck (decide (0<outI l id)) (l.num.getD (outI l id-1) 0)) (l.num.getD (outI l id) 0):=fun hc=>by
   unfold takeC; rw [decide_eq_true hc]; rfl
  have no:¬ outI l id<l.num.length→takeC l id=goneIf l.ck (decide (0<outI l id)) (l.num.getD (outI l id-1) 0):=fun hc=>by
   unfold takeC; rw [decide_eq_false hc]; rfl
  refine ⟨ok0.goneIf _ _,fun h=>?_,?_⟩
  ·by_cases hc:outI l id<l.num.length
   ·rw [yes hc,(goneK_ct _ _).1]
    obtain ⟨m,x⟩:=h
    rw [without_mem,mem0]
    exact ⟨fun ⟨⟨a,b⟩,c⟩=>⟨a,b,fun _=>c⟩,fun ⟨a,b,c⟩=>⟨⟨a,b⟩,c hc⟩⟩
   ·rw [no hc]
    refine (mem0 h).trans ?_
    exact ⟨fun ⟨a,b⟩=>⟨a,b,fun h=>absurd h hc⟩,fun ⟨a,b,_⟩=>⟨a,b⟩⟩
  ·by_cases hc:outI l id<l.num.length
   ·rw [yes hc,if_pos hc,(goneK_ct _ _).1]
    have:=without_count ok0.ct (held1 hc)
    omega
   ·rw [no hc,if_neg hc]
    omega
 obtain ⟨ok1,mem1,len1⟩:=g1
 have f1:(takeC l id).f=l.ck.f:=(goneIf_ct _ _ _).1.trans (goneIf_ct _ _ _).1
 have n1:(takeC l id).now=l.ck.now:=(goneIf_ct _ _ _).2.trans (goneIf_ct _ _ _).2
 -- each one left is of two neighbours of which neither is taken out
 have left:∀ h,h∈(takeC l id).ct.list→∃ k,k<l.num.length∧h=(l.num.getD k 0,pairM l.ord k)∧k≠outI l id∧k+1≠outI l id:=fun h hm=>by
  obtain ⟨a,b,c⟩:=(mem1 h).1 hm
  have M:Mid l 0 0:=⟨ok.ck,w.perm,w.nl,by omega,by omega,by omega,fun k hk _=>w.certs k hk,fun j i h1 h2=>w.desc i j h1 h2⟩
  obtain ⟨k,k1,_,k3⟩:=M.of_cert a
  subst k3
  refine ⟨k,k1,rfl,fun e=>?_,fun e=>?_⟩
  ·subst e; exact c k1 rfl
  ·rw [show outI l id-1=k by omega] at b
   exact b (by omega) rfl
 have apart:∀ k,k<l.ord.length→k≠outI l id→l.ord.getD k 0≠id:=fun k hk hne e=>by
  have a1:=posO_here w.ne hk
  have a2:=posO_here w.ne lt
  rw [e] at a1; rw [here] at a2
  rw [a1] at a2; omega
 have o':=okF_outF ok.ck.f id
 have stays:∀ k,k<l.ord.length→k≠outI l id→0≤posF l.ck.f (l.ord.getD k 0)∧gP l.ck.f (posF l.ck.f (l.ord.getD k 0))∈outF l.ck.f id∧0≤posF (outF l.ck.f id) (l.ord.getD k 0):=fun k hk hne=>by
  obtain ⟨_,b,c⟩:=ok.ptOk hk
  have h0:0≤posF l.ck.f (l.ord.getD k 0):=by have:=posF_yes b; rwa [c] at this
  have hm:ptL l k∈outF l.ck.f id:=outF_mem.2 ⟨b,by rw [c]; exact apart k hk hne⟩
  refine ⟨h0,hm,?_⟩
  have:=posF_yes hm
  rwa [c] at this
 have kn:knownC (takeC l id).ct (outF l.ck.f id)=true:=known_of fun h hm=>by
  obtain ⟨k,k1,k2,k3,k4⟩:=left h hm
  subst k2
  exact ⟨(stays (k+1) (by omega) k4).2.2,(stays k (by omega) k3).2.2⟩
 have ca:Calm (takeC l id) (outF l.ck.f id):=calm ok1 o' kn fun h hm=>by
  obtain ⟨k,k1,k2,k3,k4⟩:=left h hm
  subst k2
  have s1:=stays (k+1) (by omega) k4
  have s2:=stays k (by omega) k3
  rw [f1,n1]
  refine whenM_same ok.ck.f o' s1.1 s2.1 fun y _ hy=>?_
  rcases hy with e | e
  ·rw [e]; exact s1.2.1
  ·rw [e]; exact s2.2.1
 have olen:(outS l id).ord.length=l.ord.length-1:=cutI_len lt
 have nlen:(outS l id).num.length=l.num.length-1:=by
  show (cutI l.num _).length=_
  by_cases h:l.num.length=0
  ·have:l.num=[]:=List.length_eq_zero_iff.1 h
   rw [this]; simp [cutI]
  ·exact cutI_len (by omega)
 have ef:(outS l id).ck.f=outF l.ck.f id:=ca.fe
 have en:(outS l id).ck.now=l.ck.now:=ca.now.trans n1
 have ect:(outS l id).ck.ct=(takeC l id).ct:=ca.ct
 refine ⟨lt,here,pos,held0,fun h=>⟨ok0,(ok0.ct.at_mem (held1 h)).1⟩,ok1,f1,n1,kn,ca,eord,nlen,olen,⟨ca.ok,?_,by omega,by omega,?_,?_,fun k hk ho=>?_,?_⟩,fun k r=>ca.room k ((r.goneIf _ _).goneIf _ _)⟩
 ·show (cutI l.ord (outI l id)).Perm _
  rw [eord,ef]
  exact ordPerm
 ·rw [nlen]; split <;> omega
 ·rw [ect,nlen]
  split at len1 <;> split at len1 <;> split <;> omega
 ·rw [nlen] at hk
  rw [ect]
  have en2:(outS l id).num.getD k 0=if k<min (outI l id) (l.num.length-1) then l.num.getD k 0 else l.num.getD (k+1) 0:=cutI_get (by omega) k
  have eo2:∀ k,(outS l id).ord.getD k 0=if k<outI l id then l.ord.getD k 0 else l.ord.getD (k+1) 0:=fun k=>cutI_get lt k
  rw [en2]
  unfold pairM
  rw [eo2 (k+1),eo2 k]
  have h1:k+1<outI l id∨outI l id≤k:=by split at ho <;> omega
  rcases h1 with h1 | h1
  ·rw [if_pos (by omega),if_pos h1,if_pos (by omega)]
   refine (mem1 _).2 ⟨w.certs k (by omega),fun _ e=>?_,fun h e=>?_⟩
   ·have:=w.numInj (i:=k) (j:=outI l id-1) (by omega) (by omega) e; omega
   ·have:=w.numInj (i:=k) (j:=outI l id) (by omega) (by omega) e; omega
  ·rw [if_neg (by omega),if_neg (by omega),if_neg (by omega)]
   refine (mem1 _).2 ⟨w.certs (k+1) (by omega),fun _ e=>?_,fun h e=>?_⟩
   ·have:=w.numInj (i:=k+1) (j:=outI l id-1) (by omega) (by omega) e; omega
   ·have:=w.numInj (i:=k+1) (j:=outI l id) (by omega) (by omega) e; omega
 ·exact desc_of (l:=outS l id) (by rw [ef]; exact o') (by rw [ef,en]; exact eord)
structure Taken (l:Ls) (id:Int) (m:Ls):Prop where
 ok:okLs m
 f:m.ck.f=outF l.ck.f id
 now:m.ck.now=l.ck.now
 ord:m.ord=cutI l.ord (outI l id)
theorem takeL_err {l:Ls} {id:Int} (h:(takeL l id).2≠0):(takeL l id).1=.zero:=by
 unfold takeL at h ⊢
 split
 ·rfl
 ·rename_i h1
  rw [if_neg h1] at h
  split
  ·rename_i h2
   rw [if_pos h2] at h
   exact madeL_zero h
  ·rename_i h2; rw [if_neg h2] at h; exact absurd rfl h
theorem TakeOk.after {l:Ls} {id:Int} (T:TakeOk l id) (hz:(takeL l id).2=0):Taken l id (takeL l id).1:=by
 have mid:=T.mid
 have ef:(outS l id).ck.f=outF l.ck.f id:=T.calm.fe
 have en:(outS l id).ck.now=l.ck.now:=T.calm.now.trans T.nowc
 unfold takeL at hz ⊢
 rw [if_neg (by rw [T.calm.z]; simp)] at hz ⊢
 by_cases h:0<outI l id∧outI l id<l.num.length
 ·rw [if_pos h] at hz ⊢
  rw [if_pos h] at mid
  obtain ⟨a1,a2,a3,a4,a5⟩:=mid.make (by omega) hz
  refine ⟨a1.done.done ?_,a2.trans ef,a3.trans en,a4⟩
  rw [a4,a2,a3,ef,en]
  exact T.ord
 ·rw [if_neg h] at hz ⊢
  rw [if_neg h] at mid
  refine ⟨mid.done.done ?_,ef,en,rfl⟩
  rw [ef,en]
  exact T.ord
theorem takeM_ok {l:Ls} {id:Int} (h:(takeM l id).2=0):okLs l∧0≤posO l.ord id∧TakeOk l id∧Taken l id (takeM l id).1:=by
 unfold takeM at h ⊢
 split at h
 ·rename_i ok
  rw [if_pos ok]
  split at h
  ·cases h
  ·rename_i h1
   rw [if_neg h1]
   have T:=takeOk ok (id:=id) (by omega)
   exact ⟨ok,by omega,T,T.after h⟩
 ·cases h
theorem takeM_zero {l:Ls} {id:Int} (h:(takeM l id).2≠0):(takeM l id).1=.zero:=by
 unfold takeM at h ⊢
 split
 ·rename_i ok
  rw [if_pos ok] at h
  split
  ·rfl
  ·rename_i h1
   rw [if_neg h1] at h
   exact takeL_err h
 ·rfl
theorem putM_zero {l:Ls} {p:Pt} (h:(putM l p).2≠0):(putM l p).1=.zero:=by
 unfold putM at h ⊢
 split
 ·rename_i ok
  rw [if_pos ok] at h
  exact putL_err h
 ·rfl

/-! ### Nothing is due at the time of a valid list -/
theorem okLs.quiet {l:Ls} (ok:okLs l):waitsK l.ck l.ck.now=false:=by
 cases hw:waitsK l.ck l.ck.now with
 | false=>rfl
 | true =>
  exfalso
  unfold waitsK at hw
  rw [Bool.and_eq_true,decide_eq_true_eq,decide_eq_true_eq] at hw
  obtain ⟨h0,hle⟩:=hw
  have hle:=cmpR_le.1 hle
  obtain ⟨i,hi,hno,hF⟩:=ok.weak.event (hp_mem h0)
  have nl:=ok.nl
  have lv:=ok.weak.level hi hF
  have o1:okR (hp l.ck.ag.heap 0).at_:=(ok.ck.ag.each _ (hp_mem h0)).1
  have la:=lead_after o1.d1 ok.ck.now.d1 hle lv.1 lv.2
  have lb:=ok.leads (i:=i) (j:=i+1) (by omega) (by omega)
  rw [leads_asymm lb] at la
  cases la
theorem okLs.until_now {l:Ls} (ok:okLs l):untilK l.ck l.ck.now=0:=untilK_zero.2 ⟨ok.ck,ok.ck.now,leR_refl _⟩
theorem okLs.stayM {l:Ls} (ok:okLs l):advM l l.ck.now=(l,0,0):=by
 unfold advM
 rw [if_pos ok,if_pos ok.until_now,advR_stop ok.quiet,if_pos rfl]
 rfl

/-! ### Lists of one field and time -/
/-! ### A list built anew -/
/-! ### What stays and what is new -/
def hasM (l:List Int) (n:Int):Bool:=l.any fun x=>x==n
/-! ### Put in and taken out again -/
/-! ### Two points in whatever order -/
end Go.Proofs.YtjhbjjdipmpgjaaGreat
end
