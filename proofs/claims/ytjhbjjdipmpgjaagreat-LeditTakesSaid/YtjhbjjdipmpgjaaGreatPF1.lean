/- The engine, parts FA, RO, LQ, LW, put together. Conditions: none. -/
import Derived.Test.YtjhbjjdipmpgjaaGreatPN2
import Derived.Test.YtjhbjjdipmpgjaaGreatPQ1
import Derived.Test.YtjhbjjdipmpgjaaGreatPA1
import Derived.Test.YtjhbjjdipmpgjaaGreatPL5
set_option linter.unusedVariables false
section
/- Points put into a field, taken out, changed, in plain Lean; what becomes of the order. Conditions: none. -/
set_option maxRecDepth 100000
open Go Go.Eng Go.Proofs
namespace Go.Proofs.YtjhbjjdipmpgjaaGreat

def y50 (f:List Pt) (id:Int):Nat:=yil (f.map (·.1)) id
def zzx (f:List Pt) (p:Pt):List Pt:=f.take (y50 f p.1)++p :: f.drop (y50 f p.1)
def yjw (f:List Pt) (p:Pt):List Pt × Int:=if zj5 f≠0 then ([],zj5 f) else if ¬ okP p then ([],8) else if 0≤yie f p.1 then ([],14) else if f.length=64 then ([],18) else (zzx f p,0)
def ycz (f:List Pt) (id:Int):List Pt:=f.filter fun q=>q.1 != id
def ywi (f:List Pt) (id:Int):List Pt × Int:=if zj5 f≠0 then ([],zj5 f) else if yie f id<0 then ([],6) else (ycz f id,0)
theorem y00 (f:List Pt) (p:Pt):(zzx f p).Perm (p :: f):=by
 unfold zzx
 have:=List.perm_middle (a:=p) (l₁:=f.take (y50 f p.1)) (l₂:=f.drop (y50 f p.1))
 rw [List.take_append_drop] at this
 exact this
theorem zzy (f:List Pt) (p:Pt):(zzx f p).length=f.length+1:=by rw [(y00 f p).length_eq]; rfl
theorem yih {f:List Pt} {id:Int} (h:yie f id<0):∀ q∈f,q.1≠id:=fun q hq e=>by
 have:=zzh h q hq
 simp at this
 exact this e
theorem yik {f:List Pt} {q:Pt} (hq:q∈f):0≤yie f q.1:=by
 rcases Int.lt_or_le (yie f q.1) 0 with h | h
 ·exact absurd rfl (yih h q hq)
 ·exact h
theorem yig {f:List Pt} {id:Int}:0≤yie f id↔id∈f.map (·.1):=by
 constructor
 ·intro h
  obtain ⟨_,h2,h3⟩:=yij h
  rw [← h3]; exact List.mem_map_of_mem (List.mem_of_getElem? h2)
 ·intro h
  obtain ⟨q,hq,e⟩:=List.mem_map.1 h
  rw [← e]; exact yik hq
theorem yba {f:List Pt} (of:okF f) {p:Pt} (op:okP p) (hn:yie f p.1<0) (hl:f.length<64):okF (zzx f p):=by
 refine ⟨by rw [zzy]; omega,fun q hq=>?_,?_⟩
 ·rcases List.mem_cons.1 ((y00 f p).mem_iff.1 hq) with rfl | h
  ·exact op
  ·exact of.each q h
 ·have hs:=of.inc
  have hk:=yio (f.map (·.1)) p.1
  rw [List.length_map] at hk
  have key:(f.take (y50 f p.1)).map (·.1)++p.1 :: (f.drop (y50 f p.1)).map (·.1)=(zzx f p).map (·.1):=by unfold zzx; rw [List.map_append,List.map_cons]
  rw [← key,List.map_take,List.map_drop,List.pairwise_append]
  have before:∀ x∈(f.map (·.1)).take (y50 f p.1),x<p.1:=fun x hx=>by
   obtain ⟨i,hi,e⟩:=List.mem_take_iff_getElem.1 hx
   exact yip (l:=f.map (·.1)) (t:=p.1) (i:=i) (by unfold y50 at hi; omega) (by rw [← e]; exact List.getElem?_eq_getElem (by omega))
  have behind:∀ x∈(f.map (·.1)).drop (y50 f p.1),p.1<x:=fun x hx=>by
   obtain ⟨i,hi,e⟩:=List.mem_drop_iff_getElem.1 hx
   have h1:=yin hs (t:=p.1) (i:=y50 f p.1+i) (x:=x) (by unfold y50; omega) (by rw [List.getElem?_eq_getElem (by omega),e])
   have hm:x∈f.map (·.1):=List.mem_of_mem_drop hx
   obtain ⟨q,hq,e2⟩:=List.mem_map.1 hm
   have:=yih hn q hq
   omega
  refine ⟨hs.sublist (List.take_sublist _ _),List.pairwise_cons.2 ⟨behind,hs.sublist (List.drop_sublist _ _)⟩,fun x hx y hy=>?_⟩
  have h1:=before x hx
  rcases List.mem_cons.1 hy with rfl | h
  ·exact h1
  ·have:=behind y h; omega
theorem yb8 {f g:List Pt} (of:okF f) (og:okF g) (h:f.Perm g):f=g:=by
 refine yv0 (lt:=fun a b:Pt=>decide (a.1<b.1)) (S:=(·∈f)) (fun a b ha hb h1 h2=>?_) f g h (fun x hx=>hx) ?_ ?_
 ·have h1:¬ a.1<b.1:=by simpa using h1
  have h2:¬ b.1<a.1:=by simpa using h2
  have e:a.1=b.1:=by omega
  rw [← zw4 of ha,← zw4 of hb,e]
 ·exact (List.pairwise_map.1 of.inc).imp fun h=>by simp; omega
 ·exact (List.pairwise_map.1 og.inc).imp fun h=>by simp; omega
theorem ybc {f:List Pt} (of:okF f) (id:Int):okF (ycz f id):=by
 have hs:(ycz f id).Sublist f:=List.filter_sublist
 exact ⟨by have:=hs.length_le; have:=of.len; omega,fun q hq=>of.each q (hs.subset hq),of.inc.sublist (hs.map _)⟩
theorem yd3 (f:List Pt) (id:Int):yie (ycz f id) id<0:=by
 rcases Int.lt_or_le (yie (ycz f id) id) 0 with h | h
 ·exact h
 ·obtain ⟨_,h2,h3⟩:=yij h
  have:=(List.mem_filter.1 (List.mem_of_getElem? h2)).2
  rw [h3] at this
  simp at this
theorem yd2 {f:List Pt} {id:Int} {q:Pt}:q∈ycz f id↔q∈f∧q.1≠id:=by
 unfold ycz
 rw [List.mem_filter]
 simp
theorem yd4:∀ {f:List Pt},(f.map (·.1)).Nodup→∀ {p:Pt},p∈f→f.Perm (p :: ycz f p.1)
 | [],_,_,h=>by cases h
 | q :: f,hn,p,h=>by
  rw [List.map_cons,List.nodup_cons] at hn
  by_cases e:q.1=p.1
  ·have hq:p=q:=by
    rcases List.mem_cons.1 h with h | h
    ·exact h
    ·exact absurd (by rw [e]; exact List.mem_map_of_mem h) hn.1
   subst hq
   have:ycz (p :: f) p.1=f:=by
    unfold ycz
    rw [List.filter_cons_of_neg (by simp)]
    exact List.filter_eq_self.2 fun y hy=>by
     rw [bne_iff_ne]; intro e2; exact hn.1 (by rw [← e2]; exact List.mem_map_of_mem hy)
   rw [this]
  ·have hp:p∈f:=by
    rcases List.mem_cons.1 h with h | h
    ·subst h; exact absurd rfl e
    ·exact h
   have:ycz (q :: f) p.1=q :: ycz f p.1:=by
    unfold ycz
    rw [List.filter_cons_of_pos (by simpa using e)]
   rw [this]
   exact ((yd4 hn.2 hp).cons q).trans (List.Perm.swap _ _ _)
theorem ybb {f:List Pt} (of:okF f):(f.map (·.1)).Nodup:=of.inc.imp fun h=>by omega
theorem zzz {f:List Pt} (of:okF f) {p:Pt} (hp:p∈f):zzx (ycz f p.1) p=f:=by
 have hperm:=yd4 (ybb of) hp
 have hl:=hperm.length_eq
 rw [List.length_cons] at hl
 have:=of.len
 exact yb8 (yba (ybc of _) (of.each p hp) (yd3 f p.1) (by omega)) of ((y00 _ _).trans hperm.symm)
/-! ### The order -/
def y05 (o:List Int) (i:Nat) (x:Int):List Int:=o.take i++x :: o.drop i
def zoi (o:List Int) (i:Nat):List Int:=o.take i++o.drop (i+1)
theorem y08 {o:List Int} {i:Nat} {x:Int} (h:i≤o.length):(y05 o i x).length=o.length+1:=by
 unfold y05
 rw [List.length_append,List.length_cons,List.length_take,List.length_drop]; omega
theorem zok {o:List Int} {i:Nat} (h:i<o.length):(zoi o i).length=o.length-1:=by
 unfold zoi
 rw [List.length_append,List.length_take,List.length_drop]; omega
theorem y07 {o:List Int} {i:Nat} {x:Int} (h:i≤o.length) (k:Nat):(y05 o i x).getD k 0=if k<i then o.getD k 0 else if k=i then x else o.getD (k-1) 0:=by
 have tl:(o.take i).length=i:=by rw [List.length_take]; omega
 unfold y05
 rw [List.getD_eq_getElem?_getD,List.getElem?_append,tl]
 by_cases h1:k<i
 ·rw [if_pos h1,if_pos h1,List.getElem?_take,if_pos h1,List.getD_eq_getElem?_getD]
 ·rw [if_neg h1,if_neg h1]
  by_cases h2:k=i
  ·rw [if_pos h2,h2,Nat.sub_self]; rfl
  ·rw [if_neg h2]
   obtain ⟨j,rfl⟩:∃ j,k=i+j+1:=⟨k-i-1,by omega⟩
   rw [show i+j+1-i=j+1 by omega,List.getElem?_cons_succ,List.getElem?_drop,show i+j+1-1=i+j by omega,List.getD_eq_getElem?_getD]
theorem zoj {o:List Int} {i:Nat} (h:i<o.length) (k:Nat):(zoi o i).getD k 0=if k<i then o.getD k 0 else o.getD (k+1) 0:=by
 have tl:(o.take i).length=i:=by rw [List.length_take]; omega
 unfold zoi
 rw [List.getD_eq_getElem?_getD,List.getElem?_append,tl]
 by_cases h1:k<i
 ·rw [if_pos h1,if_pos h1,List.getElem?_take,if_pos h1,List.getD_eq_getElem?_getD]
 ·rw [if_neg h1,if_neg h1,List.getElem?_drop,show i+1+(k-i)=k+1 by omega,List.getD_eq_getElem?_getD]
theorem zol {o:List Int} {i:Nat} {x:Int} (h:i≤o.length):zoi (y05 o i x) i=o:=by
 have tl:(o.take i).length=i:=by rw [List.length_take]; omega
 unfold zoi y05
 rw [List.take_append_of_le_length (by omega),List.take_take,Nat.min_self,List.drop_append,tl,show i+1-i=1 by omega,List.drop_eq_nil_of_le (show (o.take i).length≤i+1 by omega)]
 exact List.take_append_drop i o
theorem y06 {a b:List Int} {i:Nat} {x:Int} (h:a.length=i):y05 (a++b) i x=a++x :: b:=by
 subst h; unfold y05; simp
theorem ycu {f:List Pt} (of:okF f) {p:Pt} (op:okP p) (hn:yie f p.1<0) (hl:f.length<64) (t:Int × Int):yl4 f p t≤f.length∧yck (zzx f p) t=y05 (yck f t) (yl4 f p t) p.1:=by
 have o:=yba of op hn hl
 have hp:p∈zzx f p:=(y00 f p).mem_iff.2 List.mem_cons_self
 have S:=yub (yb9 o) t
 have er:yl4 (zzx f p) p t=yl4 f p t:=by
  unfold yl4
  rw [(y00 f p).countP_eq,List.countP_cons,if_neg (by simp)]; rfl
 have ha:=S.at_rank (yb9 o) hp
 rw [er] at ha
 generalize hs:yu7 (zzx f p) t=s at *
 have e:s=s.take (yl4 f p t)++p :: s.drop (yl4 f p t+1):=by rw [← zph ha]; exact (List.take_append_drop _ s).symm
 have hlt:=(List.getElem?_eq_some_iff.1 ha).1
 have tl:(s.take (yl4 f p t)).length=yl4 f p t:=by rw [List.length_take]; omega
 have S2:z1v f t (s.take (yl4 f p t)++s.drop (yl4 f p t+1)):=by
  refine ⟨?_,?_⟩
  ·have h1:=S.perm.trans (y00 f p)
   rw [e] at h1
   exact (List.perm_middle.symm.trans h1).cons_inv
  ·have h1:=S.ord
   rw [e] at h1
   refine h1.sublist ?_
   exact List.Sublist.append_left (List.sublist_cons_self _ _) _
 have e2:=S2.eq (yub (yb9 of) t) (yb9 of)
 refine ⟨List.countP_le_length,?_⟩
 unfold yck
 rw [hs,← e2]
 conv=>lhs; rw [e]
 rw [List.map_append,List.map_append,List.map_cons,y06 (by rw [List.length_map]; exact tl)]
theorem ycv {f:List Pt} (of:okF f) {p:Pt} (hp:p∈f) (t:Int × Int):yiq (yck f t) p.1=yl4 f p t∧yl4 f p t<f.length∧yck (ycz f p.1) t=zoi (yck f t) (yl4 f p t):=by
 obtain ⟨a1,a2⟩:=ycl (yb9 of) (t:=t) hp
 have hperm:=yd4 (ybb of) hp
 have hl:=hperm.length_eq
 rw [List.length_cons] at hl
 have l64:=of.len
 have oi:=ycu (ybc of p.1) (of.each p hp) (yd3 f p.1) (by omega) t
 rw [zzz of hp] at oi
 have er:yl4 (ycz f p.1) p t=yl4 f p t:=by
  unfold yl4
  rw [hperm.countP_eq,List.countP_cons,if_neg (by simp)]; rfl
 rw [er] at oi
 have hd:(yck f t).Pairwise (·≠·):=by
  unfold yck
  rw [List.pairwise_map]
  exact (yub (yb9 of) t).ids (yb9 of)
 refine ⟨yir hd a2,a1,?_⟩
 rw [oi.2,zol (by rw [ycn]; exact oi.1)]

/-! ### z1q for so many certificates -/
structure z1q (c:Ck) (k:Nat):Prop where
 next:c.ct.next+k≤1000000
 uses:∀ i:Nat,c.ag.tb.uses.getD i 0+k≤1000000
theorem z1q.add {c:Ck} {k:Nat} {y:Int × Int} (ok:okK c) (r:z1q c (k+1)) (hv:yz9 y=true) (hh:zy0 c.ct y=false) (hl:c.ct.list.length<200):(z36 c y).2.2=0∧z1q (z36 c y).1 k:=by
 have rn:=r.next
 have ea:z2z c.ct y=(⟨c.ct.next+1,c.ct.list++[(c.ct.next,y)]⟩,c.ct.next,0):=by
  unfold z2z
  rw [if_pos ⟨ok.ct,hv⟩,hh,if_neg (by simp),if_neg (by omega)]
 have hc:c.ag.tb.canTake=true:=by
  have a1:=ok.ag.hl
  have a2:=ok.wl
  have a3:=ok.ag.wl
  have a4:=ok.hl
  have a5:=ok.dueLe
  exact za9.2 ⟨by omega,by have:=r.uses (yy1 c.ag.tb.free).toNat; omega⟩
 have hfl:0<c.ag.tb.free.length:=(za9.1 hc).1
 obtain ⟨tm,k0,k1⟩:=ok.ag.tb.topR hfl
 unfold z36; rw [ea,if_pos rfl]
 cases yzu c.f y c.now with
 | none =>
  refine ⟨rfl,?_,fun i=>?_⟩
  ·show c.ct.next+1+k≤_; omega
  ·show c.ag.tb.uses.getD i 0+k≤_
   have:=r.uses i; omega
 | some s =>
  simp only; rw [if_pos hc]
  refine ⟨rfl,?_,fun i=>?_⟩
  ·show c.ct.next+1+k≤_; omega
  ·show (c.ag.tb.uses.set _ _).getD i 0+k≤_
   have u1:=r.uses i
   rw [zx6 (by omega)]
   have:=r.uses (yy1 c.ag.tb.free).toNat
   split <;> omega
theorem yp6 (a:Ag) (h:Int × Int):(yp5 a h).tb.uses=a.tb.uses:=by
 unfold yp5
 split <;> rfl
theorem zxo (c:Ck) (n:Int):(zxm c n).ag.tb.uses=c.ag.tb.uses:=by
 unfold zxm
 split
 ·exact yp6 _ _
 ·rfl
theorem z1q.gone {c:Ck} {k:Nat} (r:z1q c k) (n:Int):z1q (zxm c n) k:=by
 refine ⟨?_,fun i=>?_⟩
 ·rw [(zxn c n).1]; exact r.next
 ·rw [zxo]; exact r.uses i
theorem z1q.goneIf {c:Ck} {k:Nat} (r:z1q c k) (b:Bool) (n:Int):z1q (Go.Proofs.YtjhbjjdipmpgjaaGreat.goneIf c b n) k:=by
 unfold Go.Proofs.YtjhbjjdipmpgjaaGreat.goneIf
 split
 ·exact r.gone n
 ·exact r
theorem z1q.at {c:Ck} {k:Nat} (r:z1q c k) (t:Int × Int):z1q { c with now:=t } k:=⟨r.next,r.uses⟩

/-! ### Another field with the same failure times -/
theorem z61 {c:Ck} (ok:okK c) {f:List Pt}:∀ (l:List (Int × Int × Int)),(∀ h∈l,h∈c.ct.list∧yzu f h.2 c.now=yzu c.f h.2 c.now)→∀ s,∃ s',z5w c f l s=some s'∧s'.1.tb.uses=s.1.tb.uses
 | [],_,s=>⟨s,rfl,rfl⟩
 | h :: l,hs,s=>by
  obtain ⟨hm,hw⟩:=hs h List.mem_cons_self
  have rest:=z61 ok l fun x hx=>hs x (List.mem_cons_of_mem _ hx)
  have step:∃ s1,z60 c f h s=some s1∧s1.1.tb.uses=s.1.tb.uses:=by
   unfold z60
   cases e:yzu f h.2 c.now with
   | none =>
    simp only
    split
    ·exact ⟨_,rfl,yp6 _ _⟩
    ·exact ⟨_,rfl,rfl⟩
   | some t =>
    rw [hw] at e
    obtain ⟨ps,ev⟩:=ok.evs
    obtain ⟨x,hx,hn,_⟩:=ev.of_cert hm e
    have h0:0≤yid c h.1:=by
     rcases Int.lt_or_le (yid c h.1) 0 with h0 | h0
     ·exact absurd hn (ev.pos.2 h0 x hx)
     ·exact h0
    simp only
    rw [if_pos h0]
    exact ⟨_,rfl,rfl⟩
  obtain ⟨s1,e1,u1⟩:=step
  obtain ⟨s2,e2,u2⟩:=rest s1
  refine ⟨s2,?_,u2.trans u1⟩
  show (z60 c f h s).bind (z5w c f l)=_
  rw [e1]; exact e2
structure z0g (c:Ck) (f:List Pt):Prop where
 z:(z6b c f).2=0
 ok:okK (z6b c f).1
 ct:(z6b c f).1.ct=c.ct
 fe:(z6b c f).1.f=f
 now:(z6b c f).1.now=c.now
 room:∀ k,z1q c k→z1q (z6b c f).1 k
theorem calm {c:Ck} (ok:okK c) {f:List Pt} (of:okF f) (kn:y1v c.ct f=true) (hs:∀ h∈c.ct.list,yzu f h.2 c.now=yzu c.f h.2 c.now):z0g c f:=by
 obtain ⟨s,e,u⟩:=z61 ok c.ct.list (fun h hm=>⟨hm,hs h hm⟩) (c.ag,[])
 have ea:z6b c f=({ c with f:=f,ag:=s.1,due:=s.2 },0):=by unfold z6b; rw [e]
 have o:=(ok.altered of kn).1 (by rw [ea])
 rw [ea] at o
 refine ⟨by rw [ea],by rw [ea]; exact o,by rw [ea],by rw [ea],by rw [ea],fun k r=>?_⟩
 rw [ea]
 refine ⟨r.next,fun i=>?_⟩
 show s.1.tb.uses.getD i 0+k≤_
 rw [u]; exact r.uses i

/-! ### Certificates made do not fail -/
theorem Mid.of_cert {l:Ls} {lo hi:Nat} (m:Mid l lo hi) {h:Int × Int × Int} (hm:h∈l.ck.ct.list):∃ k,k<l.num.length∧(k<lo∨hi≤k)∧h=(l.num.getD k 0,ydm l.ord k):=by
 have nl:=m.nl; have cl:=m.cl; have le:=m.le; have hl:=m.hl
 obtain ⟨j,hj⟩:=List.mem_iff_getElem?.1 hm
 have hjl:=(List.getElem?_eq_some_iff.1 hj).1
 have gp:∀ i,i<l.ck.ct.list.length→(if i<lo then i else i+(hi-lo))<l.num.length∧((if i<lo then i else i+(hi-lo))<lo∨hi≤(if i<lo then i else i+(hi-lo))):=fun i hi'=>by
  split <;> omega
 have facts:∀ k,k<l.num.length→(k<lo∨hi≤k)→0≤atC l.ck.ct (l.num.getD k 0)∧atC l.ck.ct (l.num.getD k 0)<l.ck.ct.list.length∧zwz l.ck.ct.list (atC l.ck.ct (l.num.getD k 0))=(l.num.getD k 0,ydm l.ord k):=fun k hk ho=>m.ck.ct.at_mem (m.certs k hk ho)
 obtain ⟨i,hi',he⟩:=z5t (n:=l.ck.ct.list.length) (f:=fun i=>(atC l.ck.ct (l.num.getD (if i<lo then i else i+(hi-lo)) 0)).toNat) (fun i i' h1 h2 he=>by
  obtain ⟨a1,a2⟩:=gp i h1
  obtain ⟨b1,b2⟩:=gp i' h2
  obtain ⟨a3,a4,a5⟩:=facts _ a1 a2
  obtain ⟨b3,b4,b5⟩:=facts _ b1 b2
  have he:(atC l.ck.ct (l.num.getD (if i<lo then i else i+(hi-lo)) 0)).toNat=(atC l.ck.ct (l.num.getD (if i'<lo then i' else i'+(hi-lo)) 0)).toNat:=he
  have e:atC l.ck.ct (l.num.getD (if i<lo then i else i+(hi-lo)) 0)=atC l.ck.ct (l.num.getD (if i'<lo then i' else i'+(hi-lo)) 0):=by omega
  rw [e,b5] at a5
  have ep:=ydu (yh1 m.ck.f m.perm) (by omega) (by omega) (congrArg Prod.snd a5)
  split at ep <;> split at ep <;> omega) (fun i h1=>by
  obtain ⟨a1,a2⟩:=gp i h1
  obtain ⟨a3,a4,a5⟩:=facts _ a1 a2
  show (atC l.ck.ct (l.num.getD (if i<lo then i else i+(hi-lo)) 0)).toNat<_
  omega) (k:=j) hjl
 have he:(atC l.ck.ct (l.num.getD (if i<lo then i else i+(hi-lo)) 0)).toNat=j:=he
 obtain ⟨a1,a2⟩:=gp i hi'
 obtain ⟨a3,a4,a5⟩:=facts _ a1 a2
 refine ⟨_,a1,a2,?_⟩
 rw [← a5]
 unfold zwz
 rw [he,List.getD_eq_getElem?_getD,hj]; rfl
/-! ### How many swaps there are -/

/-! ### What is done -/
def rkI (l:Ls) (p:Pt):Nat:=yl4 l.ck.f p l.ck.now
def ykc (l:Ls) (p:Pt):Ls:=⟨goneIf (z6b l.ck (zzx l.ck.f p)).1 (decide (0<rkI l p)&&decide (rkI l p<l.ord.length)) (l.num.getD (rkI l p-1) 0),y05 l.ord (rkI l p) p.1,if l.ord.length=0 then l.num else y05 l.num (min (rkI l p) (l.ord.length-1)) 0⟩
def yjy (l:Ls) (p:Pt):Ls × Int :=
 if (yjw l.ck.f p).2≠0 then (.zero,(yjw l.ck.f p).2)
 else if (z6b l.ck (zzx l.ck.f p)).2≠0 then (.zero,(z6b l.ck (zzx l.ck.f p)).2)
 else y5d (ykc l p) (rkI l p-1) (min (rkI l p+1) l.ord.length-(rkI l p-1))
def yk3 (l:Ls) (p:Pt):Ls × Int:=if ybg l∧okP p then yjy l p else (.zero,8)
def yd6 (l:Ls) (id:Int):Nat:=(yiq l.ord id).toNat
def ywh (l:Ls) (id:Int):Ck:=goneIf (goneIf l.ck (decide (0<yd6 l id)) (l.num.getD (yd6 l id-1) 0)) (decide (yd6 l id<l.num.length)) (l.num.getD (yd6 l id) 0)
def yd7 (l:Ls) (id:Int):Ls:=⟨(z6b (ywh l id) (ycz l.ck.f id)).1,zoi l.ord (yd6 l id),zoi l.num (min (yd6 l id) (l.num.length-1))⟩
def ywj (l:Ls) (id:Int):Ls × Int :=
 if (z6b (ywh l id) (ycz l.ck.f id)).2≠0 then (.zero,(z6b (ywh l id) (ycz l.ck.f id)).2)
 else if 0<yd6 l id∧yd6 l id<l.num.length then y55 (yd7 l id) (yd6 l id-1) else (yd7 l id,0)
def ywm (l:Ls) (id:Int):Ls × Int:=if ybg l then (if yiq l.ord id<0 then (.zero,6) else ywj l id) else (.zero,8)
def zis (l:Ls) (p:Pt):Ls × Int:=if ybg l∧okP p then (if (ywm l p.1).2=0 then yjy (ywm l p.1).1 p else (.zero,(ywm l p.1).2)) else (.zero,8)
def ykj:Ls × Int→List Pt→Ls × Int
 | r,[]=>r
 | r,p :: ps=>ykj (if r.2=0 then yk3 r.1 p else r) ps
def yx2:Ls × Int→List Int→Ls × Int
 | r,[]=>r
 | r,p :: ps=>yx2 (if r.2=0 then ywm r.1 p else r) ps
def z5e (l:Ls) (ps:List Pt) (ids:List Int):Ls × Int:=if ybg l then yx2 (ykj (l,0) ps) ids else (.zero,8)

/-! ### Lists in the middle whose order is that of their time -/
theorem ybg.perm {l:Ls} (ok:ybg l):l.ord.Perm (l.ck.f.map (·.1)):=ok.weak.perm
theorem zov {l:Ls} (of:okF l.ck.f) (eo:l.ord=yck l.ck.f l.ck.now):∀ j i,i<j→j<l.ord.length→yz5 (ptL l j) l.ck.now≤yz5 (ptL l i) l.ck.now:=fun j i hij hj=>by
 have hl:l.ord.length=l.ck.f.length:=by rw [eo,ycn]
 have e:∀ k,k<l.ck.f.length→ptL l k=sP l.ck.f l.ck.now k:=fun k hk=>by
  unfold ptL
  rw [eo,yqk hk,yqd of hk]
 rw [e j (by omega),e i (by omega)]
 exact yql of hij (by omega)
theorem okM.done {l:Ls} (w:okM l) (eo:l.ord=yck l.ck.f l.ck.now):ybg l:=ybg.of w.ck eo w.nl w.cl fun k hk=>(zaz w.ck.ct).2 (w.certs k hk)
theorem ycs {f:List Pt} {t:Int × Int}:(yck f t).Perm (f.map (·.1)):=(yua t f).map _
theorem zxi (c:Ck) (b:Bool) (n:Int):(goneIf c b n).f=c.f∧(goneIf c b n).now=c.now:=by
 unfold goneIf
 split
 ·exact (zxn c n).2
 ·exact ⟨rfl,rfl⟩
theorem okK.goneIf {c:Ck} (ok:okK c) (b:Bool) (n:Int):okK (Go.Proofs.YtjhbjjdipmpgjaaGreat.goneIf c b n):=by
 unfold Go.Proofs.YtjhbjjdipmpgjaaGreat.goneIf
 split
 ·exact (ok.gone n).1
 ·exact ok
theorem y1z {ct:Ct} {f:List Pt} (h:∀ x∈ct.list,0≤yie f x.2.1∧0≤yie f x.2.2):y1v ct f=true:=by
 unfold y1v
 refine List.all_eq_true.2 fun x hx=>?_
 obtain ⟨a,b⟩:=h x hx
 simp only [Bool.and_eq_true,Bool.not_eq_true',decide_eq_false_iff_not]
 omega
theorem zw5 {f g:List Pt} (of:okF f) (og:okF g) {id:Int} {q:Pt} (h1:q∈f) (h2:q∈g) (e:q.1=id):gP f (yie f id)=gP g (yie g id):=by
 rw [← e,zw4 of h1,zw4 og h2]
theorem yzw {f g:List Pt} (of:okF f) (og:okF g) {x t:Int × Int} (h1:0≤yie f x.1) (h2:0≤yie f x.2) (hs:∀ id,0≤yie f id→(id=x.1∨id=x.2)→gP f (yie f id)∈g):yzu g x t=yzu f x t:=by
 have e:∀ id,0≤yie f id→(id=x.1∨id=x.2)→gP g (yie g id)=gP f (yie f id):=fun id h0 hx=>by
  obtain ⟨_,a,b⟩:=yij h0
  exact (zw5 of og (List.mem_of_getElem? a) (hs id h0 hx) b).symm
 unfold yzu
 rw [e x.1 h1 (.inl rfl),e x.2 h2 (.inr rfl)]

/-! ### Putting in -/
theorem ykh {l:Ls} (ok:ybg l) {p:Pt} (hp:(yjw l.ck.f p).2=0):okP p∧yie l.ck.f p.1<0∧l.ck.f.length<64∧(yjw l.ck.f p).1=zzx l.ck.f p:=by
 have l64:=ok.ck.f.len
 unfold yjw at hp ⊢
 rw [if_neg (by rw [zj6.2 ok.ck.f]; simp)] at hp ⊢
 split at hp
 ·cases hp
 ·rename_i h1
  split at hp
  ·cases hp
  ·rename_i h2
   split at hp
   ·cases hp
   ·rename_i h3
    rw [if_neg h1,if_neg h2,if_neg h3]
    exact ⟨Decidable.not_not.1 h1,by omega,by omega,rfl⟩
theorem yke {l:Ls} (ok:ybg l) {p:Pt} (op:okP p) (hn:yie l.ck.f p.1<0) (hl:l.ck.f.length<64):z0g l.ck (zzx l.ck.f p):=by
 have o:=yba ok.ck.f op hn hl
 have sub:∀ q∈l.ck.f,q∈zzx l.ck.f p:=fun q hq=>(y00 l.ck.f p).mem_iff.2 (List.mem_cons_of_mem _ hq)
 refine calm ok.ck o (y1z fun x hx=>?_) fun h hm=>?_
 ·obtain ⟨a,b⟩:=y1x ok.ck.known hx
  obtain ⟨_,a2,a3⟩:=yij a
  obtain ⟨_,b2,b3⟩:=yij b
  have m1:=yik (sub _ (List.mem_of_getElem? a2))
  have m2:=yik (sub _ (List.mem_of_getElem? b2))
  rw [a3] at m1; rw [b3] at m2
  exact ⟨m1,m2⟩
 ·obtain ⟨a,b⟩:=y1x ok.ck.known hm
  exact yzw ok.ck.f o a b fun id h0 _=>sub _ (List.mem_of_getElem? (yij h0).2.1)
structure z1l (l:Ls) (p:Pt):Prop where
 op:okP p
 no:yie l.ck.f p.1<0
 len:l.ck.f.length<64
 calm:z0g l.ck (zzx l.ck.f p)
 rk:rkI l p≤l.ord.length
 ord:y05 l.ord (rkI l p) p.1=yck (zzx l.ck.f p) l.ck.now
 f:(ykc l p).ck.f=zzx l.ck.f p
 now:(ykc l p).ck.now=l.ck.now
 nlen:(ykc l p).num.length=l.ord.length
 mid:Mid (ykc l p) (rkI l p-1) (min (rkI l p+1) l.ord.length)
 room:∀ k,z1q l.ck k→z1q (ykc l p).ck k
 held:0<rkI l p→rkI l p<l.ord.length→0≤atC (z6b l.ck (zzx l.ck.f p)).1.ct (l.num.getD (rkI l p-1) 0)
theorem yk8 {l:Ls} (ok:ybg l) {p:Pt} (op:okP p) (hn:yie l.ck.f p.1<0) (hl:l.ck.f.length<64):z1l l p:=by
 have ca:=yke ok op hn hl
 have ll:=ok.len
 have nl:=ok.nl
 have w:=ok.weak
 obtain ⟨r1,r2⟩:=ycu ok.ck.f op hn hl l.ck.now
 have of':=yba ok.ck.f op hn hl
 have r1:rkI l p≤l.ck.f.length:=r1
 have eord:y05 l.ord (rkI l p) p.1=yck (zzx l.ck.f p) l.ck.now:=by rw [r2,ok.ord]; rfl
 have ef:(ykc l p).ck.f=zzx l.ck.f p:=(zxi _ _ _).1.trans ca.fe
 have en:(ykc l p).ck.now=l.ck.now:=(zxi _ _ _).2.trans ca.now
 have num:∀ k,(ykc l p).num.getD k 0=if l.ord.length=0 then 0 else if k<min (rkI l p) (l.ord.length-1) then l.num.getD k 0 else if k=min (rkI l p) (l.ord.length-1) then 0 else l.num.getD (k-1) 0:=fun k=>by
  unfold ykc
  simp only
  by_cases h:l.ord.length=0
  ·rw [if_pos h,if_pos h]
   have:l.num=[]:=List.length_eq_zero_iff.1 (by omega)
   rw [this]; rfl
  ·rw [if_neg h,if_neg h]
   exact y07 (by omega) k
 have nlen:(ykc l p).num.length=l.ord.length:=by
  unfold ykc
  simp only
  split
  ·omega
  ·rw [y08 (by omega)]; omega
 have olen:(ykc l p).ord.length=l.ord.length+1:=y08 (by omega)
 have og:∀ k,(ykc l p).ord.getD k 0=if k<rkI l p then l.ord.getD k 0 else if k=rkI l p then p.1 else l.ord.getD (k-1) 0:=fun k=>y07 (by omega) k
 have okc:okK (ykc l p).ck:=ca.ok.goneIf _ _
 have act:(z6b l.ck (zzx l.ck.f p)).1.ct=l.ck.ct:=ca.ct
 have cl:=ok.cl
 have midcl:(ykc l p).ck.ct.list.length+(min (rkI l p+1) l.ord.length-(rkI l p-1))=l.ord.length∧∀ h,h∈l.ck.ct.list→(0<rkI l p→rkI l p<l.ord.length→h.1≠l.num.getD (rkI l p-1) 0)→h∈(ykc l p).ck.ct.list:=by
  show (goneIf _ _ _).ct.list.length+_=_∧∀ h,_→_→h∈(goneIf _ _ _).ct.list
  unfold goneIf
  by_cases hc:0<rkI l p∧rkI l p<l.ord.length
  ·rw [if_pos (by simp only [Bool.and_eq_true,decide_eq_true_eq]; exact hc),(zxn _ _).1,act]
   have hm:=w.certs (rkI l p-1) (by omega)
   have wc:=x0b ok.ck.ct hm
   refine ⟨by omega,fun h h1 h2=>?_⟩
   exact x0d.2 ⟨h1,h2 hc.1 hc.2⟩
  ·rw [if_neg (by simp only [Bool.and_eq_true,decide_eq_true_eq]; exact hc),act]
   exact ⟨by omega,fun h h1 _=>h1⟩
 have hmid:Mid (ykc l p) (rkI l p-1) (min (rkI l p+1) l.ord.length):=by
  refine ⟨okc,?_,by omega,by omega,by omega,by rw [nlen]; exact midcl.1,fun k hk ho=>?_,?_⟩
  ·show (y05 l.ord (rkI l p) p.1).Perm _
   rw [eord,ef]
   exact ycs
  ·rw [nlen] at hk
   rw [num k,if_neg (by omega)]
   unfold ydm
   rw [og (k+1),og k]
   by_cases hlo:k<rkI l p-1
   ·rw [if_pos (by omega),if_pos (by omega),if_pos (by omega)]
    refine midcl.2 _ (w.certs k (by omega)) fun h1 h2 e=>?_
    have:=w.numInj (i:=k) (j:=rkI l p-1) (by omega) (by omega) e
    omega
   ·rw [if_neg (by omega),if_neg (by omega),if_neg (by omega),if_neg (by omega),if_neg (by omega),if_neg (by omega)]
    have c:=w.certs (k-1) (by omega)
    unfold ydm at c
    rw [show k-1+1=k+1-1 by omega] at c
    refine midcl.2 _ c fun h1 h2 e=>?_
    have:=w.numInj (i:=k-1) (j:=rkI l p-1) (by omega) (by omega) e
    omega
  ·exact zov (l:=ykc l p) (by rw [ef]; exact of') (by rw [ef,en]; exact eord)
 refine ⟨op,hn,hl,ca,by omega,eord,ef,en,nlen,hmid,fun k r=>(ca.room k r).goneIf _ _,fun h1 h2=>?_⟩
 rw [act]
 exact (ok.ck.ct.at_mem (w.certs (rkI l p-1) (by omega))).1
structure z1m (l:Ls) (p:Pt) (m:Ls):Prop where
 ok:ybg m
 f:m.ck.f=zzx l.ck.f p
 now:m.ck.now=l.ck.now
 ord:m.ord=y05 l.ord (rkI l p) p.1
theorem z1l.after {l:Ls} {p:Pt} (P:z1l l p) (hz:(y5d (ykc l p) (rkI l p-1) (min (rkI l p+1) l.ord.length-(rkI l p-1))).2=0):z1m l p (y5d (ykc l p) (rkI l p-1) (min (rkI l p+1) l.ord.length-(rkI l p-1))).1:=by
 have le:=P.mid.le
 obtain ⟨a1,a2,a3,a4,a5⟩:=P.mid.makes _ (by omega) hz
 rw [show rkI l p-1+(min (rkI l p+1) l.ord.length-(rkI l p-1))=min (rkI l p+1) l.ord.length by omega] at a1
 have eo:(y5d (ykc l p) (rkI l p-1) (min (rkI l p+1) l.ord.length-(rkI l p-1))).1.ord=y05 l.ord (rkI l p) p.1:=a4
 refine ⟨a1.done.done ?_,a2.trans P.f,a3.trans P.now,eo⟩
 rw [eo,a2,a3,P.f,P.now]
 exact P.ord
theorem yjz {l:Ls} {p:Pt} (h:(yjy l p).2≠0):(yjy l p).1=.zero:=by
 unfold yjy at h ⊢
 split
 ·rfl
 ·rename_i h1
  rw [if_neg h1] at h
  split
  ·rfl
  ·rename_i h2
   rw [if_neg h2] at h
   exact y5h _ h
theorem yk1 {l:Ls} (ok:ybg l) {p:Pt} (h:(yjy l p).2=0):z1l l p∧z1m l p (yjy l p).1:=by
 unfold yjy at h ⊢
 split at h
 ·rename_i h1; exact absurd h h1
 ·rename_i h1
  split at h
  ·rename_i h2; exact absurd h h2
  ·rename_i h2
   rw [if_neg h1,if_neg h2]
   obtain ⟨a,b,c,_⟩:=ykh ok (Decidable.not_not.1 h1)
   have P:=yk8 ok a b c
   exact ⟨P,P.after h⟩
/-! ### Taking out -/
structure z1z (l:Ls) (id:Int):Prop where
 lt:yd6 l id<l.ord.length
 here:l.ord.getD (yd6 l id) 0=id
 pos:0≤yie l.ck.f id
 held0:0<yd6 l id→0≤atC l.ck.ct (l.num.getD (yd6 l id-1) 0)
 held1:yd6 l id<l.num.length→okK (goneIf l.ck (decide (0<yd6 l id)) (l.num.getD (yd6 l id-1) 0))∧0≤atC (goneIf l.ck (decide (0<yd6 l id)) (l.num.getD (yd6 l id-1) 0)).ct (l.num.getD (yd6 l id) 0)
 okc:okK (ywh l id)
 fc:(ywh l id).f=l.ck.f
 nowc:(ywh l id).now=l.ck.now
 known:y1v (ywh l id).ct (ycz l.ck.f id)=true
 calm:z0g (ywh l id) (ycz l.ck.f id)
 ord:zoi l.ord (yd6 l id)=yck (ycz l.ck.f id) l.ck.now
 nlen:(yd7 l id).num.length=l.num.length-1
 olen:(yd7 l id).ord.length=l.ord.length-1
 mid:Mid (yd7 l id) (yd6 l id-1) (yd6 l id-1+if 0<yd6 l id∧yd6 l id<l.num.length then 1 else 0)
 room:∀ k,z1q l.ck k→z1q (yd7 l id).ck k
theorem yws {l:Ls} (ok:ybg l) {id:Int} (h0:0≤yiq l.ord id):z1z l id:=by
 obtain ⟨p1,p2⟩:=yiu h0
 have ll:=ok.len
 have nl:=ok.nl
 have cl:=ok.cl
 have w:=ok.weak
 have lt:yd6 l id<l.ord.length:=by unfold yd6; omega
 have here:l.ord.getD (yd6 l id) 0=id:=by
  unfold yd6
  rw [List.getD_eq_getElem?_getD,p2]; rfl
 obtain ⟨t1,t2,t3⟩:=ok.ptOk lt
 rw [here] at t3
 have pos:0≤yie l.ck.f id:=by have:=yik t2; rwa [t3] at this
 have oo:=ycv ok.ck.f t2 l.ck.now
 rw [t3] at oo
 have ei:yl4 l.ck.f (ptL l (yd6 l id)) l.ck.now=yd6 l id:=by
  have h1:=oo.1
  rw [← ok.ord] at h1
  have h2:yd6 l id=(yiq l.ord id).toNat:=rfl
  omega
 rw [ei] at oo
 have eord:zoi l.ord (yd6 l id)=yck (ycz l.ck.f id) l.ck.now:=by rw [oo.2.2,← ok.ord]
 have held0:0<yd6 l id→0≤atC l.ck.ct (l.num.getD (yd6 l id-1) 0):=fun h=>(ok.ck.ct.at_mem (w.certs (yd6 l id-1) (by omega))).1
 -- the certificates that are left
 have g0:okK (goneIf l.ck (decide (0<yd6 l id)) (l.num.getD (yd6 l id-1) 0))∧(∀ h,h∈(goneIf l.ck (decide (0<yd6 l id)) (l.num.getD (yd6 l id-1) 0)).ct.list↔h∈l.ck.ct.list∧(0<yd6 l id→h.1≠l.num.getD (yd6 l id-1) 0))∧(goneIf l.ck (decide (0<yd6 l id)) (l.num.getD (yd6 l id-1) 0)).ct.list.length+(if 0<yd6 l id then 1 else 0)=l.num.length:=by
  refine ⟨ok.ck.goneIf _ _,fun h=>?_,?_⟩
  ·unfold goneIf
   by_cases hc:0<yd6 l id
   ·rw [if_pos (decide_eq_true hc),(zxn _ _).1]
    obtain ⟨m,x⟩:=h
    rw [x0d]
    exact ⟨fun ⟨a,b⟩=>⟨a,fun _=>b⟩,fun ⟨a,b⟩=>⟨a,b hc⟩⟩
   ·rw [if_neg (by simpa using hc)]
    exact ⟨fun a=>⟨a,fun h=>absurd h hc⟩,fun a=>a.1⟩
  ·unfold goneIf
   by_cases hc:0<yd6 l id
   ·rw [if_pos (decide_eq_true hc),if_pos hc,(zxn _ _).1]
    have:=x0b ok.ck.ct (w.certs (yd6 l id-1) (by omega))
    omega
   ·rw [if_neg (by simpa using hc),if_neg hc]; omega
 obtain ⟨ok0,mem0,len0⟩:=g0
 have held1:yd6 l id<l.num.length→(l.num.getD (yd6 l id) 0,ydm l.ord (yd6 l id))∈(goneIf l.ck (decide (0<yd6 l id)) (l.num.getD (yd6 l id-1) 0)).ct.list:=fun h=>by
  refine (mem0 _).2 ⟨w.certs _ h,fun hp e=>?_⟩
  have:=w.numInj h (j:=yd6 l id-1) (by omega) e
  omega
 have g1:okK (ywh l id)∧(∀ h,h∈(ywh l id).ct.list↔h∈l.ck.ct.list∧(0<yd6 l id→h.1≠l.num.getD (yd6 l id-1) 0)∧(yd6 l id<l.num.length→h.1≠l.num.getD (yd6 l id) 0))∧(ywh l id).ct.list.length+(if 0<yd6 l id then 1 else 0)+(if yd6 l id<l.num.length then 1 else 0)=l.num.length:=by
  have yes:yd6 l id<l.num.length→ywh l id=zxm (goneIf l.ck (decide (0<yd6 l id)) (l.num.getD (yd6 l id-1) 0)) (l.num.getD (yd6 l id) 0):=fun hc=>by
   unfold ywh; rw [decide_eq_true hc]; rfl
  have no:¬ yd6 l id<l.num.length→ywh l id=goneIf l.ck (decide (0<yd6 l id)) (l.num.getD (yd6 l id-1) 0):=fun hc=>by
   unfold ywh; rw [decide_eq_false hc]; rfl
  refine ⟨ok0.goneIf _ _,fun h=>?_,?_⟩
  ·by_cases hc:yd6 l id<l.num.length
   ·rw [yes hc,(zxn _ _).1]
    obtain ⟨m,x⟩:=h
    rw [x0d,mem0]
    exact ⟨fun ⟨⟨a,b⟩,c⟩=>⟨a,b,fun _=>c⟩,fun ⟨a,b,c⟩=>⟨⟨a,b⟩,c hc⟩⟩
   ·rw [no hc]
    refine (mem0 h).trans ?_
    exact ⟨fun ⟨a,b⟩=>⟨a,b,fun h=>absurd h hc⟩,fun ⟨a,b,_⟩=>⟨a,b⟩⟩
  ·by_cases hc:yd6 l id<l.num.length
   ·rw [yes hc,if_pos hc,(zxn _ _).1]
    have:=x0b ok0.ct (held1 hc)
    omega
   ·rw [no hc,if_neg hc]
    omega
 obtain ⟨ok1,mem1,len1⟩:=g1
 have f1:(ywh l id).f=l.ck.f:=(zxi _ _ _).1.trans (zxi _ _ _).1
 have n1:(ywh l id).now=l.ck.now:=(zxi _ _ _).2.trans (zxi _ _ _).2
 -- each one left is of two neighbours of which neither is taken out
 have left:∀ h,h∈(ywh l id).ct.list→∃ k,k<l.num.length∧h=(l.num.getD k 0,ydm l.ord k)∧k≠yd6 l id∧k+1≠yd6 l id:=fun h hm=>by
  obtain ⟨a,b,c⟩:=(mem1 h).1 hm
  have M:Mid l 0 0:=⟨ok.ck,w.perm,w.nl,by omega,by omega,by omega,fun k hk _=>w.certs k hk,fun j i h1 h2=>w.desc i j h1 h2⟩
  obtain ⟨k,k1,_,k3⟩:=M.of_cert a
  subst k3
  refine ⟨k,k1,rfl,fun e=>?_,fun e=>?_⟩
  ·subst e; exact c k1 rfl
  ·rw [show yd6 l id-1=k by omega] at b
   exact b (by omega) rfl
 have apart:∀ k,k<l.ord.length→k≠yd6 l id→l.ord.getD k 0≠id:=fun k hk hne e=>by
  have a1:=yit w.ne hk
  have a2:=yit w.ne lt
  rw [e] at a1; rw [here] at a2
  rw [a1] at a2; omega
 have o':=ybc ok.ck.f id
 have stays:∀ k,k<l.ord.length→k≠yd6 l id→0≤yie l.ck.f (l.ord.getD k 0)∧gP l.ck.f (yie l.ck.f (l.ord.getD k 0))∈ycz l.ck.f id∧0≤yie (ycz l.ck.f id) (l.ord.getD k 0):=fun k hk hne=>by
  obtain ⟨_,b,c⟩:=ok.ptOk hk
  have h0:0≤yie l.ck.f (l.ord.getD k 0):=by have:=yik b; rwa [c] at this
  have hm:ptL l k∈ycz l.ck.f id:=yd2.2 ⟨b,by rw [c]; exact apart k hk hne⟩
  refine ⟨h0,hm,?_⟩
  have:=yik hm
  rwa [c] at this
 have kn:y1v (ywh l id).ct (ycz l.ck.f id)=true:=y1z fun h hm=>by
  obtain ⟨k,k1,k2,k3,k4⟩:=left h hm
  subst k2
  exact ⟨(stays (k+1) (by omega) k4).2.2,(stays k (by omega) k3).2.2⟩
 have ca:z0g (ywh l id) (ycz l.ck.f id):=calm ok1 o' kn fun h hm=>by
  obtain ⟨k,k1,k2,k3,k4⟩:=left h hm
  subst k2
  have s1:=stays (k+1) (by omega) k4
  have s2:=stays k (by omega) k3
  rw [f1,n1]
  refine yzw ok.ck.f o' s1.1 s2.1 fun y _ hy=>?_
  rcases hy with e | e
  ·rw [e]; exact s1.2.1
  ·rw [e]; exact s2.2.1
 have olen:(yd7 l id).ord.length=l.ord.length-1:=zok lt
 have nlen:(yd7 l id).num.length=l.num.length-1:=by
  show (zoi l.num _).length=_
  by_cases h:l.num.length=0
  ·have:l.num=[]:=List.length_eq_zero_iff.1 h
   rw [this]; simp [zoi]
  ·exact zok (by omega)
 have ef:(yd7 l id).ck.f=ycz l.ck.f id:=ca.fe
 have en:(yd7 l id).ck.now=l.ck.now:=ca.now.trans n1
 have ect:(yd7 l id).ck.ct=(ywh l id).ct:=ca.ct
 refine ⟨lt,here,pos,held0,fun h=>⟨ok0,(ok0.ct.at_mem (held1 h)).1⟩,ok1,f1,n1,kn,ca,eord,nlen,olen,⟨ca.ok,?_,by omega,by omega,?_,?_,fun k hk ho=>?_,?_⟩,fun k r=>ca.room k ((r.goneIf _ _).goneIf _ _)⟩
 ·show (zoi l.ord (yd6 l id)).Perm _
  rw [eord,ef]
  exact ycs
 ·rw [nlen]; split <;> omega
 ·rw [ect,nlen]
  split at len1 <;> split at len1 <;> split <;> omega
 ·rw [nlen] at hk
  rw [ect]
  have en2:(yd7 l id).num.getD k 0=if k<min (yd6 l id) (l.num.length-1) then l.num.getD k 0 else l.num.getD (k+1) 0:=zoj (by omega) k
  have eo2:∀ k,(yd7 l id).ord.getD k 0=if k<yd6 l id then l.ord.getD k 0 else l.ord.getD (k+1) 0:=fun k=>zoj lt k
  rw [en2]
  unfold ydm
  rw [eo2 (k+1),eo2 k]
  have h1:k+1<yd6 l id∨yd6 l id≤k:=by split at ho <;> omega
  rcases h1 with h1 | h1
  ·rw [if_pos (by omega),if_pos h1,if_pos (by omega)]
   refine (mem1 _).2 ⟨w.certs k (by omega),fun _ e=>?_,fun h e=>?_⟩
   ·have:=w.numInj (i:=k) (j:=yd6 l id-1) (by omega) (by omega) e; omega
   ·have:=w.numInj (i:=k) (j:=yd6 l id) (by omega) (by omega) e; omega
  ·rw [if_neg (by omega),if_neg (by omega),if_neg (by omega)]
   refine (mem1 _).2 ⟨w.certs (k+1) (by omega),fun _ e=>?_,fun h e=>?_⟩
   ·have:=w.numInj (i:=k+1) (j:=yd6 l id-1) (by omega) (by omega) e; omega
   ·have:=w.numInj (i:=k+1) (j:=yd6 l id) (by omega) (by omega) e; omega
 ·exact zov (l:=yd7 l id) (by rw [ef]; exact o') (by rw [ef,en]; exact eord)
structure z20 (l:Ls) (id:Int) (m:Ls):Prop where
 ok:ybg m
 f:m.ck.f=ycz l.ck.f id
 now:m.ck.now=l.ck.now
 ord:m.ord=zoi l.ord (yd6 l id)
theorem ywk {l:Ls} {id:Int} (h:(ywj l id).2≠0):(ywj l id).1=.zero:=by
 unfold ywj at h ⊢
 split
 ·rfl
 ·rename_i h1
  rw [if_neg h1] at h
  split
  ·rename_i h2
   rw [if_pos h2] at h
   exact y57 h
  ·rename_i h2; rw [if_neg h2] at h; exact absurd rfl h
theorem z1z.after {l:Ls} {id:Int} (T:z1z l id) (hz:(ywj l id).2=0):z20 l id (ywj l id).1:=by
 have mid:=T.mid
 have ef:(yd7 l id).ck.f=ycz l.ck.f id:=T.calm.fe
 have en:(yd7 l id).ck.now=l.ck.now:=T.calm.now.trans T.nowc
 unfold ywj at hz ⊢
 rw [if_neg (by rw [T.calm.z]; simp)] at hz ⊢
 by_cases h:0<yd6 l id∧yd6 l id<l.num.length
 ·rw [if_pos h] at hz ⊢
  rw [if_pos h] at mid
  obtain ⟨a1,a2,a3,a4,a5⟩:=mid.make (by omega) hz
  refine ⟨a1.done.done ?_,a2.trans ef,a3.trans en,a4⟩
  rw [a4,a2,a3,ef,en]
  exact T.ord
 ·rw [if_neg h] at hz ⊢
  rw [if_neg h] at mid
  refine ⟨mid.done.done ?_,ef,en,rfl⟩
  rw [ef,en]
  exact T.ord
theorem ywo {l:Ls} {id:Int} (h:(ywm l id).2=0):ybg l∧0≤yiq l.ord id∧z1z l id∧z20 l id (ywm l id).1:=by
 unfold ywm at h ⊢
 split at h
 ·rename_i ok
  rw [if_pos ok]
  split at h
  ·cases h
  ·rename_i h1
   rw [if_neg h1]
   have T:=yws ok (id:=id) (by omega)
   exact ⟨ok,by omega,T,T.after h⟩
 ·cases h
theorem ywr {l:Ls} {id:Int} (h:(ywm l id).2≠0):(ywm l id).1=.zero:=by
 unfold ywm at h ⊢
 split
 ·rename_i ok
  rw [if_pos ok] at h
  split
  ·rfl
  ·rename_i h1
   rw [if_neg h1] at h
   exact ywk h
 ·rfl
theorem yk7 {l:Ls} {p:Pt} (h:(yk3 l p).2≠0):(yk3 l p).1=.zero:=by
 unfold yk3 at h ⊢
 split
 ·rename_i ok
  rw [if_pos ok] at h
  exact yjz h
 ·rfl

/-! ### Nothing is due at the time of a valid list -/
theorem ybg.quiet {l:Ls} (ok:ybg l):yzo l.ck l.ck.now=false:=by
 cases hw:yzo l.ck l.ck.now with
 | false=>rfl
 | true =>
  exfalso
  unfold yzo at hw
  rw [Bool.and_eq_true,decide_eq_true_eq,decide_eq_true_eq] at hw
  obtain ⟨h0,hle⟩:=hw
  have hle:=zmc.1 hle
  obtain ⟨i,hi,hno,hF⟩:=ok.weak.event (zyy h0)
  have nl:=ok.nl
  have lv:=ok.weak.level hi hF
  have o1:okR (hp l.ck.ag.heap 0).at_:=(ok.ck.ag.each _ (zyy h0)).1
  have la:=y2u o1.d1 ok.ck.now.d1 hle lv.1 lv.2
  have lb:=ok.leads (i:=i) (j:=i+1) (by omega) (by omega)
  rw [y2v lb] at la
  cases la
theorem ybg.until_now {l:Ls} (ok:ybg l):yyo l.ck l.ck.now=0:=yyr.2 ⟨ok.ck,ok.ck.now,y2n _⟩
theorem ybg.stayM {l:Ls} (ok:ybg l):z3s l l.ck.now=(l,0,0):=by
 unfold z3s
 rw [if_pos ok,if_pos ok.until_now,z42 ok.quiet,if_pos rfl]
 rfl

/-! ### Lists of one field and time -/
/-! ### A list za2 anew -/
/-! ### What stays and what is new -/
def zy1 (l:List Int) (n:Int):Bool:=l.any fun x=>x==n
/-! ### Put in and taken out again -/
/-! ### Two points in whatever order -/
end Go.Proofs.YtjhbjjdipmpgjaaGreat
end
