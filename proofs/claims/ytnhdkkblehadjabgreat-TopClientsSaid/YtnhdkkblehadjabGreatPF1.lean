/- The engine, parts LD, LE, LF, LG, LH, LI, LK, FA, RO, LQ, LW, MC, put together. Conditions: none. -/
import Derived.Test.YtnhdkkblehadjabGreatPL4
import Derived.Test.YtnhdkkblehadjabGreatPN2
import Derived.Test.YtnhdkkblehadjabGreatPQ1
import Derived.Test.YtnhdkkblehadjabGreatPA1
set_option linter.unusedVariables false
section
/- The law ClockKeeps. Conditions: none. -/
set_option maxRecDepth 100000
open Go Go.Eng Go.Proofs
namespace Go.Proofs.YtnhdkkblehadjabGreat

theorem zx9.zero:zx9 .zero:=⟨⟨by show inI 0;unfold inI;omega,by show inI 0;unfold inI;omega⟩,by simp[Ck.zero],by simp[Ck.zero,Ct.zero],fitG.zero,by simp[Ck.zero]⟩
theorem okK.begin{f:List Pt}{t:Int×Int}(h:x4x f t=0):okK ⟨t,f,.zero,z9n 200,[]⟩:=by
 obtain⟨of,ot⟩:=x4y.1 h
 have ob:=okA.begin (n:=200) (by omega) (by omega)
 exact⟨ot,of,(by decide:okC Ct.zero),rfl,ob,by simp[z9n],rfl,rfl⟩

section
variable {c:Ck} {f:List Pt} {ps:List Ev}
end

section
variable {α:Type} {k:Nat} {f:α->List Value} {H H':Hp} {x d d':Slc} {xs:List α}
end
section
variable {H H':Hp} {v1 v2 v3 v4 v5 d d':Slc} {a:Ag}
end

section
variable {c:Ck} {f:List Pt} {ps:List Ev}
end




section
variable {c:Ck} {t:Int×Int}
end


theorem okK.dueLen{c:Ck}(ok:okK c):c.due.length=(zrd c.f c.now c.ct.list).length:=by
 obtain⟨ps,e⟩:=ok.evs
 rw[e.due,e.at_];simp
theorem okK.dueLe{c:Ck}(ok:okK c):c.due.length<=c.ct.list.length:=by
 rw[ok.dueLen];exact List.length_filterMap_le _ _


def y8o(f:List Pt)(id:Int):Nat:=yo0 (f.map (·.1)) id
def y43(f:List Pt)(p:Pt):List Pt:=f.take (y8o f p.1)++p :: f.drop (y8o f p.1)
def putF(f:List Pt)(p:Pt):List Pt×Int:=if zkd f≠0 then ([],zkd f) else if ¬ okP p then ([],8) else if 0<=ynk f p.1 then ([],14) else if f.length=64 then ([],18) else (y43 f p,0)
def yjf(f:List Pt)(id:Int):List Pt:=f.filter λq=>q.1 != id
theorem ynn{f:List Pt}{id:Int}(h:ynk f id<0):∀q∈f,q.1≠id:=λq hq e=>by
 have:=y3n h q hq
 simp at this
 exact this e
theorem ynq{f:List Pt}{q:Pt}(hq:q∈f):0<=ynk f q.1:=by
 rcases Int.lt_or_le (ynk f q.1) 0 with h|h
 ·exact absurd rfl (ynn h q hq)
 ·exact h
/-! ### The order -/
def zqf(o:List Int)(i:Nat):List Int:=o.take i++o.drop (i+1)

/-! ### z23 for so many certificates -/
structure z23(c:Ck)(k:Nat):Prop where
 next:c.ct.next+k<=1000000
 uses:∀i:Nat,c.ag.tb.uses.getD i 0+k<=1000000
theorem z23.less{c:Ck}{k m:Nat}(r:z23 c k)(h:m<=k):z23 c m :=
 ⟨by have:=r.next;omega,λi=>by have:=r.uses i;omega⟩
theorem z23.add{c:Ck}{k:Nat}{y:Int×Int}(ok:okK c)(r:z23 c (k+1))(hv:x78 y=true)(hh:y1x c.ct y=false)(hl:c.ct.list.length<200):(z3l c y).2.2=0/\z23 (z3l c y).1 k:=by
 have rn:=r.next
 have ea:z3f c.ct y=(⟨c.ct.next+1,c.ct.list++[(c.ct.next,y)]⟩,c.ct.next,0):=by
  unfold z3f
  rw[if_pos ⟨ok.ct,hv⟩,hh,if_neg (by simp),if_neg (by omega)]
 have hc:c.ag.tb.canTake=true:=by
  have a1:=ok.ag.hl
  have a2:=ok.wl
  have a3:=ok.ag.wl
  have a4:=ok.hl
  have a5:=ok.dueLe
  exact zca.2 ⟨by omega,by have:=r.uses (x5u c.ag.tb.free).toNat;omega⟩
 have hfl:0<c.ag.tb.free.length:=(zca.1 hc).1
 obtain⟨tm,k0,k1⟩:=ok.ag.tb.topR hfl
 unfold z3l;rw[ea,if_pos rfl]
 cases x7y c.f y c.now with
 | none =>
  refine⟨rfl,?_,λi=>?_⟩
  ·show c.ct.next+1+k<=_;omega
  ·show c.ag.tb.uses.getD i 0+k<=_
   have:=r.uses i;omega
 | some s =>
  simp only;rw[if_pos hc]
  refine⟨rfl,?_,λi=>?_⟩
  ·show c.ct.next+1+k<=_;omega
  ·show (c.ag.tb.uses.set _ _).getD i 0+k<=_
   have u1:=r.uses i
   rw[y0a (by omega)]
   have:=r.uses (x5u c.ag.tb.free).toNat
   split <;> omega
theorem yta(a:Ag)(h:Int×Int):(yt9 a h).tb.uses=a.tb.uses:=by
 unfold yt9
 split <;> rfl
theorem y12(c:Ck)(n:Int):(y10 c n).ag.tb.uses=c.ag.tb.uses:=by
 unfold y10
 split
 ·exact yta _ _
 ·rfl
theorem z23.gone{c:Ck}{k:Nat}(r:z23 c k)(n:Int):z23 (y10 c n) k:=by
 refine⟨?_,λi=>?_⟩
 ·rw[(y11 c n).1];exact r.next
 ·rw[y12];exact r.uses i
theorem z23.goneIf{c:Ck}{k:Nat}(r:z23 c k)(b:Bool)(n:Int):z23 (Go.Proofs.YtnhdkkblehadjabGreat.goneIf c b n) k:=by
 unfold Go.Proofs.YtnhdkkblehadjabGreat.goneIf
 split
 ·exact r.gone n
 ·exact r
theorem z23.at{c:Ck}{k:Nat}(r:z23 c k)(t:Int×Int):z23 { c with now:=t } k:=⟨r.next,r.uses⟩

/-! ### Another field with the same failure times -/
/-! ### Certificates made do not fail -/
theorem Mid.of_cert{l:Ls}{lo hi:Nat}(m:Mid l lo hi){h:Int×Int×Int}(hm:h∈l.ck.ct.list):∃k,k<l.num.length/\(k<lo\/hi<=k)/\h=(l.num.getD k 0,ykb l.ord k):=by
 have nl:=m.nl;have cl:=m.cl;have le:=m.le;have hl:=m.hl
 obtain⟨j,hj⟩:=List.mem_iff_getElem?.1 hm
 have hjl:=(List.getElem?_eq_some_iff.1 hj).1
 have gp:∀i,i<l.ck.ct.list.length->(if i<lo then i else i+(hi-lo))<l.num.length/\((if i<lo then i else i+(hi-lo))<lo\/hi<=(if i<lo then i else i+(hi-lo))):=λi hi'=>by
  split <;> omega
 have facts:∀k,k<l.num.length->(k<lo\/hi<=k)->0<=atC l.ck.ct (l.num.getD k 0)/\atC l.ck.ct (l.num.getD k 0)<l.ck.ct.list.length/\y01 l.ck.ct.list (atC l.ck.ct (l.num.getD k 0))=(l.num.getD k 0,ykb l.ord k):=λk hk ho=>m.ck.ct.at_mem (m.certs k hk ho)
 obtain⟨i,hi',he⟩:=z6d (n:=l.ck.ct.list.length) (f:=λi=>(atC l.ck.ct (l.num.getD (if i<lo then i else i+(hi-lo)) 0)).toNat) (λi i' h1 h2 he=>by
  obtain⟨a1,a2⟩:=gp i h1
  obtain⟨b1,b2⟩:=gp i' h2
  obtain⟨a3,a4,a5⟩:=facts _ a1 a2
  obtain⟨b3,b4,b5⟩:=facts _ b1 b2
  have he:(atC l.ck.ct (l.num.getD (if i<lo then i else i+(hi-lo)) 0)).toNat=(atC l.ck.ct (l.num.getD (if i'<lo then i' else i'+(hi-lo)) 0)).toNat:=he
  have e:atC l.ck.ct (l.num.getD (if i<lo then i else i+(hi-lo)) 0)=atC l.ck.ct (l.num.getD (if i'<lo then i' else i'+(hi-lo)) 0):=by omega
  rw[e,b5] at a5
  have ep:=ykj (ylr m.ck.f m.perm) (by omega) (by omega) (congrArg Prod.snd a5)
  split at ep <;> split at ep <;> omega) (λi h1=>by
  obtain⟨a1,a2⟩:=gp i h1
  obtain⟨a3,a4,a5⟩:=facts _ a1 a2
  show (atC l.ck.ct (l.num.getD (if i<lo then i else i+(hi-lo)) 0)).toNat<_
  omega) (k:=j) hjl
 have he:(atC l.ck.ct (l.num.getD (if i<lo then i else i+(hi-lo)) 0)).toNat=j:=he
 obtain⟨a1,a2⟩:=gp i hi'
 obtain⟨a3,a4,a5⟩:=facts _ a1 a2
 refine⟨_,a1,a2,?_⟩
 rw[← a5]
 unfold y01
 rw[he,List.getD_eq_getElem?_getD,hj];rfl
theorem Mid.valid{l:Ls}{lo hi:Nat}(m:Mid l lo hi){i:Nat}(h:i<l.num.length):x78 (ykb l.ord i)=true:=by
 have e:=m.certify h
 unfold zdm at e
 have nl:=m.nl
 have p1:0<=ynk l.ck.f (ykb l.ord i).1:=ylv m.ck.f m.perm (yak (by omega))
 have p2:0<=ynk l.ck.f (ykb l.ord i).2:=ylv m.ck.f m.perm (yak (by omega))
 have hne:(ykb l.ord i).1≠(ykb l.ord i).2:=λe=>by
  have d:=ylr m.ck.f m.perm
  have a1:=yob d (k:=i+1) (by omega)
  have a2:=yob d (k:=i) (by omega)
  have e:l.ord.getD (i+1) 0=l.ord.getD i 0:=e
  rw[e,a2] at a1
  omega
 have q1:=m.ck.f.pt p1;have q2:=m.ck.f.pt p2
 have r1:=(ynp p1).2.2;have r2:=(ynp p2).2.2
 have a1:=q1.i0;have a2:=q1.i1;have a3:=q2.i0;have a4:=q2.i1
 rw[r1] at a1 a2;rw[r2] at a3 a4
 unfold x78
 simp only[Bool.and_eq_true,decide_eq_true_eq,bne_iff_ne,ne_eq]
 omega
theorem Mid.roomy{l:Ls}{lo hi k:Nat}(m:Mid l lo hi)(h:lo<hi)(r:z23 l.ck (k+1)):(y8u l lo).2=0/\z23 (y8u l lo).1.ck k:=by
 have hl:=m.hl;have nl:=m.nl;have cl:=m.cl
 have sm:=m.small
 have hh:y1x l.ck.ct (ykb l.ord lo)=false:=by
  cases e:y1x l.ck.ct (ykb l.ord lo) with
  | false=>rfl
  | true =>
   obtain⟨z,hz,e⟩:=List.any_eq_true.1 e
   rw[beq_iff_eq] at e
   obtain⟨k,h1,h2,h3⟩:=m.of_cert hz
   rw[h3] at e
   have:=ykj (ylr m.ck.f m.perm) (by omega) (by omega) e
   omega
 obtain⟨a1,a2⟩:=r.add m.ck (m.valid (by omega)) hh (by omega)
 unfold y8u
 rw[if_pos a1]
 exact⟨rfl,a2⟩
theorem Mid.roomies{l:Ls}{lo hi:Nat}(m:Mid l lo hi):∀n k,lo+n<=hi->z23 l.ck (k+n)->(y92 l lo n).2=0/\z23 (y92 l lo n).1.ck k
 | 0,k,_,r=>⟨rfl,r⟩
 | n+1,k,hn,r=>by
  obtain⟨a1,a2⟩:=m.roomies n (k+1) (by omega) (r.less (by omega))
  have e:y92 l lo (n+1)=if (y92 l lo n).2=0 then y8u (y92 l lo n).1 (lo+n) else y92 l lo n:=rfl
  rw[e,if_pos a1]
  exact(m.makes n (by omega) a1).1.roomy (by omega) a2
theorem z2f.roomy{l:Ls}{to:Int×Int}{i k:Nat}(s:z2f l to i)(r:z23 l.ck (k+3)):(x2y l i).2=0/\z23 (x2y l i).1.ck k:=by
 have le:=s.mid.le
 have r1:z23 (x2q l i) (k+3):=by
  unfold x2q
  exact(z23.goneIf (z23.goneIf ((r.gone _).at _) _ _) _ _)
 exact s.mid.roomies _ _ (by omega) (r1.less (by omega))

/-! ### How many swaps there are -/
def y4p(rk:Int->Nat):List Int->Nat
 | []=>0
 | x :: xs=>xs.countP (λy=>decide (rk y<rk x))+y4p rk xs
theorem y4r(rk:Int->Nat):∀o:List Int,y4p rk o<=o.length*o.length
 | []=>Nat.le_refl _
 | x :: xs=>by
  have ih:=y4r rk xs
  have hc:=List.countP_le_length (p:=λy=>decide (rk y<rk x)) (l:=xs)
  show _+y4p rk xs<=(xs.length+1)*(xs.length+1)
  rw[Nat.add_mul,Nat.mul_add]
  omega
theorem y4q(rk:Int->Nat){a b:List Int}(hp:a.Perm b)(d:Nat)(h:y4p rk a=y4p rk b+d):∀pre:List Int,y4p rk (pre++a)=y4p rk (pre++b)+d
 | []=>h
 | x :: pre=>by
  have ih:=y4q rk hp d h pre
  show (pre++a).countP _+y4p rk (pre++a)=(pre++b).countP _+y4p rk (pre++b)+d
  rw[ih,(List.Perm.append_left pre hp).countP_eq]
  omega
theorem y4t(rk:Int->Nat){o:List Int}{i:Nat}(hi:i+1<o.length)(h:rk (o.getD (i+1) 0)<rk (o.getD i 0)):y4p rk o=y4p rk (x36 o i)+1:=by
 obtain⟨e1,e2⟩:=x3a hi
 rw[e2]
 conv=>lhs;rw[e1]
 refine y4q rk (List.Perm.swap _ _ _) 1 ?_ _
 generalize o.getD (i+1) 0=b at *
 generalize o.getD i 0=a at *
 generalize o.drop (i+2)=post
 show (b :: post).countP _+(post.countP _+y4p rk post)=(a :: post).countP _+(post.countP _+y4p rk post)+1
 rw[List.countP_cons,List.countP_cons,if_pos (by simpa using h),if_neg (by simp;omega)]
 omega
theorem y4u(rk:Int->Nat):∀{o:List Int},(o.Pairwise λx y=>rk x<=rk y)->y4p rk o=0
 | [],_=>rfl
 | x :: xs,h=>by
  obtain⟨h1,h2⟩:=List.pairwise_cons.1 h
  have ih:=y4u rk h2
  show xs.countP _+y4p rk xs=0
  rw[ih,List.countP_eq_zero.2 λy hy=>by have:=h1 y hy;simp;omega]
theorem y4v{f:List Pt}(of:okF f)(t:Int×Int):y4p (rkT f t) (yis f t)=0:=by
 apply y4u
 have S:=yzx (ygy of) t
 unfold yis
 rw[List.pairwise_map]
 refine List.Pairwise.imp_of_mem (λ{p q} hp hq h=>?_) S.ord
 have mp:=S.perm.mem_iff.1 hp
 have mq:=S.perm.mem_iff.1 hq
 unfold rkT
 rw[zz5 of mp,zz5 of mq]
 exact Nat.le_of_lt (yql of mq mp h)
structure z03(l:Ls)(to:Int×Int)(n k:Nat)(m:Ls):Prop where
 e:z4i l to=(m,(n:Int),0)
 okm:okM m
 u:x6i m.ck to=0
 w:x7r m.ck to=false
 fe:m.ck.f=l.ck.f
 room:z23 m.ck k
theorem z4o{to:Int×Int}:∀(n k:Nat)(l:Ls),okM l->x6i l.ck to=0->y4p (rkT l.ck.f to) l.ord=n->z23 l.ck (k+3*n)->∃m,z03 l to n k m
 | n,k,l,w,hu,hi,r=>by
  obtain⟨_,ot,_⟩:=x6l.1 hu
  by_cases hw:x7r l.ck to=true
  ·obtain⟨i,s⟩:=x3c w ot hw
   have lt:=s.lt
   have nl:=w.nl
   have iv:=y4t (rkT l.ck.f to) (o:=l.ord) (i:=i) (by omega) s.rk
   cases n with
   | zero=>omega
   | succ n =>
    obtain⟨hz,r2⟩:=s.roomy (k:=k+3*n) (r.less (by omega))
    obtain⟨b1,b2,b3,b4,b5⟩:=s.after hz
    obtain⟨m,a⟩:=z4o n k (x2y l i).1 b1 (x6l.2 ⟨b1.ck,ot,by rw[b3];exact s.le⟩) (by rw[b2,b4];omega) r2
    refine⟨m,?_,a.okm,a.u,a.w,a.fe.trans b2,a.room⟩
    rw[z4k w ot hw s hz,a.e]
    unfold z3v
    rw[if_pos rfl]
    rfl
  ·have hw:x7r l.ck to=false:=by simpa using hw
   have o:=w.moved hu hw
   have eo:l.ord=yis l.ck.f to:=o.ord
   have hz:n=0:=by rw[← hi,eo];exact y4v w.ck.f to
   subst hz
   exact⟨l,z4m hw,w,hu,hw,rfl,r.less (by omega)⟩
def x3d(l:Ls)(to:Int×Int):Nat:=y4p (rkT l.ck.f to) l.ord
theorem x3e{l:Ls}(ok:yh6 l)(to:Int×Int):x3d l to<=4096:=by
 have a:=ok.ck.f.len
 have b:=ok.len
 have:=y4r (rkT l.ck.f to) l.ord
 have:=Nat.mul_le_mul (show l.ord.length<=64 by omega) (show l.ord.length<=64 by omega)
 unfold x3d
 omega
structure z04(l:Ls)(to:Int×Int)(k:Nat):Prop where
 z:(z4b l to).2.2=0
 n:(z4b l to).2.1=x3d l to
 ok:yh6 (z4b l to).1
 now:(z4b l to).1.ck.now=to
 f:(z4b l to).1.ck.f=l.ck.f
 ord:(z4b l to).1.ord=yis l.ck.f to
 room:z23 (z4b l to).1.ck k
theorem z4p{l:Ls}{to:Int×Int}(ok:yh6 l)(hu:x6i l.ck to=0){k:Nat}(r:z23 l.ck (k+12288)):z04 l to k:=by
 have sl:=x3e ok to
 obtain⟨m,a⟩:=z4o (x3d l to) k l ok.weak hu rfl (r.less (by omega))
 have ea:z4b l to=(yck m to,(x3d l to:Int),0):=by
  unfold z4b
  rw[if_pos ok,if_pos hu,a.e,if_pos rfl]
 have o:=a.okm.moved a.u a.w
 refine⟨by rw[ea],by rw[ea],by rw[ea];exact o,by rw[ea];rfl,by rw[ea];exact a.fe,?_,by rw[ea];exact a.room.at _⟩
 rw[ea]
 show m.ord=_
 have:=o.ord
 rw[← a.fe];exact this

/-! ### What is done -/
def yjl(l:Ls)(id:Int):Nat:=(yo8 l.ord id).toNat
def x3m(l:Ls)(id:Int):Ck:=goneIf (goneIf l.ck (decide (0<yjl l id)) (l.num.getD (yjl l id-1) 0)) (decide (yjl l id<l.num.length)) (l.num.getD (yjl l id) 0)
def yjm(l:Ls)(id:Int):Ls:=⟨(z6t (x3m l id) (yjf l.ck.f id)).1,zqf l.ord (yjl l id),zqf l.num (min (yjl l id) (l.num.length-1))⟩
def x3o(l:Ls)(id:Int):Ls×Int :=
 if (z6t (x3m l id) (yjf l.ck.f id)).2≠0 then (.zero,(z6t (x3m l id) (yjf l.ck.f id)).2)
 else if 0<yjl l id/\yjl l id<l.num.length then y8u (yjm l id) (yjl l id-1) else (yjm l id,0)
def x3r(l:Ls)(id:Int):Ls×Int:=if yh6 l then (if yo8 l.ord id<0 then (.zero,6) else x3o l id) else (.zero,8)
/-! ### Lists in the middle whose order is that of their time -/
theorem yh6.perm{l:Ls}(ok:yh6 l):l.ord.Perm (l.ck.f.map (·.1)):=ok.weak.perm
theorem zqp{l:Ls}(of:okF l.ck.f)(eo:l.ord=yis l.ck.f l.ck.now):∀j i,i<j->j<l.ord.length->x74 (ptL l j) l.ck.now<=x74 (ptL l i) l.ck.now:=λj i hij hj=>by
 have hl:l.ord.length=l.ck.f.length:=by rw[eo,yiv]
 have e:∀k,k<l.ck.f.length->ptL l k=sP l.ck.f l.ck.now k:=λk hk=>by
  unfold ptL
  rw[eo,yuy hk,yur of hk]
 rw[e j (by omega),e i (by omega)]
 exact yuz of hij (by omega)
theorem okM.done{l:Ls}(w:okM l)(eo:l.ord=yis l.ck.f l.ck.now):yh6 l:=yh6.of w.ck eo w.nl w.cl λk hk=>(zd7 w.ck.ct).2 (w.certs k hk)
theorem yj3{f:List Pt}{t:Int×Int}:(yis f t).Perm (f.map (·.1)):=(yzw t f).map _
theorem okK.goneIf{c:Ck}(ok:okK c)(b:Bool)(n:Int):okK (Go.Proofs.YtnhdkkblehadjabGreat.goneIf c b n):=by
 unfold Go.Proofs.YtnhdkkblehadjabGreat.goneIf
 split
 ·exact(ok.gone n).1
 ·exact ok
/-! ### Putting in -/
/-! ### Taking out -/

/-! ### Nothing is due at the time of a valid list -/
theorem yh6.quiet{l:Ls}(ok:yh6 l):x7r l.ck l.ck.now=false:=by
 cases hw:x7r l.ck l.ck.now with
 | false=>rfl
 | true =>
  exfalso
  unfold x7r at hw
  rw[Bool.and_eq_true,decide_eq_true_eq,decide_eq_true_eq] at hw
  obtain⟨h0,hle⟩:=hw
  have hle:=zns.1 hle
  obtain⟨i,hi,hno,hF⟩:=ok.weak.event (y2z h0)
  have nl:=ok.nl
  have lv:=ok.weak.level hi hF
  have o1:okR (hp l.ck.ag.heap 0).at_:=(ok.ck.ag.each _ (y2z h0)).1
  have la:=y72 o1.d1 ok.ck.now.d1 hle lv.1 lv.2
  have lb:=ok.leads (i:=i) (j:=i+1) (by omega) (by omega)
  rw[y73 lb] at la
  cases la
/-! ### Lists of one field and time -/
/-! ### A list zc1 anew -/
def x1f(f:List Pt)(t:Int×Int):Ls:=⟨(ydl f t).1,yis f t,List.replicate (f.length-1) 0⟩
theorem zc0(f:List Pt)(t:Int×Int):∀n,zbx f t n=y92 (x1f f t) 0 n
 | 0=>rfl
 | n+1=>by
  have ih:=zc0 f t n
  show (if (zbx f t n).2=0 then y8u (zbx f t n).1 n else zbx f t n)=(if (y92 (x1f f t) 0 n).2=0 then y8u (y92 (x1f f t) 0 n).1 (0+n) else y92 (x1f f t) 0 n)
  rw[ih,Nat.zero_add]
structure z0h(f:List Pt)(t:Int×Int):Prop where
 z:(zbq f t).2=0
 ok:yh6 (zbq f t).1
 fe:(zbq f t).1.ck.f=f
 now:(zbq f t).1.ck.now=t
 ord:(zbq f t).1.ord=yis f t
 room:z23 (zbq f t).1.ck 999900
theorem zc1{f:List Pt}{t:Int×Int}(h:x4x f t=0):z0h f t:=by
 obtain⟨of,ot⟩:=x4y.1 h
 have b:=z09.start h
 have e:ydl f t=(⟨t,f,.zero,z9n 200,[]⟩,0):=by unfold ydl;rw[if_pos h]
 have l64:=of.len
 have ef:(x1f f t).ck.f=f:=by unfold x1f;simp only;rw[e]
 have en:(x1f f t).ck.now=t:=by unfold x1f;simp only;rw[e]
 have ect:(x1f f t).ck.ct=Ct.zero:=by unfold x1f;simp only;rw[e]
 have nlen:(x1f f t).num.length=f.length-1:=by unfold x1f;simp
 have m:Mid (x1f f t) 0 (f.length-1):=by
  refine⟨b.ok,?_,?_,by omega,by omega,?_,λk hk ho=>by omega,?_⟩
  ·rw[ef];exact yj3
  ·rw[nlen]
   show _=(yis f t).length-1
   rw[yiv]
  ·rw[ect,nlen];show 0+_=_;omega
  ·exact zqp (l:=x1f f t) (by rw[ef];exact of) (by rw[ef,en];rfl)
 have r:z23 (x1f f t).ck 1000000:=by
  refine⟨by rw[ect];decide,λi=>?_⟩
  have:(x1f f t).ck.ag.tb.uses=List.replicate 200 0:=by unfold x1f;simp only;rw[e];rfl
  rw[this,List.getD_eq_getElem?_getD,List.getElem?_replicate]
  split <;> simp
 obtain⟨a1,a2⟩:=m.roomies (f.length-1) 999900 (by omega) (r.less (by omega))
 obtain⟨b1,b2,b3,b4,_⟩:=m.makes (f.length-1) (by omega) a1
 have eb:zbq f t=y92 (x1f f t) 0 (f.length-1):=by unfold zbq;rw[if_pos h,zc0]
 rw[Nat.zero_add] at b1
 refine⟨by rw[eb];exact a1,?_,by rw[eb];exact b2.trans ef,by rw[eb];exact b3.trans en,by rw[eb];exact b4,by rw[eb];exact a2⟩
 rw[eb]
 refine b1.done.done ?_
 rw[b4,b2,b3,ef,en];rfl
/-! ### What stays and what is new -/
def y1y(l:List Int)(n:Int):Bool:=l.any λx=>x==n
/-! ### Put in and taken out again -/
/-! ### Two points in whatever order -/

/-! ### Pairs of a list -/
def yk6{α:Type}(R:α->α->Bool):List α->Nat
 | []=>0
 | x :: xs=>xs.countP (R x)+yk6 R xs
theorem yk8{α:Type}{R:α->α->Bool}(sym:∀a b,R a b=R b a){a b:List α}(h:a.Perm b):yk6 R a=yk6 R b:=by
 induction h with
 | nil=>rfl
 | cons x h ih=>show _+_=_+_;rw[ih,h.countP_eq]
 | swap x y l =>
  show (x :: l).countP (R y)+(l.countP (R x)+yk6 R l)=(y :: l).countP (R x)+(l.countP (R y)+yk6 R l)
  rw[List.countP_cons,List.countP_cons,sym y x]
  omega
 | trans _ _ h1 h2=>exact h1.trans h2
theorem zpm{α:Type}{p q:α->Bool}:∀{l:List α},(∀x∈l,p x=q x)->l.countP p=l.countP q
 | [],_=>rfl
 | x :: l,h=>by
  rw[List.countP_cons,List.countP_cons,zpm λy hy=>h y (List.mem_cons_of_mem _ hy),h x List.mem_cons_self]
theorem yk7{α:Type}{R S:α->α->Bool}:∀{l:List α},(l.Pairwise λa b=>R a b=S a b)->yk6 R l=yk6 S l
 | [],_=>rfl
 | x :: l,h=>by
  obtain⟨h1,h2⟩:=List.pairwise_cons.1 h
  show _+_=_+_
  rw[yk7 h2,zpm h1]
theorem y4s(rk:Int->Nat):∀s:List Pt,y4p rk (s.map (·.1))=yk6 (λp q:Pt=>decide (rk q.1<rk p.1)) s
 | []=>rfl
 | p :: s=>by
  show (s.map (·.1)).countP _+y4p rk (s.map (·.1))=_+_
  rw[y4s rk s,List.countP_map];rfl

/-! ### Meetings -/
abbrev Mt:=(Int×Int)×Int×Int
def atP(p q:Pt):Int×Int:=(y8z (p.2.1-q.2.1) (q.2.2-p.2.2)).1
def ybb(p:Pt)(ps:List Pt):List Mt:=ps.filterMap λq=>if p.2.2=q.2.2 then none else some (atP p q,p.1,q.1)
def yb1:List Pt->List Mt
 | []=>[]
 | p :: ps=>ybb p ps++yb1 ps
theorem z8q{p q:Pt}(h:p.2.2≠q.2.2):atP p q=atP q p:=by
 unfold atP
 rw[y90 (show q.2.2-p.2.2≠0 by omega)]
 rw[show -(p.2.1-q.2.1)=q.2.1-p.2.1 by omega,show -(q.2.2-p.2.2)=p.2.2-q.2.2 by omega]
theorem ybi{p q:Pt}(op:okP p)(oq:okP q)(h:p.2.2<q.2.2){u:Int×Int}(ou:okR u):okR (atP p q)/\(leads q p u=true↔leR (atP p q) u)/\(leads p q u=true↔¬ leR (atP p q) u):=by
 obtain⟨x,y,g,g0,em,e1,e2,e3⟩:=yae op oq h
 have ea:atP p q=(x,y):=by unfold atP;rw[em]
 have fv:=zv9 e1 e2 u
 have key:zv8 p q u<=0↔leR (x,y) u:=by
  rw[fv]
  show _↔x*u.2<=u.1*y
  constructor
  ·intro hk
   rcases Int.lt_or_le (u.1*y) (x*u.2) with c|c
   ·have:=Int.mul_pos (show 0<x*u.2-u.1*y by omega) g0
    omega
   ·exact c
  ·intro hk
   have:=Int.mul_le_mul_of_nonneg_right (show x*u.2-u.1*y<=0 by omega) (show 0<=g by omega)
   rw[Int.zero_mul] at this;exact this
 have v:=zvb p q u
 rw[ea]
 refine⟨e3,?_,?_⟩
 ·rw[← key,y77];omega
 ·rw[← key,y77];omega
def inT(a b:Int×Int)(m:Int×Int):Bool:=!decide (znm m a<=0)&&decide (znm m b<=0)
def swR(a b:Int×Int)(p q:Pt):Bool:=(leads p q a&&leads q p b)||(leads q p a&&leads p q b)
theorem x2o(a b:Int×Int)(p q:Pt):swR a b p q=swR a b q p:=by unfold swR;rw[Bool.or_comm]
theorem x2n{a b:Int×Int}(oa:okR a)(ob:okR b)(hab:leR a b){p q:Pt}(op:okP p)(oq:okP q)(hne:p.1≠q.1):swR a b p q=(!decide (p.2.2=q.2.2)&&inT a b (atP p q)):=by
 have lt:∀{p q:Pt},okP p->okP q->p.2.2<q.2.2->swR a b p q=inT a b (atP p q):=λ{p q} op oq h=>by
  obtain⟨o1,a1,a2⟩:=ybi op oq h oa
  obtain⟨_,b1,b2⟩:=ybi op oq h ob
  have tr:leR (atP p q) a->leR (atP p q) b:=λx=>y6v o1 oa ob x hab
  have c1:∀u:Int×Int,decide (znm (atP p q) u<=0)=decide (leR (atP p q) u):=λu=>decide_eq_decide.2 zns
  unfold swR inT
  rw[c1,c1]
  by_cases x:leR (atP p q) a
  ·have y:=tr x
   have l1:leads p q a=false:=by
    cases e:leads p q a with
    | false=>rfl
    | true=>exact absurd x (a2.1 e)
   have l2:leads p q b=false:=by
    cases e:leads p q b with
    | false=>rfl
    | true=>exact absurd y (b2.1 e)
   rw[l1,l2,decide_eq_true x];simp
  ·have l1:leads q p a=false:=by
    cases e:leads q p a with
    | false=>rfl
    | true=>exact absurd (a1.1 e) x
   rw[l1,a2.2 x,decide_eq_false x]
   simp only[Bool.true_and,Bool.false_and,Bool.or_false,Bool.not_false]
   by_cases y:leR (atP p q) b
   ·rw[b1.2 y,decide_eq_true y]
   ·rw[decide_eq_false y]
    cases e:leads q p b with
    | false=>rfl
    | true=>exact absurd (b1.1 e) y
 rcases Int.lt_trichotomy p.2.2 q.2.2 with h|h|h
 ·rw[lt op oq h,decide_eq_false (by omega)];rfl
 ·rw[decide_eq_true h]
  have same:∀u v:Int×Int,okR u->okR v->leads p q u=true->leads q p v=true->False:=λu v ou ov h1 h2=>by
   rw[y77] at h1 h2
   have hu:=ou.d1;have hv:=ov.d1
   unfold x74 at h1 h2
   rw[h] at h1 h2
   have d1:q.2.1*u.2<p.2.1*u.2\/p.2.1*u.2=q.2.1*u.2/\p.1<q.1:=by omega
   have d2:p.2.1*v.2<q.2.1*v.2\/p.2.1*v.2=q.2.1*v.2/\q.1<p.1:=by omega
   have m1:q.2.1<p.2.1\/p.2.1=q.2.1/\p.1<q.1:=by
    rcases d1 with d|⟨d,e⟩
    ·exact .inl (Int.lt_of_mul_lt_mul_right d (by omega))
    ·exact .inr ⟨Int.eq_of_mul_eq_mul_right (by omega) d,e⟩
   have m2:p.2.1<q.2.1\/p.2.1=q.2.1/\q.1<p.1:=by
    rcases d2 with d|⟨d,e⟩
    ·exact .inl (Int.lt_of_mul_lt_mul_right d (by omega))
    ·exact .inr ⟨Int.eq_of_mul_eq_mul_right (by omega) d,e⟩
   omega
  have:swR a b p q=false:=by
   unfold swR
   cases e1:leads p q a&&leads q p b with
   | true=>rw[Bool.and_eq_true] at e1;exact(same a b oa ob e1.1 e1.2).elim
   | false =>
    cases e2:leads q p a&&leads p q b with
    | true=>rw[Bool.and_eq_true] at e2;exact(same b a ob oa e2.2 e2.1).elim
    | false=>rfl
  rw[this];rfl
 ·rw[x2o,lt oq op h,decide_eq_false (by omega),z8q (show q.2.2≠p.2.2 by omega)];rfl
theorem ybc(R:Int×Int->Bool)(p:Pt):∀ps:List Pt,(ybb p ps).countP (λm=>R m.1)=ps.countP λq=>!decide (p.2.2=q.2.2)&&R (atP p q)
 | []=>rfl
 | q :: ps=>by
  have ih:=ybc R p ps
  unfold ybb at ih ⊢
  rw[List.filterMap_cons,List.countP_cons]
  by_cases h:p.2.2=q.2.2
  ·rw[if_pos h,decide_eq_true h]
   simp only
   rw[ih];simp
  ·rw[if_neg h,decide_eq_false h]
   simp only
   rw[List.countP_cons,ih];simp
theorem yb2(R:Int×Int->Bool):∀f:List Pt,(yb1 f).countP (λm=>R m.1)=yk6 (λp q:Pt=>!decide (p.2.2=q.2.2)&&R (atP p q)) f
 | []=>rfl
 | p :: f=>by
  show (ybb p f++yb1 f).countP _=_+_
  rw[List.countP_append,ybc,yb2 R f]
theorem x3g{l:Ls}(ok:yh6 l){to:Int×Int}(hu:x6i l.ck to=0):x3d l to=(yb1 l.ck.f).countP λm=>inT l.ck.now to m.1:=by
 obtain⟨_,ot,hle⟩:=x6l.1 hu
 have of:=ok.ck.f
 have S:=yzx (ygy of) l.ck.now
 have os:=S.ids (ygy of)
 unfold x3d
 have eo:l.ord=(yzt l.ck.f l.ck.now).map (·.1):=ok.ord
 rw[eo,y4s,yb2 (inT l.ck.now to),← yk8 (λa b=>?_) S.perm]
 ·refine yk7 ?_
  refine List.Pairwise.imp_of_mem (λ{p q} hp hq h=>?_) (List.Pairwise.and S.ord os)
  have mp:=S.perm.mem_iff.1 hp
  have mq:=S.perm.mem_iff.1 hq
  have op:=of.each p mp
  have oq:=of.each q mq
  rw[← x2n ok.ck.now ot hle op oq h.2]
  unfold rkT
  rw[zz5 of mp,zz5 of mq]
  unfold swR
  rw[h.1,y73 h.1]
  simp only[Bool.true_and,Bool.false_and,Bool.or_false]
  by_cases x:leads q p to=true
  ·rw[x,decide_eq_true (yql of mp mq x)]
  ·have y:leads p q to=true:=(y7b (t:=to) h.2).resolve_right x
   have:=yql of mq mp y
   rw[Bool.not_eq_true] at x
   rw[x,decide_eq_false (by omega)]
 ·by_cases h:a.2.2=b.2.2
  ·rw[h];simp
  ·rw[z8q h,decide_eq_false h,decide_eq_false (λe=>h e.symm)]
end Go.Proofs.YtnhdkkblehadjabGreat
end
