/- The engine, parts LD, LE, LF, LG, LH, LI, LK, FA, RO, LQ, LW, MC, put together. Conditions: none. -/
import Derived.Test.YtnhdkkblehadjaaGreatPQ1
open Bool renaming and_eq_true->Qa,true_and->Qb,or_false->Qc,false_and->Qd
open Go.Eng.Hp renaming le->Qe,le_trans->Qg,le_refl->Qh
open Int renaming lt_or_le->Qi,toNat_natCast->Qj,lt_of_mul_lt_mul_right->Ql,eq_of_mul_eq_mul_right->Qm
open List renaming mem_of_getElem?->Qn,mem_cons_self->Qo,countP_cons->Qp,getD_eq_getElem?_getD->Qq,map_append->Qr,Perm->Qs,perm_middle->Qt,length_take->Qu,take_append_drop->Qv,pairwise_map->Qw,mem_cons_of_mem->Qx,take_length->Qy,pairwise_cons->Qz,mem_map_of_mem->Q1,mem_iff_getElem?->Q2,mem_cons->Q3,map_cons->Q4,getElem?_eq_some_iff->Q5,mem_append->Q6,length_cons->Q7,getElem?_eq_getElem->Q8,append_nil->Q9,all_eq_true->Xa,Pairwise->Xb,replicate->Xc,pairwise_append->Xd,mem_map->Xe,mem_filter->Xf,length_map->Xg,length_filterMap_le->Xh,length_eq_zero_iff->Xi,length_drop->Xj,length_append->Xk,getElem?_take->Xl,getElem?_drop->Xm,getElem?_append->Xn,filterMap_cons->Xo,countP_le_length->Xp,append_assoc->Xq,any_eq_false->Xr
set_option linter.unusedVariables false
section
set_option maxRecDepth 100000
open Go Go.Eng Go.Proofs
namespace Go.Proofs.YtnhdkkblehadjaaGreat
variable{l:Ls}{i k lo hi:Nat}{p q:Pt}{c:Ck}{s:Ag×List (Int×Int×Int)}{rest:List Ev}{h:Int×Int×Int}{o:List Int}{t to:Int×Int}{g:List Pt}
theorem zze.zero:zze .zero:=⟨⟨by show inI 0;unfold inI;omega,by show inI 0;unfold inI;omega⟩,by simp[Ck.zero],by simp[Ck.zero,Ct.zero],fitG.zero,by simp[Ck.zero]⟩
theorem okK.begin{f:List Pt}{t:Int×Int}(h:x8u f t=0):okK ⟨t,f,.zero,z9k 200,[]⟩:=by
 obtain⟨of,ot⟩:=x8v.1 h;have ob:=okA.begin (n:=200) (by omega) (by omega);exact⟨ot,of,(by decide:okC Ct.zero),rfl,ob,by simp[z9k],rfl,rfl⟩
structure Alt(c:Ck)(f:List Pt)(ps:List Ev)(i:Nat)(s:Ag×List (Int×Int×Int))(new rest:List Ev):Prop where
 ag:okA s.1
 wl:s.1.wh.length=200
 heap:s.1.heap.Perm (new++rest)
 due:s.2=new.map nh
 newT:ztq f c.now (c.ct.list.take i)=new.map nt
 oldT:ztq c.f c.now (c.ct.list.drop i)=rest.map nt
 mem:∀x∈rest,x∈ps
theorem zts(f:List Pt)(t:Int×Int)(h:Int×Int×Int)(l:List (Int×Int×Int)):ztq f t (h :: l)=(match xbv f h.2 t with|some s=>[(h.1,s)]|none=>[])++ztq f t l:=by
 unfold ztq;rw[Xo];cases xbv f h.2 t <;> rfl
theorem zty{f:List Pt}{l:List (Int×Int×Int)}{ps:List Ev}(e:ztq f t l=ps.map nt){x:Ev}(hx:x∈ps):∃h∈l,h.1=x.no:=by
 have:nt x∈ztq f t l:=by rw[e];exact Q1 hx
 obtain⟨h,hm,h1,_⟩:=ztx.1 this;exact⟨h,hm,h1.symm⟩
section
variable{c:Ck}{f:List Pt}{ps:List Ev}
theorem Alt.start(ok:okK c)(e:Evs c ps):Alt c f ps 0 (c.ag,[]) [] ps:=⟨ok.ag,ok.wl,e.heap,rfl,rfl,e.at_,λ_ h=>h⟩
theorem okK.incL(ok:okK c):c.ct.list.Pairwise λa b=>a.1<b.1:=ok.ct.ok.inc
theorem x83{α:Type}{R:α->α->Prop}{l:List α}(hp:l.Pairwise R){h x:α}(hi:l[i]?=some h):(x∈l.take i->R x h)/\(x∈l.drop (i+1)->R h x):=by
 have e:l=l.take i++h :: l.drop (i+1):=by rw[← ztp hi];exact(Qv i l).symm
 rw[e] at hp;obtain⟨_,h2,h3⟩:=Xd.1 hp;exact⟨λhx=>h3 x hx h Qo,λhx=>(Qz.1 h2).1 x hx⟩
theorem Alt.had(ok:okK c)(e:Evs c ps){new:List Ev}(a:Alt c f ps i s new rest)(hi:c.ct.list[i]?=some h) :
  (0<=yr4 c h.1->∃x rest',rest=x :: rest'/\x∈ps/\x.no=h.1/\y2r c.due (yr4 c h.1)=nh x/\yr4 c h.1<c.due.length/\ztq c.f c.now (c.ct.list.drop (i+1))=rest'.map nt) /\
  (yr4 c h.1<0->ztq c.f c.now (c.ct.list.drop (i+1))=rest.map nt):=by
 have o:=a.oldT;rw[ztp hi,zts] at o;have hm:=Qn hi;cases hw:xbv c.f h.2 c.now with
 | none =>
  rw[hw] at o;refine⟨λh0=>?_,λ_=>o⟩;obtain⟨x,hx,hn,_⟩:=e.pos.1 h0;obtain⟨h',hm',h1,h2⟩:=e.cert hx;have:h'=h:=by
   obtain⟨j,hj⟩:=Q2.1 hm';have a1:=(y2o ok.ct hi).1;have a2:=(y2o ok.ct hj).1;have a3:(j:Int)=i:=by rw[← a1,← a2,h1,hn]
   have a4:j=i:=by omega
   subst a4;rw[hi] at hj;cases hj;rfl
  subst this;rw[hw] at h2;cases h2
 | some s0 =>
  rw[hw] at o;cases rest with
  | nil=>cases o
  | cons x rest' =>
   simp only[List.singleton_append,Q4,List.cons.injEq] at o;have hn:x.no=h.1:=(congrArg Prod.fst o.1).symm;have hx:=a.mem x Qo;refine⟨λh0=>?_,λh0=>absurd hn (e.pos.2 h0 x hx)⟩;obtain⟨y,hy,hyn,hg,hl⟩:=e.pos.1 h0;have hxy:y=x:=by
    have hp:=Qw.1 (e.inc ok.ct);obtain⟨j,hj⟩:=Q2.1 hy;obtain⟨k,hk⟩:=Q2.1 hx;obtain⟨j1,j2⟩:=Q5.1 hj;obtain⟨k1,k2⟩:=Q5.1 hk;have hp':=List.pairwise_iff_getElem.1 hp;rcases Nat.lt_trichotomy j k with hjk|hjk|hjk
    ·have:=hp' j k j1 k1 hjk;rw[j2,k2] at this;omega
    ·subst hjk;rw[hj] at hk;cases hk;rfl
    ·have:=hp' k j k1 j1 hjk;rw[j2,k2] at this;omega
   subst hxy;exact⟨y,rest',rfl,hx,hn,hg,hl,o.2⟩
theorem Alt.mem_heap{new:List Ev}(a:Alt c f ps i s new rest){x:Ev}(hx:x∈rest):x∈s.1.heap:=a.heap.mem_iff.2 (List.mem_append_right _ hx)
theorem x7x{α:Type}{l:List α}{h:α}(hi:l[i]?=some h):l.take (i+1)=l.take i++[h]:=x88 hi
theorem okA.wl2{a:Ag}(h:okA a){n:Nat}(e:a.tb.uses.length=n):a.wh.length=n:=by rw[h.wl,e]
theorem Alt.step(ok:okK c)(e:Evs c ps)(of:okF f)(kn:y8l c.ct f=true){new:List Ev}(a:Alt c f ps i s new rest)(hi:c.ct.list[i]?=some h) :
  match z6o c f h s with
  | none=>xbv f h.2 c.now≠none/\yr4 c h.1<0/\¬ s.1.tb.canTake=true
  | some s'=>∃new' rest',Alt c f ps (i+1) s' new' rest':=by
 obtain⟨b1,b2⟩:=a.had ok e hi;have hm:=Qn hi;have nT:ztq f c.now (c.ct.list.take (i+1))=ztq f c.now (c.ct.list.take i)++(match xbv f h.2 c.now with|some s=>[(h.1,s)]|none=>[]):=by
  rw[x7x hi,ztr,zts];simp[ztq]
 have uw:s.1.tb.uses.length=200:=by rw[← a.ag.wl];exact a.wl
 unfold z6o;cases hw:xbv f h.2 c.now with
 | none =>
  rw[hw] at nT;simp only;by_cases h0:0<=yr4 c h.1
  ·rw[Zp h0];obtain⟨x,rest',rfl,hx,hn,hg,hl,o⟩:=b1 h0;have hxh:=a.mem_heap Qo;obtain⟨r,hwl⟩:=yxm a.ag hxh;rw[hg];refine⟨new,rest',r.ok,by rw[← a.wl];exact hwl,?_,a.due,by rw[nT,Q9];exact a.newT,o,λy hy=>a.mem y (Qx _ hy)⟩;exact((r.perm.trans a.heap).trans Qt).cons_inv
  ·rw[Zn h0];exact⟨new,rest,a.ag,a.wl,a.heap,a.due,by rw[nT,Q9];exact a.newT,b2 (by omega),a.mem⟩
 | some t =>
  rw[hw] at nT;simp only;have ht:okR t:=xbw of kn ok.now hm hw;by_cases h0:0<=yr4 c h.1
  ·rw[Zp h0];obtain⟨x,rest',rfl,hx,hn,hg,hl,o⟩:=b1 h0;have hxh:=a.mem_heap Qo;have r:=a.ag.rekeyed (h:=x.h) (t:=t) (a.ag.slot hxh).2.2.2.2 ht;rw[(zyr a.ag hxh).2] at r;rw[hg];refine⟨new++[{ x with at_:=t }],rest',r.ok,?_,?_,?_,?_,o,λy hy=>a.mem y (Qx _ hy)⟩
   ·exact okA.wl2 r.ok (by rw[r.tb];exact uw)
   ·have p1:(x :: (yx9 s.1 x.h t).heap).Perm (x :: (new++[{ x with at_:=t }]++rest')):=by
     refine r.perm.trans ((Qs.cons _ (a.heap.trans Qt)).trans ?_);refine(Qs.swap _ _ _).trans (Qs.cons _ ?_);rw[Xq];exact(Qt (a:=({ x with at_:=t }:Ev)) (l₁:=new) (l₂:=rest')).symm
    exact p1.cons_inv
   ·rw[a.due,Qr];rfl
   ·rw[nT,a.newT,Qr];show _++[(h.1,t)]=_++[(x.no,t)];rw[hn]
  ·rw[Zn h0];by_cases hc:s.1.tb.canTake=true
   ·rw[Zp hc];have hno:y43 s.1 h.1=false:=by
     unfold y43;rw[Xr];intro y hy hyn;have hyn:y.no=h.1:=by simpa using hyn
     rcases Q6.1 (a.heap.mem_iff.1 hy) with hy|hy
     ·obtain⟨h',hm',h1⟩:=zty a.newT hy;have:=(x83 ok.incL hi).1 hm';omega
     ·obtain⟨h',hm',h1⟩:=zty (b2 (by omega)) hy;have:=(x83 ok.incL hi).2 hm';omega
    have bd:=ok.ct.ok.each h hm;have:=ok.ct.n1;have pk:=a.ag.pushed (t:=t) (n:=h.1) ht bd.2.1 (by omega) hno hc;have pp:=yt1 (n:=h.1) a.ag ht hc;refine⟨new++[⟨t,h.1,yh1 s.1⟩],rest,pk,?_,?_,?_,?_,b2 (by omega),a.mem⟩
    ·refine okA.wl2 pk ?_;show (s.1.tb.taken).uses.length=200;simpa[Tb.taken] using uw
    ·refine pp.trans ((Qs.cons _ a.heap).trans ?_);rw[Xq];exact(Qt (a:=(⟨t,h.1,yh1 s.1⟩:Ev)) (l₁:=new) (l₂:=rest)).symm
    ·rw[a.due,Qr];rfl
    ·rw[nT,a.newT,Qr];rfl
   ·rw[Zn hc];exact⟨by simp,by omega,hc⟩
theorem z6l(c:Ck)(f:List Pt):∀(l:List (Int×Int×Int))(h:Int×Int×Int)(s:Ag×List (Int×Int×Int)),z6k c f (l++[h]) s=(z6k c f l s).bind (z6o c f h)
 | [],h,s=>by
  show (z6o c f h s).bind (z6k c f [])=z6o c f h s;cases z6o c f h s <;> rfl
 | x :: l,h,s=>by
  show (z6o c f x s).bind (z6k c f (l++[h]))=((z6o c f x s).bind (z6k c f l)).bind (z6o c f h);cases z6o c f x s with
  | none=>rfl
  | some s'=>exact z6l c f l h s'
theorem z6m(c:Ck)(f:List Pt):∀(l m:List (Int×Int×Int))(s:Ag×List (Int×Int×Int)),z6k c f l s=none->z6k c f (l++m) s=none
 | [],_,_,h=>by cases h
 | x :: l,m,s,h=>by
  have h:(z6o c f x s).bind (z6k c f l)=none:=h;show (z6o c f x s).bind (z6k c f (l++m))=none;cases hx:z6o c f x s with
  | none=>rfl
  | some s'=>rw[hx] at h;exact z6m c f l m s' h
theorem z6n{f:List Pt}(hi:c.ct.list[i]?=some h)(hs:z6k c f (c.ct.list.take i) (c.ag,[])=some s)(hn:z6o c f h s=none):z6x c f=(.zero,18):=by
 have e:z6k c f (c.ct.list.take (i+1)) (c.ag,[])=none:=by rw[x7x hi,z6l,hs];exact hn
 have e2:=z6m c f _ (c.ct.list.drop (i+1)) _ e;rw[Qv] at e2;unfold z6x;rw[e2]
theorem Alt.done(ok:okK c)(of:okF f)(kn:y8l c.ct f=true){new:List Ev}(a:Alt c f ps c.ct.list.length s new rest):okK { c with f:=f,ag:=s.1,due:=s.2 }/\Evs { c with f:=f,ag:=s.1,due:=s.2 } new:=by
 have hr:rest=[]:=by
  have:=a.oldT;rw[List.drop_length] at this;exact List.map_eq_nil_iff.1 this.symm
 have hn:=a.newT;rw[Qy] at hn;have hp:=a.heap;rw[hr,Q9] at hp;have ev:Evs { c with f:=f,ag:=s.1,due:=s.2 } new:=⟨hn,a.due,hp⟩;exact⟨okK.of ok.now of ok.ct kn a.ag a.wl ev,ev⟩
theorem Alt.upto(ok:okK c)(e:Evs c ps)(of:okF f)(kn:y8l c.ct f=true):∀(i:Nat),i<=c.ct.list.length->∀s,z6k c f (c.ct.list.take i) (c.ag,[])=some s->∃new rest,Alt c f ps i s new rest
 | 0,_,s,h=>by cases h;exact⟨_,_,Alt.start ok e⟩
 | i+1,hi,s,h=>by
  obtain⟨x,hx⟩:∃x,c.ct.list[i]?=some x:=⟨_,Q8 (by omega)⟩;rw[x7x hx,z6l] at h;cases h':z6k c f (c.ct.list.take i) (c.ag,[]) with
  | none=>rw[h'] at h;cases h
  | some s' =>
   rw[h'] at h;obtain⟨new,rest,a⟩:=Alt.upto ok e of kn i (by omega) s' h';have st:=a.step ok e of kn hx;have h:z6o c f x s'=some s:=h;rw[h] at st;exact st
theorem okK.altered(ok:okK c)(of:okF f)(kn:y8l c.ct f=true):((z6x c f).2=0->okK (z6x c f).1)/\((z6x c f).2≠0->z6x c f=(.zero,18)):=by
 obtain⟨ps,e⟩:=ok.evs;unfold z6x;cases h:z6k c f c.ct.list (c.ag,[]) with
 | none=>exact⟨λh=>absurd (show (18:Int)=0 from h) (by decide),λ_=>rfl⟩
 | some s =>
  refine⟨λ_=>?_,λh=>absurd rfl h⟩;obtain⟨new,rest,a⟩:=Alt.upto ok e of kn c.ct.list.length (Nat.le_refl _) s (by rw[Qy];exact h);exact(a.done ok of kn).1
end
structure KpS{α:Type}(k:Nat)(f:α->List Value)(H:Hp)(x d:Slc)(xs:List α):Prop where
 rd:Rd k f H x xs
 old:Old H x
 sep:Sep x d
section
variable{α:Type}{k:Nat}{f:α->List Value}{H H':Hp}{x d d':Slc}{xs:List α}
theorem KpS.le(h:KpS k f H x d xs)(l:Qe H H'):KpS k f H' x d xs:=⟨h.rd.le l,h.old.le l,h.sep⟩
theorem KpS.app(h:KpS k f H x d xs)(c:Chg H H' d)(e:Ext H d d'):KpS k f H' x d' xs :=
 ⟨h.rd.chg c h.sep,λp hp=>by rw[c _ (h.old p hp) λq hq e=>h.sep p q hp hq e.symm];exact h.old p hp,(h.sep.symm.ext h.old e).symm⟩
theorem KpS.new{e:TypeId}{H0:Hp}(m:Mine k f e H0 H x xs)(hk:∀x,(f x).length=k)(o:Old H0 d):KpS k f H x d xs:=⟨m.rd hk,m.isOld,(Sep.of o m.isNew).symm⟩
end
structure AgS(H:Hp)(v1 v2 v3 v4 v5 d:Slc)(a:Ag):Prop where
 k1:KpS 1 fI H v1 d a.tb.uses
 k2:KpS 1 fB H v2 d a.tb.used
 k3:KpS 1 fI H v3 d a.tb.free
 k4:KpS 5 fE H v4 d a.heap
 k5:KpS 1 fI H v5 d a.wh
section
variable{H H':Hp}{v1 v2 v3 v4 v5 d d':Slc}{a:Ag}
theorem AgS.rd(h:AgS H v1 v2 v3 v4 v5 d a):RdA H v1 v2 v3 v4 v5 a:=⟨⟨h.k1.rd,h.k2.rd,h.k3.rd⟩,h.k4.rd,h.k5.rd⟩
theorem AgS.le(h:AgS H v1 v2 v3 v4 v5 d a)(l:Qe H H'):AgS H' v1 v2 v3 v4 v5 d a:=⟨h.k1.le l,h.k2.le l,h.k3.le l,h.k4.le l,h.k5.le l⟩
theorem AgS.app(h:AgS H v1 v2 v3 v4 v5 d a)(c:Chg H H' d)(e:Ext H d d'):AgS H' v1 v2 v3 v4 v5 d' a:=⟨h.k1.app c e,h.k2.app c e,h.k3.app c e,h.k4.app c e,h.k5.app c e⟩
theorem AgS.new{H0:Hp}(n:z1c H0 H v1 v2 v3 v4 v5 a)(o:Old H0 d):AgS H v1 v2 v3 v4 v5 d a :=
 ⟨KpS.new n.tb.uses (λ_=>rfl) o,KpS.new n.tb.used (λ_=>rfl) o,KpS.new n.tb.free (λ_=>rfl) o,KpS.new n.heap (λ_=>rfl) o,KpS.new n.wh (λ_=>rfl) o⟩
theorem AgS.re{u1 u2 u3 u4 u5:Slc}{b:Ag}(h:AgS H u1 u2 u3 u4 u5 d a)(r:ReA H H' u1 u2 u3 v1 v2 v3 v4 v5 b)(o:Old H d):AgS H' v1 v2 v3 v4 v5 d b:=by
 have k4:KpS 5 fE H' v4 d b.heap:=KpS.new r.my.heap (λ_=>rfl) o;have k5:KpS 1 fI H' v5 d b.wh:=KpS.new r.my.wh (λ_=>rfl) o;obtain⟨t1,t2,t3⟩:=r.tb;rcases r.or with⟨rfl,rfl,rfl⟩|⟨rfl,rfl,rfl⟩
 ·exact⟨⟨t1,h.k1.old.le r.le,h.k1.sep⟩,⟨t2,h.k2.old.le r.le,h.k2.sep⟩,⟨t3,h.k3.old.le r.le,h.k3.sep⟩,k4,k5⟩
 ·exact⟨⟨t1,Old.zs,Sep.nil.symm⟩,⟨t2,Old.zs,Sep.nil.symm⟩,⟨t3,Old.zs,Sep.nil.symm⟩,k4,k5⟩
end
section
variable{c:Ck}{f:List Pt}{ps:List Ev}
theorem Alt.noHas(ok:okK c)(e:Evs c ps){new:List Ev}(a:Alt c f ps i s new rest)(hi:c.ct.list[i]?=some h)(h0:yr4 c h.1<0):y43 s.1 h.1=false:=by
 have b2:=(a.had ok e hi).2 h0;unfold y43;rw[Xr];intro y hy hyn;have hyn:y.no=h.1:=by simpa using hyn
 rcases Q6.1 (a.heap.mem_iff.1 hy) with hy|hy
 ·obtain⟨h',hm',h1⟩:=zty a.newT hy;have:=(x83 ok.incL hi).1 hm';omega
 ·obtain⟨h',hm',h1⟩:=zty b2 hy;have:=(x83 ok.incL hi).2 hm';omega
theorem Alt.push(ok:okK c)(e:Evs c ps){new:List Ev}(a:Alt c f ps i s new rest)(hi:c.ct.list[i]?=some h)(h0:yr4 c h.1<0)(ht:okR t) :
  ysu s.1 t h.1=if s.1.tb.canTake=true then (ysz s.1 t h.1,yh1 s.1,0) else (.zero,(0,0),18):=by
 have hno:=a.noHas ok e hi h0;have bd:=ok.ct.ok.each h (Qn hi);have:=ok.ct.n1;unfold ysu;rw[Zp ⟨a.ag,ht⟩,Zn (by omega),hno,Zn (by simp)]
theorem ztw(f:List Pt)(t:Int×Int)(l:List (Int×Int×Int)):(ztq f t l).length<=l.length:=Xh _ _
theorem Alt.len(ok:okK c){i:Nat}{s:Ag×List (Int×Int×Int)}{new rest:List Ev}(a:Alt c f ps i s new rest):s.2.length<=200:=by
 have h1:=congrArg List.length a.newT;have h2:=ztw f c.now (c.ct.list.take i);have h3:=ok.ct.len;rw[a.due];simp at h1 h2 ⊢;omega
end
theorem zmn{H:Hp}{u:Cu}{w:Slc}{f:List Pt}(r:RdK H u c)(fk:zze c)(hf:Rd 3 fD H w f) :
    fN F.f104 #[ckV u c,vFd w] H λv H'=>∃z:Cu,v=.tuple #[ckV z (z6s c f).1,vi (z6s c f).2]/\Qe H H'/\RdK H' z (z6s c f).1:=by
  have lc:=r.cl.len;have f1:=fk.ct;refine vc104 ⟨_,zmq r fk,λhc=>?_,λhc=>⟨_,zxq hf,λhc2=>?_,λhc2=>?_⟩⟩
  · have hk:¬ okK c:=λok=>by rw[zlv ok] at hc;simp at hc
    rw[zls hk];unfold z6s;rw[Zn hk];exact⟨zu,rfl,Qh _,RdK.zero⟩
  · have ok:okK c:=zlw.1 (by simpa using hc)
    have h2:zlg f≠0:=by simpa using hc2
    unfold z6s;rw[Zp ok,Zn h2];exact⟨zu,rfl,Qh _,RdK.zero⟩
  have ok:okK c:=zlw.1 (by simpa using hc);have h2:zlg f=0:=by simpa using hc2
  have of:=zlh.1 h2;refine upto (N:=c.ct.list.length) (J:=λi=>∀y∈c.ct.list.take i.toNat,(!ybr f y.2)=true) (by omega) (by simp) λi i0 i1 j=>⟨λhn=>?_,λhn=>?_⟩
  · have hn:i<c.ct.list.length:=by have:i<u.cl.n:=by simpa using hn
                                   omega
    have hg:=y3h (d:=((0:Int),(0:Int),(0:Int))) i0 hn;refine r.cl.ldD i0 hn ⟨_,_,_,zn0 hf of,_,_,_,λ_=>zn0 hf of,λhb=>?_,λhb=>upto.nx i0 hn (by omega) ?_⟩
    · rw[yqx of,yqx of] at hb
      have hk:¬ y8l c.ct f=true:=λh=>by
        rw[y8m] at h;have:=Xa.1 h _ (Qn hg);unfold ybr at this;rw[hb] at this;cases this
      unfold z6s;rw[Zp ok,Zp h2,Zn hk];exact⟨zu,rfl,Qh _,RdK.zero⟩
    · rw[yqx of,yqx of] at hb
      rw[show (i+1).toNat=i.toNat+1 by omega,x88 hg];intro y hy;rcases Q6.1 hy with hy|hy
      · exact j y hy
      · simp only[List.mem_singleton] at hy;subst hy
        unfold ybr;rw[hb];rfl
  have hi:i=c.ct.list.length:=by have:¬ i<u.cl.n:=by simpa using hn
                                 omega
  rw[hi,Qj,Qy] at j;have kn:y8l c.ct f=true:=by rw[y8m];exact Xa.2 j
  have ek:z6s c f=z6x c f:=by unfold z6s;rw[Zp ok,Zp h2,Zp kn]
  rw[ek];clear j hi hn i1 i0 i ek;obtain⟨ps,e⟩:=ok.evs;have lf:=of.small;refine(zn3 r fk).mono λv H17 ⟨w0,hv,l17,rw17,m17,s17,o17⟩=>⟨_,_,w0.f,_,w0.cl,w0.u1,w0.u2,w0.u3,w0.u4,w0.u5,w0.d,hv,(zny (hf.le l17) (by omega)).mono λv H30 ⟨fw,hv,l30,mf⟩=>⟨fw,hv,?_⟩⟩
  have le30:=Qg l17 l30;refine⟨λi n1 n2 u37 n38 u39 v1 v2 v3 v4 v5 d H'=>0<=i/\i<=c.ct.list.length/\n1=c.now.1/\n2=c.now.2/\n38=c.ct.next/\Qe H H'/\KpS 3 fD H' u37 d f/\KpS 3 fD H' u39 d c.ct.list /\
      ∃s,z6k c f (c.ct.list.take i.toNat) (c.ag,[])=some s/\AgS H' v1 v2 v3 v4 v5 d s.1/\Mine 3 fD T.api_Due H H' d s.2,
    λi _ _ _ _ _ _ _ _ _ _ _ _=>(c.ct.list.length-i).toNat,⟨Int.le_refl _,by omega,rfl,rfl,rfl,le30,⟨mf.rdD,mf.isOld,Sep.nil⟩,⟨rw17.cl.le l30,o17.cl.le l30,Sep.nil⟩,(c.ag,[]),rfl,
      ⟨⟨rw17.ag.tb.uses.le l30,o17.u1.le l30,Sep.nil⟩,⟨rw17.ag.tb.used.le l30,o17.u2.le l30,Sep.nil⟩,⟨rw17.ag.tb.free.le l30,o17.u3.le l30,Sep.nil⟩,⟨rw17.ag.heap.le l30,o17.u4.le l30,Sep.nil⟩,⟨rw17.ag.wh.le l30,o17.u5.le l30,Sep.nil⟩⟩,.inl ⟨rfl,rfl⟩⟩,
    λi n1 n2 u37 n38 u39 v1 v2 v3 v4 v5 d H' ⟨i0,i1,e1,e2,e3,le,kf,kl,s,hs,ags,md⟩=>?_⟩
  subst e1;subst e2;subst e3;have r46:=r.le le;have hf46:=hf.le le;refine⟨λhn=>?_,λhn=>?_⟩
  · have hn:i<c.ct.list.length:=by have:i<u.cl.n:=by simpa using hn
                                   omega
    have hg:=y3h (d:=((0:Int),(0:Int),(0:Int))) i0 hn;obtain⟨new,rest,a⟩:=Alt.upto ok e of kn i.toNat (by omega) s hs;obtain⟨ip,b,hq,hb1,hb2⟩:=zmz (n:=(c.ct.list.getD i.toNat (0,0,0)).1) r46 ok;refine r46.cl.ldD i0 hn ⟨_,_,_,_,zn6 (x:=(c.ct.list.getD i.toNat (0,0,0)).2) hf46 of fk.now,ip,b,hq,?_⟩;generalize c.ct.list.getD i.toNat (0,0,0)=x at hg hq hb1 hb2 ⊢;obtain⟨p1,p2⟩:=y8n kn (Qn hg);have hv:=(ok.ct.ok.each x (Qn hg)).1;have hne:x.2.1≠x.2.2:=by
      unfold xb5 at hv;simp only[Qa,bne_iff_ne] at hv;exact hv.2
    rw[xbz of ok.now p1 p2 hne];have al:=a.len ok;have had:=a.had ok e hg;have wok:=xbw (h:=x) of kn ok.now (Qn hg) (s:=o2 (xbv f x.2 c.now));have nx:∀{z1 z2 z3 z4 z5 d':Slc}{H2:Hp}{s':Ag×List (Int×Int×Int)},Qe H H2->KpS 3 fD H2 u37 d' f->KpS 3 fD H2 u39 d' c.ct.list->z6o c f x s=some s'->AgS H2 z1 z2 z3 z4 z5 d' s'.1->Mine 3 fD T.api_Due H H2 d' s'.2 ->
        inI (i+1)/\(0<=i+1/\i+1<=c.ct.list.length/\c.now.1=c.now.1/\c.now.2=c.now.2/\c.ct.next=c.ct.next/\Qe H H2/\KpS 3 fD H2 u37 d' f/\KpS 3 fD H2 u39 d' c.ct.list /\
          ∃s,z6k c f (c.ct.list.take (i+1).toNat) (c.ag,[])=some s/\AgS H2 z1 z2 z3 z4 z5 d' s.1/\Mine 3 fD T.api_Due H H2 d' s.2)/\(c.ct.list.length-(i+1)).toNat<(c.ct.list.length-i).toNat:=by
      intro z1 z2 z3 z4 z5 d' H2 s' g1 g2 g3 g4 g5 g6;refine⟨by unfold inI;omega,⟨by omega,by omega,rfl,rfl,rfl,g1,g2,g3,s',?_,g5,g6⟩,by omega⟩;rw[show (i+1).toNat=i.toNat+1 by omega,x7x hg,z6l,hs];exact g4
    cases hw:xbv f x.2 c.now with
    | some t =>
      have ht:okR t:=xbw of kn ok.now (Qn hg) hw;cases b with
      | true =>
        refine⟨λ_=>?_,λh=>by simp at h⟩;obtain⟨h0,rfl⟩:=hb1 rfl;obtain⟨y,rest',hr,hy,hyn,hgd,hlt,_⟩:=had.1 h0;have hyh:=a.mem_heap (x:=y) (by rw[hr];exact Qo);have hlv:=(a.ag.slot hyh).2.2.2.2;have hgd':c.due.getD (yr4 c x.1).toNat (0,0,0)=nh y:=hgd;have g2:=r46.due.gD2 h0 hlt;rw[hgd'] at g2;have er:yx6 s.1 y.h t=(yx9 s.1 y.h t,0):=by unfold yx6;rw[Zp ⟨a.ag,ht⟩,Zp hlv]
        refine⟨r46.due.inS h0 hlt,_,_,g2,(z4x (h:=y.h) (t:=t) ags.rd (okA.fitG a.ag) ht.fit).mono λv H59 ⟨z1,z2,z3,z4,z5,hv,re⟩=>⟨re.le,z1,z2,z3,z4,z5,_,hv,r46.due.inS h0 hlt,?_⟩⟩;have g1:=(r46.due.le re.le).gD h0 hlt;rw[hgd'] at g1;rw[er] at re ⊢;refine⟨_,_,_,g1,λb69 H70 hb69 hH=>?_⟩;refine(z7b (k:=3) (f:=fD) (bytes:=24) (x:=nh y) (e:=T.api_Due) (by kernel_rfl) (by decide) (λ_=>rfl) zws (Qg le re.le) (md.le re.le) hb69 hH rfl (by omega) (by omega)).mono λv H72 ⟨d',hv,l72,m72,c72,e72⟩=>⟨d',hv,λh=>by simp at h,λ_=>?_⟩
        refine nx (s':=(yx9 s.1 y.h t,s.2++[nh y])) l72 ((kf.le re.le).app c72 e72) ((kl.le re.le).app c72 e72) ?_ ((ags.re re md.isOld).app c72 e72) m72;unfold z6o;rw[hw];simp only;rw[Zp h0,hgd];rfl
      | false =>
        refine⟨λh=>by simp at h,λ_=>⟨λ_=>?_,λh=>by simp at h⟩⟩;have h0:=hb2 rfl;have hp:=a.push ok e hg h0 ht;refine(z4v (t:=t) (n:=x.1) ags.rd (okA.fitG a.ag) ht.fit).mono λv H75 ⟨z1,z2,z3,z4,z5,hv,na⟩=>⟨z1,z2,z3,z4,z5,_,_,_,hv,λb84 H85 hb84 hH=>?_⟩
        refine(z7b (k:=3) (f:=fD) (bytes:=24) (x:=(x.1,(ysu s.1 t x.1).2.1)) (e:=T.api_Due) (by kernel_rfl) (by decide) (λ_=>rfl) zws (Qg le na.le) (md.le na.le) hb84 hH rfl (by omega) (by omega)).mono λv H87 ⟨d',hv,l87,m87,c87,e87⟩=>⟨d',hv,λh=>?_,λh=>?_⟩
        · by_cases hct:s.1.tb.canTake=true
          · rw[hp,Zp hct] at h;simp at h
          · rw[hp,Zn hct]
            have es:=z6n hg hs (by unfold z6o;rw[hw];simp only;rw[Zn (by omega),Zn hct]);rw[es];exact⟨zu,rfl,l87,RdK.zero⟩
        · by_cases hct:s.1.tb.canTake=true
          · rw[hp,Zp hct] at na m87
            refine nx (s':=(ysz s.1 t x.1,s.2++[(x.1,yh1 s.1)])) l87 ((kf.le na.le).app c87 e87) ((kl.le na.le).app c87 e87) ?_ ((AgS.new na md.isOld).app c87 e87) m87;unfold z6o;rw[hw];simp only;rw[Zn (by omega),Zp hct]
          · rw[hp,Zn hct] at h;simp at h
    | none =>
      refine⟨λh=>by simp at h,λ_=>⟨λh=>by simp at h,λ_=>?_⟩⟩;cases b with
      | true =>
        refine⟨λ_=>?_,λh=>by simp at h⟩;obtain⟨h0,rfl⟩:=hb1 rfl;obtain⟨y,rest',hr,hy,hyn,hgd,hlt,_⟩:=had.1 h0;have hyh:=a.mem_heap (x:=y) (by rw[hr];exact Qo);have hgd':c.due.getD (yr4 c x.1).toNat (0,0,0)=nh y:=hgd;have g2:=r46.due.gD2 h0 hlt;rw[hgd'] at g2;refine⟨r46.due.inS h0 hlt,_,_,g2,(z4y (h:=y.h) ags.rd (okA.fitG a.ag)).mono λv H92 ⟨z1,z2,z3,z4,z5,hv,na⟩=>⟨na.le,z1,z2,z3,z4,z5,_,_,_,_,_,_,hv,?_⟩⟩;rw[yxg a.ag hyh] at na ⊢;refine⟨λh=>by simp at h,λ_=>nx (s':=(yxk s.1 y.h,s.2)) (Qg le na.le) (kf.le na.le) (kl.le na.le) ?_ (AgS.new na md.isOld) (md.le na.le)⟩;unfold z6o;rw[hw];simp only;rw[Zp h0,hgd];rfl
      | false =>
        have h0:=hb2 rfl;refine⟨λh=>by simp at h,λ_=>⟨λh=>by simp at h,λ_=>nx (s':=s) le kf kl ?_ ags md⟩⟩;unfold z6o;rw[hw];simp only;rw[Zn (by omega)]
  · have hi:i=c.ct.list.length:=by have:¬ i<u.cl.n:=by simpa using hn
                                   omega
    rw[hi,Qj,Qy] at hs;have es:z6x c f=({ c with f:=f,ag:=s.1,due:=s.2 },0):=by unfold z6x;rw[hs]
    rw[es];exact⟨⟨u37,u39,v1,v2,v3,v4,v5,d⟩,rfl,le,kf.rd,kl.rd,ags.rd,md.rdD⟩
section
variable{c:Ck}{t:Int×Int}
end
theorem okK.dueLen(ok:okK c):c.due.length=(ztq c.f c.now c.ct.list).length:=by
 obtain⟨ps,e⟩:=ok.evs;rw[e.due,e.at_];simp
theorem okK.dueLe(ok:okK c):c.due.length<=c.ct.list.length:=by
 rw[ok.dueLen];exact Xh _ _
def ybs(f:List Pt)(id:Int):Nat:=yrl (f.map (·.1)) id
def y6b(f:List Pt)(p:Pt):List Pt:=f.take (ybs f p.1)++p :: f.drop (ybs f p.1)
def putF(f:List Pt)(p:Pt):List Pt×Int:=if zlg f≠0 then ([],zlg f) else if ¬ okP p then ([],8) else if 0<=yr5 f p.1 then ([],14) else if f.length=64 then ([],18) else (y6b f p,0)
def yme(f:List Pt)(id:Int):List Pt:=f.filter λq=>q.1 != id
def x7m(f:List Pt)(id:Int):List Pt×Int:=if zlg f≠0 then ([],zlg f) else if yr5 f id<0 then ([],6) else (yme f id,0)
theorem y6e(f:List Pt)(p:Pt):(y6b f p).Perm (p :: f):=by
 unfold y6b;have:=Qt (a:=p) (l₁:=f.take (ybs f p.1)) (l₂:=f.drop (ybs f p.1));rw[Qv] at this;exact this
theorem y6c(f:List Pt)(p:Pt):(y6b f p).length=f.length+1:=by rw[(y6e f p).length_eq];rfl
theorem yr8{f:List Pt}{id:Int}(h:yr5 f id<0):∀q∈f,q.1≠id:=λq hq e=>by
 have:=y5v h q hq;simp at this;exact this e
theorem yrb{f:List Pt}(hq:q∈f):0<=yr5 f q.1:=by
 rcases Qi (yr5 f q.1) 0 with h|h
 ·exact absurd rfl (yr8 h q hq)
 ·exact h
theorem yr7{f:List Pt}{id:Int}:0<=yr5 f id↔id∈f.map (·.1):=by
 constructor
 ·intro h;obtain⟨_,h2,h3⟩:=yra h;rw[← h3];exact Q1 (Qn h2)
 ·intro h;obtain⟨q,hq,e⟩:=Xe.1 h;rw[← e];exact yrb hq
theorem yk3{f:List Pt}(of:okF f)(op:okP p)(hn:yr5 f p.1<0)(hl:f.length<64):okF (y6b f p):=by
 refine⟨by rw[y6c];omega,λq hq=>?_,?_⟩
 ·rcases Q3.1 ((y6e f p).mem_iff.1 hq) with rfl|h
  ·exact op
  ·exact of.each q h
 ·have hs:=of.inc;have hk:=yro (f.map (·.1)) p.1;rw[Xg] at hk;have key:(f.take (ybs f p.1)).map (·.1)++p.1 :: (f.drop (ybs f p.1)).map (·.1)=(y6b f p).map (·.1):=by unfold y6b;rw[Qr,Q4]
  rw[← key,List.map_take,List.map_drop,Xd];have before:∀x∈(f.map (·.1)).take (ybs f p.1),x<p.1:=λx hx=>by
   obtain⟨i,hi,e⟩:=List.mem_take_iff_getElem.1 hx;exact yrp (l:=f.map (·.1)) (t:=p.1) (i:=i) (by unfold ybs at hi;omega) (by rw[← e];exact Q8 (by omega))
  have behind:∀x∈(f.map (·.1)).drop (ybs f p.1),p.1<x:=λx hx=>by
   obtain⟨i,hi,e⟩:=List.mem_drop_iff_getElem.1 hx;have h1:=yrn hs (t:=p.1) (i:=ybs f p.1+i) (x:=x) (by unfold ybs;omega) (by rw[Q8 (by omega),e]);have hm:x∈f.map (·.1):=List.mem_of_mem_drop hx;obtain⟨q,hq,e2⟩:=Xe.1 hm;have:=yr8 hn q hq;omega
  refine⟨hs.sublist (List.take_sublist _ _),Qz.2 ⟨behind,hs.sublist (List.drop_sublist _ _)⟩,λx hx y hy=>?_⟩;have h1:=before x hx;rcases Q3.1 hy with rfl|h
  ·exact h1
  ·have:=behind y h;omega
theorem yk1{f:List Pt}(of:okF f)(og:okF g)(h:f.Perm g):f=g:=by
 refine x5i (lt:=λa b:Pt=>decide (a.1<b.1)) (S:=(·∈f)) (λa b ha hb h1 h2=>?_) f g h (λx hx=>hx) ?_ ?_
 ·have h1:¬ a.1<b.1:=by simpa using h1
  have h2:¬ b.1<a.1:=by simpa using h2
  have e:a.1=b.1:=by omega
  rw[← y1e of ha,← y1e of hb,e]
 ·exact(Qw.1 of.inc).imp λh=>by simp;omega
 ·exact(Qw.1 og.inc).imp λh=>by simp;omega
theorem yk5{f:List Pt}(of:okF f)(id:Int):okF (yme f id):=by
 have hs:(yme f id).Sublist f:=List.filter_sublist;exact⟨by have:=hs.length_le;have:=of.len;omega,λq hq=>of.each q (hs.subset hq),of.inc.sublist (hs.map _)⟩
theorem ymi(f:List Pt)(id:Int):yr5 (yme f id) id<0:=by
 rcases Qi (yr5 (yme f id) id) 0 with h|h
 ·exact h
 ·obtain⟨_,h2,h3⟩:=yra h;have:=(Xf.1 (Qn h2)).2;rw[h3] at this;simp at this
theorem ymh{f:List Pt}{id:Int}:q∈yme f id↔q∈f/\q.1≠id:=by
 unfold yme;rw[Xf];simp
theorem ymj:∀{f:List Pt},(f.map (·.1)).Nodup->∀{p:Pt},p∈f->f.Perm (p :: yme f p.1)
 | [],_,_,h=>by cases h
 | q :: f,hn,p,h=>by
  rw[Q4,List.nodup_cons] at hn;by_cases e:q.1=p.1
  ·have hq:p=q:=by
    rcases Q3.1 h with h|h
    ·exact h
    ·exact absurd (by rw[e];exact Q1 h) hn.1
   subst hq;have:yme (p :: f) p.1=f:=by
    unfold yme;rw[List.filter_cons_of_neg (by simp)];exact List.filter_eq_self.2 λy hy=>by
     rw[bne_iff_ne];intro e2;exact hn.1 (by rw[← e2];exact Q1 hy)
   rw[this]
  ·have hp:p∈f:=by
    rcases Q3.1 h with h|h
    ·subst h;exact absurd rfl e
    ·exact h
   have:yme (q :: f) p.1=q :: yme f p.1:=by
    unfold yme;rw[List.filter_cons_of_pos (by simpa using e)]
   rw[this];exact((ymj hn.2 hp).cons q).trans (Qs.swap _ _ _)
theorem yk4{f:List Pt}(of:okF f):(f.map (·.1)).Nodup:=of.inc.imp λh=>by omega
theorem y6d{f:List Pt}(of:okF f)(hp:p∈f):y6b (yme f p.1) p=f:=by
 have hperm:=ymj (yk4 of) hp;have hl:=hperm.length_eq;rw[Q7] at hl;have:=of.len;exact yk1 (yk3 (yk5 of _) (of.each p hp) (ymi f p.1) (by omega)) of ((y6e _ _).trans hperm.symm)
theorem ymg{f:List Pt}(of:okF f)(op:okP p)(hn:yr5 f p.1<0)(hl:f.length<64):yme (y6b f p) p.1=f:=by
 have o:=yk3 of op hn hl;have hp:p∈y6b f p:=(y6e f p).mem_iff.2 Qo;exact yk1 (yk5 o _) of ((((y6e f p).symm.trans (ymj (yk4 o) hp)).cons_inv).symm)
def y6j(o:List Int)(i:Nat)(x:Int):List Int:=o.take i++x :: o.drop i
def zso(o:List Int)(i:Nat):List Int:=o.take i++o.drop (i+1)
theorem y6m{x:Int}(h:i<=o.length):(y6j o i x).length=o.length+1:=by
 unfold y6j;rw[Xk,Q7,Qu,Xj];omega
theorem zsq(h:i<o.length):(zso o i).length=o.length-1:=by
 unfold zso;rw[Xk,Qu,Xj];omega
theorem y6l{x:Int}(h:i<=o.length)(k:Nat):(y6j o i x).getD k 0=if k<i then o.getD k 0 else if k=i then x else o.getD (k-1) 0:=by
 have tl:(o.take i).length=i:=by rw[Qu];omega
 unfold y6j;rw[Qq,Xn,tl];by_cases h1:k<i
 ·rw[Zp h1,Zp h1,Xl,Zp h1,Qq]
 ·rw[Zn h1,Zn h1];by_cases h2:k=i
  ·rw[Zp h2,h2,Nat.sub_self];rfl
  ·rw[Zn h2];obtain⟨j,rfl⟩:∃j,k=i+j+1:=⟨k-i-1,by omega⟩;rw[show i+j+1-i=j+1 by omega,List.getElem?_cons_succ,Xm,show i+j+1-1=i+j by omega,Qq]
theorem zsp(h:i<o.length)(k:Nat):(zso o i).getD k 0=if k<i then o.getD k 0 else o.getD (k+1) 0:=by
 have tl:(o.take i).length=i:=by rw[Qu];omega
 unfold zso;rw[Qq,Xn,tl];by_cases h1:k<i
 ·rw[Zp h1,Zp h1,Xl,Zp h1,Qq]
 ·rw[Zn h1,Zn h1,Xm,show i+1+(k-i)=k+1 by omega,Qq]
theorem zsr{x:Int}(h:i<=o.length):zso (y6j o i x) i=o:=by
 have tl:(o.take i).length=i:=by rw[Qu];omega
 unfold zso y6j;rw[List.take_append_of_le_length (by omega),List.take_take,Nat.min_self,List.drop_append,tl,show i+1-i=1 by omega,List.drop_eq_nil_of_le (show (o.take i).length<=i+1 by omega)];exact Qv i o
theorem y6k{a b:List Int}{x:Int}(h:a.length=i):y6j (a++b) i x=a++x :: b:=by
 subst h;unfold y6j;simp
theorem ym4{f:List Pt}(of:okF f)(op:okP p)(hn:yr5 f p.1<0)(hl:f.length<64)(t:Int×Int):yu7 f p t<=f.length/\yll (y6b f p) t=y6j (yll f t) (yu7 f p t) p.1:=by
 have o:=yk3 of op hn hl;have hp:p∈y6b f p:=(y6e f p).mem_iff.2 Qo;have S:=x4o (yk2 o) t;have er:yu7 (y6b f p) p t=yu7 f p t:=by
  unfold yu7;rw[(y6e f p).countP_eq,Qp,Zn (by simp)];rfl
 have ha:=S.at_rank (yk2 o) hp;rw[er] at ha;generalize hs:x4k (y6b f p) t=s at *
 have e:s=s.take (yu7 f p t)++p :: s.drop (yu7 f p t+1):=by rw[← ztp ha];exact(Qv _ s).symm
 have hlt:=(Q5.1 ha).1;have tl:(s.take (yu7 f p t)).length=yu7 f p t:=by rw[Qu];omega
 have S2:z27 f t (s.take (yu7 f p t)++s.drop (yu7 f p t+1)):=by
  refine⟨?_,?_⟩
  ·have h1:=S.perm.trans (y6e f p);rw[e] at h1;exact(Qt.symm.trans h1).cons_inv
  ·have h1:=S.ord;rw[e] at h1;refine h1.sublist ?_;exact List.Sublist.append_left (List.sublist_cons_self _ _) _
 have e2:=S2.eq (x4o (yk2 of) t) (yk2 of);refine⟨Xp,?_⟩;unfold yll;rw[hs,← e2];conv=>lhs;rw[e]
 rw[Qr,Qr,Q4,y6k (by rw[Xg];exact tl)]
theorem ym5{f:List Pt}(of:okF f)(hp:p∈f)(t:Int×Int):yrt (yll f t) p.1=yu7 f p t/\yu7 f p t<f.length/\yll (yme f p.1) t=zso (yll f t) (yu7 f p t):=by
 obtain⟨a1,a2⟩:=ylm (yk2 of) (t:=t) hp;have hperm:=ymj (yk4 of) hp;have hl:=hperm.length_eq;rw[Q7] at hl;have l64:=of.len;have oi:=ym4 (yk5 of p.1) (of.each p hp) (ymi f p.1) (by omega) t;rw[y6d of hp] at oi;have er:yu7 (yme f p.1) p t=yu7 f p t:=by
  unfold yu7;rw[hperm.countP_eq,Qp,Zn (by simp)];rfl
 rw[er] at oi;have hd:(yll f t).Pairwise (·≠·):=by
  unfold yll;rw[Qw];exact(x4o (yk2 of) t).ids (yk2 of)
 refine⟨yru hd a2,a1,?_⟩;rw[oi.2,zsr (by rw[ylo];exact oi.1)]
structure z20(c:Ck)(k:Nat):Prop where
 next:c.ct.next+k<=1000000
 uses:∀i:Nat,c.ag.tb.uses.getD i 0+k<=1000000
theorem z20.less{m:Nat}(r:z20 c k)(h:m<=k):z20 c m :=
 ⟨by have:=r.next;omega,λi=>by have:=r.uses i;omega⟩
theorem z20.add{y:Int×Int}(ok:okK c)(r:z20 c (k+1))(hv:xb5 y=true)(hh:y44 c.ct y=false)(hl:c.ct.list.length<200):(z3k c y).2.2=0/\z20 (z3k c y).1 k:=by
 have rn:=r.next;have ea:z3e c.ct y=(⟨c.ct.next+1,c.ct.list++[(c.ct.next,y)]⟩,c.ct.next,0):=by
  unfold z3e;rw[Zp ⟨ok.ct,hv⟩,hh,Zn (by simp),Zn (by omega)]
 have hc:c.ag.tb.canTake=true:=by
  have a1:=ok.ag.hl;have a2:=ok.wl;have a3:=ok.ag.wl;have a4:=ok.hl;have a5:=ok.dueLe;exact zbx.2 ⟨by omega,by have:=r.uses (x9q c.ag.tb.free).toNat;omega⟩
 have hfl:0<c.ag.tb.free.length:=(zbx.1 hc).1;obtain⟨tm,k0,k1⟩:=ok.ag.tb.topR hfl;unfold z3k;rw[ea,Zp rfl];cases xbv c.f y c.now with
 | none =>
  refine⟨rfl,?_,λi=>?_⟩
  ·show c.ct.next+1+k<=_;omega
  ·show c.ag.tb.uses.getD i 0+k<=_;have:=r.uses i;omega
 | some s =>
  simp only;rw[Zp hc];refine⟨rfl,?_,λi=>?_⟩
  ·show c.ct.next+1+k<=_;omega
  ·show (c.ag.tb.uses.set _ _).getD i 0+k<=_;have u1:=r.uses i;rw[y30 (by omega)];have:=r.uses (x9q c.ag.tb.free).toNat;split <;> omega
theorem yxl(a:Ag)(h:Int×Int):(yxk a h).tb.uses=a.tb.uses:=by
 unfold yxk;split <;> rfl
theorem y3s(c:Ck)(n:Int):(y3q c n).ag.tb.uses=c.ag.tb.uses:=by
 unfold y3q;split
 ·exact yxl _ _
 ·rfl
theorem z20.gone(r:z20 c k)(n:Int):z20 (y3q c n) k:=by
 refine⟨?_,λi=>?_⟩
 ·rw[(y3r c n).1];exact r.next
 ·rw[y3s];exact r.uses i
theorem z20.goneIf{c:Ck}{k:Nat}(r:z20 c k)(b:Bool)(n:Int):z20 (Go.Proofs.YtnhdkkblehadjaaGreat.goneIf c b n) k:=by
 unfold Go.Proofs.YtnhdkkblehadjaaGreat.goneIf;split
 ·exact r.gone n
 ·exact r
theorem z20.at(r:z20 c k)(t:Int×Int):z20 { c with now:=t } k:=⟨r.next,r.uses⟩
theorem z6p{c:Ck}(ok:okK c){f:List Pt}:∀(l:List (Int×Int×Int)),(∀h∈l,h∈c.ct.list/\xbv f h.2 c.now=xbv c.f h.2 c.now)->∀s,∃s',z6k c f l s=some s'/\s'.1.tb.uses=s.1.tb.uses
 | [],_,s=>⟨s,rfl,rfl⟩
 | h :: l,hs,s=>by
  obtain⟨hm,hw⟩:=hs h Qo;have rest:=z6p ok l λx hx=>hs x (Qx _ hx)
  have step:∃s1,z6o c f h s=some s1/\s1.1.tb.uses=s.1.tb.uses:=by
   unfold z6o;cases e:xbv f h.2 c.now with
   | none =>
    simp only;split
    ·exact⟨_,rfl,yxl _ _⟩
    ·exact⟨_,rfl,rfl⟩
   | some t =>
    rw[hw] at e;obtain⟨ps,ev⟩:=ok.evs;obtain⟨x,hx,hn,_⟩:=ev.of_cert hm e;have h0:0<=yr4 c h.1:=by
     rcases Qi (yr4 c h.1) 0 with h0|h0
     ·exact absurd hn (ev.pos.2 h0 x hx)
     ·exact h0
    simp only;rw[Zp h0];exact⟨_,rfl,rfl⟩
  obtain⟨s1,e1,u1⟩:=step;obtain⟨s2,e2,u2⟩:=rest s1;refine⟨s2,?_,u2.trans u1⟩;show (z6o c f h s).bind (z6k c f l)=_;rw[e1];exact e2
structure z0h(c:Ck)(f:List Pt):Prop where
 z:(z6x c f).2=0
 ok:okK (z6x c f).1
 ct:(z6x c f).1.ct=c.ct
 fe:(z6x c f).1.f=f
 now:(z6x c f).1.now=c.now
 room:∀k,z20 c k->z20 (z6x c f).1 k
theorem calm(ok:okK c){f:List Pt}(of:okF f)(kn:y8l c.ct f=true)(hs:∀h∈c.ct.list,xbv f h.2 c.now=xbv c.f h.2 c.now):z0h c f:=by
 obtain⟨s,e,u⟩:=z6p ok c.ct.list (λh hm=>⟨hm,hs h hm⟩) (c.ag,[]);have ea:z6x c f=({ c with f:=f,ag:=s.1,due:=s.2 },0):=by unfold z6x;rw[e]
 have o:=(ok.altered of kn).1 (by rw[ea]);rw[ea] at o;refine⟨by rw[ea],by rw[ea];exact o,by rw[ea],by rw[ea],by rw[ea],λk r=>?_⟩;rw[ea];refine⟨r.next,λi=>?_⟩;show s.1.tb.uses.getD i 0+k<=_;rw[u];exact r.uses i
theorem Mid.of_cert(m:Mid l lo hi)(hm:h∈l.ck.ct.list):∃k,k<l.num.length/\(k<lo\/hi<=k)/\h=(l.num.getD k 0,yn6 l.ord k):=by
 have nl:=m.nl;have cl:=m.cl;have le:=m.le;have hl:=m.hl;obtain⟨j,hj⟩:=Q2.1 hm;have hjl:=(Q5.1 hj).1;have gp:∀i,i<l.ck.ct.list.length->(if i<lo then i else i+(hi-lo))<l.num.length/\((if i<lo then i else i+(hi-lo))<lo\/hi<=(if i<lo then i else i+(hi-lo))):=λi hi'=>by
  split <;> omega
 have facts:∀k,k<l.num.length->(k<lo\/hi<=k)->0<=atC l.ck.ct (l.num.getD k 0)/\atC l.ck.ct (l.num.getD k 0)<l.ck.ct.list.length/\y2r l.ck.ct.list (atC l.ck.ct (l.num.getD k 0))=(l.num.getD k 0,yn6 l.ord k):=λk hk ho=>m.ck.ct.at_mem (m.certs k hk ho)
 obtain⟨i,hi',he⟩:=z6h (n:=l.ck.ct.list.length) (f:=λi=>(atC l.ck.ct (l.num.getD (if i<lo then i else i+(hi-lo)) 0)).toNat) (λi i' h1 h2 he=>by
  obtain⟨a1,a2⟩:=gp i h1;obtain⟨b1,b2⟩:=gp i' h2;obtain⟨a3,a4,a5⟩:=facts _ a1 a2;obtain⟨b3,b4,b5⟩:=facts _ b1 b2;have he:(atC l.ck.ct (l.num.getD (if i<lo then i else i+(hi-lo)) 0)).toNat=(atC l.ck.ct (l.num.getD (if i'<lo then i' else i'+(hi-lo)) 0)).toNat:=he;have e:atC l.ck.ct (l.num.getD (if i<lo then i else i+(hi-lo)) 0)=atC l.ck.ct (l.num.getD (if i'<lo then i' else i'+(hi-lo)) 0):=by omega
  rw[e,b5] at a5;have ep:=ynh (ypb m.ck.f m.perm) (by omega) (by omega) (congrArg Prod.snd a5);split at ep <;> split at ep <;> omega) (λi h1=>by
  obtain⟨a1,a2⟩:=gp i h1;obtain⟨a3,a4,a5⟩:=facts _ a1 a2;show (atC l.ck.ct (l.num.getD (if i<lo then i else i+(hi-lo)) 0)).toNat<_;omega) (k:=j) hjl
 have he:(atC l.ck.ct (l.num.getD (if i<lo then i else i+(hi-lo)) 0)).toNat=j:=he;obtain⟨a1,a2⟩:=gp i hi';obtain⟨a3,a4,a5⟩:=facts _ a1 a2;refine⟨_,a1,a2,?_⟩;rw[← a5];unfold y2r;rw[he,Qq,hj];rfl
theorem Mid.valid(m:Mid l lo hi)(h:i<l.num.length):xb5 (yn6 l.ord i)=true:=by
 have e:=m.certify h;unfold zd7 at e;have nl:=m.nl;have p1:0<=yr5 l.ck.f (yn6 l.ord i).1:=ypf m.ck.f m.perm (ydn (by omega));have p2:0<=yr5 l.ck.f (yn6 l.ord i).2:=ypf m.ck.f m.perm (ydn (by omega));have hne:(yn6 l.ord i).1≠(yn6 l.ord i).2:=λe=>by
  have d:=ypb m.ck.f m.perm;have a1:=yrw d (k:=i+1) (by omega);have a2:=yrw d (k:=i) (by omega);have e:l.ord.getD (i+1) 0=l.ord.getD i 0:=e;rw[e,a2] at a1;omega
 have q1:=m.ck.f.pt p1;have q2:=m.ck.f.pt p2;have r1:=(yra p1).2.2;have r2:=(yra p2).2.2;have a1:=q1.i0;have a2:=q1.i1;have a3:=q2.i0;have a4:=q2.i1;rw[r1] at a1 a2;rw[r2] at a3 a4;unfold xb5;simp only[Qa,Zq,bne_iff_ne,ne_eq];omega
theorem Mid.roomy(m:Mid l lo hi)(h:lo<hi)(r:z20 l.ck (k+1)):(yby l lo).2=0/\z20 (yby l lo).1.ck k:=by
 have hl:=m.hl;have nl:=m.nl;have cl:=m.cl;have sm:=m.small;have hh:y44 l.ck.ct (yn6 l.ord lo)=false:=by
  cases e:y44 l.ck.ct (yn6 l.ord lo) with
  | false=>rfl
  | true =>
   obtain⟨z,hz,e⟩:=List.any_eq_true.1 e;rw[beq_iff_eq] at e;obtain⟨k,h1,h2,h3⟩:=m.of_cert hz;rw[h3] at e;have:=ynh (ypb m.ck.f m.perm) (by omega) (by omega) e;omega
 obtain⟨a1,a2⟩:=r.add m.ck (m.valid (by omega)) hh (by omega);unfold yby;rw[Zp a1];exact⟨rfl,a2⟩
theorem Mid.roomies{l:Ls}{lo hi:Nat}(m:Mid l lo hi):∀n k,lo+n<=hi->z20 l.ck (k+n)->(yc6 l lo n).2=0/\z20 (yc6 l lo n).1.ck k
 | 0,k,_,r=>⟨rfl,r⟩
 | n+1,k,hn,r=>by
  obtain⟨a1,a2⟩:=m.roomies n (k+1) (by omega) (r.less (by omega));have e:yc6 l lo (n+1)=if (yc6 l lo n).2=0 then yby (yc6 l lo n).1 (lo+n) else yc6 l lo n:=rfl;rw[e,Zp a1];exact(m.makes n (by omega) a1).1.roomy (by omega) a2
theorem z2d.roomy(s:z2d l to i)(r:z20 l.ck (k+3)):(x71 l i).2=0/\z20 (x71 l i).1.ck k:=by
 have le:=s.mid.le;have r1:z20 (x6t l i) (k+3):=by
  unfold x6t;exact(z20.goneIf (z20.goneIf ((r.gone _).at _) _ _) _ _)
 exact s.mid.roomies _ _ (by omega) (r1.less (by omega))
def y6y(rk:Int->Nat):List Int->Nat
 | []=>0
 | x :: xs=>xs.countP (λy=>decide (rk y<rk x))+y6y rk xs
theorem y70(rk:Int->Nat):∀o:List Int,y6y rk o<=o.length*o.length
 | []=>Nat.le_refl _
 | x :: xs=>by
  have ih:=y70 rk xs;have hc:=Xp (p:=λy=>decide (rk y<rk x)) (l:=xs);show _+y6y rk xs<=(xs.length+1)*(xs.length+1);rw[Nat.add_mul,Nat.mul_add];omega
theorem y6z(rk:Int->Nat){a b:List Int}(hp:a.Perm b)(d:Nat)(h:y6y rk a=y6y rk b+d):∀pre:List Int,y6y rk (pre++a)=y6y rk (pre++b)+d
 | []=>h
 | x :: pre=>by
  have ih:=y6z rk hp d h pre;show (pre++a).countP _+y6y rk (pre++a)=(pre++b).countP _+y6y rk (pre++b)+d;rw[ih,(Qs.append_left pre hp).countP_eq];omega
theorem y72(rk:Int->Nat)(hi:i+1<o.length)(h:rk (o.getD (i+1) 0)<rk (o.getD i 0)):y6y rk o=y6y rk (x76 o i)+1:=by
 obtain⟨e1,e2⟩:=x7a hi;rw[e2];conv=>lhs;rw[e1]
 refine y6z rk (Qs.swap _ _ _) 1 ?_ _;generalize o.getD (i+1) 0=b at *
 generalize o.getD i 0=a at *
 generalize o.drop (i+2)=Zw;show (b :: Zw).countP _+(Zw.countP _+y6y rk Zw)=(a :: Zw).countP _+(Zw.countP _+y6y rk Zw)+1;rw[Qp,Qp,Zp (by simpa using h),Zn (by simp;omega)];omega
theorem y73(rk:Int->Nat):∀{o:List Int},(o.Pairwise λx y=>rk x<=rk y)->y6y rk o=0
 | [],_=>rfl
 | x :: xs,h=>by
  obtain⟨h1,h2⟩:=Qz.1 h;have ih:=y73 rk h2;show xs.countP _+y6y rk xs=0;rw[ih,List.countP_eq_zero.2 λy hy=>by have:=h1 y hy;simp;omega]
theorem y74{f:List Pt}(of:okF f)(t:Int×Int):y6y (rkT f t) (yll f t)=0:=by
 apply y73;have S:=x4o (yk2 of) t;unfold yll;rw[Qw];refine Xb.imp_of_mem (λ{p q} hp hq h=>?_) S.ord;have mp:=S.perm.mem_iff.1 hp;have mq:=S.perm.mem_iff.1 hq;unfold rkT;rw[y1e of mp,y1e of mq];exact Nat.le_of_lt (yu9 of mq mp h)
structure z03(l:Ls)(to:Int×Int)(n k:Nat)(m:Ls):Prop where
 e:z4g l to=(m,(n:Int),0)
 okm:okM m
 u:xaf m.ck to=0
 w:xbo m.ck to=false
 fe:m.ck.f=l.ck.f
 room:z20 m.ck k
theorem z4m{to:Int×Int}:∀(n k:Nat)(l:Ls),okM l->xaf l.ck to=0->y6y (rkT l.ck.f to) l.ord=n->z20 l.ck (k+3*n)->∃m,z03 l to n k m
 | n,k,l,w,hu,hi,r=>by
  obtain⟨_,ot,_⟩:=xai.1 hu;by_cases hw:xbo l.ck to=true
  ·obtain⟨i,s⟩:=x7c w ot hw;have lt:=s.lt;have nl:=w.nl;have iv:=y72 (rkT l.ck.f to) (o:=l.ord) (i:=i) (by omega) s.rk;cases n with
   | zero=>omega
   | succ n =>
    obtain⟨hz,r2⟩:=s.roomy (k:=k+3*n) (r.less (by omega));obtain⟨b1,b2,b3,b4,b5⟩:=s.after hz;obtain⟨m,a⟩:=z4m n k (x71 l i).1 b1 (xai.2 ⟨b1.ck,ot,by rw[b3];exact s.le⟩) (by rw[b2,b4];omega) r2;refine⟨m,?_,a.okm,a.u,a.w,a.fe.trans b2,a.room⟩;rw[z4i w ot hw s hz,a.e];unfold z3u;rw[Zp rfl];rfl
  ·have hw:xbo l.ck to=false:=by simpa using hw
   have o:=w.moved hu hw;have eo:l.ord=yll l.ck.f to:=o.ord;have hz:n=0:=by rw[← hi,eo];exact y74 w.ck.f to
   subst hz;exact⟨l,z4k hw,w,hu,hw,rfl,r.less (by omega)⟩
def x7d(l:Ls)(to:Int×Int):Nat:=y6y (rkT l.ck.f to) l.ord
theorem x7e(ok:yk9 l)(to:Int×Int):x7d l to<=4096:=by
 have a:=ok.ck.f.len;have b:=ok.len;have:=y70 (rkT l.ck.f to) l.ord;have:=Nat.mul_le_mul (show l.ord.length<=64 by omega) (show l.ord.length<=64 by omega);unfold x7d;omega
structure z04(l:Ls)(to:Int×Int)(k:Nat):Prop where
 z:(z49 l to).2.2=0
 n:(z49 l to).2.1=x7d l to
 ok:yk9 (z49 l to).1
 now:(z49 l to).1.ck.now=to
 f:(z49 l to).1.ck.f=l.ck.f
 ord:(z49 l to).1.ord=yll l.ck.f to
 room:z20 (z49 l to).1.ck k
theorem z4n(ok:yk9 l)(hu:xaf l.ck to=0)(r:z20 l.ck (k+12288)):z04 l to k:=by
 have sl:=x7e ok to;obtain⟨m,a⟩:=z4m (x7d l to) k l ok.weak hu rfl (r.less (by omega));have ea:z49 l to=(yfl m to,(x7d l to:Int),0):=by
  unfold z49;rw[Zp ok,Zp hu,a.e,Zp rfl]
 have o:=a.okm.moved a.u a.w;refine⟨by rw[ea],by rw[ea],by rw[ea];exact o,by rw[ea];rfl,by rw[ea];exact a.fe,?_,by rw[ea];exact a.room.at _⟩;rw[ea];show m.ord=_;have:=o.ord;rw[← a.fe];exact this
def rkI(l:Ls)(p:Pt):Nat:=yu7 l.ck.f p l.ck.now
def xc1(l:Ls)(p:Pt):Int×Int:=if yk9 l/\okP p then ((rkI l p:Int),0) else (0,8)
def ytl(l:Ls)(p:Pt):Ls:=⟨goneIf (z6x l.ck (y6b l.ck.f p)).1 (decide (0<rkI l p)&&decide (rkI l p<l.ord.length)) (l.num.getD (rkI l p-1) 0),y6j l.ord (rkI l p) p.1,if l.ord.length=0 then l.num else y6j l.num (min (rkI l p) (l.ord.length-1)) 0⟩
def yt7(l:Ls)(p:Pt):Ls×Int :=
 if (putF l.ck.f p).2≠0 then (.zero,(putF l.ck.f p).2)
 else if (z6x l.ck (y6b l.ck.f p)).2≠0 then (.zero,(z6x l.ck (y6b l.ck.f p)).2)
 else yc6 (ytl l p) (rkI l p-1) (min (rkI l p+1) l.ord.length-(rkI l p-1))
def ytc(l:Ls)(p:Pt):Ls×Int:=if yk9 l/\okP p then yt7 l p else (.zero,8)
def yml(l:Ls)(id:Int):Nat:=(yrt l.ord id).toNat
def x7l(l:Ls)(id:Int):Ck:=goneIf (goneIf l.ck (decide (0<yml l id)) (l.num.getD (yml l id-1) 0)) (decide (yml l id<l.num.length)) (l.num.getD (yml l id) 0)
def ymm(l:Ls)(id:Int):Ls:=⟨(z6x (x7l l id) (yme l.ck.f id)).1,zso l.ord (yml l id),zso l.num (min (yml l id) (l.num.length-1))⟩
def x7n(l:Ls)(id:Int):Ls×Int :=
 if (z6x (x7l l id) (yme l.ck.f id)).2≠0 then (.zero,(z6x (x7l l id) (yme l.ck.f id)).2)
 else if 0<yml l id/\yml l id<l.num.length then yby (ymm l id) (yml l id-1) else (ymm l id,0)
def x7q(l:Ls)(id:Int):Ls×Int:=if yk9 l then (if yrt l.ord id<0 then (.zero,6) else x7n l id) else (.zero,8)
theorem yk9.perm{l:Ls}(ok:yk9 l):l.ord.Perm (l.ck.f.map (·.1)):=ok.weak.perm
theorem zt2(of:okF l.ck.f)(eo:l.ord=yll l.ck.f l.ck.now):∀j i,i<j->j<l.ord.length->xb1 (ptL l j) l.ck.now<=xb1 (ptL l i) l.ck.now:=λj i hij hj=>by
 have hl:l.ord.length=l.ck.f.length:=by rw[eo,ylo]
 have e:∀k,k<l.ck.f.length->ptL l k=sP l.ck.f l.ck.now k:=λk hk=>by
  unfold ptL;rw[eo,yzb hk,yz4 of hk]
 rw[e j (by omega),e i (by omega)];exact yzc of hij (by omega)
theorem okM.done(w:okM l)(eo:l.ord=yll l.ck.f l.ck.now):yk9 l:=yk9.of w.ck eo w.nl w.cl λk hk=>(zcq w.ck.ct).2 (w.certs k hk)
theorem ylw{f:List Pt}:(yll f t).Perm (f.map (·.1)):=(x4n t f).map _
theorem y3m(c:Ck)(b:Bool)(n:Int):(goneIf c b n).f=c.f/\(goneIf c b n).now=c.now:=by
 unfold goneIf;split
 ·exact(y3r c n).2
 ·exact⟨rfl,rfl⟩
theorem okK.goneIf{c:Ck}(ok:okK c)(b:Bool)(n:Int):okK (Go.Proofs.YtnhdkkblehadjaaGreat.goneIf c b n):=by
 unfold Go.Proofs.YtnhdkkblehadjaaGreat.goneIf;split
 ·exact(ok.gone n).1
 ·exact ok
theorem y8p{ct:Ct}{f:List Pt}(h:∀x∈ct.list,0<=yr5 f x.2.1/\0<=yr5 f x.2.2):y8l ct f=true:=by
 unfold y8l;refine Xa.2 λx hx=>?_
 obtain⟨a,b⟩:=h x hx;simp only[Qa,Bool.not_eq_true',Zt];omega
theorem y1f{f:List Pt}(of:okF f)(og:okF g){id:Int}(h1:q∈f)(h2:q∈g)(e:q.1=id):gP f (yr5 f id)=gP g (yr5 g id):=by
 rw[← e,y1e of h1,y1e og h2]
theorem xbx{f:List Pt}(of:okF f)(og:okF g){x:Int×Int}(h1:0<=yr5 f x.1)(h2:0<=yr5 f x.2)(hs:∀id,0<=yr5 f id->(id=x.1\/id=x.2)->gP f (yr5 f id)∈g):xbv g x t=xbv f x t:=by
 have e:∀id,0<=yr5 f id->(id=x.1\/id=x.2)->gP g (yr5 g id)=gP f (yr5 f id):=λid h0 hx=>by
  obtain⟨_,a,b⟩:=yra h0;exact(y1f of og (Qn a) (hs id h0 hx) b).symm
 unfold xbv;rw[e x.1 h1 (.inl rfl),e x.2 h2 (.inr rfl)]
theorem ytq(ok:yk9 l)(hp:(putF l.ck.f p).2=0):okP p/\yr5 l.ck.f p.1<0/\l.ck.f.length<64/\(putF l.ck.f p).1=y6b l.ck.f p:=by
 have l64:=ok.ck.f.len;unfold putF at hp ⊢;rw[Zn (by rw[zlh.2 ok.ck.f];simp)] at hp ⊢;split at hp
 ·cases hp
 ·rename_i h1;split at hp
  ·cases hp
  ·rename_i h2;split at hp
   ·cases hp
   ·rename_i h3;rw[Zn h1,Zn h2,Zn h3];exact⟨Decidable.not_not.1 h1,by omega,by omega,rfl⟩
theorem ytn(ok:yk9 l)(op:okP p)(hn:yr5 l.ck.f p.1<0)(hl:l.ck.f.length<64):z0h l.ck (y6b l.ck.f p):=by
 have o:=yk3 ok.ck.f op hn hl;have sub:∀q∈l.ck.f,q∈y6b l.ck.f p:=λq hq=>(y6e l.ck.f p).mem_iff.2 (Qx _ hq)
 refine calm ok.ck o (y8p λx hx=>?_) λh hm=>?_
 ·obtain⟨a,b⟩:=y8n ok.ck.known hx;obtain⟨_,a2,a3⟩:=yra a;obtain⟨_,b2,b3⟩:=yra b;have m1:=yrb (sub _ (Qn a2));have m2:=yrb (sub _ (Qn b2));rw[a3] at m1;rw[b3] at m2;exact⟨m1,m2⟩
 ·obtain⟨a,b⟩:=y8n ok.ck.known hm;exact xbx ok.ck.f o a b λid h0 _=>sub _ (Qn (yra h0).2.1)
structure z1u(l:Ls)(p:Pt):Prop where
 op:okP p
 no:yr5 l.ck.f p.1<0
 len:l.ck.f.length<64
 calm:z0h l.ck (y6b l.ck.f p)
 rk:rkI l p<=l.ord.length
 ord:y6j l.ord (rkI l p) p.1=yll (y6b l.ck.f p) l.ck.now
 f:(ytl l p).ck.f=y6b l.ck.f p
 now:(ytl l p).ck.now=l.ck.now
 nlen:(ytl l p).num.length=l.ord.length
 mid:Mid (ytl l p) (rkI l p-1) (min (rkI l p+1) l.ord.length)
 room:∀k,z20 l.ck k->z20 (ytl l p).ck k
 held:0<rkI l p->rkI l p<l.ord.length->0<=atC (z6x l.ck (y6b l.ck.f p)).1.ct (l.num.getD (rkI l p-1) 0)
theorem yth(ok:yk9 l)(op:okP p)(hn:yr5 l.ck.f p.1<0)(hl:l.ck.f.length<64):z1u l p:=by
 have ca:=ytn ok op hn hl;have ll:=ok.len;have nl:=ok.nl;have w:=ok.weak;obtain⟨r1,r2⟩:=ym4 ok.ck.f op hn hl l.ck.now;have of':=yk3 ok.ck.f op hn hl;have r1:rkI l p<=l.ck.f.length:=r1;have eord:y6j l.ord (rkI l p) p.1=yll (y6b l.ck.f p) l.ck.now:=by rw[r2,ok.ord];rfl
 have ef:(ytl l p).ck.f=y6b l.ck.f p:=(y3m _ _ _).1.trans ca.fe;have en:(ytl l p).ck.now=l.ck.now:=(y3m _ _ _).2.trans ca.now;have num:∀k,(ytl l p).num.getD k 0=if l.ord.length=0 then 0 else if k<min (rkI l p) (l.ord.length-1) then l.num.getD k 0 else if k=min (rkI l p) (l.ord.length-1) then 0 else l.num.getD (k-1) 0:=λk=>by
  unfold ytl;simp only;by_cases h:l.ord.length=0
  ·rw[Zp h,Zp h];have:l.num=[]:=Xi.1 (by omega);rw[this];rfl
  ·rw[Zn h,Zn h];exact y6l (by omega) k
 have nlen:(ytl l p).num.length=l.ord.length:=by
  unfold ytl;simp only;split
  ·omega
  ·rw[y6m (by omega)];omega
 have olen:(ytl l p).ord.length=l.ord.length+1:=y6m (by omega);have og:∀k,(ytl l p).ord.getD k 0=if k<rkI l p then l.ord.getD k 0 else if k=rkI l p then p.1 else l.ord.getD (k-1) 0:=λk=>y6l (by omega) k
 have okc:okK (ytl l p).ck:=ca.ok.goneIf _ _;have act:(z6x l.ck (y6b l.ck.f p)).1.ct=l.ck.ct:=ca.ct;have cl:=ok.cl;have midcl:(ytl l p).ck.ct.list.length+(min (rkI l p+1) l.ord.length-(rkI l p-1))=l.ord.length/\∀h,h∈l.ck.ct.list->(0<rkI l p->rkI l p<l.ord.length->h.1≠l.num.getD (rkI l p-1) 0)->h∈(ytl l p).ck.ct.list:=by
  show (goneIf _ _ _).ct.list.length+_=_/\∀h,_->_->h∈(goneIf _ _ _).ct.list;unfold goneIf;by_cases hc:0<rkI l p/\rkI l p<l.ord.length
  ·rw[Zp (by simp only[Qa,Zq];exact hc),(y3r _ _).1,act];have hm:=w.certs (rkI l p-1) (by omega);have wc:=xcf ok.ck.ct hm;refine⟨by omega,λh h1 h2=>?_⟩;exact xch.2 ⟨h1,h2 hc.1 hc.2⟩
  ·rw[Zn (by simp only[Qa,Zq];exact hc),act];exact⟨by omega,λh h1 _=>h1⟩
 have hmid:Mid (ytl l p) (rkI l p-1) (min (rkI l p+1) l.ord.length):=by
  refine⟨okc,?_,by omega,by omega,by omega,by rw[nlen];exact midcl.1,λk hk ho=>?_,?_⟩
  ·show (y6j l.ord (rkI l p) p.1).Perm _;rw[eord,ef];exact ylw
  ·rw[nlen] at hk;rw[num k,Zn (by omega)];unfold yn6;rw[og (k+1),og k];by_cases hlo:k<rkI l p-1
   ·rw[Zp (by omega),Zp (by omega),Zp (by omega)];refine midcl.2 _ (w.certs k (by omega)) λh1 h2 e=>?_
    have:=w.numInj (i:=k) (j:=rkI l p-1) (by omega) (by omega) e;omega
   ·rw[Zn (by omega),Zn (by omega),Zn (by omega),Zn (by omega),Zn (by omega),Zn (by omega)];have c:=w.certs (k-1) (by omega);unfold yn6 at c;rw[show k-1+1=k+1-1 by omega] at c;refine midcl.2 _ c λh1 h2 e=>?_
    have:=w.numInj (i:=k-1) (j:=rkI l p-1) (by omega) (by omega) e;omega
  ·exact zt2 (l:=ytl l p) (by rw[ef];exact of') (by rw[ef,en];exact eord)
 refine⟨op,hn,hl,ca,by omega,eord,ef,en,nlen,hmid,λk r=>(ca.room k r).goneIf _ _,λh1 h2=>?_⟩;rw[act];exact(ok.ck.ct.at_mem (w.certs (rkI l p-1) (by omega))).1
structure z1v(l:Ls)(p:Pt)(m:Ls):Prop where
 ok:yk9 m
 f:m.ck.f=y6b l.ck.f p
 now:m.ck.now=l.ck.now
 ord:m.ord=y6j l.ord (rkI l p) p.1
theorem z1u.after(P:z1u l p)(hz:(yc6 (ytl l p) (rkI l p-1) (min (rkI l p+1) l.ord.length-(rkI l p-1))).2=0):z1v l p (yc6 (ytl l p) (rkI l p-1) (min (rkI l p+1) l.ord.length-(rkI l p-1))).1:=by
 have le:=P.mid.le;obtain⟨a1,a2,a3,a4,a5⟩:=P.mid.makes _ (by omega) hz;rw[show rkI l p-1+(min (rkI l p+1) l.ord.length-(rkI l p-1))=min (rkI l p+1) l.ord.length by omega] at a1;have eo:(yc6 (ytl l p) (rkI l p-1) (min (rkI l p+1) l.ord.length-(rkI l p-1))).1.ord=y6j l.ord (rkI l p) p.1:=a4;refine⟨a1.done.done ?_,a2.trans P.f,a3.trans P.now,eo⟩;rw[eo,a2,a3,P.f,P.now];exact P.ord
theorem yta(ok:yk9 l)(h:(yt7 l p).2=0):z1u l p/\z1v l p (yt7 l p).1:=by
 unfold yt7 at h ⊢;split at h
 ·rename_i h1;exact absurd h h1
 ·rename_i h1;split at h
  ·rename_i h2;exact absurd h h2
  ·rename_i h2;rw[Zn h1,Zn h2];obtain⟨a,b,c,_⟩:=ytq ok (Decidable.not_not.1 h1);have P:=yth ok a b c;exact⟨P,P.after h⟩
theorem ytb(ok:yk9 l)(op:okP p)(hn:yr5 l.ck.f p.1<0)(hl:l.ck.f.length<64)(r:z20 l.ck (k+2)):(yt7 l p).2=0/\z20 (yt7 l p).1.ck k:=by
 have P:=yth ok op hn hl;have le:=P.mid.le;have hz:¬ (putF l.ck.f p).2≠0:=by
  unfold putF;rw[Zn (by rw[zlh.2 ok.ck.f];simp),Zn (by simpa using op),Zn (by omega),Zn (by omega)];simp
 unfold yt7;rw[Zn hz,Zn (by rw[P.calm.z];simp)];exact P.mid.roomies _ _ (by omega) ((P.room _ r).less (by omega))
structure z2e(l:Ls)(id:Int):Prop where
 lt:yml l id<l.ord.length
 here:l.ord.getD (yml l id) 0=id
 pos:0<=yr5 l.ck.f id
 held0:0<yml l id->0<=atC l.ck.ct (l.num.getD (yml l id-1) 0)
 held1:yml l id<l.num.length->okK (goneIf l.ck (decide (0<yml l id)) (l.num.getD (yml l id-1) 0))/\0<=atC (goneIf l.ck (decide (0<yml l id)) (l.num.getD (yml l id-1) 0)).ct (l.num.getD (yml l id) 0)
 okc:okK (x7l l id)
 fc:(x7l l id).f=l.ck.f
 nowc:(x7l l id).now=l.ck.now
 known:y8l (x7l l id).ct (yme l.ck.f id)=true
 calm:z0h (x7l l id) (yme l.ck.f id)
 ord:zso l.ord (yml l id)=yll (yme l.ck.f id) l.ck.now
 nlen:(ymm l id).num.length=l.num.length-1
 olen:(ymm l id).ord.length=l.ord.length-1
 mid:Mid (ymm l id) (yml l id-1) (yml l id-1+if 0<yml l id/\yml l id<l.num.length then 1 else 0)
 room:∀k,z20 l.ck k->z20 (ymm l id).ck k
theorem x7w(ok:yk9 l){id:Int}(h0:0<=yrt l.ord id):z2e l id:=by
 obtain⟨p1,p2⟩:=yrx h0;have ll:=ok.len;have nl:=ok.nl;have cl:=ok.cl;have w:=ok.weak;have lt:yml l id<l.ord.length:=by unfold yml;omega
 have here:l.ord.getD (yml l id) 0=id:=by
  unfold yml;rw[Qq,p2];rfl
 obtain⟨t1,t2,t3⟩:=ok.ptOk lt;rw[here] at t3;have pos:0<=yr5 l.ck.f id:=by have:=yrb t2;rwa [t3] at this
 have oo:=ym5 ok.ck.f t2 l.ck.now;rw[t3] at oo;have ei:yu7 l.ck.f (ptL l (yml l id)) l.ck.now=yml l id:=by
  have h1:=oo.1;rw[← ok.ord] at h1;have h2:yml l id=(yrt l.ord id).toNat:=rfl;omega
 rw[ei] at oo;have eord:zso l.ord (yml l id)=yll (yme l.ck.f id) l.ck.now:=by rw[oo.2.2,← ok.ord]
 have held0:0<yml l id->0<=atC l.ck.ct (l.num.getD (yml l id-1) 0):=λh=>(ok.ck.ct.at_mem (w.certs (yml l id-1) (by omega))).1
 have g0:okK (goneIf l.ck (decide (0<yml l id)) (l.num.getD (yml l id-1) 0))/\(∀h,h∈(goneIf l.ck (decide (0<yml l id)) (l.num.getD (yml l id-1) 0)).ct.list↔h∈l.ck.ct.list/\(0<yml l id->h.1≠l.num.getD (yml l id-1) 0))/\(goneIf l.ck (decide (0<yml l id)) (l.num.getD (yml l id-1) 0)).ct.list.length+(if 0<yml l id then 1 else 0)=l.num.length:=by
  refine⟨ok.ck.goneIf _ _,λh=>?_,?_⟩
  ·unfold goneIf;by_cases hc:0<yml l id
   ·rw[Zp (Zu hc),(y3r _ _).1];obtain⟨m,x⟩:=h;rw[xch];exact⟨λ⟨a,b⟩=>⟨a,λ_=>b⟩,λ⟨a,b⟩=>⟨a,b hc⟩⟩
   ·rw[Zn (by simpa using hc)];exact⟨λa=>⟨a,λh=>absurd h hc⟩,λa=>a.1⟩
  ·unfold goneIf;by_cases hc:0<yml l id
   ·rw[Zp (Zu hc),Zp hc,(y3r _ _).1];have:=xcf ok.ck.ct (w.certs (yml l id-1) (by omega));omega
   ·rw[Zn (by simpa using hc),Zn hc];omega
 obtain⟨ok0,mem0,len0⟩:=g0;have held1:yml l id<l.num.length->(l.num.getD (yml l id) 0,yn6 l.ord (yml l id))∈(goneIf l.ck (decide (0<yml l id)) (l.num.getD (yml l id-1) 0)).ct.list:=λh=>by
  refine(mem0 _).2 ⟨w.certs _ h,λhp e=>?_⟩;have:=w.numInj h (j:=yml l id-1) (by omega) e;omega
 have g1:okK (x7l l id)/\(∀h,h∈(x7l l id).ct.list↔h∈l.ck.ct.list/\(0<yml l id->h.1≠l.num.getD (yml l id-1) 0)/\(yml l id<l.num.length->h.1≠l.num.getD (yml l id) 0))/\(x7l l id).ct.list.length+(if 0<yml l id then 1 else 0)+(if yml l id<l.num.length then 1 else 0)=l.num.length:=by
  have yes:yml l id<l.num.length->x7l l id=y3q (goneIf l.ck (decide (0<yml l id)) (l.num.getD (yml l id-1) 0)) (l.num.getD (yml l id) 0):=λhc=>by
   unfold x7l;rw[Zu hc];rfl
  have no:¬ yml l id<l.num.length->x7l l id=goneIf l.ck (decide (0<yml l id)) (l.num.getD (yml l id-1) 0):=λhc=>by
   unfold x7l;rw[Zv hc];rfl
  refine⟨ok0.goneIf _ _,λh=>?_,?_⟩
  ·by_cases hc:yml l id<l.num.length
   ·rw[yes hc,(y3r _ _).1];obtain⟨m,x⟩:=h;rw[xch,mem0];exact⟨λ⟨⟨a,b⟩,c⟩=>⟨a,b,λ_=>c⟩,λ⟨a,b,c⟩=>⟨⟨a,b⟩,c hc⟩⟩
   ·rw[no hc];refine(mem0 h).trans ?_;exact⟨λ⟨a,b⟩=>⟨a,b,λh=>absurd h hc⟩,λ⟨a,b,_⟩=>⟨a,b⟩⟩
  ·by_cases hc:yml l id<l.num.length
   ·rw[yes hc,Zp hc,(y3r _ _).1];have:=xcf ok0.ct (held1 hc);omega
   ·rw[no hc,Zn hc];omega
 obtain⟨ok1,mem1,len1⟩:=g1;have f1:(x7l l id).f=l.ck.f:=(y3m _ _ _).1.trans (y3m _ _ _).1;have n1:(x7l l id).now=l.ck.now:=(y3m _ _ _).2.trans (y3m _ _ _).2;have left:∀h,h∈(x7l l id).ct.list->∃k,k<l.num.length/\h=(l.num.getD k 0,yn6 l.ord k)/\k≠yml l id/\k+1≠yml l id:=λh hm=>by
  obtain⟨a,b,c⟩:=(mem1 h).1 hm;have M:Mid l 0 0:=⟨ok.ck,w.perm,w.nl,by omega,by omega,by omega,λk hk _=>w.certs k hk,λj i h1 h2=>w.desc i j h1 h2⟩;obtain⟨k,k1,_,k3⟩:=M.of_cert a;subst k3;refine⟨k,k1,rfl,λe=>?_,λe=>?_⟩
  ·subst e;exact c k1 rfl
  ·rw[show yml l id-1=k by omega] at b;exact b (by omega) rfl
 have apart:∀k,k<l.ord.length->k≠yml l id->l.ord.getD k 0≠id:=λk hk hne e=>by
  have a1:=yrw w.ne hk;have a2:=yrw w.ne lt;rw[e] at a1;rw[here] at a2;rw[a1] at a2;omega
 have o':=yk5 ok.ck.f id;have stays:∀k,k<l.ord.length->k≠yml l id->0<=yr5 l.ck.f (l.ord.getD k 0)/\gP l.ck.f (yr5 l.ck.f (l.ord.getD k 0))∈yme l.ck.f id/\0<=yr5 (yme l.ck.f id) (l.ord.getD k 0):=λk hk hne=>by
  obtain⟨_,b,c⟩:=ok.ptOk hk;have h0:0<=yr5 l.ck.f (l.ord.getD k 0):=by have:=yrb b;rwa [c] at this
  have hm:ptL l k∈yme l.ck.f id:=ymh.2 ⟨b,by rw[c];exact apart k hk hne⟩;refine⟨h0,hm,?_⟩;have:=yrb hm;rwa [c] at this
 have kn:y8l (x7l l id).ct (yme l.ck.f id)=true:=y8p λh hm=>by
  obtain⟨k,k1,k2,k3,k4⟩:=left h hm;subst k2;exact⟨(stays (k+1) (by omega) k4).2.2,(stays k (by omega) k3).2.2⟩
 have ca:z0h (x7l l id) (yme l.ck.f id):=calm ok1 o' kn λh hm=>by
  obtain⟨k,k1,k2,k3,k4⟩:=left h hm;subst k2;have s1:=stays (k+1) (by omega) k4;have s2:=stays k (by omega) k3;rw[f1,n1];refine xbx ok.ck.f o' s1.1 s2.1 λy _ hy=>?_
  rcases hy with e|e
  ·rw[e];exact s1.2.1
  ·rw[e];exact s2.2.1
 have olen:(ymm l id).ord.length=l.ord.length-1:=zsq lt;have nlen:(ymm l id).num.length=l.num.length-1:=by
  show (zso l.num _).length=_;by_cases h:l.num.length=0
  ·have:l.num=[]:=Xi.1 h;rw[this];simp[zso]
  ·exact zsq (by omega)
 have ef:(ymm l id).ck.f=yme l.ck.f id:=ca.fe;have en:(ymm l id).ck.now=l.ck.now:=ca.now.trans n1;have ect:(ymm l id).ck.ct=(x7l l id).ct:=ca.ct;refine⟨lt,here,pos,held0,λh=>⟨ok0,(ok0.ct.at_mem (held1 h)).1⟩,ok1,f1,n1,kn,ca,eord,nlen,olen,⟨ca.ok,?_,by omega,by omega,?_,?_,λk hk ho=>?_,?_⟩,λk r=>ca.room k ((r.goneIf _ _).goneIf _ _)⟩
 ·show (zso l.ord (yml l id)).Perm _;rw[eord,ef];exact ylw
 ·rw[nlen];split <;> omega
 ·rw[ect,nlen];split at len1 <;> split at len1 <;> split <;> omega
 ·rw[nlen] at hk;rw[ect];have en2:(ymm l id).num.getD k 0=if k<min (yml l id) (l.num.length-1) then l.num.getD k 0 else l.num.getD (k+1) 0:=zsp (by omega) k;have eo2:∀k,(ymm l id).ord.getD k 0=if k<yml l id then l.ord.getD k 0 else l.ord.getD (k+1) 0:=λk=>zsp lt k
  rw[en2];unfold yn6;rw[eo2 (k+1),eo2 k];have h1:k+1<yml l id\/yml l id<=k:=by split at ho <;> omega
  rcases h1 with h1|h1
  ·rw[Zp (by omega),Zp h1,Zp (by omega)];refine(mem1 _).2 ⟨w.certs k (by omega),λ_ e=>?_,λh e=>?_⟩
   ·have:=w.numInj (i:=k) (j:=yml l id-1) (by omega) (by omega) e;omega
   ·have:=w.numInj (i:=k) (j:=yml l id) (by omega) (by omega) e;omega
  ·rw[Zn (by omega),Zn (by omega),Zn (by omega)];refine(mem1 _).2 ⟨w.certs (k+1) (by omega),λ_ e=>?_,λh e=>?_⟩
   ·have:=w.numInj (i:=k+1) (j:=yml l id-1) (by omega) (by omega) e;omega
   ·have:=w.numInj (i:=k+1) (j:=yml l id) (by omega) (by omega) e;omega
 ·exact zt2 (l:=ymm l id) (by rw[ef];exact o') (by rw[ef,en];exact eord)
structure z2f(l:Ls)(id:Int)(m:Ls):Prop where
 ok:yk9 m
 f:m.ck.f=yme l.ck.f id
 now:m.ck.now=l.ck.now
 ord:m.ord=zso l.ord (yml l id)
theorem z2e.after{id:Int}(T:z2e l id)(hz:(x7n l id).2=0):z2f l id (x7n l id).1:=by
 have mid:=T.mid;have ef:(ymm l id).ck.f=yme l.ck.f id:=T.calm.fe;have en:(ymm l id).ck.now=l.ck.now:=T.calm.now.trans T.nowc;unfold x7n at hz ⊢;rw[Zn (by rw[T.calm.z];simp)] at hz ⊢;by_cases h:0<yml l id/\yml l id<l.num.length
 ·rw[Zp h] at hz ⊢;rw[Zp h] at mid;obtain⟨a1,a2,a3,a4,a5⟩:=mid.make (by omega) hz;refine⟨a1.done.done ?_,a2.trans ef,a3.trans en,a4⟩;rw[a4,a2,a3,ef,en];exact T.ord
 ·rw[Zn h] at hz ⊢;rw[Zn h] at mid;refine⟨mid.done.done ?_,ef,en,rfl⟩;rw[ef,en];exact T.ord
theorem x7p{id:Int}(T:z2e l id)(r:z20 l.ck (k+1)):(x7n l id).2=0/\z20 (x7n l id).1.ck k:=by
 have mid:=T.mid;have rs:=T.room _ r;unfold x7n;rw[Zn (by rw[T.calm.z];simp)];by_cases h:0<yml l id/\yml l id<l.num.length
 ·rw[Zp h];rw[Zp h] at mid;exact mid.roomy (by omega) rs
 ·rw[Zn h];exact⟨rfl,rs.less (by omega)⟩
theorem yk9.quiet(ok:yk9 l):xbo l.ck l.ck.now=false:=by
 cases hw:xbo l.ck l.ck.now with
 | false=>rfl
 | true =>
  exfalso;unfold xbo at hw;rw[Qa,Zq,Zq] at hw;obtain⟨h0,hle⟩:=hw;have hle:=zpb.1 hle;obtain⟨i,hi,hno,hF⟩:=ok.weak.event (y57 h0);have nl:=ok.nl;have lv:=ok.weak.level hi hF;have o1:okR (hp l.ck.ag.heap 0).at_:=(ok.ck.ag.each _ (y57 h0)).1;have la:=y9i o1.d1 ok.ck.now.d1 hle lv.1 lv.2;have lb:=ok.leads (i:=i) (j:=i+1) (by omega) (by omega);rw[y9j lb] at la;cases la
def x5j(f:List Pt)(t:Int×Int):Ls:=⟨(ygq f t).1,yll f t,Xc (f.length-1) 0⟩
theorem zbn(f:List Pt)(t:Int×Int):∀n,zbk f t n=yc6 (x5j f t) 0 n
 | 0=>rfl
 | n+1=>by
  have ih:=zbn f t n;show (if (zbk f t n).2=0 then yby (zbk f t n).1 n else zbk f t n)=(if (yc6 (x5j f t) 0 n).2=0 then yby (yc6 (x5j f t) 0 n).1 (0+n) else yc6 (x5j f t) 0 n);rw[ih,Nat.zero_add]
structure z0f(f:List Pt)(t:Int×Int):Prop where
 z:(zbd f t).2=0
 ok:yk9 (zbd f t).1
 fe:(zbd f t).1.ck.f=f
 now:(zbd f t).1.ck.now=t
 ord:(zbd f t).1.ord=yll f t
 room:z20 (zbd f t).1.ck 999900
theorem zbo{f:List Pt}(h:x8u f t=0):z0f f t:=by
 obtain⟨of,ot⟩:=x8v.1 h;have b:=z08.start h;have e:ygq f t=(⟨t,f,.zero,z9k 200,[]⟩,0):=by unfold ygq;rw[Zp h]
 have l64:=of.len;have ef:(x5j f t).ck.f=f:=by unfold x5j;simp only;rw[e]
 have en:(x5j f t).ck.now=t:=by unfold x5j;simp only;rw[e]
 have ect:(x5j f t).ck.ct=Ct.zero:=by unfold x5j;simp only;rw[e]
 have nlen:(x5j f t).num.length=f.length-1:=by unfold x5j;simp
 have m:Mid (x5j f t) 0 (f.length-1):=by
  refine⟨b.ok,?_,?_,by omega,by omega,?_,λk hk ho=>by omega,?_⟩
  ·rw[ef];exact ylw
  ·rw[nlen];show _=(yll f t).length-1;rw[ylo]
  ·rw[ect,nlen];show 0+_=_;omega
  ·exact zt2 (l:=x5j f t) (by rw[ef];exact of) (by rw[ef,en];rfl)
 have r:z20 (x5j f t).ck 1000000:=by
  refine⟨by rw[ect];decide,λi=>?_⟩;have:(x5j f t).ck.ag.tb.uses=Xc 200 0:=by unfold x5j;simp only;rw[e];rfl
  rw[this,Qq,List.getElem?_replicate];split <;> simp
 obtain⟨a1,a2⟩:=m.roomies (f.length-1) 999900 (by omega) (r.less (by omega));obtain⟨b1,b2,b3,b4,_⟩:=m.makes (f.length-1) (by omega) a1;have eb:zbd f t=yc6 (x5j f t) 0 (f.length-1):=by unfold zbd;rw[Zp h,zbn]
 rw[Nat.zero_add] at b1;refine⟨by rw[eb];exact a1,?_,by rw[eb];exact b2.trans ef,by rw[eb];exact b3.trans en,by rw[eb];exact b4,by rw[eb];exact a2⟩;rw[eb];refine b1.done.done ?_;rw[b4,b2,b3,ef,en];rfl
def y45(l:List Int)(n:Int):Bool:=l.any λx=>x==n
theorem ytr(ok:yk9 l)(h:(yt7 l p).2=0):yrt (yt7 l p).1.ord p.1=rkI l p/\(yt7 l p).1.ord.getD (rkI l p) 0=p.1/\rkI l p<(yt7 l p).1.ord.length /\
  ∀m,z2f (yt7 l p).1 p.1 m->m.ord=l.ord/\m.ck.f=l.ck.f:=by
 obtain⟨P,W⟩:=yta ok h;have rk:=P.rk;have ho:(yt7 l p).1.ord.getD (rkI l p) 0=p.1:=by
  rw[W.ord,y6l rk,Zn (by omega),Zp rfl]
 have hl:rkI l p<(yt7 l p).1.ord.length:=by rw[W.ord,y6m rk];omega
 have hpos:=yrw W.ok.weak.ne hl;rw[ho] at hpos;refine⟨hpos,ho,hl,λm T=>?_⟩;refine⟨?_,?_⟩
 ·rw[T.ord,W.ord];have:yml (yt7 l p).1 p.1=rkI l p:=by unfold yml;rw[hpos];simp
  rw[this];exact zsr rk
 ·rw[T.f,W.f];exact ymg ok.ck.f P.op P.no P.len
def yn0{α:Type}(R:α->α->Bool):List α->Nat
 | []=>0
 | x :: xs=>xs.countP (R x)+yn0 R xs
theorem yn2{α:Type}{R:α->α->Bool}(sym:∀a b,R a b=R b a){a b:List α}(h:a.Perm b):yn0 R a=yn0 R b:=by
 induction h with
 | nil=>rfl
 | cons x h ih=>show _+_=_+_;rw[ih,h.countP_eq]
 | swap x y l =>
  show (x :: l).countP (R y)+(l.countP (R x)+yn0 R l)=(y :: l).countP (R x)+(l.countP (R y)+yn0 R l);rw[Qp,Qp,sym y x];omega
 | trans _ _ h1 h2=>exact h1.trans h2
theorem zrw{α:Type}{p q:α->Bool}:∀{l:List α},(∀x∈l,p x=q x)->l.countP p=l.countP q
 | [],_=>rfl
 | x :: l,h=>by
  rw[Qp,Qp,zrw λy hy=>h y (Qx _ hy),h x Qo]
theorem yn1{α:Type}{R S:α->α->Bool}:∀{l:List α},(l.Pairwise λa b=>R a b=S a b)->yn0 R l=yn0 S l
 | [],_=>rfl
 | x :: l,h=>by
  obtain⟨h1,h2⟩:=Qz.1 h;show _+_=_+_;rw[yn1 h2,zrw h1]
theorem y71(rk:Int->Nat):∀s:List Pt,y6y rk (s.map (·.1))=yn0 (λp q:Pt=>decide (rk q.1<rk p.1)) s
 | []=>rfl
 | p :: s=>by
  show (s.map (·.1)).countP _+y6y rk (s.map (·.1))=_+_;rw[y71 rk s,List.countP_map];rfl
abbrev Mt:=(Int×Int)×Int×Int
def atP(p q:Pt):Int×Int:=(yc3 (p.2.1-q.2.1) (q.2.2-p.2.2)).1
def yee(p:Pt)(ps:List Pt):List Mt:=ps.filterMap λq=>if p.2.2=q.2.2 then none else some (atP p q,p.1,q.1)
def ye4:List Pt->List Mt
 | []=>[]
 | p :: ps=>yee p ps++ye4 ps
theorem z8f(h:p.2.2≠q.2.2):atP p q=atP q p:=by
 unfold atP;rw[yc4 (show q.2.2-p.2.2≠0 by omega)];rw[show -(p.2.1-q.2.1)=q.2.1-p.2.1 by omega,show -(q.2.2-p.2.2)=p.2.2-q.2.2 by omega]
theorem yel(op:okP p)(oq:okP q)(h:p.2.2<q.2.2){u:Int×Int}(ou:okR u):okR (atP p q)/\(leads q p u=true↔leR (atP p q) u)/\(leads p q u=true↔¬ leR (atP p q) u):=by
 obtain⟨x,y,g,g0,em,e1,e2,e3⟩:=ydh op oq h;have ea:atP p q=(x,y):=by unfold atP;rw[em]
 have fv:=zxh e1 e2 u;have key:zxg p q u<=0↔leR (x,y) u:=by
  rw[fv];show _↔x*u.2<=u.1*y;constructor
  ·intro hk;rcases Qi (u.1*y) (x*u.2) with c|c
   ·have:=Int.mul_pos (show 0<x*u.2-u.1*y by omega) g0;omega
   ·exact c
  ·intro hk;have:=Int.mul_le_mul_of_nonneg_right (show x*u.2-u.1*y<=0 by omega) (show 0<=g by omega);rw[Int.zero_mul] at this;exact this
 have v:=zxj p q u;rw[ea];refine⟨e3,?_,?_⟩
 ·rw[← key,y9n];omega
 ·rw[← key,y9n];omega
def inT(a b:Int×Int)(m:Int×Int):Bool:=!decide (zp5 m a<=0)&&decide (zp5 m b<=0)
def swR(a b:Int×Int)(p q:Pt):Bool:=(leads p q a&&leads q p b)||(leads q p a&&leads p q b)
theorem x6r(a b:Int×Int)(p q:Pt):swR a b p q=swR a b q p:=by unfold swR;rw[Bool.or_comm]
theorem x6q{a b:Int×Int}(oa:okR a)(ob:okR b)(hab:leR a b)(op:okP p)(oq:okP q)(hne:p.1≠q.1):swR a b p q=(!decide (p.2.2=q.2.2)&&inT a b (atP p q)):=by
 have lt:∀{p q:Pt},okP p->okP q->p.2.2<q.2.2->swR a b p q=inT a b (atP p q):=λ{p q} op oq h=>by
  obtain⟨o1,a1,a2⟩:=yel op oq h oa;obtain⟨_,b1,b2⟩:=yel op oq h ob;have tr:leR (atP p q) a->leR (atP p q) b:=λx=>y9b o1 oa ob x hab
  have c1:∀u:Int×Int,decide (zp5 (atP p q) u<=0)=decide (leR (atP p q) u):=λu=>decide_eq_decide.2 zpb
  unfold swR inT;rw[c1,c1];by_cases x:leR (atP p q) a
  ·have y:=tr x;have l1:leads p q a=false:=by
    cases e:leads p q a with
    | false=>rfl
    | true=>exact absurd x (a2.1 e)
   have l2:leads p q b=false:=by
    cases e:leads p q b with
    | false=>rfl
    | true=>exact absurd y (b2.1 e)
   rw[l1,l2,Zu x];simp
  ·have l1:leads q p a=false:=by
    cases e:leads q p a with
    | false=>rfl
    | true=>exact absurd (a1.1 e) x
   rw[l1,a2.2 x,Zv x];simp only[Qb,Qd,Qc,Bool.not_false];by_cases y:leR (atP p q) b
   ·rw[b1.2 y,Zu y]
   ·rw[Zv y];cases e:leads q p b with
    | false=>rfl
    | true=>exact absurd (b1.1 e) y
 rcases Int.lt_trichotomy p.2.2 q.2.2 with h|h|h
 ·rw[lt op oq h,Zv (by omega)];rfl
 ·rw[Zu h];have same:∀u v:Int×Int,okR u->okR v->leads p q u=true->leads q p v=true->False:=λu v ou ov h1 h2=>by
   rw[y9n] at h1 h2;have hu:=ou.d1;have hv:=ov.d1;unfold xb1 at h1 h2;rw[h] at h1 h2;have d1:q.2.1*u.2<p.2.1*u.2\/p.2.1*u.2=q.2.1*u.2/\p.1<q.1:=by omega
   have d2:p.2.1*v.2<q.2.1*v.2\/p.2.1*v.2=q.2.1*v.2/\q.1<p.1:=by omega
   have m1:q.2.1<p.2.1\/p.2.1=q.2.1/\p.1<q.1:=by
    rcases d1 with d|⟨d,e⟩
    ·exact .inl (Ql d (by omega))
    ·exact .inr ⟨Qm (by omega) d,e⟩
   have m2:p.2.1<q.2.1\/p.2.1=q.2.1/\q.1<p.1:=by
    rcases d2 with d|⟨d,e⟩
    ·exact .inl (Ql d (by omega))
    ·exact .inr ⟨Qm (by omega) d,e⟩
   omega
  have:swR a b p q=false:=by
   unfold swR;cases e1:leads p q a&&leads q p b with
   | true=>rw[Qa] at e1;exact(same a b oa ob e1.1 e1.2).elim
   | false =>
    cases e2:leads q p a&&leads p q b with
    | true=>rw[Qa] at e2;exact(same b a ob oa e2.2 e2.1).elim
    | false=>rfl
  rw[this];rfl
 ·rw[x6r,lt oq op h,Zv (by omega),z8f (show q.2.2≠p.2.2 by omega)];rfl
theorem yef(R:Int×Int->Bool)(p:Pt):∀ps:List Pt,(yee p ps).countP (λm=>R m.1)=ps.countP λq=>!decide (p.2.2=q.2.2)&&R (atP p q)
 | []=>rfl
 | q :: ps=>by
  have ih:=yef R p ps;unfold yee at ih ⊢;rw[Xo,Qp];by_cases h:p.2.2=q.2.2
  ·rw[Zp h,Zu h];simp only;rw[ih];simp
  ·rw[Zn h,Zv h];simp only;rw[Qp,ih];simp
theorem ye5(R:Int×Int->Bool):∀f:List Pt,(ye4 f).countP (λm=>R m.1)=yn0 (λp q:Pt=>!decide (p.2.2=q.2.2)&&R (atP p q)) f
 | []=>rfl
 | p :: f=>by
  show (yee p f++ye4 f).countP _=_+_;rw[List.countP_append,yef,ye5 R f]
theorem x7g(ok:yk9 l)(hu:xaf l.ck to=0):x7d l to=(ye4 l.ck.f).countP λm=>inT l.ck.now to m.1:=by
 obtain⟨_,ot,hle⟩:=xai.1 hu;have of:=ok.ck.f;have S:=x4o (yk2 of) l.ck.now;have os:=S.ids (yk2 of);unfold x7d;have eo:l.ord=(x4k l.ck.f l.ck.now).map (·.1):=ok.ord;rw[eo,y71,ye5 (inT l.ck.now to),← yn2 (λa b=>?_) S.perm]
 ·refine yn1 ?_;refine Xb.imp_of_mem (λ{p q} hp hq h=>?_) (Xb.and S.ord os);have mp:=S.perm.mem_iff.1 hp;have mq:=S.perm.mem_iff.1 hq;have op:=of.each p mp;have oq:=of.each q mq;rw[← x6q ok.ck.now ot hle op oq h.2];unfold rkT;rw[y1e of mp,y1e of mq];unfold swR;rw[h.1,y9j h.1];simp only[Qb,Qd,Qc];by_cases x:leads q p to=true
  ·rw[x,Zu (yu9 of mp mq x)]
  ·have y:leads p q to=true:=(y9r (t:=to) h.2).resolve_right x;have:=yu9 of mq mp y;rw[Bool.not_eq_true] at x;rw[x,Zv (by omega)]
 ·by_cases h:a.2.2=b.2.2
  ·rw[h];simp
  ·rw[z8f h,Zv h,Zv (λe=>h e.symm)]
