/- The engine, parts L1, L2, L3, L4, L5, L6, L7, put together. Conditions: none. -/
import Derived.Test.YtnhdkkblehadjaaGreatPK1
import Derived.Test.YtnhdkkblehadjaaGreatP5
import Derived.Test.YtnhdkkblehadjaaGreatP6
import Derived.Test.YtnhdkkblehadjaaGreatVgClock
open Bool renaming or_eq_false_iff->Qa,not_eq_true'->Qb,and_eq_true->Qc,eq_iff_iff->Qd,true_and->Qe,or_eq_true->Qg
open Go.Eng.Hp renaming le_refl->Qh
open Int renaming le_refl->Qi,mul_assoc->Qj,toNat_natCast->Ql,mul_comm->Qm,natAbs_mul->Qn,mul_pos->Qo,mul_nonneg->Qp,mul_eq_zero->Qq,add_mul->Qr
open List renaming mem_of_getElem?->Qs,getElem?_eq_some_iff->Qt,filterMap_cons->Qu,getElem?_map->Qv,mem_map_of_mem->Qw,Perm->Qx,mem_cons_self->Qy,mem_cons_of_mem->Qz,getElem?_eq_getElem->Q1,getD->Q2,nodup_cons->Q3,mem_map->Q4,mem_iff_getElem?->Q5,mem_filter->Q6,mem_cons->Q7,map_map->Q8,map_cons->Q9,map_append->Xa,length_eq_zero_iff->Xb,filter_map->Xc,filter_eq_self->Xd,filter_cons_of_pos->Xe,filter_cons_of_neg->Xf,any_eq_true->Xg,all_eq_true->Xh,Sublist->Xi
open Nat renaming Coprime->Xj,mul_comm->Xk
set_option linter.unusedVariables false
section
set_option maxRecDepth 100000
open Go Go.Eng Go.Proofs
namespace Go.Proofs.YtnhdkkblehadjaaGreat
variable{t s a:Int×Int}{H:Hp}{p q:Pt}{f:List Pt}{n:Int}{x:Ev}{u:Slc}{h:Int×Int×Int}{xs l:List (Int×Int×Int)}{ps:List Ev}
def leR(a b:Int×Int):Prop:=a.1*b.2<=b.1*a.2
instance (a b:Int×Int):Decidable (leR a b):=inferInstanceAs (Decidable (_<=_))
theorem zpb{b:Int×Int}:zp5 a b<=0↔leR a b:=by unfold zp5 leR zoo;split <;> (try split) <;> omega
theorem zpe{b:Int×Int}:zp5 a b<0↔¬ leR b a:=by unfold zp5 leR zoo;split <;> (try split) <;> omega
theorem zp7{b:Int×Int}:zp5 a b=0↔leR a b/\leR b a:=by unfold zp5 leR zoo;split <;> (try split) <;> omega
theorem y99(a:Int×Int):leR a a:=Qi _
theorem y9a(a b:Int×Int):leR a b\/leR b a:=by unfold leR;omega
theorem y9b{b c:Int×Int}(ha:okR a)(hb:okR b)(hc:okR c)(h:leR a b)(h':leR b c):leR a c:=yua hb.d1 ha.d1 hc.d1 h h'
theorem ykd{b:Int×Int}(ha:okR a)(hb:okR b)(h:leR a b)(h':leR b a):a=b:=by
 obtain⟨n,d⟩:=a;obtain⟨m,e⟩:=b;have e0:n*e=m*d:=by unfold leR at h h';simp only at h h';omega
 have d1:=ha.d1;have e1:=hb.d1;simp only at d1 e1;have g1:Nat.gcd n.natAbs d.natAbs=1:=((yke ha.fit).1 ha).2.2;have g2:Nat.gcd m.natAbs e.natAbs=1:=((yke hb.fit).1 hb).2.2;have ea:n.natAbs*e.natAbs=m.natAbs*d.natAbs:=by rw[← Qn,← Qn,e0]
 have x1:d.natAbs ∣ e.natAbs:=by
  have:d.natAbs ∣ n.natAbs*e.natAbs:=⟨m.natAbs,by rw[ea,Xk]⟩;exact(Xj.symm g1:Xj d.natAbs n.natAbs).dvd_of_dvd_mul_left this
 have x2:e.natAbs ∣ d.natAbs:=by
  have:e.natAbs ∣ m.natAbs*d.natAbs:=⟨n.natAbs,by rw[← ea,Xk]⟩;exact(Xj.symm g2:Xj e.natAbs m.natAbs).dvd_of_dvd_mul_left this
 have x3:=Nat.dvd_antisymm x1 x2;have hd:d=e:=by omega
 subst hd;have:n=m:=Int.eq_of_mul_eq_mul_right (by omega) e0;rw[this]
def zx5(p q:Pt)(t:Int×Int):Option (Int×Int):=if leads q p t=true then some t else if p.2.2<q.2.2 then some (yc3 (p.2.1-q.2.1) (q.2.2-p.2.2)).1 else none
theorem yc4{d:Int}(hd:d≠0):yc3 n d=yc3 (-n) (-d):=by
 unfold yc3;have e1:z2u (-n)=z2u n:=by unfold z2u;split <;> split <;> omega
 have e2:z2u (-d)=z2u d:=by unfold z2u;split <;> split <;> omega
 have e3:y2e (-n) (-d)=y2e n d:=by unfold y2e;rw[e1,e2]
 rw[Zn hd,Zn (by omega),e1,e2,e3];refine zbj λhne=>?_
 have hn:n≠0:=λe=>hne (by subst e;simp[z2u])
 by_cases a:n<0 <;> by_cases b:d<0
 ·rw[Zu a,Zu b,Zv (show ¬ -n<0 by omega),Zv (show ¬ -d<0 by omega)];rfl
 ·rw[Zu a,Zv b,Zv (show ¬ -n<0 by omega),Zu (show -d<0 by omega)];rfl
 ·rw[Zv a,Zu b,Zu (show -n<0 by omega),Zv (show ¬ -d<0 by omega)];rfl
 ·rw[Zv a,Zv b,Zu (show -n<0 by omega),Zu (show -d<0 by omega)];rfl
theorem _root_.Go.Eng.okP.b(h:okP p):-1048576<=p.2.1/\p.2.1<=1048576/\-1048576<=p.2.2/\p.2.2<=1048576:=⟨h.a0,h.a1,h.b0,h.b1⟩
theorem ydh(hp:okP p)(hq:okP q)(h:p.2.2<q.2.2):∃x y g:Int,0<g/\yc3 (p.2.1-q.2.1) (q.2.2-p.2.2)=((x,y),0)/\x*g=p.2.1-q.2.1/\y*g=q.2.2-p.2.2/\okR (x,y):=by
 have hp:=hp.b;have hq:=hq.b;obtain⟨x,y,g,h1,h2,h3,h4,h5⟩:=yc5 (A:=p.2.1-q.2.1) (B:=p.2.2-q.2.2) (by omega) (by omega) (by omega) (by omega);refine⟨x,y,g,h1,?_,h3,by omega,h5⟩;rw[yc4 (by omega),← h2];congr 1;omega
theorem zxh{x y g:Int}(hx:x*g=p.2.1-q.2.1)(hy:y*g=q.2.2-p.2.2)(u:Int×Int):zxg p q u=(x*u.2-u.1*y)*g:=by
 unfold zxg;have hB:p.2.2-q.2.2 = -(y*g):=by omega
 rw[← hx,hB,Int.sub_mul,Int.neg_mul];have h1:x*g*u.2=x*u.2*g:=by rw[Qj,Qm g,← Qj]
 have h2:y*g*u.1=u.1*y*g:=by rw[Qm,← Qj]
 omega
theorem y9m:leads p q t=true↔0<zxg p q t\/(zxg p q t=0/\(q.2.2<p.2.2\/(p.2.2=q.2.2/\p.1<q.1))):=by
 unfold leads;split
 ·rw[decide_eq_true_iff];omega
 ·split
  ·rw[decide_eq_true_iff];omega
  ·rw[decide_eq_true_iff];omega
theorem zxa(hp:okP p)(hq:okP q)(ht:okR t)(h:zx5 p q t=some s):okR s:=by
 unfold zx5 at h;split at h
 ·cases h;exact ht
 ·split at h
  ·rename_i hb;obtain⟨x,y,g,h1,h2,h3,h4,h5⟩:=ydh hp hq hb;rw[h2] at h;cases h;exact h5
  ·cases h
theorem zx8(hp:okP p)(hq:okP q)(hne:p.1≠q.1)(h:zx5 p q t=some s):leR t s:=by
 unfold zx5 at h;split at h
 ·cases h;exact y99 _
 ·rename_i hl;split at h
  ·rename_i hb;obtain⟨x,y,g,h1,h2,h3,h4,h5⟩:=ydh hp hq hb;rw[h2] at h;cases h;have hl':leads p q t=true:=by rw[y9q t (Ne.symm hne)];simpa using hl
   rw[y9m,zxh h3 h4] at hl';unfold leR;simp only;have h0:0<=(x*t.2-t.1*y)*g:=by omega
   rcases Int.lt_or_le (x*t.2-t.1*y) 0 with hn|hn
   ·have:=Int.mul_neg_of_neg_of_pos hn h1;omega
   ·omega
  ·cases h
theorem zxb{u:Int×Int}(hp:okP p)(hq:okP q)(hne:p.1≠q.1)(ht:okR t)(hu:okR u)(h:zx5 p q t=some s)(h1:leR t u)(h2:leR u s):zx5 p q u=some s:=by
 have hs:=zxa hp hq ht h;unfold zx5 at h;split at h
 ·rename_i hl;cases h;have:=ykd ht hu h1 h2;subst this;unfold zx5;rw[Zp hl]
 ·rename_i hl;split at h
  ·rename_i hb;obtain⟨x,y,g,g1,g2,g3,g4,g5⟩:=ydh hp hq hb;rw[g2] at h;cases h;by_cases hq':leR (x,y) u
   ·have:=ykd g5 hu hq' h2;subst this;have hf:zxg q p (x,y)=0:=by rw[zxi,zxh g3 g4];simp[Qm]
    have:leads q p (x,y)=true:=y9m.2 (.inr ⟨hf,.inl hb⟩);unfold zx5;rw[Zp this]
   ·have hf:0<zxg p q u:=by
     rw[zxh g3 g4];unfold leR at hq';simp only at hq';exact Qo (by omega) g1
    have:¬ leads q p u=true:=by
     rw[y9q u hne];rw[y9m.2 (.inl hf)];simp
    unfold zx5;rw[Zn this,Zp hb,g2]
  ·cases h
theorem zx7{u:Int×Int}(hp:okP p)(hq:okP q)(hne:p.1≠q.1)(ht:okR t)(h:zx5 p q t=some s)(h1:leR t u)(h2:¬ leR s u):leads p q u=true:=by
 unfold zx5 at h;split at h
 ·cases h;exact absurd h1 h2
 ·split at h
  ·rename_i hb;obtain⟨x,y,g,g1,g2,g3,g4,g5⟩:=ydh hp hq hb;rw[g2] at h;cases h;refine y9m.2 (.inl ?_);rw[zxh g3 g4];unfold leR at h2;simp only at h2;exact Qo (by omega) g1
  ·cases h
theorem zx9{u:Int×Int}(hne:p.1≠q.1)(ht:okR t)(hu:okR u)(h:zx5 p q t=none)(h1:leR t u):leads p q u=true/\zx5 p q u=none:=by
 unfold zx5 at h;split at h
 ·cases h
 ·rename_i hl;split at h
  ·cases h
  ·rename_i hb;have hl':leads p q t=true:=by rw[y9q t (Ne.symm hne)];simpa using hl
   have key:leads p q u=true:=by
    rw[y9m] at hl' ⊢;have t2:=ht.d1;have u2:=hu.d1;unfold leR at h1;have e:zxg p q u*t.2=zxg p q t*u.2+(p.2.2-q.2.2)*(u.1*t.2-t.1*u.2):=by
     unfold zxg;rw[Qr,Qr,Int.mul_sub];have a1:(p.2.1-q.2.1)*u.2*t.2=(p.2.1-q.2.1)*t.2*u.2:=by rw[Qj,Qm u.2,← Qj]
     have a2:(p.2.2-q.2.2)*u.1*t.2=(p.2.2-q.2.2)*(u.1*t.2):=Qj ..;have a3:(p.2.2-q.2.2)*t.1*u.2=(p.2.2-q.2.2)*(t.1*u.2):=Qj ..;omega
    have hd:0<=(p.2.2-q.2.2)*(u.1*t.2-t.1*u.2):=Qp (by omega) (by omega);have hft:0<=zxg p q t:=by omega
    have hfu:0<=zxg p q t*u.2:=Qp hft (by omega);by_cases z:0<zxg p q u
    ·exact .inl z
    ·have hz:zxg p q u*t.2<=0:=Int.mul_nonpos_of_nonpos_of_nonneg (by omega) (by omega);have hz':zxg p q t*u.2=0:=by omega
     have hft0:zxg p q t=0:=by
      rcases Qq.1 hz' with h|h
      ·exact h
      ·omega
     have hu0:zxg p q u*t.2=0:=by omega
     have hfu0:zxg p q u=0:=by
      rcases Qq.1 hu0 with h|h
      ·exact h
      ·omega
     exact .inr ⟨hfu0,by omega⟩
   refine⟨key,?_⟩;unfold zx5;rw[Zn (by rw[y9q u hne,key];simp),Zn hb]
structure Ck where
 now:Int×Int
 f:List Pt
 ct:Ct
 ag:Ag
 due:List (Int×Int×Int)
deriving DecidableEq
def Ck.zero:Ck:=⟨(0,0),[],.zero,.zero,[]⟩
def xbv(f:List Pt)(x t:Int×Int):Option (Int×Int):=zx5 (gP f (yr5 f x.2)) (gP f (yr5 f x.1)) t
def ztq(f:List Pt)(t:Int×Int)(l:List (Int×Int×Int)):List (Int×Int×Int):=l.filterMap λh=>(xbv f h.2 t).map λs=>(h.1,s)
def zz9(h:List Ev):List (Int×Int×Int)->List (Int×Int×Int)->Bool
 | [],[]=>true
 | x :: l,d :: ds=>decide (d.1=x.1)&&decide ((⟨x.2,x.1,d.2⟩:Ev)∈h)&&zz9 h l ds
 | _,_=>false
structure okK(c:Ck):Prop where
 now:okR c.now
 f:okF c.f
 ct:okC c.ct
 known:y8l c.ct c.f=true
 ag:okA c.ag
 wl:c.ag.wh.length=200
 hl:c.ag.heap.length=c.due.length
 due:zz9 c.ag.heap (ztq c.f c.now c.ct.list) c.due=true
instance (c:Ck):Decidable (okK c) :=
 decidable_of_iff (okR c.now/\okF c.f/\okC c.ct/\y8l c.ct c.f=true/\okA c.ag/\c.ag.wh.length=200/\c.ag.heap.length=c.due.length/\zz9 c.ag.heap (ztq c.f c.now c.ct.list) c.due=true)
  ⟨λ⟨a,b,d,e,f,g,h,i⟩=>⟨a,b,d,e,f,g,h,i⟩,λ⟨a,b,d,e,f,g,h,i⟩=>⟨a,b,d,e,f,g,h,i⟩⟩
def zlr(c:Ck):Int:=if okK c then 0 else 8
theorem zlv{c:Ck}(h:okK c):zlr c=0:=by unfold zlr;rw[Zp h]
theorem zls{c:Ck}(h:¬ okK c):zlr c=8:=by unfold zlr;rw[Zn h]
theorem zlw{c:Ck}:zlr c=0↔okK c:=by
 unfold zlr;split
 ·simp[*]
 ·simp[*]
def nt(e:Ev):Int×Int×Int:=(e.no,e.at_)
def nh(e:Ev):Int×Int×Int:=(e.no,e.h)
theorem zzb{h:List Ev}:∀{l ds:List (Int×Int×Int)},zz9 h l ds=true->∃ps:List Ev,l=ps.map nt/\ds=ps.map nh/\∀e∈ps,e∈h
 | [],[],_=>⟨[],rfl,rfl,λe he=>by cases he⟩
 | [],_ :: _,h'=>by cases h'
 | _ :: _,[],h'=>by cases h'
 | x :: l,d :: ds,h'=>by
  simp only[zz9,Qc,Zq] at h';obtain⟨ps,e1,e2,e3⟩:=zzb h'.2;refine⟨⟨x.2,x.1,d.2⟩ :: ps,?_,?_,λe he=>?_⟩
  ·rw[e1];rfl
  ·rw[e2];show d :: _=(x.1,d.2) :: _;rw[← h'.1.1]
  ·rcases Q7.1 he with rfl|he
   ·exact h'.1.2
   ·exact e3 e he
theorem zza{h:List Ev}:∀{ps:List Ev},(∀e∈ps,e∈h)->zz9 h (ps.map nt) (ps.map nh)=true
 | [],_=>rfl
 | e :: ps,he=>by
  simp only[Q9,zz9,nt,nh,decide_true,Qe,Qc,Zq];exact⟨he _ (Qy),zza λx hx=>he x (Qz _ hx)⟩
theorem yph{α:Type}[DecidableEq α]:∀{A B:List α},A.Nodup->(∀x∈A,x∈B)->B.length<=A.length->B.Perm A
 | [],B,_,_,hl=>by
  have:B=[]:=Xb.1 (by simpa using hl);rw[this]
 | x :: A,B,hn,hs,hl=>by
  have hx:=hs x Qy;have p:=List.perm_cons_erase hx;have hn':=Q3.1 hn;refine p.trans (Qx.cons _ (yph hn'.2 (λy hy=>?_) ?_))
  ·have hne:y≠x:=λe=>hn'.1 (by rw[← e];exact hy)
   exact(List.mem_erase_of_ne hne).2 (hs y (Qz _ hy))
  ·rw[List.length_erase_of_mem hx];simp at hl;omega
theorem ztz(f:List Pt)(t:Int×Int):∀l:List (Int×Int×Int),Xi ((ztq f t l).map (·.1)) (l.map (·.1))
 | []=>Xi.slnil
 | h :: l=>by
  unfold ztq;rw[Qu];cases xbv f h.2 t with
  | none=>exact(ztz f t l).cons _
  | some s=>exact(ztz f t l).cons_cons _
structure Evs(c:Ck)(ps:List Ev):Prop where
 at_:ztq c.f c.now c.ct.list=ps.map nt
 due:c.due=ps.map nh
 heap:c.ag.heap.Perm ps
theorem Evs.inc{c:Ck}(e:Evs c ps)(ok:okC c.ct):(ps.map (·.no)).Pairwise (·<·):=by
 have h:=(ok.ok.nums).sublist (ztz c.f c.now c.ct.list);rw[e.at_,Q8] at h;exact h
theorem okK.evs{c:Ck}(ok:okK c):∃ps,Evs c ps:=by
 obtain⟨ps,e1,e2,e3⟩:=zzb ok.due;have hs:=(ok.ct.ok.nums).sublist (ztz c.f c.now c.ct.list);rw[e1,Q8] at hs;have hn:ps.Nodup:=by
  have h2:(ps.map (·.no)).Nodup:=hs.imp λh=>by omega
  exact(List.pairwise_map.1 h2).imp λh e=>h (congrArg _ e)
 refine⟨ps,e1,e2,yph hn e3 ?_⟩;rw[ok.hl,e2];simp
theorem okK.of{c:Ck}(n:okR c.now)(f:okF c.f)(ct:okC c.ct)(kn:y8l c.ct c.f=true)(ag:okA c.ag)(wl:c.ag.wh.length=200)(e:Evs c ps):okK c :=
 ⟨n,f,ct,kn,ag,wl,by rw[e.heap.length_eq,e.due];simp,by rw[e.at_,e.due];exact zza λx hx=>e.heap.mem_iff.2 hx⟩
theorem xbw{ct:Ct}(of:okF f)(kn:y8l ct f=true)(ht:okR t)(hm:h∈ct.list)(hw:xbv f h.2 t=some s):okR s:=by
 obtain⟨k1,k2⟩:=y8n kn hm;exact zxa (of.each _ (Qs (yra k2).2.1)) (of.each _ (Qs (yra k1).2.1)) ht hw
def yr4(c:Ck)(n:Int):Int:=idx (λd:Int×Int×Int=>d.1==n) c.due
def z3k(c:Ck)(x:Int×Int):Ck×Int×Int :=
 if (z3e c.ct x).2.2=0 then
  match xbv c.f x c.now with
  | none=>({ c with ct:=(z3e c.ct x).1 },(z3e c.ct x).2.1,0)
  | some t=>if c.ag.tb.canTake=true then ({ c with ct:=(z3e c.ct x).1,ag:=ysz c.ag t (z3e c.ct x).2.1,due:=c.due++[((z3e c.ct x).2.1,yh1 c.ag)] },(z3e c.ct x).2.1,0) else (.zero,0,18)
 else (.zero,0,(z3e c.ct x).2.2)
def zd7(c:Ck)(x:Int×Int):Ck×Int×Int :=
 if okK c/\xb5 x=true then (if yr5 c.f x.1<0\/yr5 c.f x.2<0 then (.zero,0,6) else z3k c x) else (.zero,0,8)
def y3q(c:Ck)(n:Int):Ck :=
 if 0<=yr4 c n then { c with ct:=xce c.ct n,ag:=yxk c.ag (y2r c.due (yr4 c n)).2,due:=c.due.filter λd=>d.1 != n } else { c with ct:=xce c.ct n }
def yxx(c:Ck)(n:Int):Ck×Int:=if okK c then (if atC c.ct n<0 then (.zero,6) else (y3q c n,0)) else (.zero,8)
def yh2(c:Ck):Ev×Int:=if okK c then (if c.ag.heap.length=0 then (e0,42) else (hp c.ag.heap 0,0)) else (e0,8)
def xaf(c:Ck)(t:Int×Int):Int:=if okK c/\okR t then (if zp5 t c.now<0 then 44 else 0) else 8
def xbo(c:Ck)(t:Int×Int):Bool:=decide (0<c.ag.heap.length)&&decide (zp5 (hp c.ag.heap 0).at_ t<=0)
def zxc(c:Ck):Ck:={ y3q c (hp c.ag.heap 0).no with now:=(hp c.ag.heap 0).at_ }
def zx2(c:Ck)(t:Int×Int):Ck×Ev×(Int×Int)×Int :=
 if xaf c t=0 then (if xbo c t=true then (zxc c,hp c.ag.heap 0,(y2r c.ct.list (atC c.ct (hp c.ag.heap 0).no)).2,0) else (.zero,e0,(0,0),6)) else (.zero,e0,(0,0),xaf c t)
def yfh(c:Ck)(t:Int×Int):Ck×Int:=if xaf c t=0 then (if xbo c t=true then (.zero,36) else ({ c with now:=t },0)) else (.zero,xaf c t)
def ygq(f:List Pt)(t:Int×Int):Ck×Int:=if x8u f t=0 then (⟨t,f,.zero,z9k 200,[]⟩,0) else (.zero,x8u f t)
def z6o(c:Ck)(f:List Pt)(h:Int×Int×Int)(s:Ag×List (Int×Int×Int)):Option (Ag×List (Int×Int×Int)) :=
 match xbv f h.2 c.now with
 | some t =>
  if 0<=yr4 c h.1 then some (yx9 s.1 (y2r c.due (yr4 c h.1)).2 t,s.2++[y2r c.due (yr4 c h.1)])
  else if s.1.tb.canTake=true then some (ysz s.1 t h.1,s.2++[(h.1,yh1 s.1)]) else none
 | none=>if 0<=yr4 c h.1 then some (yxk s.1 (y2r c.due (yr4 c h.1)).2,s.2) else some s
def z6k(c:Ck)(f:List Pt):List (Int×Int×Int)->Ag×List (Int×Int×Int)->Option (Ag×List (Int×Int×Int))
 | [],s=>some s
 | h :: l,s=>(z6o c f h s).bind (z6k c f l)
def z6x(c:Ck)(f:List Pt):Ck×Int :=
 match z6k c f c.ct.list (c.ag,[]) with
 | some s=>({ c with f:=f,ag:=s.1,due:=s.2 },0)
 | none=>(.zero,18)
def z6s(c:Ck)(f:List Pt):Ck×Int :=
 if okK c then (if zlg f=0 then (if y8l c.ct f=true then z6x c f else (.zero,6)) else (.zero,zlg f)) else (.zero,8)
theorem y5t{α:Type}{p:α->Bool}{xs:List α}(h:0<=idx p xs):∃x,xs[(idx p xs).toNat]?=some x/\p x=true/\x∈xs/\idx p xs<xs.length:=by
 unfold idx at *
 split at h
 ·rename_i ha;have hl:=List.findIdx_lt_length.2 (Xg.1 ha);have e:=Q1 hl;rw[Zp ha,Ql];exact⟨_,e,List.findIdx_getElem,List.getElem_mem hl,by omega⟩
 ·omega
theorem y5v{α:Type}{p:α->Bool}{xs:List α}(h:idx p xs<0):∀x∈xs,p x=false:=by
 intro x hx;unfold idx at h;split at h
 ·omega
 ·rename_i ha;cases hp:p x with
  | false=>rfl
  | true=>exact absurd (Xg.2 ⟨x,hx,hp⟩) ha
theorem zyc{α β:Type}{f g:α->Option β}:∀{l:List α},(∀x∈l,f x=g x)->l.filterMap f=l.filterMap g
 | [],_=>rfl
 | x :: l,h=>by
  rw[Qu,Qu,h x Qy,zyc λy hy=>h y (Qz _ hy)]
section
variable{c:Ck}{ps:List Ev}{n:Int}
theorem Evs.pos(e:Evs c ps):(0<=yr4 c n->∃x∈ps,x.no=n/\y2r c.due (yr4 c n)=nh x/\yr4 c n<c.due.length)/\(yr4 c n<0->∀x∈ps,x.no≠n):=by
 constructor
 ·intro h;obtain⟨d,h1,h2,h3,h4⟩:=y5t h;have hd:d∈ps.map nh:=by rw[← e.due];exact h3
  obtain⟨x,hx,rfl⟩:=Q4.1 hd;refine⟨x,hx,by simpa[nh] using h2,?_,h4⟩;unfold y2r yr4;rw[Q2,h1];rfl
 ·intro h x hx hn;have:=y5v h (nh x) (by rw[e.due];exact Qw hx);simp[nh,hn] at this
theorem zyf{x:Ev}:∀{ps:List Ev},(ps.map (·.no)).Nodup->x∈ps->ps.Perm (x :: ps.filter λy=>y.no != x.no)
 | y :: ps,hn,hx=>by
  rw[Q9,Q3] at hn;rcases Q7.1 hx with rfl|hx
  ·rw[Xf (by simp)];have:(ps.filter λz=>z.no != x.no)=ps:=Xd.2 λz hz=>by
    rw[bne_iff_ne];intro e;exact hn.1 (by rw[← e];exact Qw hz)
   rw[this]
  ·have hne:y.no≠x.no:=λe=>hn.1 (by rw[e];exact Qw hx)
   rw[Xe (by simpa using hne)];exact(Qx.cons _ (zyf hn.2 hx)).trans (Qx.swap _ _ _)
 | [],_,hx=>by cases hx
theorem ztv(f:List Pt)(t:Int×Int)(n:Int):∀l:List (Int×Int×Int),ztq f t (l.filter λh=>h.1 != n)=(ztq f t l).filter λh=>h.1 != n
 | []=>rfl
 | h :: l=>by
  have ih:=ztv f t n l;unfold ztq at *
  by_cases e:h.1=n
  ·rw[Xf (by simpa using e),ih,Qu];cases xbv f h.2 t with
   | none=>rfl
   | some s=>simp[e]
  ·rw[Xe (by simpa using e),Qu,Qu];cases xbv f h.2 t with
   | none=>exact ih
   | some s=>simp[e,ih]
theorem ztr(f:List Pt)(t:Int×Int)(l m:List (Int×Int×Int)):ztq f t (l++m)=ztq f t l++ztq f t m:=List.filterMap_append
theorem Evs.mem_heap(e:Evs c ps)(hx:x∈ps):x∈c.ag.heap:=e.heap.mem_iff.2 hx
theorem okK.live(ok:okK c){x:Ev}(hx:x∈c.ag.heap):c.ag.tb.live x.h.1 x.h.2=true:=(ok.ag.slot hx).2.2.2.2
theorem yxm{a:Ag}(ok:okA a)(hx:x∈a.heap):z1z a (yxk a x.h) x/\(yxk a x.h).wh.length=a.wh.length:=by
 have r:=ok.removed (ok.slot hx).2.2.2.2;rw[(zyr ok hx).2] at r;refine⟨r,?_⟩;rw[r.ok.wl,r.tb,ok.wl];simp[Tb.given]
theorem okK.gone(ok:okK c)(n:Int):okK (y3q c n)/\∀ps,Evs c ps->Evs (y3q c n) (ps.filter λx=>x.no != n):=by
 have kn:y8l (xce c.ct n) c.f=true:=by
  unfold y8l xce;exact Xh.2 λx hx=>Xh.1 ok.known x ((Q6.1 hx).1)
 have key:∀ps,Evs c ps->Evs (y3q c n) (ps.filter λx=>x.no != n)/\okA (y3q c n).ag/\(y3q c n).ag.wh.length=200:=by
  intro ps e;have hnd:(ps.map (·.no)).Nodup:=(e.inc ok.ct).imp λh=>by omega
  have hat:ztq c.f c.now (xce c.ct n).list=(ps.filter λx=>x.no != n).map nt:=by
   show ztq c.f c.now (c.ct.list.filter λh=>h.1 != n)=_;rw[ztv,e.at_,Xc];rfl
  unfold y3q;by_cases h:0<=yr4 c n
  ·rw[Zp h];obtain⟨x,hx,rfl,hg,hlt⟩:=e.pos.1 h;have hxh:=e.mem_heap hx;have hh:(y2r c.due (yr4 c x.no)).2=x.h:=by rw[hg];rfl
   rw[hh];obtain⟨r,hw⟩:=yxm ok.ag hxh;refine⟨⟨hat,?_,?_⟩,r.ok,by rw[← ok.wl];exact hw⟩
   ·show c.due.filter _=_;rw[e.due,Xc];rfl
   ·exact(r.perm.trans (e.heap.trans (zyf hnd hx))).cons_inv
  ·rw[Zn h];have hno:=e.pos.2 (by omega:yr4 c n<0);have hf:(ps.filter λx=>x.no != n)=ps:=Xd.2 λx hx=>by rw[bne_iff_ne];exact hno x hx
   refine⟨⟨hat,?_,?_⟩,ok.ag,ok.wl⟩
   ·rw[hf];exact e.due
   ·rw[hf];exact e.heap
 obtain⟨ps,e⟩:=ok.evs;obtain⟨k1,k2,k3⟩:=key ps e;refine⟨okK.of (c:=y3q c n) ?_ ?_ ?_ ?_ k2 k3 k1,λps e=>(key ps e).1⟩
 ·unfold y3q;split <;> exact ok.now
 ·unfold y3q;split <;> exact ok.f
 ·unfold y3q;split <;> exact yk0 ok.ct n
 ·unfold y3q;split <;> exact kn
theorem y3r(c:Ck)(n:Int):(y3q c n).ct=xce c.ct n/\(y3q c n).f=c.f/\(y3q c n).now=c.now:=by
 unfold y3q;split <;> exact⟨rfl,rfl,rfl⟩
theorem okK.points(ok:okK c)(hm:h∈c.ct.list):okP (gP c.f (yr5 c.f h.2.2))/\okP (gP c.f (yr5 c.f h.2.1))/\(gP c.f (yr5 c.f h.2.2)).1≠(gP c.f (yr5 c.f h.2.1)).1:=by
 obtain⟨k1,k2⟩:=y8n ok.known hm;have v:=(ok.ct.ok.each h hm).1;unfold xb5 at v;simp only[Qc,bne_iff_ne] at v;have p1:=yra k1;have p2:=yra k2;exact⟨ok.f.each _ (Qs p2.2.1),ok.f.each _ (Qs p1.2.1),by rw[p1.2.2,p2.2.2];exact Ne.symm v.2⟩
theorem ztx{x:Int×Int×Int}:x∈ztq f t l↔∃h∈l,x.1=h.1/\xbv f h.2 t=some x.2:=by
 unfold ztq;rw[List.mem_filterMap];constructor
 ·rintro⟨h,hm,he⟩;cases hw:xbv f h.2 t with
  | none=>rw[hw] at he;cases he
  | some s=>rw[hw] at he;cases he;exact⟨h,hm,rfl,hw⟩
 ·rintro⟨h,hm,h1,h2⟩;refine⟨h,hm,?_⟩;rw[h2];show some (h.1,x.2)=some x;rw[← h1]
theorem Evs.cert(e:Evs c ps)(hx:x∈ps):∃h∈c.ct.list,h.1=x.no/\xbv c.f h.2 c.now=some x.at_:=by
 have:nt x∈ztq c.f c.now c.ct.list:=by rw[e.at_];exact Qw hx
 obtain⟨h,hm,h1,h2⟩:=ztx.1 this;exact⟨h,hm,h1.symm,h2⟩
theorem Evs.of_cert(e:Evs c ps)(hm:h∈c.ct.list)(hw:xbv c.f h.2 c.now=some s):∃x∈ps,x.no=h.1/\x.at_=s:=by
 have:(h.1,s)∈ps.map nt:=by rw[← e.at_];exact ztx.2 ⟨h,hm,rfl,hw⟩
 obtain⟨x,hx,he⟩:=Q4.1 this;unfold nt at he;exact⟨x,hx,congrArg Prod.fst he,congrArg Prod.snd he⟩
theorem okK.stay(ok:okK c)(e:Evs c ps)(ht:okR t)(h1:leR c.now t)(h2:∀x∈ps,leR t x.at_):okK { c with now:=t }/\Evs { c with now:=t } ps:=by
 have hd:ztq c.f t c.ct.list=ztq c.f c.now c.ct.list:=by
  unfold ztq;refine zyc λh hm=>?_
  obtain⟨p1,p2,p3⟩:=ok.points hm;cases hw:xbv c.f h.2 c.now with
  | none=>unfold xbv at *;rw[(zx9 p3 ok.now ht hw h1).2]
  | some s =>
   obtain⟨x,hx,_,hs⟩:=e.of_cert hm hw;have:=h2 x hx;rw[hs] at this;unfold xbv at *
   rw[zxb p1 p2 p3 ok.now ht hw h1 this]
 have e':Evs { c with now:=t } ps:=⟨by show ztq c.f t c.ct.list=_;rw[hd];exact e.at_,e.due,e.heap⟩;exact⟨okK.of ht ok.f ok.ct ok.known ok.ag ok.wl e',e'⟩
theorem y98{y:Ev}(h:yaj y x=false):leR x.at_ y.at_:=by
 unfold leR;rcases yao.1 h with h|h
 ·omega
 ·omega
theorem okK.top(ok:okK c)(hx:x∈c.ag.heap):yaj x (hp c.ag.heap 0)=false:=by
 obtain⟨i,hi⟩:=Q5.1 hx;have hl:i<c.ag.heap.length:=(Qt.1 hi).1;have e:hp c.ag.heap i=x:=by unfold hp;rw[Q2,hi];rfl
 rw[← e];exact ylk.first ok.ag.ord ok.ag.posH i hl
theorem xai:xaf c t=0↔okK c/\okR t/\leR c.now t:=by
 unfold xaf;split
 ·rename_i h;split
  ·rename_i h2;rw[zpe] at h2;constructor
   ·intro e;cases e
   ·intro e;exact absurd e.2.2 h2
  ·rename_i h2;rw[zpe] at h2;exact⟨λ_=>⟨h.1,h.2,by simpa using h2⟩,λ_=>rfl⟩
 ·rename_i h;constructor
  ·intro e;cases e
  ·intro e;exact absurd ⟨e.1,e.2.1⟩ h
theorem okK.move(hu:xaf c t=0)(hw:xbo c t=false)(e:Evs c ps):okK { c with now:=t }/\Evs { c with now:=t } ps:=by
 obtain⟨ok,ht,hl⟩:=xai.1 hu;refine ok.stay e ht hl λx hx=>?_
 have hxh:=e.mem_heap hx;have h0:0<c.ag.heap.length:=List.length_pos_of_mem hxh;unfold xbo at hw;rw[Zu h0,Qe,Zt,zpb] at hw;have a:=y98 (ok.top hxh);have o1:okR (hp c.ag.heap 0).at_:=(ok.ag.each _ (y57 h0)).1;exact y9b ht o1 (ok.ag.each _ hxh).1 ((y9a _ _).resolve_left hw) a
theorem okK.failed(ok:okK c)(h0:0<c.ag.heap.length)(e:Evs c ps):okK (zxc c)/\Evs (zxc c) (ps.filter λx=>x.no != (hp c.ag.heap 0).no)/\leR c.now (hp c.ag.heap 0).at_/\okR (hp c.ag.heap 0).at_:=by
 have hm:=y57 h0;have hp0:=e.heap.mem_iff.1 hm;have o1:okR (hp c.ag.heap 0).at_:=(ok.ag.each _ hm).1;obtain⟨h,hc,h1,h2⟩:=e.cert hp0;obtain⟨p1,p2,p3⟩:=ok.points hc;have hle:leR c.now (hp c.ag.heap 0).at_:=zx8 p1 p2 p3 h2;obtain⟨g1,g2⟩:=ok.gone (hp c.ag.heap 0).no;have ge:=g2 ps e;have gn:=(y3r c (hp c.ag.heap 0).no).2.2;obtain⟨s1,s2⟩:=g1.stay ge o1 (by rw[gn];exact hle) λx hx=>y98 (ok.top (e.mem_heap ((Q6.1 hx).1)))
 exact⟨s1,s2,hle,o1⟩
theorem okK.add{x:Int×Int}(ok:okK c)(h1:0<=yr5 c.f x.1)(h2:0<=yr5 c.f x.2)(hk:(z3k c x).2.2=0) :
  okK (z3k c x).1/\(z3k c x).2.1=c.ct.next/\(z3k c x).1.ct=⟨c.ct.next+1,c.ct.list++[(c.ct.next,x)]⟩/\(z3k c x).1.f=c.f/\(z3k c x).1.now=c.now:=by
 unfold z3k at *
 by_cases ha:(z3e c.ct x).2.2=0
 ·rw[Zp ha] at hk ⊢;obtain⟨a1,a2,a3,a4,a5,a6⟩:=z3h ha;have ct':=yjz a1 a2 a3 a4 a5;have kn:y8l ⟨c.ct.next+1,c.ct.list++[(c.ct.next,x)]⟩ c.f=true:=by
   unfold y8l;rw[List.all_append,Qc];refine⟨ok.known,?_⟩;simp[h1,h2]
  rw[a6] at hk ⊢;obtain⟨ps,e⟩:=ok.evs;cases hw:xbv c.f x c.now with
  | none =>
   rw[hw] at hk;refine⟨okK.of (ps:=ps) ok.now ok.f ct' kn ok.ag ok.wl ⟨?_,e.due,e.heap⟩,rfl,rfl,rfl,rfl⟩;show ztq c.f c.now (c.ct.list++[(c.ct.next,x)])=_;rw[ztr,e.at_];simp[ztq,hw]
  | some t =>
   rw[hw] at hk;simp only at hk ⊢;by_cases hc:c.ag.tb.canTake=true
   ·rw[Zp hc];have ht:okR t:=by
     have p1:=yra h1;have p2:=yra h2;exact zxa (ok.f.each _ (Qs p2.2.1)) (ok.f.each _ (Qs p1.2.1)) ok.now hw
    have hn:y43 c.ag c.ct.next=false:=by
     unfold y43;rw[List.any_eq_false];intro y hy;obtain⟨h,hm,he,_⟩:=e.cert (e.heap.mem_iff.1 hy);have:=(ok.ct.ok.each h hm).2.2;simp;omega
    have ag':=ok.ag.pushed ht ok.ct.n0 ok.ct.n1 hn hc;have pp:=yt1 (n:=c.ct.next) ok.ag ht hc;have hwl:(ysz c.ag t c.ct.next).wh.length=200:=by
     rw[ag'.wl,← ok.wl,ok.ag.wl];simp[ysz,Tb.taken]
    refine⟨okK.of (ps:=ps++[⟨t,c.ct.next,yh1 c.ag⟩]) ok.now ok.f ct' kn ag' hwl ⟨?_,?_,?_⟩,rfl,rfl,rfl,rfl⟩
    ·show ztq c.f c.now (c.ct.list++[(c.ct.next,x)])=_;rw[ztr,e.at_,Xa];simp[ztq,hw,nt]
    ·show c.due++_=_;rw[e.due,Xa];rfl
    ·show (ysz c.ag t c.ct.next).heap.Perm _;refine pp.trans ((Qx.cons _ e.heap).trans ?_);exact(List.perm_append_comm (l₁:=[(⟨t,c.ct.next,yh1 c.ag⟩:Ev)]) (l₂:=ps))
   ·rw[Zn hc] at hk;cases hk
 ·rw[Zn ha] at hk;exact absurd hk ha
end
theorem ys1(hs:(l.map (·.1)).Pairwise (·<·))(n:Int) :
  (decide (yrl (l.map (·.1)) n<l.length)&&(y2r l (yrl (l.map (·.1)) n)).1==n)=true/\idx (λh:Int×Int×Int=>h.1==n) l=yrl (l.map (·.1)) n \/
  (decide (yrl (l.map (·.1)) n<l.length)&&(y2r l (yrl (l.map (·.1)) n)).1==n)=false/\idx (λh:Int×Int×Int=>h.1==n) l = -1:=by
 by_cases hc:(decide (yrl (l.map (·.1)) n<l.length)&&(y2r l (yrl (l.map (·.1)) n)).1==n)=true
 ·left;refine⟨hc,?_⟩;simp only[Qc,Zq,beq_iff_eq] at hc;obtain⟨h1,h2⟩:=hc;have hx:l[yrl (l.map (·.1)) n]?=some (y2r l (yrl (l.map (·.1)) n)):=by
   unfold y2r;rw[Ql];simp[Q2,h1]
  rw[y5s hx (by simpa using h2) (λy hy=>?_)];obtain⟨j,hj,e⟩:=List.mem_take_iff_getElem.1 hy;have:=yrp (l:=l.map (·.1)) (t:=n) (i:=j) (x:=y.1) (by omega) (by
   rw[Qv,Q1 (by omega),e];rfl)
  rw[beq_eq_false_iff_ne];omega
 ·right;have hc:=Bool.eq_false_iff.2 hc;refine⟨hc,y5u λy hy=>?_⟩;rw[beq_eq_false_iff_ne];intro e;obtain⟨j,hj⟩:=Q5.1 hy;have hjl:j<l.length:=(Qt.1 hj).1;have hm:(l.map (·.1))[j]?=some y.1:=by rw[Qv,hj];rfl
  have hpj:yrl (l.map (·.1)) n=j:=by
   rcases Nat.lt_trichotomy (yrl (l.map (·.1)) n) j with h'|h'|h'
   ·have hpl:yrl (l.map (·.1)) n<(l.map (·.1)).length:=by simp;omega
    have a:=yrn hs (Nat.le_refl _) (Q1 hpl);have b:=List.pairwise_iff_getElem.1 hs _ _ hpl (by simpa using hjl) h';have e2:(l.map (·.1))[j]'(by simpa using hjl)=y.1:=(Qt.1 hm).2;rw[e2] at b;omega
   ·exact h'
   ·have:=yrp h' hm;omega
  rw[hpj] at hc;have hg:y2r l (j:Int)=y:=by unfold y2r;rw[Ql,List.getD_eq_getElem?_getD,hj];rfl
  rw[hg] at hc;simp[hjl,e] at hc
theorem zb8{x:Int×Int×Int}:QfV Tryz.prog (.func (.func F.f177) #[] #[]) [.agg #[vi x.1,vi x.2.1,vi x.2.2],vi n] H (vi (zoo x.1 n)) :=
 ⟨F.f177,#[],_,rfl,cb177,vc177 ⟨_,zrk,rfl,Qh _⟩⟩
theorem zb7{s:Slc}(h:Rd 3 fD H s xs)(hs:(xs.map (·.1)).Pairwise (·<·))(hl:xs.length<=100000000) :
  qF F.f176 #[s.v,vi n,.func (.func F.f177) #[] #[]] H
   (.tuple #[vi (yrl (xs.map (·.1)) n),.bool (decide (yrl (xs.map (·.1)) n<xs.length)&&(y2r xs (yrl (xs.map (·.1)) n)).1==n)]):=by
 have ls:=h.len;have hml:(xs.map (·.1)).length=xs.length:=by simp
 refine vc176 ⟨λi j H'=>H'=H/\0<=i/\i<=j/\j<=xs.length/\(∀k y,k<i.toNat->(xs.map (·.1))[k]?=some y->y<n)/\(∀k y,j.toNat<=k->(xs.map (·.1))[k]?=some y->n<=y),
  λi j _=>(j-i).toNat,⟨rfl,Qi _,by omega,by omega,λk y hk=>by simp at hk,λk y hk hy=>?_⟩,λi j H' ⟨e,i0,i1,i2,i3,i4⟩=>?_⟩
 ·have:=(Qt.1 hy).1;omega
 subst e;refine⟨λhc=>?_,λhc=>?_⟩
 ·have hc:i<j:=by simpa using hc
  rw[yf0 i0 hc (by omega)];have m0:0<=(i+j)/2:=by omega
  have m1:(i+j)/2<xs.length:=by omega
  have hg:=y3h (d:=((0:Int),(0:Int),(0:Int))) m0 m1;refine⟨by unfold inI;omega,by unfold nn;omega,h.ldD m0 m1 ⟨_,zb8 (x:=xs.getD ((i+j)/2).toNat (0,0,0)),?_⟩⟩;generalize xs.getD ((i+j)/2).toNat (0,0,0)=x at hg ⊢;have hm:(xs.map (·.1))[((i+j)/2).toNat]?=some x.1:=by rw[Qv,hg];try rfl
  refine⟨λhlt=>?_,λhge=>?_⟩
  ·have hlt:x.1<n:=zos.1 (by simpa using hlt);refine⟨by unfold inI;omega,⟨rfl,by omega,by omega,i2,?_,i4⟩,?_⟩
   ·rw[show ((i+j)/2+1).toNat=((i+j)/2).toNat+1 by omega];exact zb1 hs hm hlt
   ·show (j-((i+j)/2+1)).toNat<(j-i).toNat;omega
  ·have hge:n<=x.1:=by
    have:¬ zoo x.1 n<0:=by simpa using hge
    rw[zos] at this;omega
   refine⟨⟨rfl,i0,by omega,by omega,i3,zb0 hs hm hge⟩,?_⟩;show ((i+j)/2-i).toNat<(j-i).toNat;omega
 ·have hc:i=j:=by have:¬ i<j:=by simpa using hc
                  omega
  subst hc;have hp:i.toNat=yrl (xs.map (·.1)) n:=yrm hs (by omega) i3 i4;have hpi:(yrl (xs.map (·.1)) n:Int)=i:=by omega
  rw[hpi];have key:(decide (i<(s.n:Int))=true)->i<xs.length:=λhh=>by
   have:i<s.n:=by simpa using hh
   omega
  refine⟨λhh=>h.inS i0 (key hh),_,_,_,λhh=>h.gD i0 (key hh),_,λhh=>zb8 (x:=xs.getD i.toNat (0,0,0)),?_,Qh _⟩;congr 3;have e1:decide (i<(s.n:Int))=decide (yrl (xs.map (·.1)) n<xs.length):=by
   rw[Qd,Zq,Zq];omega
  rw[e1];congr 2;congr 1;unfold y2r;rw[Qd,beq_iff_eq,beq_iff_eq,zop]
theorem zb3{x:Int×Int×Int}:QfV Tryz.prog (.func (.func F.f210) #[] #[]) [.agg #[vi x.1,vi x.2.1,vi x.2.2],vi n] H (vi (zoo x.1 n)) :=
 ⟨F.f210,#[],_,rfl,cb210,vc210 ⟨_,zrk,rfl,Qh _⟩⟩
theorem zb2{s:Slc}(h:Rd 3 fD H s xs)(hs:(xs.map (·.1)).Pairwise (·<·))(hl:xs.length<=100000000) :
  qF F.f209 #[s.v,vi n,.func (.func F.f210) #[] #[]] H
   (.tuple #[vi (yrl (xs.map (·.1)) n),.bool (decide (yrl (xs.map (·.1)) n<xs.length)&&(y2r xs (yrl (xs.map (·.1)) n)).1==n)]):=by
 have ls:=h.len;have hml:(xs.map (·.1)).length=xs.length:=by simp
 refine vc209 ⟨λi j H'=>H'=H/\0<=i/\i<=j/\j<=xs.length/\(∀k y,k<i.toNat->(xs.map (·.1))[k]?=some y->y<n)/\(∀k y,j.toNat<=k->(xs.map (·.1))[k]?=some y->n<=y),
  λi j _=>(j-i).toNat,⟨rfl,Qi _,by omega,by omega,λk y hk=>by simp at hk,λk y hk hy=>?_⟩,λi j H' ⟨e,i0,i1,i2,i3,i4⟩=>?_⟩
 ·have:=(Qt.1 hy).1;omega
 subst e;refine⟨λhc=>?_,λhc=>?_⟩
 ·have hc:i<j:=by simpa using hc
  rw[yf0 i0 hc (by omega)];have m0:0<=(i+j)/2:=by omega
  have m1:(i+j)/2<xs.length:=by omega
  have hg:=y3h (d:=((0:Int),(0:Int),(0:Int))) m0 m1;refine⟨by unfold inI;omega,by unfold nn;omega,h.ldD m0 m1 ⟨_,zb3 (x:=xs.getD ((i+j)/2).toNat (0,0,0)),?_⟩⟩;generalize xs.getD ((i+j)/2).toNat (0,0,0)=x at hg ⊢;have hm:(xs.map (·.1))[((i+j)/2).toNat]?=some x.1:=by rw[Qv,hg];try rfl
  refine⟨λhlt=>?_,λhge=>?_⟩
  ·have hlt:x.1<n:=zos.1 (by simpa using hlt);refine⟨by unfold inI;omega,⟨rfl,by omega,by omega,i2,?_,i4⟩,?_⟩
   ·rw[show ((i+j)/2+1).toNat=((i+j)/2).toNat+1 by omega];exact zb1 hs hm hlt
   ·show (j-((i+j)/2+1)).toNat<(j-i).toNat;omega
  ·have hge:n<=x.1:=by
    have:¬ zoo x.1 n<0:=by simpa using hge
    rw[zos] at this;omega
   refine⟨⟨rfl,i0,by omega,by omega,i3,zb0 hs hm hge⟩,?_⟩;show ((i+j)/2-i).toNat<(j-i).toNat;omega
 ·have hc:i=j:=by have:¬ i<j:=by simpa using hc
                  omega
  subst hc;have hp:i.toNat=yrl (xs.map (·.1)) n:=yrm hs (by omega) i3 i4;have hpi:(yrl (xs.map (·.1)) n:Int)=i:=by omega
  rw[hpi];have key:(decide (i<(s.n:Int))=true)->i<xs.length:=λhh=>by
   have:i<s.n:=by simpa using hh
   omega
  refine⟨λhh=>h.inS i0 (key hh),_,_,_,λhh=>h.gD i0 (key hh),_,λhh=>zb3 (x:=xs.getD i.toNat (0,0,0)),?_,Qh _⟩;congr 3;have e1:decide (i<(s.n:Int))=decide (yrl (xs.map (·.1)) n<xs.length):=by
   rw[Qd,Zq,Zq];omega
  rw[e1];congr 2;congr 1;unfold y2r;rw[Qd,beq_iff_eq,beq_iff_eq,zop]
theorem zb5{x:Int×Int×Int}:QfV Tryz.prog (.func (.func F.f248) #[] #[]) [.agg #[vi x.1,vi x.2.1,vi x.2.2],vi n] H (vi (zoo x.1 n)) :=
 ⟨F.f248,#[],_,rfl,cb248,vc248 ⟨_,zrk,rfl,Qh _⟩⟩
theorem zb4{s:Slc}(h:Rd 3 fD H s xs)(hs:(xs.map (·.1)).Pairwise (·<·))(hl:xs.length<=100000000) :
  qF F.f176 #[s.v,vi n,.func (.func F.f248) #[] #[]] H
   (.tuple #[vi (yrl (xs.map (·.1)) n),.bool (decide (yrl (xs.map (·.1)) n<xs.length)&&(y2r xs (yrl (xs.map (·.1)) n)).1==n)]):=by
 have ls:=h.len;have hml:(xs.map (·.1)).length=xs.length:=by simp
 refine vc176 ⟨λi j H'=>H'=H/\0<=i/\i<=j/\j<=xs.length/\(∀k y,k<i.toNat->(xs.map (·.1))[k]?=some y->y<n)/\(∀k y,j.toNat<=k->(xs.map (·.1))[k]?=some y->n<=y),
  λi j _=>(j-i).toNat,⟨rfl,Qi _,by omega,by omega,λk y hk=>by simp at hk,λk y hk hy=>?_⟩,λi j H' ⟨e,i0,i1,i2,i3,i4⟩=>?_⟩
 ·have:=(Qt.1 hy).1;omega
 subst e;refine⟨λhc=>?_,λhc=>?_⟩
 ·have hc:i<j:=by simpa using hc
  rw[yf0 i0 hc (by omega)];have m0:0<=(i+j)/2:=by omega
  have m1:(i+j)/2<xs.length:=by omega
  have hg:=y3h (d:=((0:Int),(0:Int),(0:Int))) m0 m1;refine⟨by unfold inI;omega,by unfold nn;omega,h.ldD m0 m1 ⟨_,zb5 (x:=xs.getD ((i+j)/2).toNat (0,0,0)),?_⟩⟩;generalize xs.getD ((i+j)/2).toNat (0,0,0)=x at hg ⊢;have hm:(xs.map (·.1))[((i+j)/2).toNat]?=some x.1:=by rw[Qv,hg];try rfl
  refine⟨λhlt=>?_,λhge=>?_⟩
  ·have hlt:x.1<n:=zos.1 (by simpa using hlt);refine⟨by unfold inI;omega,⟨rfl,by omega,by omega,i2,?_,i4⟩,?_⟩
   ·rw[show ((i+j)/2+1).toNat=((i+j)/2).toNat+1 by omega];exact zb1 hs hm hlt
   ·show (j-((i+j)/2+1)).toNat<(j-i).toNat;omega
  ·have hge:n<=x.1:=by
    have:¬ zoo x.1 n<0:=by simpa using hge
    rw[zos] at this;omega
   refine⟨⟨rfl,i0,by omega,by omega,i3,zb0 hs hm hge⟩,?_⟩;show ((i+j)/2-i).toNat<(j-i).toNat;omega
 ·have hc:i=j:=by have:¬ i<j:=by simpa using hc
                  omega
  subst hc;have hp:i.toNat=yrl (xs.map (·.1)) n:=yrm hs (by omega) i3 i4;have hpi:(yrl (xs.map (·.1)) n:Int)=i:=by omega
  rw[hpi];have key:(decide (i<(s.n:Int))=true)->i<xs.length:=λhh=>by
   have:i<s.n:=by simpa using hh
   omega
  refine⟨λhh=>h.inS i0 (key hh),_,_,_,λhh=>h.gD i0 (key hh),_,λhh=>zb5 (x:=xs.getD i.toNat (0,0,0)),?_,Qh _⟩;congr 3;have e1:decide (i<(s.n:Int))=decide (yrl (xs.map (·.1)) n<xs.length):=by
   rw[Qd,Zq,Zq];omega
  rw[e1];congr 2;congr 1;unfold y2r;rw[Qd,beq_iff_eq,beq_iff_eq,zop]
abbrev ptW(p:Pt):Value:=sI3 p.1 p.2.1 p.2.2
abbrev raW(r:Int×Int):Value:=sI2 r.1 r.2
def o2(o:Option (Int×Int)):Int×Int:=o.getD (0,0)
theorem yjw:okR (0,1):=by decide
theorem ydb(hp:okP p)(hq:okP q):inI (p.2.1-q.2.1)/\inI (q.2.2-p.2.2):=by
 have:=hp.b;have:=hq.b;unfold inI;omega
theorem zs9(hp:okP p)(hq:okP q)(hne:p.1≠q.1)(hb:p.2.2≠q.2.2):qF F.f136 #[ptW p,ptW q] H (.tuple #[raW (yc3 (p.2.1-q.2.1) (q.2.2-p.2.2)).1,vi (yc3 (p.2.1-q.2.1) (q.2.2-p.2.2)).2]):=by
 have h2:xa3 p q (0,1)=0:=xa4.2 ⟨hp,hq,yjw,hne⟩;have f:=ydb hp hq;refine vc136 ⟨_,zsc (p:=p) (q:=q) (t:=(0,1)) yjw.fit,λhc=>?_,λhc=>⟨λhe=>?_,λhe=>⟨f.1,f.2,_,_,_,yum f.1 f.2,rfl,Qh _⟩⟩⟩
 ·rw[h2] at hc;simp at hc
 ·exact absurd (by simpa using he) hb
def zxe(p q:Pt)(t:Int×Int):(Int×Int)×Bool×Int:=if xa3 p q t=0 then (o2 (zx5 p q t),(zx5 p q t).isSome,0) else ((0,0),false,xa3 p q t)
theorem zs8(ht:zzn t) :
  qF F.f179 #[ptW p,ptW q,raW t] H (.tuple #[raW (zxe p q t).1,.bool (zxe p q t).2.1,vi (zxe p q t).2.2]):=by
 refine vc179 ⟨_,zsc ht,λhc=>?_,λhc=>?_⟩
 ·have hc:xa3 p q t≠0:=by simpa using hc
  unfold zxe;rw[Zn hc];exact⟨rfl,Qh _⟩
 ·have hc:xa3 p q t=0:=by simpa using hc
  obtain⟨h1,h2,h3,h4⟩:=xa4.1 hc;unfold zxe;rw[Zp hc];refine⟨_,zs7 h2 h1 h3,λhb=>?_,λhb=>⟨λhl=>?_,λhl=>?_⟩⟩
  ·have:leads q p t=true:=by rw[← zp4];exact hb
   unfold zx5;rw[Zp this];exact⟨rfl,Qh _⟩
  ·have:¬ leads q p t=true:=by rw[← zp4,hb];simp
   have hl:q.2.2<=p.2.2:=by simpa using hl
   unfold zx5;rw[Zn this,Zn (by omega)];exact⟨rfl,Qh _⟩
  ·have:¬ leads q p t=true:=by rw[← zp4,hb];simp
   have hl:¬ q.2.2<=p.2.2:=by simpa using hl
   obtain⟨x,y,g,_,hm,_⟩:=ydh h1 h2 (by omega:p.2.2<q.2.2);refine⟨_,_,_,zs9 h1 h2 h4 (by omega),?_⟩;unfold zx5;rw[Zn this,Zp (by omega),hm];exact⟨rfl,Qh _⟩
theorem ywe(hp:okP p)(hq:okP q):qF F.f196 #[ptW p,ptW q] H (raW (yc3 (p.2.1-q.2.1) (q.2.2-p.2.2)).1):=by
 have f:=ydb hp hq;exact vc196 ⟨f.1,f.2,_,_,_,ywd f.1 f.2,rfl,Qh _⟩
theorem yvx(hp:okP p)(hq:okP q)(ht:okR t) :
  qF F.f147 #[ptW p,ptW q,raW t] H (.tuple #[raW (o2 (zx5 p q t)),.bool (zx5 p q t).isSome]):=by
 refine vc147 ⟨_,yw9 hq hp ht,λhc=>?_,λhc=>⟨λhl=>?_,λhl=>?_⟩⟩
 ·unfold zx5;rw[Zp hc];exact⟨rfl,Qh _⟩
 ·refine⟨_,_,ywe hp hq,?_⟩;have hl:p.2.2<q.2.2:=by simpa using hl
  unfold zx5;rw[Zn (by rw[hc];simp),Zp hl];exact⟨rfl,Qh _⟩
 ·have hl:¬ p.2.2<q.2.2:=by simpa using hl
  unfold zx5;rw[Zn (by rw[hc];simp),Zn hl];exact⟨rfl,Qh _⟩
theorem yr6{id:Int}(h:0<=yr5 f id):yr5 f id<f.length:=(yra h).1
theorem _root_.Go.Eng.okF.ids(of:okF f):(f.map (·.1)).Pairwise (·<·):=of.inc
theorem _root_.Go.Eng.okF.small(of:okF f):f.length<=1000000:=by have:=of.len;omega
theorem _root_.Go.Eng.okF.pt(of:okF f){id:Int}(h:0<=yr5 f id):okP (gP f (yr5 f id)):=of.each _ (Qs (yra h).2.1)
theorem ywx{x:Int×Int}(hf:Rd 3 fD H u f)(of:okF f)(ht:okR t)(h1:0<=yr5 f x.1)(h2:0<=yr5 f x.2) :
  qF F.f91 #[vFd u,raW x,raW t] H (.tuple #[raW (o2 (xbv f x t)),.bool (xbv f x t).isSome]):=by
 have hl:=of.small;exact vc91 ⟨_,yvu hf (by omega),hf.ldD h2 (yr6 h2) ⟨_,yvu hf (by omega),hf.ldD h1 (yr6 h1)
  ⟨_,_,_,yvx (p:=gP f (yr5 f x.2)) (q:=gP f (yr5 f x.1)) (of.pt h2) (of.pt h1) ht,rfl,Qh _⟩⟩⟩
def yqw(f:List Pt)(id:Int):Pt:=if yr5 f id<0 then (-1,0,0) else gP f (yr5 f id)
theorem zn0{id:Int}(hf:Rd 3 fD H u f)(of:okF f):qF F.f117 #[vFd u,vi id] H (ptW (yqw f id)):=by
 have hl:=of.small;refine vc117 ⟨_,_,zb7 hf of.ids (by omega),λhb=>?_,λhb=>?_⟩
 ·rcases ys1 of.ids id with⟨h1,h2⟩|⟨h1,h2⟩
  ·rw[h1] at hb;cases hb
  ·have:yqw f id=(-1,0,0):=by unfold yqw yr5;rw[h2];rfl
   rw[this];exact⟨rfl,Qh _⟩
 ·rcases ys1 of.ids id with⟨h1,h2⟩|⟨h1,h2⟩
  ·have e:yr5 f id=yrl (f.map (·.1)) id:=h2;have h0:0<=yr5 f id:=by omega
   have:yqw f id=gP f (yr5 f id):=by unfold yqw;rw[Zn (by omega)]
   rw[this,← e];exact(hf.ldD h0 (yr6 h0) ⟨rfl,Qh _⟩)
  ·rw[h1] at hb;cases hb
theorem yqx(of:okF f)(id:Int):decide ((yqw f id).1<0)=decide (yr5 f id<0):=by
 rw[Qd,decide_eq_true_iff,decide_eq_true_iff];unfold yqw;by_cases h:yr5 f id<0
 ·rw[Zp h];simp[h]
 ·rw[Zn h];have:=(of.pt (by omega:0<=yr5 f id)).i0;omega
def xby(f:List Pt)(x t:Int×Int):(Int×Int)×Bool×Int:=zxe (yqw f x.2) (yqw f x.1) t
theorem zn6{x:Int×Int}(hf:Rd 3 fD H u f)(of:okF f)(ht:zzn t) :
  qF F.f118 #[vFd u,raW x,raW t] H (.tuple #[raW (xby f x t).1,.bool (xby f x t).2.1,vi (xby f x t).2.2]) :=
 vc118 ⟨_,_,_,zn0 hf of,_,_,_,zn0 hf of,_,_,_,_,zs8 (p:=yqw f x.2) (q:=yqw f x.1) ht,rfl,Qh _⟩
theorem xbz{x:Int×Int}(of:okF f)(ht:okR t)(h1:0<=yr5 f x.1)(h2:0<=yr5 f x.2)(hne:x.1≠x.2):xby f x t=(o2 (xbv f x t),(xbv f x t).isSome,0):=by
 have e1:yqw f x.2=gP f (yr5 f x.2):=by unfold yqw;rw[Zn (by omega)]
 have e2:yqw f x.1=gP f (yr5 f x.1):=by unfold yqw;rw[Zn (by omega)]
 unfold xby zxe;rw[e1,e2,Zp (xa4.2 ⟨of.pt h2,of.pt h1,ht,by rw[(yra h1).2.2,(yra h2).2.2];exact Ne.symm hne⟩)];rfl
theorem xc0{x:Int×Int}(h:yr5 f x.1<0\/yr5 f x.2<0):(xby f x t).2.2≠0:=by
 have:xa3 (yqw f x.2) (yqw f x.1) t≠0:=λe=>by
  obtain⟨a,b,_,_⟩:=xa4.1 e;have a:=a.i0;have b:=b.i0;unfold yqw at a b;rcases h with h|h
  ·rw[Zp h] at b;simp at b
  ·rw[Zp h] at a;simp at a
 unfold xby zxe;rw[Zn this];exact this
structure Cu where
 f:Slc
 cl:Slc
 u1:Slc
 u2:Slc
 u3:Slc
 u4:Slc
 u5:Slc
 d:Slc
abbrev ckV(u:Cu)(c:Ck):Value:=vCk c.now.1 c.now.2 u.f c.ct.next u.cl u.u1 u.u2 u.u3 u.u4 u.u5 u.d
def zu:Cu:=⟨zs,zs,zs,zs,zs,zs,zs,zs⟩
structure RdK(H:Hp)(u:Cu)(c:Ck):Prop where
 f:Rd 3 fD H u.f c.f
 cl:Rd 3 fD H u.cl c.ct.list
 ag:RdA H u.u1 u.u2 u.u3 u.u4 u.u5 c.ag
 due:Rd 3 fD H u.d c.due
theorem RdK.le{H H':Hp}{u:Cu}{c:Ck}(r:RdK H u c)(l:Hp.le H H'):RdK H' u c:=⟨r.f.le l,r.cl.le l,r.ag.le l,r.due.le l⟩
structure zze(c:Ck):Prop where
 now:zzn c.now
 f:c.f.length<=1000000
 ct:c.ct.list.length<=1000000
 ag:fitG c.ag
 due:c.due.length<=1000000
theorem okK.fit{c:Ck}(ok:okK c):zze c:=by
 have a:=ok.f.small;have b:=ok.ct.len;have g:=okA.fitG ok.ag;have h:=ok.hl;have:=g.hl;exact⟨ok.now.fit,a,by omega,g,by omega⟩
theorem _root_.Go.Eng.Rd.sub{α:Type}{k:Nat}{f:α->List Value}{xs:List α}(h:Rd k f H u xs){l hi m:Int}(l0:0<=l)(lh:l<=hi)(hx:hi<=xs.length)(hm:hi<=m) :
  Rd k f H ⟨x67 u.a k l m,hi.toNat-l.toNat,m.toNat-l.toNat⟩ ((xs.take hi.toNat).drop l.toNat):=by
 have hlen:((xs.take hi.toNat).drop l.toNat).length=hi.toNat-l.toNat:=by simp;omega
 refine⟨hlen.symm,by show hi.toNat-l.toNat<=m.toNat-l.toNat;omega,λhne=>?_,λi x hi' j v hv=>?_⟩
 ·have h1:0<((xs.take hi.toNat).drop l.toNat).length:=List.length_pos_iff.2 hne;have h2:xs≠[]:=λe=>by rw[e] at h1;simp at h1
  have:=h.isS h2;show (x67 u.a k l m).isSome=true;unfold x67;split
  ·exact this
  ·simpa using this
 ·have hl:=(Qt.1 hi').1;rw[hlen] at hl;have hg:xs[l.toNat+i]?=some x:=by
   rw[List.getElem?_drop,List.getElem?_take] at hi';split at hi'
   ·exact hi'
   ·cases hi'
  have h2:xs≠[]:=λe=>by rw[e] at hg;simp at hg
  obtain⟨p,hp⟩:=Option.isSome_iff_exists.1 (h.isS h2);have c:=h.cell _ _ hg j v hv;rw[hp] at c;have e:x67 u.a k l m=some (p.add (l.toNat*k)):=by unfold x67;rw[Zn (by omega),hp];rfl
  show H.at ((zu4 (x67 u.a k l m) k i).add j)=some v;rw[e];show H.at (((p.add (l.toNat*k)).add ((i:Int).toNat*k)).add j)=some v;rw[Ql,z3z,z3z,← Nat.add_assoc,← Nat.add_mul];have c':H.at ((p.add (((l.toNat+i:Nat):Int).toNat*k)).add j)=some v:=c;rw[Ql,z3z] at c';exact c'
def ybr(f:List Pt)(x:Int×Int):Bool:=decide (yr5 f x.1<0)||decide (yr5 f x.2<0)
def zle(h:List Ev)(f:List Pt)(t:Int×Int):List (Int×Int×Int)->List (Int×Int×Int)->Bool
 | [],ds=>ds.isEmpty
 | x :: l,ds=>if ybr f x.2=true then false else match xbv f x.2 t with
  | none=>zle h f t l ds
  | some s=>match ds with
   | []=>false
   | d :: ds=>decide (d.1=x.1)&&decide ((⟨s,x.1,d.2⟩:Ev)∈h)&&zle h f t l ds
theorem zlf(h:List Ev)(f:List Pt)(t:Int×Int):∀l ds:List (Int×Int×Int),zle h f t l ds=((l.all λx=>!ybr f x.2)&&zz9 h (ztq f t l) ds)
 | [],[]=>rfl
 | [],_ :: _=>rfl
 | x :: l,ds=>by
  unfold zle ztq;rw[List.all_cons,Qu];cases hx:ybr f x.2 with
  | true=>rw[Zp rfl];rfl
  | false =>
   rw[Zn (by simp)];cases xbv f x.2 t with
   | none=>simp only[Option.map_none];rw[zlf h f t l ds];simp[ztq]
   | some s =>
    simp only[Option.map_some];cases ds with
    | nil=>simp[zz9]
    | cons d ds =>
     simp only[zz9];rw[zlf h f t l ds];simp only[ztq,Bool.not_false,Qe];cases (l.all λx=>!ybr f x.2) <;> simp
theorem y8m(ct:Ct)(f:List Pt):y8l ct f=ct.list.all λx=>!ybr f x.2:=by
 unfold y8l ybr;congr 1;funext x;simp
structure z9d(c:Ck):Prop where
 now:okR c.now
 f:okF c.f
 ct:okC c.ct
 ag:okA c.ag
 wl:c.ag.wh.length=200
 hl:c.ag.heap.length=c.due.length
theorem yk8{c:Ck}:okK c↔z9d c/\zle c.ag.heap c.f c.now c.ct.list c.due=true:=by
 rw[zlf,Qc,← y8m];exact⟨λok=>⟨⟨ok.now,ok.f,ok.ct,ok.ag,ok.wl,ok.hl⟩,ok.known,ok.due⟩,λ⟨b,k,d⟩=>⟨b.now,b.f,b.ct,k,b.ag,b.wl,b.hl,d⟩⟩
theorem zlt{c:Ck}(b:z9d c):zlr c=if zle c.ag.heap c.f c.now c.ct.list c.due=true then 0 else 8:=by
 unfold zlr;by_cases h:zle c.ag.heap c.f c.now c.ct.list c.due=true
 ·rw[Zp h,Zp (yk8.2 ⟨b,h⟩)]
 ·rw[Zn h,Zn λok=>h (yk8.1 ok).2]
theorem ztp{α:Type}{l:List α}{i:Nat}{x:α}(h:l[i]?=some x):l.drop i=x :: l.drop (i+1):=by
 obtain⟨h1,h2⟩:=Qt.1 h;rw[← h2];exact List.drop_eq_getElem_cons h1
theorem zuo{a:Ag}(ok:okA a)(hw:a.wh.length=200){d:Int×Int×Int}(hd:d.1=n) :
  (0<=d.2.1/\d.2.1<200/\0<=a.wh.getD d.2.1.toNat 0/\hp a.heap (a.wh.getD d.2.1.toNat 0).toNat=⟨s,n,d.2⟩/\a.wh.getD d.2.1.toNat 0<a.heap.length)↔(⟨s,n,d.2⟩:Ev)∈a.heap:=by
 constructor
 ·rintro⟨_,_,h3,h4,h5⟩;rw[← h4];exact y57 (by omega)
 ·intro hm;obtain⟨a1,a2,a3,a4,a5⟩:=ok.slot hm;have so:=ok.slotOf a5;have fe:=(zyr ok hm).2;have wl:=ok.wl;refine⟨a1,by simp only at a2;omega,so.1,?_,so.2.1⟩;unfold atA at fe;exact fe
theorem zc6:Tryz.prog.cellsOf 171=3:=by kernel_rfl
theorem okA.whT{a:Ag}(ok:okA a){i:Int}(h0:0<=i)(h1:i<a.wh.length)(h2:0<=a.wh.getD i.toNat 0):a.wh.getD i.toNat 0<a.heap.length:=by
 have hw:=ok.wl;cases hu:a.tb.used.getD i.toNat false with
 | true=>exact(ok.used i.toNat (by omega) hu).2.1
 | false=>have:=ok.free i.toNat (by omega) hu;omega
theorem zmq{u:Cu}{c:Ck}(r:RdK H u c)(fk:zze c):qF F.f72 #[ckV u c] H (vi (zlr c)):=by
  have l4:=r.ag.heap.len;have l5:=r.ag.wh.len;have ld:=r.due.len;have lc:=r.cl.len;have f1:=fk.ct;have f2:=fk.due;refine vc72 ⟨_,yui fk.now,_,zxq r.f,_,zcb r.cl,_,z4r r.ag fk.ag,λb5 H6 hb5 hH6=>?_⟩;have le6:Hp.le H H6:=Hp.le_new (Qh _) hb5 hH6;have r6:=r.le le6;have rc:RdI H6 ⟨some ⟨b5,0,none⟩,4,4⟩ [zm6 c.now,zlg c.f,zla c.ct,zl6 c.ag]:=yvc hH6 rfl rfl;refine upto (N:=4) (J:=λi=>(0<i->zm6 c.now=0)/\(1<i->zlg c.f=0)/\(2<i->zla c.ct=0)/\(3<i->zl6 c.ag=0)) (by omega) ⟨by omega,by omega,by omega,by omega⟩
    λi i0 i1 ⟨j1,j2,j3,j4⟩=>⟨λhn=>?_,λhn=>?_⟩
  · have hn:i<4:=by simpa using hn
    have k:=rc.gI i0 hn;refine⟨rc.inS i0 hn,_,k,?_⟩;clear k;rcases(by omega:i=0\/i=1\/i=2\/i=3) with rfl|rfl|rfl|rfl
    · refine⟨λhc=>⟨?_,le6⟩,λhc=>upto.nx i0 hn (by omega) ?_⟩
      · have hc:zm6 c.now≠0:=by simpa using hc
        rw[zls λok=>hc (zm8 ok.now)]
      · have hc:zm6 c.now=0:=by simpa using hc
        exact⟨λ_=>hc,by omega,by omega,by omega⟩
    · refine⟨λhc=>⟨?_,le6⟩,λhc=>upto.nx i0 hn (by omega) ?_⟩
      · have hc:zlg c.f≠0:=by simpa using hc
        rw[zls λok=>hc (zlh.2 ok.f)]
      · have hc:zlg c.f=0:=by simpa using hc
        exact⟨λ_=>j1 (by omega),λ_=>hc,by omega,by omega⟩
    · refine⟨λhc=>⟨?_,le6⟩,λhc=>upto.nx i0 hn (by omega) ?_⟩
      · have hc:zla c.ct≠0:=by simpa using hc
        rw[zls λok=>hc (zlc ok.ct)]
      · have hc:zla c.ct=0:=by simpa using hc
        exact⟨λ_=>j1 (by omega),λ_=>j2 (by omega),λ_=>hc,by omega⟩
    · refine⟨λhc=>⟨?_,le6⟩,λhc=>upto.nx i0 hn (by omega) ?_⟩
      · have hc:zl6 c.ag≠0:=by simpa using hc
        rw[zls λok=>hc (zl8 ok.ag)]
      · have hc:zl6 c.ag=0:=by simpa using hc
        exact⟨λ_=>j1 (by omega),λ_=>j2 (by omega),λ_=>j3 (by omega),λ_=>hc⟩
  have hn:¬ i<4:=by simpa using hn
  refine⟨λhc=>⟨?_,le6⟩,λhc=>?_⟩
  · rw[zls]
    intro ok;have:=ok.wl;have:=ok.hl;rw[l5,l4,ld,ok.wl,ok.hl] at hc;simp at hc
  simp only[Qa,bne_eq_false_iff_eq] at hc;have base:z9d c:=⟨zm9.1 (j1 (by omega)),zlh.1 (j2 (by omega)),zld.1 (j3 (by omega)),zl9.1 (j4 (by omega)),by omega,by omega⟩;clear j1 j2 j3 j4 rc;have wl:=base.wl;refine⟨λu i H'=>H'=H6/\0<=i/\i<=c.ct.list.length/\∃ds,Rd 3 fD H6 u ds/\ds.length<=1000000/\zle c.ag.heap c.f c.now c.ct.list c.due=zle c.ag.heap c.f c.now (c.ct.list.drop i.toNat) ds,
    λ_ i _=>(c.ct.list.length-i).toNat,⟨rfl,Qi _,by omega,c.due,r6.due,fk.due,by simp⟩,λw i H' ⟨e,i0,i1,ds,rd,dl,hd⟩=>?_⟩
  subst e;have ul:=rd.len;refine⟨λhn=>?_,λhn=>?_⟩
  · have hn:i<c.ct.list.length:=by have:i<u.cl.n:=by simpa using hn
                                   omega
    have hg:=y3h (d:=((0:Int),(0:Int),(0:Int))) i0 hn;refine r6.cl.ldD i0 hn ⟨_,_,_,_,zn6 (x:=(c.ct.list.getD i.toNat (0,0,0)).2) r6.f base.f fk.now,?_⟩;generalize c.ct.list.getD i.toNat (0,0,0)=x at hg ⊢;rw[ztp hg] at hd;have hv:=(base.ct.ok.each x (Qs hg)).1;have hne:x.2.1≠x.2.2:=by
      unfold xb5 at hv;simp only[Qc,bne_iff_ne] at hv;exact hv.2
    have nx:∀{w':Slc}{ds':List (Int×Int×Int)},Rd 3 fD H' w' ds'->ds'.length<=1000000->zle c.ag.heap c.f c.now c.ct.list c.due=zle c.ag.heap c.f c.now (c.ct.list.drop (i.toNat+1)) ds' ->
        inI (i+1)/\(H'=H'/\0<=i+1/\i+1<=c.ct.list.length/\∃ds,Rd 3 fD H' w' ds/\ds.length<=1000000/\zle c.ag.heap c.f c.now c.ct.list c.due=zle c.ag.heap c.f c.now (c.ct.list.drop (i+1).toNat) ds)/\(c.ct.list.length-(i+1)).toNat<(c.ct.list.length-i).toNat:=by
      intro w' ds' a b e;exact⟨by unfold inI;omega,⟨rfl,by omega,by omega,ds',a,b,by rw[show (i+1).toNat=i.toNat+1 by omega];exact e⟩,by omega⟩
    by_cases hL:ybr c.f x.2=true
    · have hz:(xby c.f x.2 c.now).2.2≠0:=xc0 (by simpa[ybr] using hL)
      refine⟨λ_=>⟨?_,le6⟩,λh=>absurd (by simpa using h) hz⟩;rw[zlt base,hd,zle,Zp hL,Zn (by simp)]
    · have hL':0<=yr5 c.f x.2.1/\0<=yr5 c.f x.2.2:=by
        simp only[ybr,Qg,Zq] at hL;omega
      rw[xbz base.f base.now hL'.1 hL'.2 hne];refine⟨λh=>by simp at h,λ_=>?_⟩;rw[zle,Zn hL] at hd;cases hw:xbv c.f x.2 c.now with
      | none =>
        rw[hw] at hd;exact⟨λ_=>nx rd dl hd,λh=>by simp at h⟩
      | some s =>
        rw[hw] at hd;refine⟨λh=>by simp at h,λ_=>?_⟩;cases ds with
        | nil =>
          have h0:w.n=0:=by simpa using ul
          refine⟨λh=>by simp[h0] at h,0,λh=>by simp[h0] at h,λ_=>⟨?_,le6⟩,λh=>by simp[h0] at h⟩;rw[zlt base,hd,Zn (by simp)]
        | cons d ds =>
          have h0:w.n=ds.length+1:=by simpa using ul
          have g1:=rd.gD (i:=0) (Qi _) (by simp);have g2:=rd.gD2 (i:=0) (Qi _) (by simp);have gs:=rd.inS (i:=0) (Qi _) (by simp);simp only[Int.toNat_zero,List.getD_cons_zero] at g1 g2;dsimp only at hd;refine⟨λ_=>gs,d.1,λ_=>g1.1,λhb=>⟨?_,le6⟩,λhb=>?_⟩
          · have hb:d.1≠x.1:=by
              simp only[Qg,beq_iff_eq,bne_iff_ne] at hb;rcases hb with hb|hb
              · omega
              · exact hb
            rw[zlt base,hd,Zv hb,Zn (by simp)]
          have hb:d.1=x.1:=by
            simp only[Qa,bne_eq_false_iff_eq] at hb;exact hb.2
          rw[Zu hb,Qe] at hd;have et:=zuo (s:=s) base.ag base.wl hb;refine⟨gs,_,_,g2,λh=>?_,_,λh=>r6.ag.wh.gI ?_ ?_,λh=>?_,_,λh=>r6.ag.wh.gI ?_ ?_,λh=>?_,_,_,_,_,_,λh=>r6.ag.heap.gE ?_ ?_,λht=>⟨?_,le6⟩,λht=>?_⟩
          · simp only[Qb,Qa,Zt] at h
            exact r6.ag.wh.inS (by omega) (by omega)
          · simp only[Qb,Qa,Zt] at h;omega
          · simp only[Qb,Qa,Zt] at h;omega
          · simp only[Qb,Qa,Zt] at h
            exact r6.ag.wh.inS (by omega) (by omega)
          · simp only[Qb,Qa,Zt] at h;omega
          · simp only[Qb,Qa,Zt] at h;omega
          · simp only[Qb,Qa,Zt] at h
            exact r6.ag.heap.inS (by omega) (okA.whT base.ag (by omega) (by omega) (by omega))
          · simp only[Qb,Qa,Zt] at h;omega
          · simp only[Qb,Qa,Zt] at h
            exact okA.whT base.ag (by omega) (by omega) (by omega)
          · rw[zlt base,hd]
            have:¬ (⟨s,x.1,d.2⟩:Ev)∈c.ag.heap:=λhm=>by
              obtain⟨t1,t2,t3,t4,t5⟩:=et.2 hm;rw[t4,Zv (by omega),Zv (by omega),Zv (by omega)] at ht;simp[o2] at ht
            rw[Zv this,Zn (by simp)]
          · simp only[Qa,Zt,Bool.not_eq_false',Qc,beq_iff_eq,o2,Option.getD_some] at ht
            obtain⟨⟨⟨t1,t2⟩,t3⟩,⟨⟨⟨t4,t5⟩,t6⟩,t7⟩,t8⟩:=ht;have hm:(⟨s,x.1,d.2⟩:Ev)∈c.ag.heap:=et.1 ⟨by omega,by omega,by omega,by
              generalize hp c.ag.heap (c.ag.wh.getD d.2.1.toNat 0).toNat=y at t4 t5 t6 t7 t8;obtain⟨⟨y1,y2⟩,y3,y4,y5⟩:=y;obtain⟨s1,s2⟩:=s;simp only at t4 t5 t6 t7 t8;rw[t4,t5,t6,t7,t8],okA.whT base.ag (by omega) (by omega) (by omega)⟩
            rw[Zu hm,Qe] at hd;have cap:=rd.cap;rw[zc6];have sub:=rd.sub (l:=1) (hi:=w.n) (m:=w.c) (by omega) (by omega) (by simp;omega) (by omega);rw[show ((d :: ds).take ((w.n:Int)).toNat).drop (1:Int).toNat=ds by rw[Ql,h0];simp] at sub;exact⟨⟨by omega,by omega,by omega,by omega⟩,nx sub (by simp at dl;omega) hd⟩
  · have hn:¬ i<c.ct.list.length:=by have:¬ i<u.cl.n:=by simpa using hn
                                     omega
    rw[List.drop_eq_nil_of_le (by omega),zle] at hd;refine⟨λhb=>⟨?_,le6⟩,λhb=>⟨?_,le6⟩⟩
    · have hb:0<w.n:=by simpa using hb
      have:ds≠[]:=λe=>by subst e;simp at ul;omega
      rw[zlt base,hd,Zn (by simpa using this)]
    · have hb:¬ 0<w.n:=by simpa using hb
      have:ds=[]:=Xb.1 (by omega);rw[zlt base,hd,this];rfl
