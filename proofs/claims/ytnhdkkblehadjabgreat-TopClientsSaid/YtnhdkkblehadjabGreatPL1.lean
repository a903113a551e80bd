/- The engine, parts L1, L2, L3, L4, L5, L6, L7, put together. Conditions: none. -/
import Derived.Test.YtnhdkkblehadjabGreatPK1
import Derived.Test.YtnhdkkblehadjabGreatP5
import Derived.Test.YtnhdkkblehadjabGreatP6
import Derived.Test.YtnhdkkblehadjabGreatP3
import Derived.Test.YtnhdkkblehadjabGreatVgBase
import Derived.Test.YtnhdkkblehadjabGreatVgClock
import Derived.Test.YtnhdkkblehadjabGreatVgStd
import Derived.Test.YtnhdkkblehadjabGreatFs
import Derived.Test.YtnhdkkblehadjabGreatP4
set_option linter.unusedVariables false
section
/- Clocks, in plain Lean: when a certificate fails. Conditions: none. -/
set_option maxRecDepth 100000
open Go Go.Eng Go.Proofs
namespace Go.Proofs.YtnhdkkblehadjabGreat

def leR(a b:Int×Int):Prop:=a.1*b.2<=b.1*a.2
instance (a b:Int×Int):Decidable (leR a b):=inferInstanceAs (Decidable (_<=_))
theorem zns{a b:Int×Int}:znm a b<=0↔leR a b:=by unfold znm leR zn4;split <;> (try split) <;> omega
theorem znv{a b:Int×Int}:znm a b<0↔¬ leR b a:=by unfold znm leR zn4;split <;> (try split) <;> omega
theorem zno{a b:Int×Int}:znm a b=0↔leR a b/\leR b a:=by unfold znm leR zn4;split <;> (try split) <;> omega
theorem y6t(a:Int×Int):leR a a:=Int.le_refl _
theorem y6u(a b:Int×Int):leR a b\/leR b a:=by unfold leR;omega
theorem y6v{a b c:Int×Int}(ha:okR a)(hb:okR b)(hc:okR c)(h:leR a b)(h':leR b c):leR a c:=yqm hb.d1 ha.d1 hc.d1 h h'

theorem yha{a b:Int×Int}(ha:okR a)(hb:okR b)(h:leR a b)(h':leR b a):a=b:=by
 obtain⟨n,d⟩:=a
 obtain⟨m,e⟩:=b
 have e0:n*e=m*d:=by unfold leR at h h';simp only at h h';omega
 have d1:=ha.d1;have e1:=hb.d1
 simp only at d1 e1
 have g1:Nat.gcd n.natAbs d.natAbs=1:=((yhb ha.fit).1 ha).2.2
 have g2:Nat.gcd m.natAbs e.natAbs=1:=((yhb hb.fit).1 hb).2.2
 have ea:n.natAbs*e.natAbs=m.natAbs*d.natAbs:=by rw[← Int.natAbs_mul,← Int.natAbs_mul,e0]
 have x1:d.natAbs ∣ e.natAbs:=by
  have:d.natAbs ∣ n.natAbs*e.natAbs:=⟨m.natAbs,by rw[ea,Nat.mul_comm]⟩
  exact(Nat.Coprime.symm g1:Nat.Coprime d.natAbs n.natAbs).dvd_of_dvd_mul_left this
 have x2:e.natAbs ∣ d.natAbs:=by
  have:e.natAbs ∣ m.natAbs*d.natAbs:=⟨n.natAbs,by rw[← ea,Nat.mul_comm]⟩
  exact(Nat.Coprime.symm g2:Nat.Coprime e.natAbs m.natAbs).dvd_of_dvd_mul_left this
 have x3:=Nat.dvd_antisymm x1 x2
 have hd:d=e:=by omega
 subst hd
 have:n=m:=Int.eq_of_mul_eq_mul_right (by omega) e0
 rw[this]

def zux(p q:Pt)(t:Int×Int):Option (Int×Int):=if leads q p t=true then some t else if p.2.2<q.2.2 then some (y8z (p.2.1-q.2.1) (q.2.2-p.2.2)).1 else none

theorem y90{n d:Int}(hd:d≠0):y8z n d=y8z (-n) (-d):=by
 unfold y8z
 have e1:z2w (-n)=z2w n:=by unfold z2w;split <;> split <;> omega
 have e2:z2w (-d)=z2w d:=by unfold z2w;split <;> split <;> omega
 have e3:zzo (-n) (-d)=zzo n d:=by unfold zzo;rw[e1,e2]
 rw[if_neg hd,if_neg (by omega),e1,e2,e3]
 refine zbw λhne=>?_
 have hn:n≠0:=λe=>hne (by subst e;simp[z2w])
 by_cases a:n<0 <;> by_cases b:d<0
 ·rw[decide_eq_true a,decide_eq_true b,decide_eq_false (show ¬ -n<0 by omega),decide_eq_false (show ¬ -d<0 by omega)];rfl
 ·rw[decide_eq_true a,decide_eq_false b,decide_eq_false (show ¬ -n<0 by omega),decide_eq_true (show -d<0 by omega)];rfl
 ·rw[decide_eq_false a,decide_eq_true b,decide_eq_true (show -n<0 by omega),decide_eq_false (show ¬ -d<0 by omega)];rfl
 ·rw[decide_eq_false a,decide_eq_false b,decide_eq_true (show -n<0 by omega),decide_eq_true (show -d<0 by omega)];rfl

theorem _root_.Go.Eng.okP.b{p:Pt}(h:okP p):-1048576<=p.2.1/\p.2.1<=1048576/\-1048576<=p.2.2/\p.2.2<=1048576:=⟨h.a0,h.a1,h.b0,h.b1⟩

theorem yae{p q:Pt}(hp:okP p)(hq:okP q)(h:p.2.2<q.2.2):∃x y g:Int,0<g/\y8z (p.2.1-q.2.1) (q.2.2-p.2.2)=((x,y),0)/\x*g=p.2.1-q.2.1/\y*g=q.2.2-p.2.2/\okR (x,y):=by
 have hp:=hp.b;have hq:=hq.b
 obtain⟨x,y,g,h1,h2,h3,h4,h5⟩:=y91 (A:=p.2.1-q.2.1) (B:=p.2.2-q.2.2) (by omega) (by omega) (by omega) (by omega)
 refine⟨x,y,g,h1,?_,h3,by omega,h5⟩
 rw[y90 (by omega),← h2]
 congr 1;omega

theorem zv9{p q:Pt}{x y g:Int}(hx:x*g=p.2.1-q.2.1)(hy:y*g=q.2.2-p.2.2)(u:Int×Int):zv8 p q u=(x*u.2-u.1*y)*g:=by
 unfold zv8
 have hB:p.2.2-q.2.2 = -(y*g):=by omega
 rw[← hx,hB,Int.sub_mul,Int.neg_mul]
 have h1:x*g*u.2=x*u.2*g:=by rw[Int.mul_assoc,Int.mul_comm g,← Int.mul_assoc]
 have h2:y*g*u.1=u.1*y*g:=by rw[Int.mul_comm,← Int.mul_assoc]
 omega

theorem y76{p q:Pt}{t:Int×Int}:leads p q t=true↔0<zv8 p q t\/(zv8 p q t=0/\(q.2.2<p.2.2\/(p.2.2=q.2.2/\p.1<q.1))):=by
 unfold leads
 split
 ·rw[decide_eq_true_iff];omega
 ·split
  ·rw[decide_eq_true_iff];omega
  ·rw[decide_eq_true_iff];omega

theorem zv2{p q:Pt}{t s:Int×Int}(hp:okP p)(hq:okP q)(ht:okR t)(h:zux p q t=some s):okR s:=by
 unfold zux at h
 split at h
 ·cases h;exact ht
 ·split at h
  ·rename_i hb
   obtain⟨x,y,g,h1,h2,h3,h4,h5⟩:=yae hp hq hb
   rw[h2] at h;cases h;exact h5
  ·cases h

theorem zv0{p q:Pt}{t s:Int×Int}(hp:okP p)(hq:okP q)(hne:p.1≠q.1)(h:zux p q t=some s):leR t s:=by
 unfold zux at h
 split at h
 ·cases h;exact y6t _
 ·rename_i hl
  split at h
  ·rename_i hb
   obtain⟨x,y,g,h1,h2,h3,h4,h5⟩:=yae hp hq hb
   rw[h2] at h;cases h
   have hl':leads p q t=true:=by rw[y7a t (Ne.symm hne)];simpa using hl
   rw[y76,zv9 h3 h4] at hl'
   unfold leR
   simp only
   have h0:0<=(x*t.2-t.1*y)*g:=by omega
   rcases Int.lt_or_le (x*t.2-t.1*y) 0 with hn|hn
   ·have:=Int.mul_neg_of_neg_of_pos hn h1;omega
   ·omega
  ·cases h

theorem zv3{p q:Pt}{t s u:Int×Int}(hp:okP p)(hq:okP q)(hne:p.1≠q.1)(ht:okR t)(hu:okR u)(h:zux p q t=some s)(h1:leR t u)(h2:leR u s):zux p q u=some s:=by
 have hs:=zv2 hp hq ht h
 unfold zux at h
 split at h
 ·rename_i hl
  cases h
  have:=yha ht hu h1 h2
  subst this
  unfold zux;rw[if_pos hl]
 ·rename_i hl
  split at h
  ·rename_i hb
   obtain⟨x,y,g,g1,g2,g3,g4,g5⟩:=yae hp hq hb
   rw[g2] at h;cases h
   by_cases hq':leR (x,y) u
   ·have:=yha g5 hu hq' h2
    subst this
    have hf:zv8 q p (x,y)=0:=by rw[zva,zv9 g3 g4];simp[Int.mul_comm]
    have:leads q p (x,y)=true:=y76.2 (.inr ⟨hf,.inl hb⟩)
    unfold zux;rw[if_pos this]
   ·have hf:0<zv8 p q u:=by
     rw[zv9 g3 g4]
     unfold leR at hq'
     simp only at hq'
     exact Int.mul_pos (by omega) g1
    have:¬ leads q p u=true:=by
     rw[y7a u hne]
     rw[y76.2 (.inl hf)];simp
    unfold zux;rw[if_neg this,if_pos hb,g2]
  ·cases h

theorem zuz{p q:Pt}{t s u:Int×Int}(hp:okP p)(hq:okP q)(hne:p.1≠q.1)(ht:okR t)(h:zux p q t=some s)(h1:leR t u)(h2:¬ leR s u):leads p q u=true:=by
 unfold zux at h
 split at h
 ·cases h;exact absurd h1 h2
 ·split at h
  ·rename_i hb
   obtain⟨x,y,g,g1,g2,g3,g4,g5⟩:=yae hp hq hb
   rw[g2] at h;cases h
   refine y76.2 (.inl ?_)
   rw[zv9 g3 g4]
   unfold leR at h2
   simp only at h2
   exact Int.mul_pos (by omega) g1
  ·cases h

theorem zv1{p q:Pt}{t u:Int×Int}(hne:p.1≠q.1)(ht:okR t)(hu:okR u)(h:zux p q t=none)(h1:leR t u):leads p q u=true/\zux p q u=none:=by
 unfold zux at h
 split at h
 ·cases h
 ·rename_i hl
  split at h
  ·cases h
  ·rename_i hb
   have hl':leads p q t=true:=by rw[y7a t (Ne.symm hne)];simpa using hl
   have key:leads p q u=true:=by
    rw[y76] at hl' ⊢
    have t2:=ht.d1;have u2:=hu.d1
    unfold leR at h1
    have e:zv8 p q u*t.2=zv8 p q t*u.2+(p.2.2-q.2.2)*(u.1*t.2-t.1*u.2):=by
     unfold zv8
     rw[Int.add_mul,Int.add_mul,Int.mul_sub]
     have a1:(p.2.1-q.2.1)*u.2*t.2=(p.2.1-q.2.1)*t.2*u.2:=by rw[Int.mul_assoc,Int.mul_comm u.2,← Int.mul_assoc]
     have a2:(p.2.2-q.2.2)*u.1*t.2=(p.2.2-q.2.2)*(u.1*t.2):=Int.mul_assoc ..
     have a3:(p.2.2-q.2.2)*t.1*u.2=(p.2.2-q.2.2)*(t.1*u.2):=Int.mul_assoc ..
     omega
    have hd:0<=(p.2.2-q.2.2)*(u.1*t.2-t.1*u.2):=Int.mul_nonneg (by omega) (by omega)
    have hft:0<=zv8 p q t:=by omega
    have hfu:0<=zv8 p q t*u.2:=Int.mul_nonneg hft (by omega)
    by_cases z:0<zv8 p q u
    ·exact .inl z
    ·have hz:zv8 p q u*t.2<=0:=Int.mul_nonpos_of_nonpos_of_nonneg (by omega) (by omega)
     have hz':zv8 p q t*u.2=0:=by omega
     have hft0:zv8 p q t=0:=by
      rcases Int.mul_eq_zero.1 hz' with h|h
      ·exact h
      ·omega
     have hu0:zv8 p q u*t.2=0:=by omega
     have hfu0:zv8 p q u=0:=by
      rcases Int.mul_eq_zero.1 hu0 with h|h
      ·exact h
      ·omega
     exact .inr ⟨hfu0,by omega⟩
   refine⟨key,?_⟩
   unfold zux
   rw[if_neg (by rw[y7a u hne,key];simp),if_neg hb]

structure Ck where
 now:Int×Int
 f:List Pt
 ct:Ct
 ag:Ag
 due:List (Int×Int×Int)
deriving DecidableEq
def Ck.zero:Ck:=⟨(0,0),[],.zero,.zero,[]⟩

def x7y(f:List Pt)(x t:Int×Int):Option (Int×Int):=zux (gP f (ynk f x.2)) (gP f (ynk f x.1)) t
def zrd(f:List Pt)(t:Int×Int)(l:List (Int×Int×Int)):List (Int×Int×Int):=l.filterMap λh=>(x7y f h.2 t).map λs=>(h.1,s)
def zx4(h:List Ev):List (Int×Int×Int)->List (Int×Int×Int)->Bool
 | [],[]=>true
 | x :: l,d :: ds=>decide (d.1=x.1)&&decide ((⟨x.2,x.1,d.2⟩:Ev)∈h)&&zx4 h l ds
 | _,_=>false

structure okK(c:Ck):Prop where
 now:okR c.now
 f:okF c.f
 ct:okC c.ct
 known:y66 c.ct c.f=true
 ag:okA c.ag
 wl:c.ag.wh.length=200
 hl:c.ag.heap.length=c.due.length
 due:zx4 c.ag.heap (zrd c.f c.now c.ct.list) c.due=true
instance (c:Ck):Decidable (okK c) :=
 decidable_of_iff (okR c.now/\okF c.f/\okC c.ct/\y66 c.ct c.f=true/\okA c.ag/\c.ag.wh.length=200/\c.ag.heap.length=c.due.length/\zx4 c.ag.heap (zrd c.f c.now c.ct.list) c.due=true)
  ⟨λ⟨a,b,d,e,f,g,h,i⟩=>⟨a,b,d,e,f,g,h,i⟩,λ⟨a,b,d,e,f,g,h,i⟩=>⟨a,b,d,e,f,g,h,i⟩⟩
def zko(c:Ck):Int:=if okK c then 0 else 8
theorem zkr{c:Ck}(h:okK c):zko c=0:=by unfold zko;rw[if_pos h]
theorem zkp{c:Ck}(h:¬ okK c):zko c=8:=by unfold zko;rw[if_neg h]
theorem zks{c:Ck}:zko c=0↔okK c:=by
 unfold zko;split
 ·simp[*]
 ·simp[*]

def nt(e:Ev):Int×Int×Int:=(e.no,e.at_)
def nh(e:Ev):Int×Int×Int:=(e.no,e.h)

theorem zx6{h:List Ev}:∀{l ds:List (Int×Int×Int)},zx4 h l ds=true->∃ps:List Ev,l=ps.map nt/\ds=ps.map nh/\∀e∈ps,e∈h
 | [],[],_=>⟨[],rfl,rfl,λe he=>by cases he⟩
 | [],_ :: _,h'=>by cases h'
 | _ :: _,[],h'=>by cases h'
 | x :: l,d :: ds,h'=>by
  simp only[zx4,Bool.and_eq_true,decide_eq_true_eq] at h'
  obtain⟨ps,e1,e2,e3⟩:=zx6 h'.2
  refine⟨⟨x.2,x.1,d.2⟩ :: ps,?_,?_,λe he=>?_⟩
  ·rw[e1];rfl
  ·rw[e2]
   show d :: _=(x.1,d.2) :: _
   rw[← h'.1.1]
  ·rcases List.mem_cons.1 he with rfl|he
   ·exact h'.1.2
   ·exact e3 e he
theorem zx5{h:List Ev}:∀{ps:List Ev},(∀e∈ps,e∈h)->zx4 h (ps.map nt) (ps.map nh)=true
 | [],_=>rfl
 | e :: ps,he=>by
  simp only[List.map_cons,zx4,nt,nh,decide_true,Bool.true_and,Bool.and_eq_true,decide_eq_true_eq]
  exact⟨he _ (List.mem_cons_self),zx5 λx hx=>he x (List.mem_cons_of_mem _ hx)⟩

theorem ylx{α:Type}[DecidableEq α]:∀{A B:List α},A.Nodup->(∀x∈A,x∈B)->B.length<=A.length->B.Perm A
 | [],B,_,_,hl=>by
  have:B=[]:=List.length_eq_zero_iff.1 (by simpa using hl)
  rw[this]
 | x :: A,B,hn,hs,hl=>by
  have hx:=hs x List.mem_cons_self
  have p:=List.perm_cons_erase hx
  have hn':=List.nodup_cons.1 hn
  refine p.trans (List.Perm.cons _ (ylx hn'.2 (λy hy=>?_) ?_))
  ·have hne:y≠x:=λe=>hn'.1 (by rw[← e];exact hy)
   exact(List.mem_erase_of_ne hne).2 (hs y (List.mem_cons_of_mem _ hy))
  ·rw[List.length_erase_of_mem hx];simp at hl;omega

theorem zrm(f:List Pt)(t:Int×Int):∀l:List (Int×Int×Int),List.Sublist ((zrd f t l).map (·.1)) (l.map (·.1))
 | []=>List.Sublist.slnil
 | h :: l=>by
  unfold zrd
  rw[List.filterMap_cons]
  cases x7y f h.2 t with
  | none=>exact(zrm f t l).cons _
  | some s=>exact(zrm f t l).cons_cons _

structure Evs(c:Ck)(ps:List Ev):Prop where
 at_:zrd c.f c.now c.ct.list=ps.map nt
 due:c.due=ps.map nh
 heap:c.ag.heap.Perm ps

theorem Evs.inc{c:Ck}{ps:List Ev}(e:Evs c ps)(ok:okC c.ct):(ps.map (·.no)).Pairwise (·<·):=by
 have h:=(ok.ok.nums).sublist (zrm c.f c.now c.ct.list)
 rw[e.at_,List.map_map] at h
 exact h
theorem okK.evs{c:Ck}(ok:okK c):∃ps,Evs c ps:=by
 obtain⟨ps,e1,e2,e3⟩:=zx6 ok.due
 have hs:=(ok.ct.ok.nums).sublist (zrm c.f c.now c.ct.list)
 rw[e1,List.map_map] at hs
 have hn:ps.Nodup:=by
  have h2:(ps.map (·.no)).Nodup:=hs.imp λh=>by omega
  exact(List.pairwise_map.1 h2).imp λh e=>h (congrArg _ e)
 refine⟨ps,e1,e2,ylx hn e3 ?_⟩
 rw[ok.hl,e2];simp
theorem okK.of{c:Ck}{ps:List Ev}(n:okR c.now)(f:okF c.f)(ct:okC c.ct)(kn:y66 c.ct c.f=true)(ag:okA c.ag)(wl:c.ag.wh.length=200)(e:Evs c ps):okK c :=
 ⟨n,f,ct,kn,ag,wl,by rw[e.heap.length_eq,e.due];simp,by rw[e.at_,e.due];exact zx5 λx hx=>e.heap.mem_iff.2 hx⟩

/-! ### What is done -/
def ynj(c:Ck)(n:Int):Int:=idx (λd:Int×Int×Int=>d.1==n) c.due
def z3l(c:Ck)(x:Int×Int):Ck×Int×Int :=
 if (z3f c.ct x).2.2=0 then
  match x7y c.f x c.now with
  | none=>({ c with ct:=(z3f c.ct x).1 },(z3f c.ct x).2.1,0)
  | some t=>if c.ag.tb.canTake=true then ({ c with ct:=(z3f c.ct x).1,ag:=ype c.ag t (z3f c.ct x).2.1,due:=c.due++[((z3f c.ct x).2.1,ydw c.ag)] },(z3f c.ct x).2.1,0) else (.zero,0,18)
 else (.zero,0,(z3f c.ct x).2.2)
def zdm(c:Ck)(x:Int×Int):Ck×Int×Int :=
 if okK c/\x78 x=true then (if ynk c.f x.1<0\/ynk c.f x.2<0 then (.zero,0,6) else z3l c x) else (.zero,0,8)
def y10(c:Ck)(n:Int):Ck :=
 if 0<=ynj c n then { c with ct:=x8h c.ct n,ag:=yt9 c.ag (y01 c.due (ynj c n)).2,due:=c.due.filter λd=>d.1 != n } else { c with ct:=x8h c.ct n }
def ytm(c:Ck)(n:Int):Ck×Int:=if okK c then (if atC c.ct n<0 then (.zero,6) else (y10 c n,0)) else (.zero,8)
def x6i(c:Ck)(t:Int×Int):Int:=if okK c/\okR t then (if znm t c.now<0 then 44 else 0) else 8
def x7r(c:Ck)(t:Int×Int):Bool:=decide (0<c.ag.heap.length)&&decide (znm (hp c.ag.heap 0).at_ t<=0)
def zv4(c:Ck):Ck:={ y10 c (hp c.ag.heap 0).no with now:=(hp c.ag.heap 0).at_ }
def zuu(c:Ck)(t:Int×Int):Ck×Ev×(Int×Int)×Int :=
 if x6i c t=0 then (if x7r c t=true then (zv4 c,hp c.ag.heap 0,(y01 c.ct.list (atC c.ct (hp c.ag.heap 0).no)).2,0) else (.zero,e0,(0,0),6)) else (.zero,e0,(0,0),x6i c t)
def ycg(c:Ck)(t:Int×Int):Ck×Int:=if x6i c t=0 then (if x7r c t=true then (.zero,36) else ({ c with now:=t },0)) else (.zero,x6i c t)
def ydl(f:List Pt)(t:Int×Int):Ck×Int:=if x4x f t=0 then (⟨t,f,.zero,z9n 200,[]⟩,0) else (.zero,x4x f t)

def z6k(c:Ck)(f:List Pt)(h:Int×Int×Int)(s:Ag×List (Int×Int×Int)):Option (Ag×List (Int×Int×Int)) :=
 match x7y f h.2 c.now with
 | some t =>
  if 0<=ynj c h.1 then some (ysy s.1 (y01 c.due (ynj c h.1)).2 t,s.2++[y01 c.due (ynj c h.1)])
  else if s.1.tb.canTake=true then some (ype s.1 t h.1,s.2++[(h.1,ydw s.1)]) else none
 | none=>if 0<=ynj c h.1 then some (yt9 s.1 (y01 c.due (ynj c h.1)).2,s.2) else some s
def z6g(c:Ck)(f:List Pt):List (Int×Int×Int)->Ag×List (Int×Int×Int)->Option (Ag×List (Int×Int×Int))
 | [],s=>some s
 | h :: l,s=>(z6k c f h s).bind (z6g c f l)
def z6t(c:Ck)(f:List Pt):Ck×Int :=
 match z6g c f c.ct.list (c.ag,[]) with
 | some s=>({ c with f:=f,ag:=s.1,due:=s.2 },0)
 | none=>(.zero,18)

theorem y3l{α:Type}{p:α->Bool}{xs:List α}(h:0<=idx p xs):∃x,xs[(idx p xs).toNat]?=some x/\p x=true/\x∈xs/\idx p xs<xs.length:=by
 unfold idx at *
 split at h
 ·rename_i ha
  have hl:=List.findIdx_lt_length.2 (List.any_eq_true.1 ha)
  have e:=List.getElem?_eq_getElem hl
  rw[if_pos ha,Int.toNat_natCast]
  exact⟨_,e,List.findIdx_getElem,List.getElem_mem hl,by omega⟩
 ·omega
theorem y3n{α:Type}{p:α->Bool}{xs:List α}(h:idx p xs<0):∀x∈xs,p x=false:=by
 intro x hx
 unfold idx at h
 split at h
 ·omega
 ·rename_i ha
  cases hp:p x with
  | false=>rfl
  | true=>exact absurd (List.any_eq_true.2 ⟨x,hx,hp⟩) ha

theorem zw5{α β:Type}{f g:α->Option β}:∀{l:List α},(∀x∈l,f x=g x)->l.filterMap f=l.filterMap g
 | [],_=>rfl
 | x :: l,h=>by
  rw[List.filterMap_cons,List.filterMap_cons,h x List.mem_cons_self,zw5 λy hy=>h y (List.mem_cons_of_mem _ hy)]

section
variable {c:Ck} {ps:List Ev} {n:Int}
theorem Evs.pos(e:Evs c ps):(0<=ynj c n->∃x∈ps,x.no=n/\y01 c.due (ynj c n)=nh x/\ynj c n<c.due.length)/\(ynj c n<0->∀x∈ps,x.no≠n):=by
 constructor
 ·intro h
  obtain⟨d,h1,h2,h3,h4⟩:=y3l h
  have hd:d∈ps.map nh:=by rw[← e.due];exact h3
  obtain⟨x,hx,rfl⟩:=List.mem_map.1 hd
  refine⟨x,hx,by simpa[nh] using h2,?_,h4⟩
  unfold y01 ynj
  rw[List.getD,h1];rfl
 ·intro h x hx hn
  have:=y3n h (nh x) (by rw[e.due];exact List.mem_map_of_mem hx)
  simp[nh,hn] at this

theorem zw8{x:Ev}:∀{ps:List Ev},(ps.map (·.no)).Nodup->x∈ps->ps.Perm (x :: ps.filter λy=>y.no != x.no)
 | y :: ps,hn,hx=>by
  rw[List.map_cons,List.nodup_cons] at hn
  rcases List.mem_cons.1 hx with rfl|hx
  ·rw[List.filter_cons_of_neg (by simp)]
   have:(ps.filter λz=>z.no != x.no)=ps:=List.filter_eq_self.2 λz hz=>by
    rw[bne_iff_ne];intro e;exact hn.1 (by rw[← e];exact List.mem_map_of_mem hz)
   rw[this]
  ·have hne:y.no≠x.no:=λe=>hn.1 (by rw[e];exact List.mem_map_of_mem hx)
   rw[List.filter_cons_of_pos (by simpa using hne)]
   exact(List.Perm.cons _ (zw8 hn.2 hx)).trans (List.Perm.swap _ _ _)
 | [],_,hx=>by cases hx

theorem zri(f:List Pt)(t:Int×Int)(n:Int):∀l:List (Int×Int×Int),zrd f t (l.filter λh=>h.1 != n)=(zrd f t l).filter λh=>h.1 != n
 | []=>rfl
 | h :: l=>by
  have ih:=zri f t n l
  unfold zrd at *
  by_cases e:h.1=n
  ·rw[List.filter_cons_of_neg (by simpa using e),ih,List.filterMap_cons]
   cases x7y f h.2 t with
   | none=>rfl
   | some s=>simp[e]
  ·rw[List.filter_cons_of_pos (by simpa using e),List.filterMap_cons,List.filterMap_cons]
   cases x7y f h.2 t with
   | none=>exact ih
   | some s=>simp[e,ih]
theorem zre(f:List Pt)(t:Int×Int)(l m:List (Int×Int×Int)):zrd f t (l++m)=zrd f t l++zrd f t m:=List.filterMap_append

theorem Evs.mem_heap(e:Evs c ps){x:Ev}(hx:x∈ps):x∈c.ag.heap:=e.heap.mem_iff.2 hx
theorem okK.live(ok:okK c){x:Ev}(hx:x∈c.ag.heap):c.ag.tb.live x.h.1 x.h.2=true:=(ok.ag.slot hx).2.2.2.2

theorem ytb{a:Ag}{x:Ev}(ok:okA a)(hx:x∈a.heap):z21 a (yt9 a x.h) x/\(yt9 a x.h).wh.length=a.wh.length:=by
 have r:=ok.removed (ok.slot hx).2.2.2.2
 rw[(zwl ok hx).2] at r
 refine⟨r,?_⟩
 rw[r.ok.wl,r.tb,ok.wl]
 simp[Tb.given]

theorem okK.gone(ok:okK c)(n:Int):okK (y10 c n)/\∀ps,Evs c ps->Evs (y10 c n) (ps.filter λx=>x.no != n):=by
 have kn:y66 (x8h c.ct n) c.f=true:=by
  unfold y66 x8h
  exact List.all_eq_true.2 λx hx=>List.all_eq_true.1 ok.known x ((List.mem_filter.1 hx).1)
 have key:∀ps,Evs c ps->Evs (y10 c n) (ps.filter λx=>x.no != n)/\okA (y10 c n).ag/\(y10 c n).ag.wh.length=200:=by
  intro ps e
  have hnd:(ps.map (·.no)).Nodup:=(e.inc ok.ct).imp λh=>by omega
  have hat:zrd c.f c.now (x8h c.ct n).list=(ps.filter λx=>x.no != n).map nt:=by
   show zrd c.f c.now (c.ct.list.filter λh=>h.1 != n)=_
   rw[zri,e.at_,List.filter_map];rfl
  unfold y10
  by_cases h:0<=ynj c n
  ·rw[if_pos h]
   obtain⟨x,hx,rfl,hg,hlt⟩:=e.pos.1 h
   have hxh:=e.mem_heap hx
   have hh:(y01 c.due (ynj c x.no)).2=x.h:=by rw[hg];rfl
   rw[hh]
   obtain⟨r,hw⟩:=ytb ok.ag hxh
   refine⟨⟨hat,?_,?_⟩,r.ok,by rw[← ok.wl];exact hw⟩
   ·show c.due.filter _=_
    rw[e.due,List.filter_map];rfl
   ·exact(r.perm.trans (e.heap.trans (zw8 hnd hx))).cons_inv
  ·rw[if_neg h]
   have hno:=e.pos.2 (by omega:ynj c n<0)
   have hf:(ps.filter λx=>x.no != n)=ps:=List.filter_eq_self.2 λx hx=>by rw[bne_iff_ne];exact hno x hx
   refine⟨⟨hat,?_,?_⟩,ok.ag,ok.wl⟩
   ·rw[hf];exact e.due
   ·rw[hf];exact e.heap
 obtain⟨ps,e⟩:=ok.evs
 obtain⟨k1,k2,k3⟩:=key ps e
 refine⟨okK.of (c:=y10 c n) ?_ ?_ ?_ ?_ k2 k3 k1,λps e=>(key ps e).1⟩
 ·unfold y10;split <;> exact ok.now
 ·unfold y10;split <;> exact ok.f
 ·unfold y10;split <;> exact ygw ok.ct n
 ·unfold y10;split <;> exact kn

theorem y11(c:Ck)(n:Int):(y10 c n).ct=x8h c.ct n/\(y10 c n).f=c.f/\(y10 c n).now=c.now:=by
 unfold y10;split <;> exact⟨rfl,rfl,rfl⟩

theorem okK.points(ok:okK c){h:Int×Int×Int}(hm:h∈c.ct.list):okP (gP c.f (ynk c.f h.2.2))/\okP (gP c.f (ynk c.f h.2.1))/\(gP c.f (ynk c.f h.2.2)).1≠(gP c.f (ynk c.f h.2.1)).1:=by
 obtain⟨k1,k2⟩:=y68 ok.known hm
 have v:=(ok.ct.ok.each h hm).1
 unfold x78 at v
 simp only[Bool.and_eq_true,bne_iff_ne] at v
 have p1:=ynp k1;have p2:=ynp k2
 exact⟨ok.f.each _ (List.mem_of_getElem? p2.2.1),ok.f.each _ (List.mem_of_getElem? p1.2.1),by rw[p1.2.2,p2.2.2];exact Ne.symm v.2⟩

theorem zrk{f:List Pt}{t:Int×Int}{l:List (Int×Int×Int)}{x:Int×Int×Int}:x∈zrd f t l↔∃h∈l,x.1=h.1/\x7y f h.2 t=some x.2:=by
 unfold zrd
 rw[List.mem_filterMap]
 constructor
 ·rintro⟨h,hm,he⟩
  cases hw:x7y f h.2 t with
  | none=>rw[hw] at he;cases he
  | some s=>rw[hw] at he;cases he;exact⟨h,hm,rfl,hw⟩
 ·rintro⟨h,hm,h1,h2⟩
  refine⟨h,hm,?_⟩
  rw[h2]
  show some (h.1,x.2)=some x
  rw[← h1]

theorem Evs.cert(e:Evs c ps){x:Ev}(hx:x∈ps):∃h∈c.ct.list,h.1=x.no/\x7y c.f h.2 c.now=some x.at_:=by
 have:nt x∈zrd c.f c.now c.ct.list:=by rw[e.at_];exact List.mem_map_of_mem hx
 obtain⟨h,hm,h1,h2⟩:=zrk.1 this
 exact⟨h,hm,h1.symm,h2⟩
theorem Evs.of_cert(e:Evs c ps){h:Int×Int×Int}(hm:h∈c.ct.list){s:Int×Int}(hw:x7y c.f h.2 c.now=some s):∃x∈ps,x.no=h.1/\x.at_=s:=by
 have:(h.1,s)∈ps.map nt:=by rw[← e.at_];exact zrk.2 ⟨h,hm,rfl,hw⟩
 obtain⟨x,hx,he⟩:=List.mem_map.1 this
 unfold nt at he
 exact⟨x,hx,congrArg Prod.fst he,congrArg Prod.snd he⟩

theorem okK.stay(ok:okK c)(e:Evs c ps){t:Int×Int}(ht:okR t)(h1:leR c.now t)(h2:∀x∈ps,leR t x.at_):okK { c with now:=t }/\Evs { c with now:=t } ps:=by
 have hd:zrd c.f t c.ct.list=zrd c.f c.now c.ct.list:=by
  unfold zrd
  refine zw5 λh hm=>?_
  obtain⟨p1,p2,p3⟩:=ok.points hm
  cases hw:x7y c.f h.2 c.now with
  | none=>unfold x7y at *;rw[(zv1 p3 ok.now ht hw h1).2]
  | some s =>
   obtain⟨x,hx,_,hs⟩:=e.of_cert hm hw
   have:=h2 x hx
   rw[hs] at this
   unfold x7y at *
   rw[zv3 p1 p2 p3 ok.now ht hw h1 this]
 have e':Evs { c with now:=t } ps:=⟨by show zrd c.f t c.ct.list=_;rw[hd];exact e.at_,e.due,e.heap⟩
 exact⟨okK.of ht ok.f ok.ct ok.known ok.ag ok.wl e',e'⟩

theorem y6s{x y:Ev}(h:y7h y x=false):leR x.at_ y.at_:=by
 unfold leR
 rcases y7m.1 h with h|h
 ·omega
 ·omega
theorem okK.top(ok:okK c){x:Ev}(hx:x∈c.ag.heap):y7h x (hp c.ag.heap 0)=false:=by
 obtain⟨i,hi⟩:=List.mem_iff_getElem?.1 hx
 have hl:i<c.ag.heap.length:=(List.getElem?_eq_some_iff.1 hi).1
 have e:hp c.ag.heap i=x:=by unfold hp;rw[List.getD,hi];rfl
 rw[← e]
 exact yir.first ok.ag.ord ok.ag.posH i hl
theorem x6l{t:Int×Int}:x6i c t=0↔okK c/\okR t/\leR c.now t:=by
 unfold x6i
 split
 ·rename_i h
  split
  ·rename_i h2;rw[znv] at h2
   constructor
   ·intro e;cases e
   ·intro e;exact absurd e.2.2 h2
  ·rename_i h2;rw[znv] at h2
   exact⟨λ_=>⟨h.1,h.2,by simpa using h2⟩,λ_=>rfl⟩
 ·rename_i h
  constructor
  ·intro e;cases e
  ·intro e;exact absurd ⟨e.1,e.2.1⟩ h

theorem okK.move{t:Int×Int}(hu:x6i c t=0)(hw:x7r c t=false)(e:Evs c ps):okK { c with now:=t }/\Evs { c with now:=t } ps:=by
 obtain⟨ok,ht,hl⟩:=x6l.1 hu
 refine ok.stay e ht hl λx hx=>?_
 have hxh:=e.mem_heap hx
 have h0:0<c.ag.heap.length:=List.length_pos_of_mem hxh
 unfold x7r at hw
 rw[decide_eq_true h0,Bool.true_and,decide_eq_false_iff_not,zns] at hw
 have a:=y6s (ok.top hxh)
 have o1:okR (hp c.ag.heap 0).at_:=(ok.ag.each _ (y2z h0)).1
 exact y6v ht o1 (ok.ag.each _ hxh).1 ((y6u _ _).resolve_left hw) a

theorem okK.failed(ok:okK c)(h0:0<c.ag.heap.length)(e:Evs c ps):okK (zv4 c)/\Evs (zv4 c) (ps.filter λx=>x.no != (hp c.ag.heap 0).no)/\leR c.now (hp c.ag.heap 0).at_/\okR (hp c.ag.heap 0).at_:=by
 have hm:=y2z h0
 have hp0:=e.heap.mem_iff.1 hm
 have o1:okR (hp c.ag.heap 0).at_:=(ok.ag.each _ hm).1
 obtain⟨h,hc,h1,h2⟩:=e.cert hp0
 obtain⟨p1,p2,p3⟩:=ok.points hc
 have hle:leR c.now (hp c.ag.heap 0).at_:=zv0 p1 p2 p3 h2
 obtain⟨g1,g2⟩:=ok.gone (hp c.ag.heap 0).no
 have ge:=g2 ps e
 have gn:=(y11 c (hp c.ag.heap 0).no).2.2
 obtain⟨s1,s2⟩:=g1.stay ge o1 (by rw[gn];exact hle) λx hx=>y6s (ok.top (e.mem_heap ((List.mem_filter.1 hx).1)))
 exact⟨s1,s2,hle,o1⟩

theorem okK.add{x:Int×Int}(ok:okK c)(h1:0<=ynk c.f x.1)(h2:0<=ynk c.f x.2)(hk:(z3l c x).2.2=0) :
  okK (z3l c x).1/\(z3l c x).2.1=c.ct.next/\(z3l c x).1.ct=⟨c.ct.next+1,c.ct.list++[(c.ct.next,x)]⟩/\(z3l c x).1.f=c.f/\(z3l c x).1.now=c.now:=by
 unfold z3l at *
 by_cases ha:(z3f c.ct x).2.2=0
 ·rw[if_pos ha] at hk ⊢
  obtain⟨a1,a2,a3,a4,a5,a6⟩:=z3i ha
  have ct':=ygv a1 a2 a3 a4 a5
  have kn:y66 ⟨c.ct.next+1,c.ct.list++[(c.ct.next,x)]⟩ c.f=true:=by
   unfold y66
   rw[List.all_append,Bool.and_eq_true]
   refine⟨ok.known,?_⟩
   simp[h1,h2]
  rw[a6] at hk ⊢
  obtain⟨ps,e⟩:=ok.evs
  cases hw:x7y c.f x c.now with
  | none =>
   rw[hw] at hk
   refine⟨okK.of (ps:=ps) ok.now ok.f ct' kn ok.ag ok.wl ⟨?_,e.due,e.heap⟩,rfl,rfl,rfl,rfl⟩
   show zrd c.f c.now (c.ct.list++[(c.ct.next,x)])=_
   rw[zre,e.at_]
   simp[zrd,hw]
  | some t =>
   rw[hw] at hk
   simp only at hk ⊢
   by_cases hc:c.ag.tb.canTake=true
   ·rw[if_pos hc]
    have ht:okR t:=by
     have p1:=ynp h1;have p2:=ynp h2
     exact zv2 (ok.f.each _ (List.mem_of_getElem? p2.2.1)) (ok.f.each _ (List.mem_of_getElem? p1.2.1)) ok.now hw
    have hn:y1w c.ag c.ct.next=false:=by
     unfold y1w
     rw[List.any_eq_false]
     intro y hy
     obtain⟨h,hm,he,_⟩:=e.cert (e.heap.mem_iff.1 hy)
     have:=(ok.ct.ok.each h hm).2.2
     simp;omega
    have ag':=ok.ag.pushed ht ok.ct.n0 ok.ct.n1 hn hc
    have pp:=ypg (n:=c.ct.next) ok.ag ht hc
    have hwl:(ype c.ag t c.ct.next).wh.length=200:=by
     rw[ag'.wl,← ok.wl,ok.ag.wl]
     simp[ype,Tb.taken]
    refine⟨okK.of (ps:=ps++[⟨t,c.ct.next,ydw c.ag⟩]) ok.now ok.f ct' kn ag' hwl ⟨?_,?_,?_⟩,rfl,rfl,rfl,rfl⟩
    ·show zrd c.f c.now (c.ct.list++[(c.ct.next,x)])=_
     rw[zre,e.at_,List.map_append]
     simp[zrd,hw,nt]
    ·show c.due++_=_
     rw[e.due,List.map_append];rfl
    ·show (ype c.ag t c.ct.next).heap.Perm _
     refine pp.trans ((List.Perm.cons _ e.heap).trans ?_)
     exact(List.perm_append_comm (l₁:=[(⟨t,c.ct.next,ydw c.ag⟩:Ev)]) (l₂:=ps))
   ·rw[if_neg hc] at hk;cases hk
 ·rw[if_neg ha] at hk
  exact absurd hk ha
end

theorem yog{l:List (Int×Int×Int)}(hs:(l.map (·.1)).Pairwise (·<·))(n:Int) :
  (decide (yo0 (l.map (·.1)) n<l.length)&&(y01 l (yo0 (l.map (·.1)) n)).1==n)=true/\idx (λh:Int×Int×Int=>h.1==n) l=yo0 (l.map (·.1)) n \/
  (decide (yo0 (l.map (·.1)) n<l.length)&&(y01 l (yo0 (l.map (·.1)) n)).1==n)=false/\idx (λh:Int×Int×Int=>h.1==n) l = -1:=by
 by_cases hc:(decide (yo0 (l.map (·.1)) n<l.length)&&(y01 l (yo0 (l.map (·.1)) n)).1==n)=true
 ·left
  refine⟨hc,?_⟩
  simp only[Bool.and_eq_true,decide_eq_true_eq,beq_iff_eq] at hc
  obtain⟨h1,h2⟩:=hc
  have hx:l[yo0 (l.map (·.1)) n]?=some (y01 l (yo0 (l.map (·.1)) n)):=by
   unfold y01;rw[Int.toNat_natCast];simp[List.getD,h1]
  rw[y3k hx (by simpa using h2) (λy hy=>?_)]
  obtain⟨j,hj,e⟩:=List.mem_take_iff_getElem.1 hy
  have:=yo4 (l:=l.map (·.1)) (t:=n) (i:=j) (x:=y.1) (by omega) (by
   rw[List.getElem?_map,List.getElem?_eq_getElem (by omega),e];rfl)
  rw[beq_eq_false_iff_ne];omega
 ·right
  have hc:=Bool.eq_false_iff.2 hc
  refine⟨hc,y3m λy hy=>?_⟩
  rw[beq_eq_false_iff_ne]
  intro e
  obtain⟨j,hj⟩:=List.mem_iff_getElem?.1 hy
  have hjl:j<l.length:=(List.getElem?_eq_some_iff.1 hj).1
  have hm:(l.map (·.1))[j]?=some y.1:=by rw[List.getElem?_map,hj];rfl
  have hpj:yo0 (l.map (·.1)) n=j:=by
   rcases Nat.lt_trichotomy (yo0 (l.map (·.1)) n) j with h'|h'|h'
   ·have hpl:yo0 (l.map (·.1)) n<(l.map (·.1)).length:=by simp;omega
    have a:=yo2 hs (Nat.le_refl _) (List.getElem?_eq_getElem hpl)
    have b:=List.pairwise_iff_getElem.1 hs _ _ hpl (by simpa using hjl) h'
    have e2:(l.map (·.1))[j]'(by simpa using hjl)=y.1:=(List.getElem?_eq_some_iff.1 hm).2
    rw[e2] at b
    omega
   ·exact h'
   ·have:=yo4 h' hm;omega
  rw[hpj] at hc
  have hg:y01 l (j:Int)=y:=by unfold y01;rw[Int.toNat_natCast,List.getD_eq_getElem?_getD,hj];rfl
  rw[hg] at hc
  simp[hjl,e] at hc


theorem zbl{H:Hp}{x:Int×Int×Int}{n:Int}:QfV Tryz.prog (.func (.func F.f171) #[] #[]) [.agg #[.int .i64 x.1,.int .i64 x.2.1,.int .i64 x.2.2],.int .i64 n] H (.int .i64 (zn4 x.1 n)) :=
 ⟨F.f171,#[],_,rfl,cb171,vc171 ⟨_,zpa,rfl,Hp.le_refl _⟩⟩

theorem zbk{H:Hp}{s:Slc}{xs:List (Int×Int×Int)}{n:Int}(h:Rd 3 fD H s xs)(hs:(xs.map (·.1)).Pairwise (·<·))(hl:xs.length<=100000000) :
  Qf Tryz.prog F.f170 #[s.v,.int .i64 n,.func (.func F.f171) #[] #[]] H
   (.tuple #[.int .i64 (yo0 (xs.map (·.1)) n),.bool (decide (yo0 (xs.map (·.1)) n<xs.length)&&(y01 xs (yo0 (xs.map (·.1)) n)).1==n)]):=by
 have ls:=h.len
 have hml:(xs.map (·.1)).length=xs.length:=by simp
 refine vc170 ⟨λi j H'=>H'=H/\0<=i/\i<=j/\j<=xs.length/\(∀k y,k<i.toNat->(xs.map (·.1))[k]?=some y->y<n)/\(∀k y,j.toNat<=k->(xs.map (·.1))[k]?=some y->n<=y),
  λi j _=>(j-i).toNat,⟨rfl,Int.le_refl _,by omega,by omega,λk y hk=>by simp at hk,λk y hk hy=>?_⟩,λi j H' ⟨e,i0,i1,i2,i3,i4⟩=>?_⟩
 ·have:=(List.getElem?_eq_some_iff.1 hy).1
  omega
 subst e
 refine⟨λhc=>?_,λhc=>?_⟩
 ·have hc:i<j:=by simpa using hc
  rw[ybv i0 hc (by omega)]
  have m0:0<=(i+j)/2:=by omega
  have m1:(i+j)/2<xs.length:=by omega
  have hg:=y0r (d:=((0:Int),(0:Int),(0:Int))) m0 m1
  refine⟨by unfold inI;omega,by unfold nn;omega,h.ldD m0 m1 ⟨_,zbl (x:=xs.getD ((i+j)/2).toNat (0,0,0)),?_⟩⟩
  generalize xs.getD ((i+j)/2).toNat (0,0,0)=x at hg ⊢
  have hm:(xs.map (·.1))[((i+j)/2).toNat]?=some x.1:=by rw[List.getElem?_map,hg];try rfl
  refine⟨λhlt=>?_,λhge=>?_⟩
  ·have hlt:x.1<n:=zn8.1 (by simpa using hlt)
   refine⟨by unfold inI;omega,⟨rfl,by omega,by omega,i2,?_,i4⟩,?_⟩
   ·rw[show ((i+j)/2+1).toNat=((i+j)/2).toNat+1 by omega];exact zbe hs hm hlt
   ·show (j-((i+j)/2+1)).toNat<(j-i).toNat;omega
  ·have hge:n<=x.1:=by
    have:¬ zn4 x.1 n<0:=by simpa using hge
    rw[zn8] at this;omega
   refine⟨⟨rfl,i0,by omega,by omega,i3,zbd hs hm hge⟩,?_⟩
   show ((i+j)/2-i).toNat<(j-i).toNat;omega
 ·have hc:i=j:=by have:¬ i<j:=by simpa using hc
                  omega
  subst hc
  have hp:i.toNat=yo0 (xs.map (·.1)) n:=yo1 hs (by omega) i3 i4
  have hpi:(yo0 (xs.map (·.1)) n:Int)=i:=by omega
  rw[hpi]
  have key:(decide (i<(s.n:Int))=true)->i<xs.length:=λhh=>by
   have:i<s.n:=by simpa using hh
   omega
  refine⟨λhh=>h.inS i0 (key hh),_,_,_,λhh=>h.gD i0 (key hh),_,λhh=>zbl (x:=xs.getD i.toNat (0,0,0)),?_,Hp.le_refl _⟩
  congr 3
  have e1:decide (i<(s.n:Int))=decide (yo0 (xs.map (·.1)) n<xs.length):=by
   rw[Bool.eq_iff_iff,decide_eq_true_eq,decide_eq_true_eq];omega
  rw[e1]
  congr 2
  congr 1
  unfold y01
  rw[Bool.eq_iff_iff,beq_iff_eq,beq_iff_eq,zn5]


theorem zbg{H:Hp}{x:Int×Int×Int}{n:Int}:QfV Tryz.prog (.func (.func F.f224) #[] #[]) [.agg #[.int .i64 x.1,.int .i64 x.2.1,.int .i64 x.2.2],.int .i64 n] H (.int .i64 (zn4 x.1 n)) :=
 ⟨F.f224,#[],_,rfl,cb224,vc224 ⟨_,zpa,rfl,Hp.le_refl _⟩⟩

theorem zbf{H:Hp}{s:Slc}{xs:List (Int×Int×Int)}{n:Int}(h:Rd 3 fD H s xs)(hs:(xs.map (·.1)).Pairwise (·<·))(hl:xs.length<=100000000) :
  Qf Tryz.prog F.f223 #[s.v,.int .i64 n,.func (.func F.f224) #[] #[]] H
   (.tuple #[.int .i64 (yo0 (xs.map (·.1)) n),.bool (decide (yo0 (xs.map (·.1)) n<xs.length)&&(y01 xs (yo0 (xs.map (·.1)) n)).1==n)]):=by
 have ls:=h.len
 have hml:(xs.map (·.1)).length=xs.length:=by simp
 refine vc223 ⟨λi j H'=>H'=H/\0<=i/\i<=j/\j<=xs.length/\(∀k y,k<i.toNat->(xs.map (·.1))[k]?=some y->y<n)/\(∀k y,j.toNat<=k->(xs.map (·.1))[k]?=some y->n<=y),
  λi j _=>(j-i).toNat,⟨rfl,Int.le_refl _,by omega,by omega,λk y hk=>by simp at hk,λk y hk hy=>?_⟩,λi j H' ⟨e,i0,i1,i2,i3,i4⟩=>?_⟩
 ·have:=(List.getElem?_eq_some_iff.1 hy).1
  omega
 subst e
 refine⟨λhc=>?_,λhc=>?_⟩
 ·have hc:i<j:=by simpa using hc
  rw[ybv i0 hc (by omega)]
  have m0:0<=(i+j)/2:=by omega
  have m1:(i+j)/2<xs.length:=by omega
  have hg:=y0r (d:=((0:Int),(0:Int),(0:Int))) m0 m1
  refine⟨by unfold inI;omega,by unfold nn;omega,h.ldD m0 m1 ⟨_,zbg (x:=xs.getD ((i+j)/2).toNat (0,0,0)),?_⟩⟩
  generalize xs.getD ((i+j)/2).toNat (0,0,0)=x at hg ⊢
  have hm:(xs.map (·.1))[((i+j)/2).toNat]?=some x.1:=by rw[List.getElem?_map,hg];try rfl
  refine⟨λhlt=>?_,λhge=>?_⟩
  ·have hlt:x.1<n:=zn8.1 (by simpa using hlt)
   refine⟨by unfold inI;omega,⟨rfl,by omega,by omega,i2,?_,i4⟩,?_⟩
   ·rw[show ((i+j)/2+1).toNat=((i+j)/2).toNat+1 by omega];exact zbe hs hm hlt
   ·show (j-((i+j)/2+1)).toNat<(j-i).toNat;omega
  ·have hge:n<=x.1:=by
    have:¬ zn4 x.1 n<0:=by simpa using hge
    rw[zn8] at this;omega
   refine⟨⟨rfl,i0,by omega,by omega,i3,zbd hs hm hge⟩,?_⟩
   show ((i+j)/2-i).toNat<(j-i).toNat;omega
 ·have hc:i=j:=by have:¬ i<j:=by simpa using hc
                  omega
  subst hc
  have hp:i.toNat=yo0 (xs.map (·.1)) n:=yo1 hs (by omega) i3 i4
  have hpi:(yo0 (xs.map (·.1)) n:Int)=i:=by omega
  rw[hpi]
  have key:(decide (i<(s.n:Int))=true)->i<xs.length:=λhh=>by
   have:i<s.n:=by simpa using hh
   omega
  refine⟨λhh=>h.inS i0 (key hh),_,_,_,λhh=>h.gD i0 (key hh),_,λhh=>zbg (x:=xs.getD i.toNat (0,0,0)),?_,Hp.le_refl _⟩
  congr 3
  have e1:decide (i<(s.n:Int))=decide (yo0 (xs.map (·.1)) n<xs.length):=by
   rw[Bool.eq_iff_iff,decide_eq_true_eq,decide_eq_true_eq];omega
  rw[e1]
  congr 2
  congr 1
  unfold y01
  rw[Bool.eq_iff_iff,beq_iff_eq,beq_iff_eq,zn5]


theorem zbi{H:Hp}{x:Int×Int×Int}{n:Int}:QfV Tryz.prog (.func (.func F.f200) #[] #[]) [.agg #[.int .i64 x.1,.int .i64 x.2.1,.int .i64 x.2.2],.int .i64 n] H (.int .i64 (zn4 x.1 n)) :=
 ⟨F.f200,#[],_,rfl,cb200,vc200 ⟨_,zpa,rfl,Hp.le_refl _⟩⟩

theorem zbh{H:Hp}{s:Slc}{xs:List (Int×Int×Int)}{n:Int}(h:Rd 3 fD H s xs)(hs:(xs.map (·.1)).Pairwise (·<·))(hl:xs.length<=100000000) :
  Qf Tryz.prog F.f170 #[s.v,.int .i64 n,.func (.func F.f200) #[] #[]] H
   (.tuple #[.int .i64 (yo0 (xs.map (·.1)) n),.bool (decide (yo0 (xs.map (·.1)) n<xs.length)&&(y01 xs (yo0 (xs.map (·.1)) n)).1==n)]):=by
 have ls:=h.len
 have hml:(xs.map (·.1)).length=xs.length:=by simp
 refine vc170 ⟨λi j H'=>H'=H/\0<=i/\i<=j/\j<=xs.length/\(∀k y,k<i.toNat->(xs.map (·.1))[k]?=some y->y<n)/\(∀k y,j.toNat<=k->(xs.map (·.1))[k]?=some y->n<=y),
  λi j _=>(j-i).toNat,⟨rfl,Int.le_refl _,by omega,by omega,λk y hk=>by simp at hk,λk y hk hy=>?_⟩,λi j H' ⟨e,i0,i1,i2,i3,i4⟩=>?_⟩
 ·have:=(List.getElem?_eq_some_iff.1 hy).1
  omega
 subst e
 refine⟨λhc=>?_,λhc=>?_⟩
 ·have hc:i<j:=by simpa using hc
  rw[ybv i0 hc (by omega)]
  have m0:0<=(i+j)/2:=by omega
  have m1:(i+j)/2<xs.length:=by omega
  have hg:=y0r (d:=((0:Int),(0:Int),(0:Int))) m0 m1
  refine⟨by unfold inI;omega,by unfold nn;omega,h.ldD m0 m1 ⟨_,zbi (x:=xs.getD ((i+j)/2).toNat (0,0,0)),?_⟩⟩
  generalize xs.getD ((i+j)/2).toNat (0,0,0)=x at hg ⊢
  have hm:(xs.map (·.1))[((i+j)/2).toNat]?=some x.1:=by rw[List.getElem?_map,hg];try rfl
  refine⟨λhlt=>?_,λhge=>?_⟩
  ·have hlt:x.1<n:=zn8.1 (by simpa using hlt)
   refine⟨by unfold inI;omega,⟨rfl,by omega,by omega,i2,?_,i4⟩,?_⟩
   ·rw[show ((i+j)/2+1).toNat=((i+j)/2).toNat+1 by omega];exact zbe hs hm hlt
   ·show (j-((i+j)/2+1)).toNat<(j-i).toNat;omega
  ·have hge:n<=x.1:=by
    have:¬ zn4 x.1 n<0:=by simpa using hge
    rw[zn8] at this;omega
   refine⟨⟨rfl,i0,by omega,by omega,i3,zbd hs hm hge⟩,?_⟩
   show ((i+j)/2-i).toNat<(j-i).toNat;omega
 ·have hc:i=j:=by have:¬ i<j:=by simpa using hc
                  omega
  subst hc
  have hp:i.toNat=yo0 (xs.map (·.1)) n:=yo1 hs (by omega) i3 i4
  have hpi:(yo0 (xs.map (·.1)) n:Int)=i:=by omega
  rw[hpi]
  have key:(decide (i<(s.n:Int))=true)->i<xs.length:=λhh=>by
   have:i<s.n:=by simpa using hh
   omega
  refine⟨λhh=>h.inS i0 (key hh),_,_,_,λhh=>h.gD i0 (key hh),_,λhh=>zbi (x:=xs.getD i.toNat (0,0,0)),?_,Hp.le_refl _⟩
  congr 3
  have e1:decide (i<(s.n:Int))=decide (yo0 (xs.map (·.1)) n<xs.length):=by
   rw[Bool.eq_iff_iff,decide_eq_true_eq,decide_eq_true_eq];omega
  rw[e1]
  congr 2
  congr 1
  unfold y01
  rw[Bool.eq_iff_iff,beq_iff_eq,beq_iff_eq,zn5]



abbrev ptW(p:Pt):Value:=sI3 p.1 p.2.1 p.2.2
abbrev raW(r:Int×Int):Value:=sI2 r.1 r.2
def o2(o:Option (Int×Int)):Int×Int:=o.getD (0,0)

theorem ygs:okR (0,1):=by decide
theorem ya8{p q:Pt}(hp:okP p)(hq:okP q):inI (p.2.1-q.2.1)/\inI (q.2.2-p.2.2):=by
 have:=hp.b;have:=hq.b
 unfold inI;omega

theorem zq0{H:Hp}{p q:Pt}(hp:okP p)(hq:okP q)(hne:p.1≠q.1)(hb:p.2.2≠q.2.2):Qf Tryz.prog F.f87 #[ptW p,ptW q] H (.tuple #[raW (y8z (p.2.1-q.2.1) (q.2.2-p.2.2)).1,.int .i64 (y8z (p.2.1-q.2.1) (q.2.2-p.2.2)).2]):=by
 have h2:x66 p q (0,1)=0:=x67.2 ⟨hp,hq,ygs,hne⟩
 have f:=ya8 hp hq
 refine vc87 ⟨_,zq3 (p:=p) (q:=q) (t:=(0,1)) ygs.fit,λhc=>?_,λhc=>⟨λhe=>?_,λhe=>⟨f.1,f.2,_,_,_,yqz f.1 f.2,rfl,Hp.le_refl _⟩⟩⟩
 ·rw[h2] at hc;simp at hc
 ·exact absurd (by simpa using he) hb

def zv6(p q:Pt)(t:Int×Int):(Int×Int)×Bool×Int:=if x66 p q t=0 then (o2 (zux p q t),(zux p q t).isSome,0) else ((0,0),false,x66 p q t)
theorem zpz{H:Hp}{p q:Pt}{t:Int×Int}(ht:zxh t) :
  Qf Tryz.prog F.f172 #[ptW p,ptW q,raW t] H (.tuple #[raW (zv6 p q t).1,.bool (zv6 p q t).2.1,.int .i64 (zv6 p q t).2.2]):=by
 refine vc172 ⟨_,zq3 ht,λhc=>?_,λhc=>?_⟩
 ·have hc:x66 p q t≠0:=by simpa using hc
  unfold zv6;rw[if_neg hc];exact⟨rfl,Hp.le_refl _⟩
 ·have hc:x66 p q t=0:=by simpa using hc
  obtain⟨h1,h2,h3,h4⟩:=x67.1 hc
  unfold zv6;rw[if_pos hc]
  refine⟨_,zpy h2 h1 h3,λhb=>?_,λhb=>⟨λhl=>?_,λhl=>?_⟩⟩
  ·have:leads q p t=true:=by rw[← znl];exact hb
   unfold zux;rw[if_pos this];exact⟨rfl,Hp.le_refl _⟩
  ·have:¬ leads q p t=true:=by rw[← znl,hb];simp
   have hl:q.2.2<=p.2.2:=by simpa using hl
   unfold zux;rw[if_neg this,if_neg (by omega)];exact⟨rfl,Hp.le_refl _⟩
  ·have:¬ leads q p t=true:=by rw[← znl,hb];simp
   have hl:¬ q.2.2<=p.2.2:=by simpa using hl
   obtain⟨x,y,g,_,hm,_⟩:=yae h1 h2 (by omega:p.2.2<q.2.2)
   refine⟨_,_,_,zq0 h1 h2 h4 (by omega),?_⟩
   unfold zux;rw[if_neg this,if_pos (by omega),hm];exact⟨rfl,Hp.le_refl _⟩

theorem ynl{f:List Pt}{id:Int}(h:0<=ynk f id):ynk f id<f.length:=(ynp h).1
theorem _root_.Go.Eng.okF.ids{f:List Pt}(of:okF f):(f.map (·.1)).Pairwise (·<·):=of.inc
theorem _root_.Go.Eng.okF.small{f:List Pt}(of:okF f):f.length<=1000000:=by have:=of.len;omega
theorem _root_.Go.Eng.okF.pt{f:List Pt}(of:okF f){id:Int}(h:0<=ynk f id):okP (gP f (ynk f id)):=of.each _ (List.mem_of_getElem? (ynp h).2.1)

def ynb(f:List Pt)(id:Int):Pt:=if ynk f id<0 then (-1,0,0) else gP f (ynk f id)
theorem zlv{H:Hp}{u:Slc}{f:List Pt}{id:Int}(hf:Rd 3 fD H u f)(of:okF f):Qf Tryz.prog F.f115 #[vFd u,.int .i64 id] H (ptW (ynb f id)):=by
 have hl:=of.small
 refine vc115 ⟨_,_,zbk hf of.ids (by omega),λhb=>?_,λhb=>?_⟩
 ·rcases yog of.ids id with⟨h1,h2⟩|⟨h1,h2⟩
  ·rw[h1] at hb;cases hb
  ·have:ynb f id=(-1,0,0):=by unfold ynb ynk;rw[h2];rfl
   rw[this];exact⟨rfl,Hp.le_refl _⟩
 ·rcases yog of.ids id with⟨h1,h2⟩|⟨h1,h2⟩
  ·have e:ynk f id=yo0 (f.map (·.1)) id:=h2
   have h0:0<=ynk f id:=by omega
   have:ynb f id=gP f (ynk f id):=by unfold ynb;rw[if_neg (by omega)]
   rw[this,← e]
   exact(hf.ldD h0 (ynl h0) ⟨rfl,Hp.le_refl _⟩)
  ·rw[h1] at hb;cases hb
theorem ync{f:List Pt}(of:okF f)(id:Int):decide ((ynb f id).1<0)=decide (ynk f id<0):=by
 rw[Bool.eq_iff_iff,decide_eq_true_iff,decide_eq_true_iff]
 unfold ynb
 by_cases h:ynk f id<0
 ·rw[if_pos h];simp[h]
 ·rw[if_neg h]
  have:=(of.pt (by omega:0<=ynk f id)).i0
  omega

def x81(f:List Pt)(x t:Int×Int):(Int×Int)×Bool×Int:=zv6 (ynb f x.2) (ynb f x.1) t
theorem zm1{H:Hp}{u:Slc}{f:List Pt}{x t:Int×Int}(hf:Rd 3 fD H u f)(of:okF f)(ht:zxh t) :
  Qf Tryz.prog F.f116 #[vFd u,raW x,raW t] H (.tuple #[raW (x81 f x t).1,.bool (x81 f x t).2.1,.int .i64 (x81 f x t).2.2]) :=
 vc116 ⟨_,_,_,zlv hf of,_,_,_,zlv hf of,_,_,_,_,zpz (p:=ynb f x.2) (q:=ynb f x.1) ht,rfl,Hp.le_refl _⟩
theorem x82{f:List Pt}{x t:Int×Int}(of:okF f)(ht:okR t)(h1:0<=ynk f x.1)(h2:0<=ynk f x.2)(hne:x.1≠x.2):x81 f x t=(o2 (x7y f x t),(x7y f x t).isSome,0):=by
 have e1:ynb f x.2=gP f (ynk f x.2):=by unfold ynb;rw[if_neg (by omega)]
 have e2:ynb f x.1=gP f (ynk f x.1):=by unfold ynb;rw[if_neg (by omega)]
 unfold x81 zv6
 rw[e1,e2,if_pos (x67.2 ⟨of.pt h2,of.pt h1,ht,by rw[(ynp h1).2.2,(ynp h2).2.2];exact Ne.symm hne⟩)]
 rfl
theorem x83{f:List Pt}{x t:Int×Int}(h:ynk f x.1<0\/ynk f x.2<0):(x81 f x t).2.2≠0:=by
 have:x66 (ynb f x.2) (ynb f x.1) t≠0:=λe=>by
  obtain⟨a,b,_,_⟩:=x67.1 e
  have a:=a.i0;have b:=b.i0
  unfold ynb at a b
  rcases h with h|h
  ·rw[if_pos h] at b;simp at b
  ·rw[if_pos h] at a;simp at a
 unfold x81 zv6;rw[if_neg this];exact this

structure Cu where
 f:Slc
 cl:Slc
 u1:Slc
 u2:Slc
 u3:Slc
 u4:Slc
 u5:Slc
 d:Slc
abbrev ckV(u:Cu)(c:Ck):Value:=vCk c.now.1 c.now.2 u.f c.ct.next u.cl u.u1 u.u2 u.u3 u.u4 u.u5 u.d
def zu:Cu:=⟨zs,zs,zs,zs,zs,zs,zs,zs⟩
structure RdK(H:Hp)(u:Cu)(c:Ck):Prop where
 f:Rd 3 fD H u.f c.f
 cl:Rd 3 fD H u.cl c.ct.list
 ag:RdA H u.u1 u.u2 u.u3 u.u4 u.u5 c.ag
 due:Rd 3 fD H u.d c.due
theorem RdK.le{H H':Hp}{u:Cu}{c:Ck}(r:RdK H u c)(l:Hp.le H H'):RdK H' u c:=⟨r.f.le l,r.cl.le l,r.ag.le l,r.due.le l⟩
structure zx9(c:Ck):Prop where
 now:zxh c.now
 f:c.f.length<=1000000
 ct:c.ct.list.length<=1000000
 ag:fitG c.ag
 due:c.due.length<=1000000
theorem okK.fit{c:Ck}(ok:okK c):zx9 c:=by
 have a:=ok.f.small;have b:=ok.ct.len;have g:=okA.fitG ok.ag;have h:=ok.hl
 have:=g.hl
 exact⟨ok.now.fit,a,by omega,g,by omega⟩

theorem _root_.Go.Eng.Rd.sub{α:Type}{k:Nat}{f:α->List Value}{H:Hp}{u:Slc}{xs:List α}(h:Rd k f H u xs){l hi m:Int}(l0:0<=l)(lh:l<=hi)(hx:hi<=xs.length)(hm:hi<=m) :
  Rd k f H ⟨x23 u.a k l m,hi.toNat-l.toNat,m.toNat-l.toNat⟩ ((xs.take hi.toNat).drop l.toNat):=by
 have hlen:((xs.take hi.toNat).drop l.toNat).length=hi.toNat-l.toNat:=by simp;omega
 refine⟨hlen.symm,by show hi.toNat-l.toNat<=m.toNat-l.toNat;omega,λhne=>?_,λi x hi' j v hv=>?_⟩
 ·have h1:0<((xs.take hi.toNat).drop l.toNat).length:=List.length_pos_iff.2 hne
  have h2:xs≠[]:=λe=>by rw[e] at h1;simp at h1
  have:=h.isS h2
  show (x23 u.a k l m).isSome=true
  unfold x23;split
  ·exact this
  ·simpa using this
 ·have hl:=(List.getElem?_eq_some_iff.1 hi').1
  rw[hlen] at hl
  have hg:xs[l.toNat+i]?=some x:=by
   rw[List.getElem?_drop,List.getElem?_take] at hi'
   split at hi'
   ·exact hi'
   ·cases hi'
  have h2:xs≠[]:=λe=>by rw[e] at hg;simp at hg
  obtain⟨p,hp⟩:=Option.isSome_iff_exists.1 (h.isS h2)
  have c:=h.cell _ _ hg j v hv
  rw[hp] at c
  have e:x23 u.a k l m=some (p.add (l.toNat*k)):=by unfold x23;rw[if_neg (by omega),hp];rfl
  show H.at ((zrr (x23 u.a k l m) k i).add j)=some v
  rw[e]
  show H.at (((p.add (l.toNat*k)).add ((i:Int).toNat*k)).add j)=some v
  rw[Int.toNat_natCast,z40,z40,← Nat.add_assoc,← Nat.add_mul]
  have c':H.at ((p.add (((l.toNat+i:Nat):Int).toNat*k)).add j)=some v:=c
  rw[Int.toNat_natCast,z40] at c'
  exact c'

def y8n(f:List Pt)(x:Int×Int):Bool:=decide (ynk f x.1<0)||decide (ynk f x.2<0)
def zkb(h:List Ev)(f:List Pt)(t:Int×Int):List (Int×Int×Int)->List (Int×Int×Int)->Bool
 | [],ds=>ds.isEmpty
 | x :: l,ds=>if y8n f x.2=true then false else match x7y f x.2 t with
  | none=>zkb h f t l ds
  | some s=>match ds with
   | []=>false
   | d :: ds=>decide (d.1=x.1)&&decide ((⟨s,x.1,d.2⟩:Ev)∈h)&&zkb h f t l ds
theorem zkc(h:List Ev)(f:List Pt)(t:Int×Int):∀l ds:List (Int×Int×Int),zkb h f t l ds=((l.all λx=>!y8n f x.2)&&zx4 h (zrd f t l) ds)
 | [],[]=>rfl
 | [],_ :: _=>rfl
 | x :: l,ds=>by
  unfold zkb zrd
  rw[List.all_cons,List.filterMap_cons]
  cases hx:y8n f x.2 with
  | true=>rw[if_pos rfl];rfl
  | false =>
   rw[if_neg (by simp)]
   cases x7y f x.2 t with
   | none=>simp only[Option.map_none];rw[zkc h f t l ds];simp[zrd]
   | some s =>
    simp only[Option.map_some]
    cases ds with
    | nil=>simp[zx4]
    | cons d ds =>
     simp only[zx4]
     rw[zkc h f t l ds]
     simp only[zrd,Bool.not_false,Bool.true_and]
     cases (l.all λx=>!y8n f x.2) <;> simp
theorem y67(ct:Ct)(f:List Pt):y66 ct f=ct.list.all λx=>!y8n f x.2:=by
 unfold y66 y8n
 congr 1
 funext x
 simp

structure z9g(c:Ck):Prop where
 now:okR c.now
 f:okF c.f
 ct:okC c.ct
 ag:okA c.ag
 wl:c.ag.wh.length=200
 hl:c.ag.heap.length=c.due.length
theorem yh5{c:Ck}:okK c↔z9g c/\zkb c.ag.heap c.f c.now c.ct.list c.due=true:=by
 rw[zkc,Bool.and_eq_true,← y67]
 exact⟨λok=>⟨⟨ok.now,ok.f,ok.ct,ok.ag,ok.wl,ok.hl⟩,ok.known,ok.due⟩,λ⟨b,k,d⟩=>⟨b.now,b.f,b.ct,k,b.ag,b.wl,b.hl,d⟩⟩
theorem zkq{c:Ck}(b:z9g c):zko c=if zkb c.ag.heap c.f c.now c.ct.list c.due=true then 0 else 8:=by
 unfold zko
 by_cases h:zkb c.ag.heap c.f c.now c.ct.list c.due=true
 ·rw[if_pos h,if_pos (yh5.2 ⟨b,h⟩)]
 ·rw[if_neg h,if_neg λok=>h (yh5.1 ok).2]

theorem zrc{α:Type}{l:List α}{i:Nat}{x:α}(h:l[i]?=some x):l.drop i=x :: l.drop (i+1):=by
 obtain⟨h1,h2⟩:=List.getElem?_eq_some_iff.1 h
 rw[← h2];exact List.drop_eq_getElem_cons h1

theorem zsc{a:Ag}(ok:okA a)(hw:a.wh.length=200){d:Int×Int×Int}{s:Int×Int}{n:Int}(hd:d.1=n) :
  (0<=d.2.1/\d.2.1<200/\0<=a.wh.getD d.2.1.toNat 0/\hp a.heap (a.wh.getD d.2.1.toNat 0).toNat=⟨s,n,d.2⟩/\a.wh.getD d.2.1.toNat 0<a.heap.length)↔(⟨s,n,d.2⟩:Ev)∈a.heap:=by
 constructor
 ·rintro⟨_,_,h3,h4,h5⟩
  rw[← h4];exact y2z (by omega)
 ·intro hm
  obtain⟨a1,a2,a3,a4,a5⟩:=ok.slot hm
  have so:=ok.slotOf a5
  have fe:=(zwl ok hm).2
  have wl:=ok.wl
  refine⟨a1,by simp only at a2;omega,so.1,?_,so.2.1⟩
  unfold atA at fe
  exact fe

theorem zcn:Tryz.prog.cellsOf 221=3:=by kernel_rfl
theorem okA.whT{a:Ag}(ok:okA a){i:Int}(h0:0<=i)(h1:i<a.wh.length)(h2:0<=a.wh.getD i.toNat 0):a.wh.getD i.toNat 0<a.heap.length:=by
 have hw:=ok.wl
 cases hu:a.tb.used.getD i.toNat false with
 | true=>exact(ok.used i.toNat (by omega) hu).2.1
 | false=>have:=ok.free i.toNat (by omega) hu;omega

theorem zll{H:Hp}{u:Cu}{c:Ck}(r:RdK H u c)(fk:zx9 c):Qf Tryz.prog F.f63 #[ckV u c] H (.int .i64 (zko c)):=by
  have l4:=r.ag.heap.len
  have l5:=r.ag.wh.len
  have ld:=r.due.len
  have lc:=r.cl.len
  have f1:=fk.ct
  have f2:=fk.due
  refine vc63 ⟨_,yqv fk.now,_,zvi r.f,_,zcs r.cl,_,z4t r.ag fk.ag,λb5 H6 hb5 hH6=>?_⟩
  have le6:Hp.le H H6:=Hp.le_new (Hp.le_refl _) hb5 hH6
  have r6:=r.le le6
  have rc:RdI H6 ⟨some ⟨b5,0,none⟩,4,4⟩ [zl2 c.now,zkd c.f,zk7 c.ct,zk3 c.ag]:=yrn hH6 rfl rfl
  refine upto (N:=4) (J:=λi=>(0<i->zl2 c.now=0)/\(1<i->zkd c.f=0)/\(2<i->zk7 c.ct=0)/\(3<i->zk3 c.ag=0)) (by omega) ⟨by omega,by omega,by omega,by omega⟩
    λi i0 i1 ⟨j1,j2,j3,j4⟩=>⟨λhn=>?_,λhn=>?_⟩
  · have hn:i<4:=by simpa using hn
    have k:=rc.gI i0 hn
    refine⟨rc.inS i0 hn,_,k,?_⟩
    clear k
    rcases(by omega:i=0\/i=1\/i=2\/i=3) with rfl|rfl|rfl|rfl
    · refine⟨λhc=>⟨?_,le6⟩,λhc=>upto.nx i0 hn (by omega) ?_⟩
      · have hc:zl2 c.now≠0:=by simpa using hc
        rw[zkp λok=>hc (zl4 ok.now)]
      · have hc:zl2 c.now=0:=by simpa using hc
        exact⟨λ_=>hc,by omega,by omega,by omega⟩
    · refine⟨λhc=>⟨?_,le6⟩,λhc=>upto.nx i0 hn (by omega) ?_⟩
      · have hc:zkd c.f≠0:=by simpa using hc
        rw[zkp λok=>hc (zke.2 ok.f)]
      · have hc:zkd c.f=0:=by simpa using hc
        exact⟨λ_=>j1 (by omega),λ_=>hc,by omega,by omega⟩
    · refine⟨λhc=>⟨?_,le6⟩,λhc=>upto.nx i0 hn (by omega) ?_⟩
      · have hc:zk7 c.ct≠0:=by simpa using hc
        rw[zkp λok=>hc (zk9 ok.ct)]
      · have hc:zk7 c.ct=0:=by simpa using hc
        exact⟨λ_=>j1 (by omega),λ_=>j2 (by omega),λ_=>hc,by omega⟩
    · refine⟨λhc=>⟨?_,le6⟩,λhc=>upto.nx i0 hn (by omega) ?_⟩
      · have hc:zk3 c.ag≠0:=by simpa using hc
        rw[zkp λok=>hc (zk5 ok.ag)]
      · have hc:zk3 c.ag=0:=by simpa using hc
        exact⟨λ_=>j1 (by omega),λ_=>j2 (by omega),λ_=>j3 (by omega),λ_=>hc⟩
  have hn:¬ i<4:=by simpa using hn
  refine⟨λhc=>⟨?_,le6⟩,λhc=>?_⟩
  · rw[zkp]
    intro ok
    have:=ok.wl;have:=ok.hl
    rw[l5,l4,ld,ok.wl,ok.hl] at hc
    simp at hc
  simp only[Bool.or_eq_false_iff,bne_eq_false_iff_eq] at hc
  have base:z9g c:=⟨zl5.1 (j1 (by omega)),zke.1 (j2 (by omega)),zka.1 (j3 (by omega)),zk6.1 (j4 (by omega)),by omega,by omega⟩
  clear j1 j2 j3 j4 rc
  have wl:=base.wl
  refine⟨λu i H'=>H'=H6/\0<=i/\i<=c.ct.list.length/\∃ds,Rd 3 fD H6 u ds/\ds.length<=1000000/\zkb c.ag.heap c.f c.now c.ct.list c.due=zkb c.ag.heap c.f c.now (c.ct.list.drop i.toNat) ds,
    λ_ i _=>(c.ct.list.length-i).toNat,⟨rfl,Int.le_refl _,by omega,c.due,r6.due,fk.due,by simp⟩,λw i H' ⟨e,i0,i1,ds,rd,dl,hd⟩=>?_⟩
  subst e
  have ul:=rd.len
  refine⟨λhn=>?_,λhn=>?_⟩
  · have hn:i<c.ct.list.length:=by have:i<u.cl.n:=by simpa using hn
                                   omega
    have hg:=y0r (d:=((0:Int),(0:Int),(0:Int))) i0 hn
    refine r6.cl.ldD i0 hn ⟨_,_,_,_,zm1 (x:=(c.ct.list.getD i.toNat (0,0,0)).2) r6.f base.f fk.now,?_⟩
    generalize c.ct.list.getD i.toNat (0,0,0)=x at hg ⊢
    rw[zrc hg] at hd
    have hv:=(base.ct.ok.each x (List.mem_of_getElem? hg)).1
    have hne:x.2.1≠x.2.2:=by
      unfold x78 at hv
      simp only[Bool.and_eq_true,bne_iff_ne] at hv
      exact hv.2
    have nx:∀{w':Slc}{ds':List (Int×Int×Int)},Rd 3 fD H' w' ds'->ds'.length<=1000000->zkb c.ag.heap c.f c.now c.ct.list c.due=zkb c.ag.heap c.f c.now (c.ct.list.drop (i.toNat+1)) ds' ->
        inI (i+1)/\(H'=H'/\0<=i+1/\i+1<=c.ct.list.length/\∃ds,Rd 3 fD H' w' ds/\ds.length<=1000000/\zkb c.ag.heap c.f c.now c.ct.list c.due=zkb c.ag.heap c.f c.now (c.ct.list.drop (i+1).toNat) ds)/\(c.ct.list.length-(i+1)).toNat<(c.ct.list.length-i).toNat:=by
      intro w' ds' a b e
      exact⟨by unfold inI;omega,⟨rfl,by omega,by omega,ds',a,b,by rw[show (i+1).toNat=i.toNat+1 by omega];exact e⟩,by omega⟩
    by_cases hL:y8n c.f x.2=true
    · have hz:(x81 c.f x.2 c.now).2.2≠0:=x83 (by simpa[y8n] using hL)
      refine⟨λ_=>⟨?_,le6⟩,λh=>absurd (by simpa using h) hz⟩
      rw[zkq base,hd,zkb,if_pos hL,if_neg (by simp)]
    · have hL':0<=ynk c.f x.2.1/\0<=ynk c.f x.2.2:=by
        simp only[y8n,Bool.or_eq_true,decide_eq_true_eq] at hL;omega
      rw[x82 base.f base.now hL'.1 hL'.2 hne]
      refine⟨λh=>by simp at h,λ_=>?_⟩
      rw[zkb,if_neg hL] at hd
      cases hw:x7y c.f x.2 c.now with
      | none =>
        rw[hw] at hd
        exact⟨λ_=>nx rd dl hd,λh=>by simp at h⟩
      | some s =>
        rw[hw] at hd
        refine⟨λh=>by simp at h,λ_=>?_⟩
        cases ds with
        | nil =>
          have h0:w.n=0:=by simpa using ul
          refine⟨λh=>by simp[h0] at h,0,λh=>by simp[h0] at h,λ_=>⟨?_,le6⟩,λh=>by simp[h0] at h⟩
          rw[zkq base,hd,if_neg (by simp)]
        | cons d ds =>
          have h0:w.n=ds.length+1:=by simpa using ul
          have g1:=rd.gD (i:=0) (Int.le_refl _) (by simp)
          have g2:=rd.gD2 (i:=0) (Int.le_refl _) (by simp)
          have gs:=rd.inS (i:=0) (Int.le_refl _) (by simp)
          simp only[Int.toNat_zero,List.getD_cons_zero] at g1 g2
          dsimp only at hd
          refine⟨λ_=>gs,d.1,λ_=>g1.1,λhb=>⟨?_,le6⟩,λhb=>?_⟩
          · have hb:d.1≠x.1:=by
              simp only[Bool.or_eq_true,beq_iff_eq,bne_iff_ne] at hb
              rcases hb with hb|hb
              · omega
              · exact hb
            rw[zkq base,hd,decide_eq_false hb,if_neg (by simp)]
          have hb:d.1=x.1:=by
            simp only[Bool.or_eq_false_iff,bne_eq_false_iff_eq] at hb;exact hb.2
          rw[decide_eq_true hb,Bool.true_and] at hd
          have et:=zsc (s:=s) base.ag base.wl hb
          refine⟨gs,_,_,g2,λh=>?_,_,λh=>r6.ag.wh.gI ?_ ?_,λh=>?_,_,λh=>r6.ag.wh.gI ?_ ?_,λh=>?_,_,_,_,_,_,λh=>r6.ag.heap.gE ?_ ?_,λht=>⟨?_,le6⟩,λht=>?_⟩
          · simp only[Bool.not_eq_true',Bool.or_eq_false_iff,decide_eq_false_iff_not] at h
            exact r6.ag.wh.inS (by omega) (by omega)
          · simp only[Bool.not_eq_true',Bool.or_eq_false_iff,decide_eq_false_iff_not] at h;omega
          · simp only[Bool.not_eq_true',Bool.or_eq_false_iff,decide_eq_false_iff_not] at h;omega
          · simp only[Bool.not_eq_true',Bool.or_eq_false_iff,decide_eq_false_iff_not] at h
            exact r6.ag.wh.inS (by omega) (by omega)
          · simp only[Bool.not_eq_true',Bool.or_eq_false_iff,decide_eq_false_iff_not] at h;omega
          · simp only[Bool.not_eq_true',Bool.or_eq_false_iff,decide_eq_false_iff_not] at h;omega
          · simp only[Bool.not_eq_true',Bool.or_eq_false_iff,decide_eq_false_iff_not] at h
            exact r6.ag.heap.inS (by omega) (okA.whT base.ag (by omega) (by omega) (by omega))
          · simp only[Bool.not_eq_true',Bool.or_eq_false_iff,decide_eq_false_iff_not] at h;omega
          · simp only[Bool.not_eq_true',Bool.or_eq_false_iff,decide_eq_false_iff_not] at h
            exact okA.whT base.ag (by omega) (by omega) (by omega)
          · rw[zkq base,hd]
            have:¬ (⟨s,x.1,d.2⟩:Ev)∈c.ag.heap:=λhm=>by
              obtain⟨t1,t2,t3,t4,t5⟩:=et.2 hm
              rw[t4,decide_eq_false (by omega),decide_eq_false (by omega),decide_eq_false (by omega)] at ht
              simp[o2] at ht
            rw[decide_eq_false this,if_neg (by simp)]
          · simp only[Bool.or_eq_false_iff,decide_eq_false_iff_not,Bool.not_eq_false',Bool.and_eq_true,beq_iff_eq,o2,Option.getD_some] at ht
            obtain⟨⟨⟨t1,t2⟩,t3⟩,⟨⟨⟨t4,t5⟩,t6⟩,t7⟩,t8⟩:=ht
            have hm:(⟨s,x.1,d.2⟩:Ev)∈c.ag.heap:=et.1 ⟨by omega,by omega,by omega,by
              generalize hp c.ag.heap (c.ag.wh.getD d.2.1.toNat 0).toNat=y at t4 t5 t6 t7 t8
              obtain⟨⟨y1,y2⟩,y3,y4,y5⟩:=y
              obtain⟨s1,s2⟩:=s
              simp only at t4 t5 t6 t7 t8
              rw[t4,t5,t6,t7,t8],okA.whT base.ag (by omega) (by omega) (by omega)⟩
            rw[decide_eq_true hm,Bool.true_and] at hd
            have cap:=rd.cap
            rw[zcn]
            have sub:=rd.sub (l:=1) (hi:=w.n) (m:=w.c) (by omega) (by omega) (by simp;omega) (by omega)
            rw[show ((d :: ds).take ((w.n:Int)).toNat).drop (1:Int).toNat=ds by rw[Int.toNat_natCast,h0];simp] at sub
            exact⟨⟨by omega,by omega,by omega,by omega⟩,nx sub (by simp at dl;omega) hd⟩
  · have hn:¬ i<c.ct.list.length:=by have:¬ i<u.cl.n:=by simpa using hn
                                     omega
    rw[List.drop_eq_nil_of_le (by omega),zkb] at hd
    refine⟨λhb=>⟨?_,le6⟩,λhb=>⟨?_,le6⟩⟩
    · have hb:0<w.n:=by simpa using hb
      have:ds≠[]:=λe=>by subst e;simp at ul;omega
      rw[zkq base,hd,if_neg (by simpa using this)]
    · have hb:¬ 0<w.n:=by simpa using hb
      have:ds=[]:=List.length_eq_zero_iff.1 (by omega)
      rw[zkq base,hd,this];rfl
end Go.Proofs.YtnhdkkblehadjabGreat
end
