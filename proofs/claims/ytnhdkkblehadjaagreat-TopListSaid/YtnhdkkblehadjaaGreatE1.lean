/- The engine, parts EngA, EngB, EngC, EngD, EngE, EngF, EngG, put together. Conditions: none. -/
import Derived.Calls
import Derived.Orders
import Derived.Laws.Sem
import Derived.OrdersIn
import Derived.DefersIn
import Derived.RangeFuncIn
import Derived.RangeFuncRecord
import Derived.Laws.StructEq
import Derived.Laws.CopyRow
import Derived.Laws.Cells
open Array renaming getElem?_modify->Qa,getElem?_eq_some_iff->Qb,getElem?_push->Qc,getD_eq_getD_getElem?->Qd
open BitVec renaming ofInt->Qe
open Bool renaming and_eq_true->Qg,or_eq_true->Qh
open Int renaming not_lt->Qi
open Go.IntKind renaming i64->Qj,wrap->Ql,signed->Qm,bits->Qn
open List renaming mem_cons->Qo,replicate->Qp
open Nat renaming beq->Qq,le_refl->Qr,beq_refl->Qs,le_trans->Qt,blt->Qu,ne_of_lt->Qv,le_of_ble_eq_true->Qw,eq_of_beq_eq_true->Qx
open Option renaming some->Qy,none->Qz
open Prod renaming mk->Q1
open Go.Result renaming andThen_ok->Q2
open Go.Sem renaming bind->Q3,run_bind->Q4,run->Q5
open Go.Value renaming oneCell'->Q6
set_option linter.unusedVariables false
section
namespace Go.Eng
theorem Zp{c:Prop}{h:Decidable c}(hc:c){α:Sort _}{t e:α}:ite c t e=t:=if_pos hc
theorem Zn{c:Prop}{h:Decidable c}(hnc:¬c){α:Sort _}{t e:α}:ite c t e=e:=if_neg hnc
theorem Zq{p:Prop}[Decidable p]:(decide p=true)=p:=decide_eq_true_eq
theorem Zr{p:Prop}[Decidable p]:decide p=true->p:=of_decide_eq_true
theorem Zs{p:Prop}[Decidable p]:decide p=false->¬p:=of_decide_eq_false
theorem Zt{p:Prop}{h:Decidable p}:decide p=false↔¬p:=decide_eq_false_iff_not
theorem Zu{p:Prop}[Decidable p]:p->decide p=true:=decide_eq_true
theorem Zv{p:Prop}[Decidable p]:¬p->decide p=false:=decide_eq_false
variable{w w':World}{b:Nat}{P:Program}{f:FuncId}{args:Array Value}{v:Value}
abbrev Hp:=Nat->Option Obj
def z2i(w:World)(H:Hp):Prop:=∀b o,H b=some o->w.heap[b]?=some o
structure Tr(w:World)(H:Hp)(w':World)(H':Hp):Prop where
 view:z2i w' H'
 frame:∀b,b<w.heap.size->H b=none->w'.heap[b]?=w.heap[b]?
 fresh:∀b,H' b≠none->H b≠none\/w.heap.size<=b
 size:w.heap.size<=w'.heap.size
 os:w'.os=w.os
 tape:w'.tape=w.tape
 output:w'.output=w.output
 drawn:w.drawn<=w'.drawn
def Hp.le(H H':Hp):Prop:=∀b o,H b=some o->H' b=some o
theorem Hp.le_refl(H:Hp):Hp.le H H:=λ_ _ h=>h
theorem Hp.le_trans{H H' H'':Hp}(h:Hp.le H H')(h':Hp.le H' H''):Hp.le H H'':=λb o x=>h' b o (h b o x)
theorem z2i.lt{H:Hp}(h:z2i w H)(hb:H b≠none):b<w.heap.size:=by
 cases ho:H b with
 | none=>exact absurd ho hb
 | some o =>
  have:=h b o ho;rcases Nat.lt_or_ge b w.heap.size with h'|h'
  ·exact h'
  ·simp[Array.getElem?_eq_none h'] at this
theorem z2i.mono{H H':Hp}(h:z2i w H')(hl:Hp.le H H'):z2i w H:=λb o hb=>h b o (hl b o hb)
theorem Tr.refl{H:Hp}(h:z2i w H):Tr w H w H :=
 ⟨h,λ_ _ _=>rfl,λ_ h=>.inl h,Qr _,rfl,rfl,rfl,Qr _⟩
theorem Tr.none{w:World}{H:Hp}{w':World}{H':Hp}(h:Tr w H w' H'){b:Nat}(hb:b<w.heap.size)(hn:H b=none):H' b=none:=by
 cases h':H' b with
 | none=>rfl
 | some o =>
  rcases h.fresh b (by simp[h']) with h1|h1
  ·exact absurd hn h1
  ·omega
theorem Tr.trans{w:World}{H:Hp}{w1:World}{H1:Hp}{w2:World}{H2:Hp}(a:Tr w H w1 H1)(b:Tr w1 H1 w2 H2):Tr w H w2 H2:=by
 refine⟨b.view,λk hk hn=>?_,λk hk=>?_,Qt a.size b.size,b.os.trans a.os,b.tape.trans a.tape,b.output.trans a.output,Qt a.drawn b.drawn⟩
 ·rw[b.frame k (Nat.lt_of_lt_of_le hk a.size) (a.none hk hn),a.frame k hk hn]
 ·rcases b.fresh k hk with h|h
  ·exact a.fresh k h
  ·exact .inr (Qt a.size h)
theorem Tr.forget{H:Hp}{H' H'':Hp}(h:Tr w H w' H')(hl:Hp.le H'' H'):Tr w H w' H'':=by
 refine⟨h.view.mono hl,h.frame,λb hb=>h.fresh b ?_,h.size,h.os,h.tape,h.output,h.drawn⟩;cases hx:H'' b with
 | none=>exact absurd hx hb
 | some o=>simp[hl b o hx]
theorem Tr.widen{H Hb:Hp}{H':Hp}(h:Tr w H w' H')(hv:z2i w Hb)(hl:Hp.le H Hb)(hk:Hp.le H H'):Tr w Hb w' Hb:=by
 refine⟨λb o hb=>?_,λb hb hn=>?_,λb hb=>.inl hb,h.size,h.os,h.tape,h.output,h.drawn⟩
 ·cases hx:H b with
  | none =>
   have hlt:b<w.heap.size:=hv.lt (by simp[hb]);rw[h.frame b hlt hx];exact hv b o hb
  | some o' =>
   have e:=hl b o' hx;rw[hb] at e;cases e;exact h.view b o (hk b o hx)
 ·refine h.frame b hb ?_;cases hx:H b with
  | none=>rfl
  | some o'=>rw[hl b o' hx] at hn;cases hn
def Fn(P:Program)(f:FuncId)(args:Array Value)(H:Hp)(Zw:Value->Hp->Prop):Prop :=
 ∀w,z2i w H->Calls P f args w λe w'=>∃v H',e=.returned v/\Tr w H w' H'/\Zw v H'
theorem Fn.mono{P:Program}{f:FuncId}{args:Array Value}{H:Hp}{Zw post':Value->Hp->Prop}(h:Fn P f args H Zw)
  (hp:∀v H',Zw v H'->post' v H'):Fn P f args H post' :=
 λw hv=>(h w hv).mono λ_ _ ⟨v,H',he,ht,hq⟩=>⟨v,H',he,ht,hp v H' hq⟩
def Qf(P:Program)(f:FuncId)(args:Array Value)(H:Hp)(v:Value):Prop :=
 Fn P f args H λv' H'=>v'=v/\Hp.le H H'
theorem Qf.up{H Hb:Hp}(h:Qf P f args H v)(hl:Hp.le H Hb):Qf P f args Hb v :=
 λw hv=>(h w (hv.mono hl)).mono λ_ _ ⟨v',H',he,ht,hq,hk⟩=>⟨v',Hb,he,ht.widen hv hl hk,hq,Hp.le_refl _⟩
def Ex(H:Hp):Prop:=∃w,z2i w H
theorem Fn.live{H:Hp}{Zw:Value->Hp->Prop}(h:Fn P f args H Zw)(hx:Ex H) :
  ∃v H1,Zw v H1/\Ex H1:=by
 obtain⟨w,hv⟩:=hx;obtain⟨e,w',fr,⟨v,H',_,ht,hq⟩,_⟩:=h w hv [];exact⟨v,H',hq,w',ht.view⟩
def Hp.put(H:Hp)(b:Nat)(o:Obj):Hp:=λk=>if k=b then some o else H k
@[simp] theorem Hp.put_same (H:Hp) (b:Nat) (o:Obj):Hp.put H b o b=some o:=by simp[Hp.put]
theorem Hp.put_ne(H:Hp){k:Nat}(o:Obj)(h:k≠b):Hp.put H b o k=H k:=by simp[Hp.put,h]
theorem Hp.put_le(H:Hp)(o:Obj)(h:H b=none):Hp.le H (Hp.put H b o):=λk o' hk=>by
 rw[Hp.put_ne];exact hk;intro e;subst e;rw[h] at hk;cases hk
theorem Hp.put_comm(H:Hp){c:Nat}(o u:Obj)(h:b≠c):Hp.put (Hp.put H b o) c u=Hp.put (Hp.put H c u) b o:=by
 funext k;simp only[Hp.put];split <;> split <;> simp_all
theorem Tr.alloc{H:Hp}(h:z2i w H)(o:Obj):H w.heap.size=Qz/\Tr w H { w with heap:=w.heap.push o } (Hp.put H w.heap.size o):=by
 have hn:H w.heap.size=Qz:=by
  cases hx:H w.heap.size with
  | none=>rfl
  | some o'=>have:=h.lt (b:=w.heap.size) (by simp[hx]);omega
 refine⟨hn,⟨λb o' hb=>?_,λb hb _=>?_,λb hb=>?_,by simp,rfl,rfl,rfl,Qr _⟩⟩
 ·simp only[Hp.put] at hb;split at hb
  ·rename_i e;subst e;simpa using hb
  ·have:=h b o' hb;have hlt:=h.lt (b:=b) (by simp[hb]);simp[Qc,Qv hlt,this]
 ·simp[Qc,Qv hb]
 ·simp only[Hp.put] at hb;split at hb
  ·rename_i e;subst e;exact .inr (Qr _)
  ·exact .inl hb
theorem Fn.frame_put{H:Hp}{Zw:Value->Hp->Prop}(h:Fn P f args H Zw){o:Obj}(hb:H b=none) :
  Fn P f args (Hp.put H b o) λv H''=>∃H',Zw v H'/\H' b=none/\H''=Hp.put H' b o/\(Hp.le H H'->Hp.le (Hp.put H b o) H''):=by
 intro w hv;have hl:=Hp.put_le H o hb;refine(h w (hv.mono hl)).mono λe w' ⟨v,H',he,ht,hq⟩=>?_
 have hlt:b<w.heap.size:=hv.lt (by simp);have hn:H' b=Qz:=ht.none hlt hb;refine⟨v,Hp.put H' b o,he,⟨λk o' hk=>?_,λk hk hkn=>?_,λk hk=>?_,ht.size,ht.os,ht.tape,ht.output,ht.drawn⟩,H',hq,hn,rfl,λhle k o' hk=>?_⟩
 ·simp only[Hp.put] at hk;split at hk
  ·rename_i e;subst e;cases hk;rw[ht.frame k hlt hb];exact hv k o (by simp)
  ·exact ht.view k o' hk
 ·have:k≠b:=by intro e;subst e;simp at hkn
  rw[Hp.put_ne _ _ this] at hkn;exact ht.frame k hk hkn
 ·by_cases e:k=b
  ·subst e;exact .inl (by simp)
  ·rw[Hp.put_ne _ _ e] at hk ⊢;exact ht.fresh k hk
 ·by_cases e:k=b
  ·subst e;simpa using hk
  ·rw[Hp.put_ne _ _ e] at hk ⊢;exact hle k o' hk
def Hp.at(H:Hp)(a:Addr):Option Value :=
 match H a.block with
 | some (.cells c _ _)=>if a.spot.isSome then none else c[a.off]?
 | _=>none
theorem Hp.at_le{H H':Hp}(h:Hp.le H H'){a:Addr}(hv:H.at a=some v):H'.at a=some v:=by
 unfold Hp.at at *
 cases hx:H a.block with
 | none=>simp[hx] at hv
 | some o=>rw[hx] at hv;rw[h _ _ hx];exact hv
theorem z2i.cell{w:World}{H:Hp}(h:z2i w H){a:Addr}{v:Value}(hv:H.at a=some v):w.cell? a=some v:=by
 unfold Hp.at at hv;unfold World.cell?;cases hx:H a.block with
 | none=>simp[hx] at hv
 | some o=>rw[h _ _ hx];rw[hx] at hv;exact hv
end Go.Eng
namespace Go.Eng
inductive V0 where
 | lit (v:Value)
 | ptr (j off:Nat)
abbrev Gd:=List (Nat×Bool)
abbrev Sl:=Option (Gd×V0)
abbrev Env:=Nat->Sl
abbrev z1r:=Nat->Option (List Value×TypeId)
structure Slc where
 a:Option Addr
 n:Nat
 c:Nat
def Slc.v(u:Slc):Value:=.slice u.a u.n u.c
inductive z11 where
 | int (k:IntKind)
 | bool
 | sl
 | ptr
 | mp
 | val
 | alt
structure Cfg where
 P:Program
 n:Nat
 pv:Nat->Bool
 perm:Nat->Option (List Nat)
 eff:Nat->Bool
 effv:Bool
 nm:Nat->Nat
 lp:Nat->List (Nat×z11)×List (Nat×List z11)
 wr:Bool:=false
 qf:Nat->Bool:=λ_=>false
 eff2:Nat->Bool:=λ_=>false
 perm2:Nat->Option (Nat×Bool):=λ_=>none
 yl:Bool:=false
 rn:List (Bool×List z11):=[]
 yp:List (Bool×List z11):=[]
def ye1(d:Nat):Gd->Bool
 | []=>false
 | p :: g=>Qq p.1 d||ye1 d g
def Env.put(env:Env)(d:Nat)(x:Sl):Env:=λt =>
 match Qq t d with
 | true=>x
 | false=>match env t with
  | some (g,v)=>match ye1 d g with
   | true=>none
   | false=>some (g,v)
  | none=>none
def bEq:Bool->Bool->Bool
 | true,b=>b
 | false,true=>false
 | false,false=>true
def gIn(s:Nat)(w:Bool):Gd->Bool
 | []=>false
 | p :: g=>(Qq p.1 s&&bEq p.2 w)||gIn s w g
def y1g:Gd->Gd->Bool
 | [],_=>true
 | p :: g',g=>gIn p.1 p.2 g&&y1g g' g
def gEq:Gd->Gd->Bool
 | [],[]=>true
 | p :: g,q :: g'=>Qq p.1 q.1&&bEq p.2 q.2&&gEq g g'
 | _,_=>false
def Env.ev(env:Env)(g:Gd):Operand->Option V0
 | .tmp t=>match env t with
  | some (g',v)=>match y1g g' g with
   | true=>some v
   | false=>none
  | none=>none
 | .const v=>some (.lit v)
 | .func f=>some (.lit (.func (.func f) #[] #[]))
 | .global _=>none
def Env.gb(env:Env):Gd->Option Bool
 | []=>some true
 | (s,w) :: g=>match env s with
  | some (g',.lit (.bool x))=>match gEq g' g with
   | true=>match g,env.gb g,w with
    | [],_,true=>some x
    | [],_,false=>some (!x)
    | _ :: _,some y,true=>some (y&&x)
    | _ :: _,some y,false=>some (y&&!x)
    | _ :: _,none,_=>none
   | false=>none
  | _=>none
def imp(gb:Bool)(p:Prop):Gd->Prop
 | []=>p
 | _ :: _=>gb=true->p
def zl0(ops:Array Oper):Nat->Oper->Option Gd
 | 0,_=>none
 | f+1,o=>match o.guard with
  | none=>some []
  | some (j,w)=>match ops[j]? with
   | some oj=>match oj.dst,zl0 ops f oj with
    | some s,some g=>some ((s,w) :: g)
    | _,_=>none
   | none=>none
def leaves(P:Program):Nat->TypeId->List z11
 | 0,_=>[]
 | d+1,t=>match P.underlying t with
  | some (.int k)=>[.int k]
  | some .bool=>[.bool]
  | some (.struct fs)=>fs.toList.flatMap λf=>leaves P d f.type
  | some (.array n e)=>(Qp n (leaves P d e)).flatten
  | some (.slice _)=>[.sl]
  | some (.pointer _)=>[.ptr]
  | some (.map _ _)=>[.mp]
  | some _=>[.val]
  | none=>[]
def z5o(P:Program)(t:TypeId):Bool :=
 match P.underlying t with
 | some (.struct _)=>true
 | some (.array _ _)=>true
 | _=>false
def z11.dflt:z11->Value
 | .int k=>.int k 0
 | .bool=>.bool false
 | .sl=>.slice none 0 0
 | .ptr=>.pointer (some ⟨0,0,none⟩)
 | .mp=>.map none
 | .val=>undef
 | .alt=>.bool false
def exL:List z11->(List Value->Prop)->Prop
 | [],f=>f []
 | .int k :: ls,f=>∃n:Int,exL ls λvs=>f (.int k n :: vs)
 | .bool :: ls,f=>∃b:Bool,exL ls λvs=>f (.bool b :: vs)
 | .sl :: ls,f=>∃u:Slc,exL ls λvs=>f (u.v :: vs)
 | .ptr :: ls,f=>∃a:Addr,exL ls λvs=>f (.pointer (some a) :: vs)
 | .mp :: ls,f=>∃r:Option Nat,exL ls λvs=>f (.map r :: vs)
 | .val :: ls,f=>∃v:Value,exL ls λvs=>f (v :: vs)
 | .alt :: ls,f=>(exL ls λvs=>f (.bool false :: vs))\/(exL ls λvs=>f (.bool true :: vs))
def mkV(agg:Bool)(vs:List Value):Value :=
 match agg with
 | true=>.agg vs.toArray
 | false=>match vs with
  | v :: _=>v
  | []=>undef
inductive Shp where
 | one (agg:Bool) (ls:List z11)
 | tup (l:List (Bool×List z11))
 | nx (l:List (Bool×List z11))
def Shp.leaves:Shp->List z11
 | .one _ ls=>ls
 | .tup l=>l.flatMap (·.2)
 | .nx l=>.alt :: l.flatMap (·.2)
def xa0:List (Bool×List z11)->List Value->List Value
 | [],_=>[]
 | (a,ls) :: l,vs=>mkV a (vs.take ls.length) :: xa0 l (vs.drop ls.length)
def Shp.mk:Shp->List Value->Value
 | .one a _,vs=>mkV a vs
 | .tup l,vs=>.tuple (xa0 l vs).toArray
 | .nx l,vs=>match vs with
  | .bool true :: us=>.tuple (.bool true :: xa0 l us).toArray
  | _=>.tuple #[.bool false]
def shp(P:Program)(t:TypeId):Shp :=
 match P.underlying t with
 | some (.tuple ts)=>.tup (ts.toList.map λu=>(z5o P u,Eng.leaves P 9 u))
 | _=>.one (z5o P t) (Eng.leaves P 9 t)
def zzy(s:Shp):Bool:=s.leaves.all λl=>match l with
 | .int _=>true
 | .bool=>true
 | _=>false
def zc7(H:Hp)(p:Addr):Nat->List Value->Prop
 | _,[]=>True
 | i,v :: vs=>match vs with
  | []=>H.at (p.add i)=some v
  | _ :: _=>H.at (p.add i)=some v/\zc7 H p (i+1) vs
def zu4(a:Option Addr)(s:Nat)(i:Int):Addr :=
 match a with
 | some a=>a.add (i.toNat*s)
 | none=>default
def y63(a:Option Addr)(n:Nat)(i:Int):Prop:=0<=i/\i<n/\a.isSome=true
def x67(a:Option Addr)(s:Nat)(l m:Int):Option Addr:=if m.toNat=l.toNat then a else a.map (·.add (l.toNat*s))
def nz(y:Int):Prop:=y≠0
def nn(y:Int):Prop:=0<=y
def ykg(l h m cp:Int):Prop:=0<=l/\l<=h/\h<=m/\m<=cp
def ykb(n m bytes:Int):Prop:=n=m/\0<=n/\n*bytes<=140737488355328
def yk7(z:Int)(len:Nat)(cs:List Value)(s:Nat)(vs:List Value):Prop:=0<=z/\z<len/\(cs.drop (z.toNat*s)).take s=vs/\vs.length=s
def inI(z:Int):Prop:=-9223372036854775808<=z/\z<=9223372036854775807
def xcl(z:Int):Int:=z%18446744073709551616
abbrev Pv:=Option (Option Prop×Value)
def yes(v:Value):Pv:=some (none,v)
def ifs(g:Gd)(gb:Bool)(p:Prop)(v:Value):Pv:=some (some (imp gb p g),v)
def z7j(wr:Bool)(g:Gd)(gb:Bool)(k:IntKind)(z:Int):Pv :=
 match k with
 | .i64=>match wr with
  | true=>yes (.int .i64 (Qj.wrap z))
  | false=>ifs g gb (inI z) (.int .i64 z)
 | .u64=>yes (.int .u64 (xcl z))
 | k=>yes (.int k (k.wrap z))
def ytz(g:Gd)(gb:Bool)(k:IntKind)(x y:Int):Pv :=
 match k with
 | .i64=>ifs g gb (nz y/\inI (x.tdiv y)) (.int .i64 (x.tdiv y))
 | .u64=>ifs g gb (nz y) (.int .u64 (xcl (x.tdiv y)))
 | k=>ifs g gb (nz y) (.int k (k.wrap (x.tdiv y)))
def zac(wr:Bool)(g:Gd)(gb:Bool)(op:BinOp)(k:IntKind)(x y:Int):Pv :=
 match op with
 | .add=>z7j wr g gb k (x+y)
 | .sub=>z7j wr g gb k (x-y)
 | .mul=>z7j wr g gb k (x*y)
 | .quo=>ytz g gb k x y
 | .rem=>ifs g gb (nz y) (.int k (x.tmod y))
 | .eql=>yes (.bool (x==y))
 | .neq=>yes (.bool (x != y))
 | .lss=>yes (.bool (x<y))
 | .leq=>yes (.bool (x<=y))
 | .gtr=>yes (.bool (x>y))
 | .geq=>yes (.bool (x>=y))
 | .shl=>ifs g gb (nn y) (.int k (k.wrap (x*2 ^ (min y.toNat k.bits))))
 | .shr=>ifs g gb (nn y) (.int k (x.fdiv (2 ^ (min y.toNat k.bits))))
 | .and=>yes (.int k (k.wrap (Qe k.bits x &&& Qe k.bits y).toNat))
 | .or=>yes (.int k (k.wrap (Qe k.bits x ||| Qe k.bits y).toNat))
 | .xor=>yes (.int k (k.wrap (Qe k.bits x ^^^ Qe k.bits y).toNat))
 | _=>none
def z6y:Option Bool->Bool->Option Bool
 | none,b=>some b
 | some a,b=>some (a&&b)
def ynq(P:Program)(t:TypeId)(cs:Array Value)(off:Nat):Option Value :=
 match z5o P t with
 | true=>some (.agg (cs.extract off (off+P.cellsOf t)))
 | false=>cs[off]?
def zue(P:Program)(rec:Option Bool->TypeId->Value->Value->Option (Option Bool))(xs ys:Array Value):Option Bool->List Field->Option (Option Bool)
 | acc,[]=>some acc
 | acc,f :: fs=>match f.name == "_",ynq P f.type xs f.offset,ynq P f.type ys f.offset with
  | false,some a,some b=>match rec acc f.type a b with
   | some acc'=>zue P rec xs ys acc' fs
   | none=>none
  | _,_,_=>none
def eqV(P:Program):Nat->Option Bool->TypeId->Value->Value->Option (Option Bool)
 | 0,_,_,_,_=>none
 | d+1,acc,t,x,y=>match P.underlying t,x,y with
  | some (.int _),.int k a,.int k' b=>match decide (k=k') with
   | true=>some (z6y acc (a==b))
   | false=>none
  | some .bool,.bool a,.bool b=>some (z6y acc (a==b))
  | some (.struct fs),.agg xs,.agg ys=>match P.stoodInHeld t with
   | true=>none
   | false=>zue P (eqV P d) xs ys acc fs.toList
  | _,_,_=>none
def y7a:Operand->Bool
 | .const (.slice none 0 0)=>true
 | _=>false
def bin(P:Program)(wr:Bool)(g:Gd)(gb:Bool)(op:BinOp)(t:TypeId)(y:Operand)(a b:Value):Pv :=
 match P.underlying t with
 | some (.int _)=>match a,b with
  | .int k m,.int k' n=>match op with
   | .shl=>zac wr g gb .shl k m n
   | .shr=>zac wr g gb .shr k m n
   | op=>match decide (k=k') with
    | true=>zac wr g gb op k m n
    | false=>none
  | _,_=>none
 | some .bool=>match a,b with
  | .bool m,.bool n=>match op with
   | .eql=>yes (.bool (m==n))
   | .neq=>yes (.bool (!(m==n)))
   | _=>none
  | _,_=>none
 | some (.slice _)=>match y7a y,a with
  | true,.slice p _ _=>match op with
   | .eql=>yes (.bool p.isNone)
   | .neq=>yes (.bool (!p.isNone))
   | _=>none
  | _,_=>none
 | some (.struct _)=>match a,b with
  | .agg xs,.agg ys=>match P.eqGuardType P.depth t,eqV P 9 none t (.agg xs) (.agg ys) with
   | false,some (some r)=>match op with
    | .eql=>yes (.bool r)
    | .neq=>yes (.bool (!r))
    | _=>none
   | _,_=>none
  | _,_=>none
 | _=>none
def yss{α:Type}(P:Program):Sem α->Option α
 | .pure a=>some a
 | .program k=>yss P (k P)
 | .mark _ k=>yss P k
 | _=>none
def ygv{α:Type}(P:Program):Sem α->Option (Obj×(Nat->Option α))
 | .new o k=>some (o,λr=>yss P (k r))
 | .program k=>ygv P (k P)
 | .mark _ k=>ygv P k
 | _=>none
def ypo(x:Bool)(a b:Operand)(A B:Value):Option Value :=
 match A,B with
 | .bool p,.bool q=>match a,b with
  | .const (.bool true),_=>some (.bool (x||q))
  | _,.const (.bool false)=>some (.bool (x&&p))
  | _,_=>some (.bool (cond x p q))
 | .int k m,.int k' n=>match decide (k=k') with
  | true=>some (.int k (cond x m n))
  | false=>none
 | _,_=>none
def y0e(P:Program)(t:TypeId)(f:Nat):Option Nat :=
 match P.underlying t with
 | some (.struct fs)=>match fs[f]? with
  | some fd=>match Qq (P.cellsOf fd.type) 0 with
   | true=>none
   | false=>some fd.offset
  | none=>none
 | _=>none
def y75(P:Program)(t:TypeId):Option (Nat×Nat) :=
 match P.underlying t with
 | some (.array n e)=>some (n,P.cellsOf e)
 | _=>none
def xbl(agg:Bool)(v:Value):List Value :=
 match agg with
 | true=>match v with
  | .agg cs=>cs.toList
  | _=>[]
 | false=>[v]
def x0f:List Value->Nat->List Value->List Value
 | xs,_,[]=>xs
 | [],_,_=>[]
 | _ :: xs,0,v :: vs=>v :: x0f xs 0 vs
 | x :: xs,i+1,vs=>x :: x0f xs i vs
def z1r.set(pr:z1r)(j:Nat)(x:Option (List Value×TypeId)):z1r:=λk =>
 match Qq k j with
 | true=>x
 | false=>pr k
def Hp.canStore(H:Hp)(p:Addr):Nat->List Value->Prop
 | _,[]=>True
 | i,_ :: vs=>(∃c T fz,H (p.add i).block=some (.cells c T fz)/\(p.add i).spot=none/\(p.add i).off<c.size/\¬ (fz.1<=(p.add i).off/\(p.add i).off<fz.2))/\Hp.canStore H p (i+1) vs
def Hp.set1(H:Hp)(p:Addr)(v:Value):Hp:=λk =>
 match Qq k p.block with
 | true=>match H k with
  | some (.cells c T fz)=>some (.cells (c.setIfInBounds p.off v) T fz)
  | o=>o
 | false=>H k
def Hp.store(H:Hp)(p:Addr):Nat->List Value->Hp
 | _,[]=>H
 | i,v :: vs=>Hp.store (H.set1 (p.add i) v) p (i+1) vs
def z1l(P:Program)(s:Sem Next)(H:Hp)(Zw:Value->Hp->Prop):Prop :=
 ∀w,z2i w H->∃v w' H',(s.run P w=.ok (.value v) w'\/(s.run P w=.ok .skip w'/\v=undef))/\Tr w H w' H'/\Zw v H'
def OpQ(P:Program)(s:Sem Next)(H:Hp)(v:Value):Prop:=∀w,z2i w H->s.run P w=.ok (.value v) w
def zbt(P:Program)(f:FuncId):Prop:=∃fn,P.funcs[f]?=some fn/\fn.body.isSome=true
def FnV(P:Program)(F:Value)(args:List Value)(H:Hp)(Zw:Value->Hp->Prop):Prop :=
 ∃f first cap,F=.func (.func f) first cap/\zbt P f/\Fn P f (first++args.toArray++cap) H Zw
def QfV(P:Program)(F:Value)(args:List Value)(H:Hp)(v:Value):Prop:=FnV P F args H λv' H'=>v'=v/\Hp.le H H'
def Yd(P:Program)(l:Nat)(args:Array Value)(w:World)(R:Ending->World->Prop):Prop :=
 ∃fn tmps assign body,(Instr.yield l args).run P w=.ok (.round l fn tmps assign body) w/\RoundIn Fence.wide 0 P l fn tmps assign body w R
theorem Yd.mono{P:Program}{l:Nat}{args:Array Value}{w:World}{R R':Ending->World->Prop}(h:Yd P l args w R)(hr:∀e w',R e w'->R' e w'):Yd P l args w R' :=
 let ⟨a,b,c,d,h1,h2⟩:=h;⟨a,b,c,d,h1,h2.mono hr⟩
def FnY(P:Program)(l:Nat)(args:List Value)(H:Hp)(Zw:Value->Hp->Prop):Prop :=
 ∀w,z2i w H->Yd P l args.toArray w λe w'=>∃v H',e=.returned v/\Tr w H w' H'/\Zw v H'
abbrev Kop:=Sl->z1r->Hp->Prop
def opsv(env:Env)(g:Gd):List Operand->Option (List Value)
 | []=>some []
 | x :: xs=>match env.ev g x with
  | some (.lit v)=>match opsv env g xs with
   | some vs=>some (v :: vs)
   | none=>none
  | _=>none
def rho(env:Env)(g:Gd)(x:Operand):Value :=
 match env.ev g x with
 | some (.lit v)=>v
 | _=>undef
def z5x(env:Env)(g:Gd):List Operand->Bool
 | []=>true
 | x :: xs=>match env.ev g x with
  | some (.lit _)=>z5x env g xs
  | _=>false
inductive NF where
 | bad
 | pu (ob:Option Prop) (x:Sl)
 | px (ls:List z11) (ob:List Value->Prop) (x:List Value->Sl)
 | rd (ls:List z11) (ob:List Value->Hp->Prop) (x:List Value->Sl)
 | ow (f:z1r->Option (Sl×z1r))
 | al (c:Option Prop) (x:Nat->Sl) (ob:Obj)
 | ag (gb:Bool) (x:Nat->Sl) (ob:Obj)
 | cf (g:Gd) (f:FuncId) (args:List Value) (sh:Shp)
 | cg (gb:Bool) (g:Gd) (f:FuncId) (args:List Value) (sh:Shp)
 | ce (f:FuncId) (args:List Value) (sh:Shp)
 | cy (l:Nat) (args:List Value) (sh:Shp)
 | cv (F:Value) (args:List Value) (sh:Shp)
 | ef (s:Sem Next) (sh:Shp)
 | st (ad:Addr) (vs:List Value)
def yjg:Option Prop->Prop->Prop
 | none,q=>q
 | some p,q=>p/\q
def NF.vc(P:Program)(draw:Bool)(k:Kop)(pr:z1r)(H:Hp):NF->Prop
 | .bad=>False
 | .pu ob x=>yjg ob (k x pr H)
 | .px ls ob x=>exL ls λvs=>ob vs/\k (x vs) pr H
 | .rd ls ob x=>exL ls λvs=>ob vs H/\k (x vs) pr H
 | .ow f=>match f pr with
  | some (x,pr')=>k x pr' H
  | none=>False
 | .al c x ob=>yjg c (∀(b:Nat)(H':Hp),H b=none->H'=H.put b ob->k (x b) pr H')
 | .ag gb x ob=>(gb=true->∀(b:Nat)(H':Hp),H b=none->H'=H.put b ob->k (x b) pr H')/\(gb=false->k (x 0) pr H)
 | .cf g f args sh=>Fn P f args.toArray H λv H'=>yjg (match draw with|true=>some (Hp.le H H')|false=>none)
   (exL sh.leaves λvs=>v=sh.mk vs/\k (some (g,.lit (sh.mk vs))) pr H')
 | .cg gb g f args sh=>(gb=true->Fn P f args.toArray H λv H'=>yjg (match draw with|true=>some (Hp.le H H')|false=>none)
   (exL sh.leaves λvs=>v=sh.mk vs/\k (some (g,.lit (sh.mk vs))) pr H'))/\(gb=false->k (some (g,.lit (sh.mk (sh.leaves.map z11.dflt)))) pr H)
 | .ce f args sh=>Fn P f args.toArray H λv H'=>exL sh.leaves λvs=>v=sh.mk vs/\k (some ([],.lit (sh.mk vs))) pr H'
 | .cy l args sh=>FnY P l args H λv H'=>exL sh.leaves λvs=>v=sh.mk vs/\k (some ([],.lit (sh.mk vs))) pr H'
 | .cv F args sh=>FnV P F args H λv H'=>yjg (match draw with|true=>some (Hp.le H H')|false=>none)
   (exL sh.leaves λvs=>v=sh.mk vs/\k (some ([],.lit (sh.mk vs))) pr H')
 | .ef s sh=>z1l P s H λv H'=>exL sh.leaves λvs=>v=sh.mk vs/\k (some ([],.lit (sh.mk vs))) pr H'
 | .st ad vs=>Hp.canStore H ad 0 vs/\∀H':Hp,H'=H.store ad 0 vs->k none pr H'
def yjv(g:Gd):Pv->NF
 | none=>.bad
 | some (ob,v)=>.pu ob (some (g,.lit v))
def ysr(P:Program)(env:Env)(g:Gd)(o:Oper):NF :=
 match z5x env g o.op.operands.toList with
 | true=>match yss P (execOp (rho env g) o) with
  | some (.value v)=>.pu none (some (g,.lit v))
  | _=>.bad
 | false=>.bad
def ygu(P:Program)(env:Env)(g:Gd)(gb:Bool)(o:Oper)(mk:Nat->Value):NF :=
 match z5x env g o.op.operands.toList with
 | true=>match ygv P (execOp (rho env g) o) with
  | some (ob,_)=>match g with
   | []=>.al none (λb=>some ([],.lit (mk b))) ob
   | _ :: _=>.ag gb (λb=>some (g,.lit (mk b))) ob
  | none=>.bad
 | false=>.bad
def ymt(P:Program)(env:Env)(g:Gd)(o:Oper)(d:Nat):NF :=
 match g,z5x env g o.op.operands.toList with
 | [],true=>match ygv P (execOp (rho env g) o) with
  | some (.cells c t (0,0),_)=>.ow λpr=>match pr d with
   | none=>some (some ([],.ptr d 0),pr.set d (some (c.toList,t)))
   | some _=>none
  | _=>.bad
 | _,_=>.bad
def isC:Operand->Bool
 | .const _=>true
 | _=>false
def x07(s:Sem Value):Sem Next:=do pure (.value (← s))
def x06(s:Sem Unit):Sem Next:=do s;pure .skip
def z9e(b:Builtin)(ts:Array TypeId)(t:TypeId)(cs:Array Bool)(args:List Value):Sem Next:=Go.builtin b ts t cs args.toArray
def yl9(env:Env)(g:Gd)(d:Int):Option Operand->Option Int
 | none=>some d
 | some x=>match env.ev g x with
  | some (.lit (.int _ n))=>some n
  | _=>none
def zbs(C:Cfg)(g:Gd)(gb:Bool)(x:Operand)(args:List Value)(sh:Shp)(env:Env):NF :=
  match x with
  | .func f=>match C.P.funcs[f]? with
    | some fn=>match fn.body.isSome with
      | true=>match (zzy sh||C.qf f)&&!C.eff f with
        | true=>.rd sh.leaves (λvs H=>imp gb (Qf C.P f args.toArray H (sh.mk vs)) g) λvs=>some (g,.lit (sh.mk vs))
        | false=>match g with
          | []=>match C.eff2 f with
            | true=>.ce f args sh
            | false=>.cf [] f args sh
          | p :: g'=>match C.eff2 f with
            | true=>.bad
            | false=>.cg gb (p :: g') f args sh
      | false=>match (zzy sh||C.qf f)&&!C.eff f with
        | true=>.rd sh.leaves (λvs H=>imp gb (OpQ C.P (callFunc f args.toArray) H (sh.mk vs)) g) λvs=>some (g,.lit (sh.mk vs))
        | false=>.bad
    | none=>.bad
  | x=>match C.yl with
   | true=>match env.ev g x with
    | some (.lit (.func (.yield l) p q))=>match g,p.size,q.size with
      | [],0,0=>.cy l args sh
      | _,_,_=>.bad
    | _=>.bad
   | false=>match env.ev g x with
    | some (.lit F)=>match zzy sh&&!C.effv with
      | true=>.rd sh.leaves (λvs H=>imp gb (QfV C.P F args H (sh.mk vs)) g) λvs=>some (g,.lit (sh.mk vs))
      | false=>match g with
        | []=>.cv F args sh
        | _ :: _=>.bad
    | _=>.bad
def yfk(env:Env)(g:Gd)(x:Operand):NF :=
 match env.ev g x with
 | some v=>.pu none (some (g,v))
 | none=>.pu none none
def yin(env:Env)(g:Gd)(x:Operand):NF :=
 match env.ev g x with
 | some (.lit (.pointer (some a)))=>.pu none (some (g,.lit (.pointer (some a))))
 | some (.ptr j off)=>.pu none (some (g,.ptr j off))
 | _=>.bad
def zbp(C:Cfg)(env:Env)(g:Gd)(o:Oper)(c:Call)(b:Builtin):NF :=
 match b,opsv env g c.args.toList with
 | .len,some [.slice _ n _]=>match c.argTypes[0]? with
  | some t=>match C.P.underlying t with
   | some (.slice _)=>.pu none (some (g,.lit (.int .i64 n)))
   | _=>.bad
  | none=>.bad
 | .cap,some [.slice _ _ cp]=>match c.argTypes[0]? with
  | some t=>match C.P.underlying t with
   | some (.slice _)=>.pu none (some (g,.lit (.int .i64 cp)))
   | _=>.bad
  | none=>.bad
 | .min,some [.int ka a,.int _ b]=>.pu none (some (g,.lit (.int ka (if b<a then b else a))))
 | .min,some [.int ka a,.int _ b,.int _ d]=>.pu none (some (g,.lit (.int ka (if d<(if b<a then b else a) then d else (if b<a then b else a)))))
 | .max,some [.int ka a,.int _ b]=>.pu none (some (g,.lit (.int ka (if b>a then b else a))))
 | .max,some [.int ka a,.int _ b,.int _ d]=>.pu none (some (g,.lit (.int ka (if d>(if b>a then b else a) then d else (if b>a then b else a)))))
 | .append,some vs=>match g with
  | []=>.ef (z9e .append c.argTypes o.type (c.args.map isC) vs) (shp C.P o.type)
  | _ :: _=>.bad
 | .copy,some vs=>match g with
  | []=>.ef (z9e .copy c.argTypes o.type (c.args.map isC) vs) (shp C.P o.type)
  | _ :: _=>.bad
 | .clear,some vs=>match g with
  | []=>.ef (z9e .clear c.argTypes o.type (c.args.map isC) vs) (shp C.P o.type)
  | _ :: _=>.bad
 | .delete,some vs=>match g with
  | []=>.ef (z9e .delete c.argTypes o.type (c.args.map isC) vs) (shp C.P o.type)
  | _ :: _=>.bad
 | _,_=>.bad
def y48(P:Program)(t:TypeId):Bool :=
 match P.underlying t with
 | some _=>true
 | none=>false
def ybd(C:Cfg)(env:Env)(g:Gd)(gb:Bool)(t:TypeId)(x:Nat):NF :=
 match C.pv x,env.ev g (.tmp x),(z5o C.P t||Qq (C.P.cellsOf t) 1)&&y48 C.P t with
 | true,some (.ptr j off),true=>match Qq (C.nm x) j with
  | true=>.ow λpr=>match pr j with
   | some (cs,_)=>match Nat.ble (off+C.P.cellsOf t) cs.length with
    | true=>some (some (g,.lit (mkV (z5o C.P t) ((cs.drop off).take (C.P.cellsOf t)))),pr)
    | false=>none
   | none=>none
  | false=>.bad
 | false,some (.lit (.pointer (some a))),true=>match Qq (leaves C.P 9 t).length (C.P.cellsOf t) with
  | true=>.rd (leaves C.P 9 t) (λvs H=>imp gb (zc7 H a 0 vs) g) λvs=>some (g,.lit (mkV (z5o C.P t) vs))
  | false=>.bad
 | _,_,_=>.bad
def x60(C:Cfg)(env:Env)(g:Gd)(t:TypeId)(x:Nat)(y:Operand):NF :=
 match g,C.pv x&&y48 C.P t&&!(Qq (C.P.cellsOf t) 0),C.pv x||!y48 C.P t||Qq (C.P.cellsOf t) 0,env.ev g (.tmp x),env.ev g y with
 | [],true,_,some (.ptr j off),some (.lit v)=>match Qq (xbl (z5o C.P t) v).length (C.P.cellsOf t)&&(xbl (z5o C.P t) v).all Q6&&Qq (C.nm x) j with
  | true=>.ow λpr=>match pr j with
   | some (cs,e)=>match Nat.ble (off+C.P.cellsOf t) cs.length with
    | true=>some (none,pr.set j (some (x0f cs off (xbl (z5o C.P t) v),e)))
    | false=>none
   | none=>none
  | false=>.bad
 | [],_,false,some (.lit (.pointer (some a))),some (.lit v)=>match Qq (xbl (z5o C.P t) v).length (C.P.cellsOf t)&&(xbl (z5o C.P t) v).all Q6 with
  | true=>.st a (xbl (z5o C.P t) v)
  | false=>.bad
 | _,_,_,_,_=>.bad
def ypn(env:Env)(g:Gd)(tc:Nat)(a b:Operand):NF :=
 match env.ev g (.tmp tc),env.ev ((tc,true) :: g) a,env.ev ((tc,false) :: g) b with
 | some (.lit (.bool x)),some (.lit A),some (.lit B)=>match ypo x a b A B with
  | some v=>.pu none (some (g,.lit v))
  | none=>.bad
 | _,_,_=>.bad
def zrq(P:Program)(g:Gd)(gb:Bool)(s t:TypeId)(x:Option V0):NF :=
 match P.underlying s,P.underlying t,x with
 | some (.int _),some (.int kd),some (.lit (.int ks n))=>match ks,kd with
  | .i64,.i64=>.pu (some (imp gb (inI n) g)) (some (g,.lit (.int .i64 n)))
  | _,.u64=>.pu none (some (g,.lit (.int .u64 (xcl n))))
  | _,kd=>.pu none (some (g,.lit (.int kd (kd.wrap n))))
 | _,_,_=>.bad
def y5p(P:Program)(g:Gd)(gb:Bool)(t:TypeId)(x i:Option V0):NF :=
 match x,i with
 | some (.ptr j off),some (.lit (.int _ n))=>match y75 P t,n with
  | some (len,s),.ofNat m=>match Qu m len&&!(Qq s 0) with
   | true=>.pu none (some (g,.ptr j (off+m*s)))
   | false=>.bad
  | _,_=>.bad
 | some (.lit (.slice a len _)),some (.lit (.int _ n))=>match P.underlying t with
  | some (.slice e)=>match Qq (P.cellsOf e) 0 with
   | false=>.pu (some (imp gb (y63 a len n) g)) (some (g,.lit (.pointer (some (zu4 a (P.cellsOf e) n)))))
   | true=>.bad
  | _=>.bad
 | _,_=>.bad
def ykj(C:Cfg)(env:Env)(g:Gd)(gb:Bool)(o:Oper):NF :=
 match o.op with
 | .move x=>yfk env g x
 | .assign x=>yfk env g x
 | .nilCheck x=>yin env g x
 | .pick (.tmp tc) a b=>ypn env g tc a b
 | .binOp op t x y _=>match env.ev g x,env.ev g y with
  | some (.lit a),some (.lit b)=>yjv g (bin C.P C.wr g gb op t y a b)
  | _,_=>.bad
 | .unOp .not _ x=>match env.ev g x with
  | some (.lit (.bool b))=>.pu none (some (g,.lit (.bool !b)))
  | _=>.bad
 | .unOp .neg _ x=>match env.ev g x with
  | some (.lit (.int kd n))=>yjv g (z7j C.wr g gb kd (0-n))
  | _=>.bad
 | .convert s t x=>zrq C.P g gb s t (env.ev g x)
 | .fieldAddr t x f=>match y0e C.P t f,env.ev g x with
  | some i,some (.ptr j off)=>.pu none (some (g,.ptr j (off+i)))
  | some i,some (.lit (.pointer (some a)))=>.pu none (some (g,.lit (.pointer (some (a.add i)))))
  | _,_=>.bad
 | .indexAddr t x i=>y5p C.P g gb t (env.ev g x) (env.ev g i)
 | .index t x i=>match C.P.underlying t,env.ev g x,env.ev g i with
  | some (.array len e),some (.lit (.agg cs)),some (.lit (.int _ n))=>match (z5o C.P e||Qq (C.P.cellsOf e) 1)&&y48 C.P e&&!(Qq (C.P.cellsOf e) 0) with
   | true=>.px (leaves C.P 9 e) (λvs=>imp gb (yk7 n len cs.toList (C.P.cellsOf e) vs) g)
     λvs=>some (g,.lit (mkV (z5o C.P e) vs))
   | false=>.bad
  | _,_,_=>.bad
 | .load t (.tmp x)=>ybd C env g gb t x
 | .store t (.tmp x) y=>x60 C env g t x y
 | .alloc _=>match o.dst with
  | some d=>match C.pv d with
   | false=>ygu C.P env g gb o λb=>.pointer (some ⟨b,0,none⟩)
   | true=>ymt C.P env g o d
  | none=>.bad
 | .box _ _=>match o.dst with
  | some d=>match C.pv d with
   | false=>ygu C.P env g gb o λb=>.pointer (some ⟨b,0,none⟩)
   | true=>ymt C.P env g o d
  | none=>.bad
 | .buildSlice _ n _=>ygu C.P env g gb o λb=>.slice (some ⟨b,0,none⟩) n n
 | .makeMap _ none=>ygu C.P env g gb o λb=>.map (some b)
 | .build _ _=>ysr C.P env g o
 | .field _ _ _=>ysr C.P env g o
 | .extract _ _=>ysr C.P env g o
 | .makeFunc _ _ _=>ysr C.P env g o
 | .slice t x lo hi mx=>match C.P.underlying t,env.ev g x with
  | some (.slice e),some (.lit (.slice a len cp))=>match yl9 env g 0 lo,yl9 env g len hi,yl9 env g cp mx,(hi.isSome||!mx.isSome)&&!(Qq (C.P.cellsOf e) 0) with
   | some l,some h,some m,true=>.pu (some (imp gb (ykg l h m cp) g)) (some (g,.lit (.slice (x67 a (C.P.cellsOf e) l m) (h.toNat-l.toNat) (m.toNat-l.toNat))))
   | _,_,_,_=>.bad
  | _,_=>.bad
 | .makeSlice t l c=>match g,env.ev g l,env.ev g c,C.P.underlying t with
  | [],some (.lit (.int .i64 n)),some (.lit (.int .i64 m)),some (.slice e)=>match C.P.info? e with
   | some i=>match i.zero with
    | some z=>match Qu 0 i.size&&Qu 0 i.bytes&&Qq z.cells.size i.size with
     | true=>.al (some (ykb n m i.bytes)) (λb=>some ([],.lit (.slice (some ⟨b,0,none⟩) n.toNat n.toNat))) (.cells (Qp n.toNat z.cells.toList).flatten.toArray e (0,0))
     | false=>.bad
    | none=>.bad
   | none=>.bad
  | _,_,_,_=>.bad
 | .call c=>match c.callee with
  | .value x=>match opsv env g c.args.toList with
   | some args=>zbs C g gb x args (shp C.P o.type) env
   | none=>.bad
  | .builtin b=>zbp C env g o c b
  | _=>.bad
 | .lookup t x i ok=>match env.ev g x,env.ev g i with
  | some (.lit xv),some (.lit iv)=>.rd (shp C.P o.type).leaves (λvs H=>imp gb (OpQ C.P (x07 (Instr.lookup t xv iv ok)) H ((shp C.P o.type).mk vs)) g) λvs=>some (g,.lit ((shp C.P o.type).mk vs))
  | _,_=>.bad
 | .mapUpdate t m x y=>match g,env.ev g m,env.ev g x,env.ev g y with
  | [],some (.lit mv),some (.lit xv),some (.lit yv)=>.ef (x06 (Instr.mapUpdate t mv xv yv)) (.one false [.val])
  | _,_,_,_=>.bad
 | .mapEntry t m x=>match g,env.ev g m,env.ev g x with
  | [],some (.lit mv),some (.lit xv)=>.ef (x07 (Instr.mapEntry t mv xv)) (shp C.P o.type)
  | _,_,_=>.bad
 | .entryStore t m x y=>match g,env.ev g m,env.ev g x,env.ev g y with
  | [],some (.lit mv),some (.lit xv),some (.lit yv)=>.ef (x06 (Instr.entryStore t mv xv yv)) (.one false [.val])
  | _,_,_,_=>.bad
 | .range t x=>match g,env.ev g x with
  | [],some (.lit xv)=>.ef (x07 (Instr.range t xv)) (.one false [.ptr])
  | _,_=>.bad
 | .next x b=>match g,env.ev g x with
  | [],some (.lit xv)=>.ef (x07 (Instr.next xv b o.type)) (.nx [(false,[.val]),(false,[.val])])
  | _,_=>.bad
 | .entry x=>match g,env.ev g x with
  | [],some (.lit xv)=>.ef (x07 (Instr.entry xv)) (.tup C.rn)
  | _,_=>.bad
 | _=>.bad
end Go.Eng
namespace Go.Eng
variable{d B t:Nat}{ds:List Nat}{ids:Nat->Nat}{H:Hp}{w:World}{b:Bool}{env:Env}
structure St where
 env:Env
 priv:z1r
def V0.val(ids:Nat->Nat):V0->Value
 | .lit v=>v
 | .ptr j off=>.pointer (some ⟨ids j,off,none⟩)
def V0.known(pr:z1r):V0->Prop
 | .lit _=>True
 | .ptr j _=>pr j≠none
def gH(t:Array Value)(g:Gd):Prop:=∀p∈g,t.getD p.1 undef=.bool p.2
def dfr(D:Nat):Deferred:={ target:=.collected D,args:=#[] }
structure z0n(n:Nat)(ds:List Nat)(env:Env)(pr:z1r)(ids:Nat->Nat)(a:Act):Prop where
 size:a.tmps.size=n
 defers:a.defers=ds.map dfr
 ok:∀t g v,env t=some (g,v)->gH a.tmps g->a.tmps.getD t undef=v.val ids
 no:∀t g v,env t=some (g,v)->¬ gH a.tmps g->a.tmps.getD t undef=undef
 known:∀t g v,env t=some (g,v)->v.known pr
structure z1t(ds:List Nat)(pr:z1r)(ids:Nat->Nat)(H:Hp)(w:World)(B:Nat):Prop where
 blk:∀j cs t,pr j=some (cs,t)->w.heap[ids j]?=some (.cells cs.toArray t (0,0))
 hid:∀j,pr j≠none->H (ids j)=none
 low:∀j,pr j≠none->B<=ids j
 inj:∀j k,pr j≠none->pr k≠none->ids j=ids k->j=k
 dfs:∀D∈ds,B<=D/\H D=none/\w.heap[D]?=some (.deferred (some []))
def Sim(n:Nat)(ds:List Nat)(w0:World)(H0:Hp)(st:St)(H:Hp)(a:Act)(w:World):Prop :=
 ∃ids,z0n n ds st.env st.priv ids a/\z1t ds st.priv ids H w w0.heap.size/\Tr w0 H0 w H
theorem z1t.lt{pr:z1r}(h:z1t ds pr ids H w B){j:Nat}(hj:pr j≠none):ids j<w.heap.size:=by
 cases hx:pr j with
 | none=>exact absurd hx hj
 | some x =>
  obtain⟨cs,t⟩:=x;have:=h.blk j cs t hx;exact(Qb.1 this).1
theorem z1t.tr{pr:z1r}{H':Hp}{w':World}(h:z1t ds pr ids H w B)(ht:Tr w H w' H'):z1t ds pr ids H' w' B:=by
 refine⟨λj cs t hj=>?_,λj hj=>?_,h.low,h.inj,λD hD=>?_⟩
 ·have hk:pr j≠none:=by simp[hj]
  rw[ht.frame (ids j) (h.lt hk) (h.hid j hk)];exact h.blk j cs t hj
 ·exact ht.none (h.lt hj) (h.hid j hj)
 ·obtain⟨h1,h2,h3⟩:=h.dfs D hD;have hl:=(Qb.1 h3).1;exact⟨h1,ht.none hl h2,(ht.frame D hl h2).trans h3⟩
theorem Nat.beq_iff(a b:Nat):Qq a b=true↔a=b:=⟨Qx,λh=>by subst h;exact Qs a⟩
theorem ye2{d:Nat}:∀{g:Gd},ye1 d g=true↔∃p∈g,p.1=d
 | []=>by simp[ye1]
 | p :: g=>by simp[ye1,ye2 (g:=g)]
theorem z8l{a:Bool}:bEq a b=true↔a=b:=by cases a <;> cases b <;> simp[bEq]
theorem y1a{s:Nat}{w:Bool}:∀{g:Gd},gIn s w g=true↔(s,w)∈g
 | []=>by simp[gIn]
 | (a,b) :: g=>by
  simp only[gIn,Qh,Qg,Nat.beq_iff,z8l,y1a (g:=g),Qo,Q1.injEq];constructor
  ·rintro(⟨h1,h2⟩|h)
   ·exact .inl ⟨h1.symm,h2.symm⟩
   ·exact .inr h
  ·rintro(⟨h1,h2⟩|h)
   ·exact .inl ⟨h1.symm,h2.symm⟩
   ·exact .inr h
theorem y1h:∀{g' g:Gd},y1g g' g=true↔∀p∈g',p∈g
 | [],g=>by simp[y1g]
 | (a,b) :: g',g=>by simp[y1g,y1a,y1h (g':=g')]
theorem y17:∀{g g':Gd},gEq g g'=true->g=g'
 | [],[],_=>rfl
 | (a,b) :: g,(c,d) :: g',h=>by
  simp only[gEq,Qg,Nat.beq_iff,z8l] at h;obtain⟨⟨h1,h2⟩,h3⟩:=h;rw[h1,h2,y17 h3]
 | [],_ :: _,h=>by simp[gEq] at h
 | _ :: _,[],h=>by simp[gEq] at h
theorem Env.put_at(env:Env)(d:Nat)(x:Sl):env.put d x d=x:=by
 have h:Qq d d=true:=Qs d;simp only[Env.put,h]
theorem Env.put_ne{x:Sl}(h:t≠d):env.put d x t=match env t with
  | some (g,v)=>match ye1 d g with
   | true=>none
   | false=>some (g,v)
  | none=>none:=by
 have hb:Qq t d=false:=by
  cases hx:Qq t d
  ·rfl
  ·exact absurd ((Nat.beq_iff t d).1 hx) h
 simp only[Env.put,hb] <;> rfl
theorem Env.put_some{x:Sl}{g:Gd}{v:V0}(h:t≠d)(hp:env.put d x t=some (g,v)):env t=some (g,v)/\ye1 d g=false:=by
 rw[Env.put_ne h] at hp;cases hx:env t with
 | none=>simp[hx] at hp
 | some y =>
  obtain⟨g',v'⟩:=y;simp only[hx] at hp;cases hm:ye1 d g' with
  | true=>simp[hm] at hp
  | false=>simp only[hm,Qy.injEq,Q1.injEq] at hp;obtain⟨rfl,rfl⟩:=hp;exact⟨rfl,hm⟩
section
variable{n:Nat}{ds:List Nat}{env:Env}{pr:z1r}{ids:Nat->Nat}{a:Act}
theorem y19{t:Array Value}{g g':Gd}(h:gH t g)(hs:y1g g' g=true):gH t g':=λp hp=>h p (y1h.1 hs p hp)
theorem z0n.ev(h:z0n n ds env pr ids a){g:Gd}(hg:gH a.tmps g){x:Operand}{v:V0}(hx:env.ev g x=some v):a.eval x=v.val ids:=by
 cases x with
 | tmp t =>
  simp only[Env.ev] at hx;cases he:env t with
  | none=>simp[he] at hx
  | some y =>
   obtain⟨g',v'⟩:=y;simp only[he] at hx;cases hs:y1g g' g with
   | false=>simp[hs] at hx
   | true =>
    simp only[hs,Qy.injEq] at hx;subst hx;exact h.ok t g' v' he (y19 hg hs)
 | const c=>simp only[Env.ev,Qy.injEq] at hx;subst hx;rfl
 | func f=>simp only[Env.ev,Qy.injEq] at hx;subst hx;rfl
 | global g=>simp[Env.ev] at hx
theorem z0n.evk(h:z0n n ds env pr ids a){g:Gd}{x:Operand}{v:V0}(hx:env.ev g x=some v):v.known pr:=by
 cases x with
 | tmp t =>
  simp only[Env.ev] at hx;cases he:env t with
  | none=>simp[he] at hx
  | some y =>
   obtain⟨g',v'⟩:=y;simp only[he] at hx;cases hs:y1g g' g with
   | false=>simp[hs] at hx
   | true =>
    simp only[hs,Qy.injEq] at hx;subst hx;exact h.known t g' v' he
 | const c=>simp only[Env.ev,Qy.injEq] at hx;subst hx;trivial
 | func f=>simp only[Env.ev,Qy.injEq] at hx;subst hx;trivial
 | global g=>simp[Env.ev] at hx
theorem xac(b:Bool):undef≠.bool b:=by simp[undef]
theorem z0n.gb(h:z0n n ds env pr ids a):∀{g:Gd}{b:Bool},env.gb g=some b->(gH a.tmps g↔b=true)
 | [],b,hb=>by simp only[Env.gb,Qy.injEq] at hb;subst hb;simp[gH]
 | (s,w) :: g,b,hb=>by
  simp only[Env.gb] at hb;cases he:env s with
  | none=>simp[he] at hb
  | some y =>
   obtain⟨g',v⟩:=y;cases v with
   | ptr j o=>simp[he] at hb
   | lit v =>
    cases v with
    | bool x =>
     simp only[he] at hb;cases hq:gEq g' g with
     | false=>simp[hq] at hb
     | true =>
      have e:=y17 hq;subst e;simp only[hq] at hb;have hok:=h.ok s g' _ he;have hno:=h.no s g' _ he;have split:gH a.tmps ((s,w) :: g')↔gH a.tmps g'/\a.tmps.getD s undef=.bool w:=by
       simp only[gH,Qo,forall_eq_or_imp];exact And.comm
      rw[split];have key:(gH a.tmps g'/\a.tmps.getD s undef=.bool w)↔(gH a.tmps g'/\x=w):=by
       constructor
       ·rintro⟨h1,h2⟩;refine⟨h1,?_⟩;rw[hok h1] at h2;simpa[V0.val] using h2
       ·rintro⟨h1,rfl⟩;exact⟨h1,hok h1⟩
      rw[key];cases g' with
      | nil=>cases w <;> simp at hb <;> subst hb <;> simp[gH]
      | cons p g'' =>
       cases hgb:env.gb (p :: g'') with
       | none=>simp[hgb] at hb
       | some y =>
        have ih:=z0n.gb h hgb;rw[ih];cases w <;> simp[hgb] at hb <;> subst hb <;> simp
    | _=>simp[he] at hb
theorem y2c{g:Gd}{s:Nat}{w:Bool}(hb:env.gb ((s,w) :: g)=some b):∃x,env s=some (g,.lit (.bool x)):=by
 simp only[Env.gb] at hb;cases he:env s with
 | none=>simp[he] at hb
 | some y =>
  obtain⟨g',v⟩:=y;cases v with
  | ptr j o=>simp[he] at hb
  | lit v =>
   cases v with
   | bool x =>
    simp only[he] at hb;cases hq:gEq g' g with
    | false=>simp[hq] at hb
    | true=>rw[y17 hq];exact⟨x,rfl⟩
   | _=>simp[he] at hb
theorem z0n.wanted(h:z0n n ds env pr ids a){ops:Array Oper}{f:Nat}{o:Oper}{g:Gd}{b:Bool}(hc:zl0 ops f o=some g)(hb:env.gb g=some b) :
  Region.wanted o (yielded ops a.tmps)=true↔gH a.tmps g:=by
 cases f with
 | zero=>simp[zl0] at hc
 | succ f =>
  simp only[zl0] at hc;unfold Region.wanted;cases ho:o.guard with
  | none=>simp only[ho,Qy.injEq] at hc;subst hc;simp[gH]
  | some jw =>
   obtain⟨j,w⟩:=jw;simp only[ho] at hc;cases hj:ops[j]? with
   | none=>simp[hj] at hc
   | some oj =>
    simp only[hj] at hc;cases hd:oj.dst with
    | none=>simp[hd] at hc
    | some s =>
     cases hg:zl0 ops f oj with
     | none=>simp[hd,hg] at hc
     | some g' =>
      simp only[hd,hg,Qy.injEq] at hc;subst hc;obtain⟨x,hx⟩:=y2c hb;have hy:yielded ops a.tmps j=match a.tmps[s]? with
        | some (.bool b)=>some b
        | _=>none:=by
       unfold yielded;simp only[hj,hd,Option.bind_some];cases a.tmps[s]? with
       | none=>rfl
       | some v=>cases v <;> rfl
      simp only[hy];have hok:=h.ok s g' _ hx;have hno:=h.no s g' _ hx;by_cases hgh:gH a.tmps g'
      ·have e:=hok hgh;have e':a.tmps[s]?=some (.bool x):=by
        rw[Qd] at e;cases hs:a.tmps[s]? with
        | none=>rw[hs] at e;exact absurd e (xac x)
        | some v=>rw[hs] at e;simpa[V0.val] using e
       simp only[e'];constructor
       ·intro hw;have:x=w:=by simpa using hw
        subst this;intro p hp;rcases Qo.1 hp with rfl|hp
        ·exact e
        ·exact hgh p hp
       ·intro hall;have e2:=hall (s,w) (List.mem_cons_self ..);rw[e] at e2;have:x=w:=by simpa[V0.val] using e2
        simp[this]
      ·have e:=hno hgh;have hne:∀c,a.tmps[s]?≠some (.bool c):=by
        intro c hc;rw[Qd,hc] at e;exact xac c (by simpa using e.symm)
       constructor
       ·intro hw;exfalso;revert hw;cases hs:a.tmps[s]? with
        | none=>simp
        | some v =>
         cases v with
         | bool c=>exact absurd hs (hne c)
         | _=>simp
       ·intro hall;exact absurd (λp hp=>hall p (List.mem_cons_of_mem _ hp)) hgh
theorem y2x(t:Array Value)(d s:Nat)(v:Value)(hd:d<t.size):(t.setIfInBounds d v).getD s undef=if s=d then v else t.getD s undef:=by
 by_cases h:s=d
 ·subst h;simp[hd]
 ·simp[h,Array.getElem?_setIfInBounds_ne (λe:d=s=>h e.symm)]
theorem y18{t:Array Value}{v:Value}{g:Gd}(hd:d<t.size)(hm:ye1 d g=false):gH (t.setIfInBounds d v) g↔gH t g:=by
 have hne:∀p∈g,p.1≠d:=λp hp e=>by
  have:=ye2.2 ⟨p,hp,e⟩;rw[hm] at this;cases this
 constructor
 ·intro h p hp;have:=h p hp;rwa [y2x _ _ _ _ hd,Zn (hne p hp)] at this
 ·intro h p hp;rw[y2x _ _ _ _ hd,Zn (hne p hp)];exact h p hp
theorem z0n.put(h:z0n n ds env pr ids a){d:Nat}{x:Sl}{v:Value}(hd:d<n)
  (hx:∀g v0,x=some (g,v0)->ye1 d g=false/\(gH a.tmps g->v=v0.val ids)/\(¬ gH a.tmps g->v=undef)/\v0.known pr) :
  z0n n ds (env.put d x) pr ids (a.put (some d) v):=by
 have hd':d<a.tmps.size:=by rw[h.size];exact hd
 refine⟨by simp[Act.put,h.size],by simp[Act.put,h.defers],λt g u ht hg=>?_,λt g u ht hg=>?_,λt g u ht=>?_⟩
 ·simp only[Act.put] at hg ⊢;rw[y2x _ _ _ _ hd'];by_cases e:t=d
  ·subst e;rw[Env.put_at] at ht;obtain⟨h1,h2,_⟩:=hx g u ht;rw[Zp rfl];exact h2 ((y18 hd' h1).1 hg)
  ·rw[Zn e];obtain⟨h1,h2⟩:=Env.put_some e ht;exact h.ok t g u h1 ((y18 hd' h2).1 hg)
 ·simp only[Act.put] at hg ⊢;rw[y2x _ _ _ _ hd'];by_cases e:t=d
  ·subst e;rw[Env.put_at] at ht;obtain⟨h1,_,h2,_⟩:=hx g u ht;rw[Zp rfl];exact h2 (λh'=>hg ((y18 hd' h1).2 h'))
  ·rw[Zn e];obtain⟨h1,h2⟩:=Env.put_some e ht;exact h.no t g u h1 (λh'=>hg ((y18 hd' h2).2 h'))
 ·by_cases e:t=d
  ·subst e;rw[Env.put_at] at ht;exact(hx g u ht).2.2.2
  ·exact h.known t g u (Env.put_some e ht).1
theorem z0n.opsv(h:z0n n ds env pr ids a){g:Gd}(hg:gH a.tmps g):∀{xs:List Operand}{vs:List Value},opsv env g xs=some vs->xs.map a.eval=vs
 | [],vs,hv=>by simp only[Eng.opsv,Qy.injEq] at hv;subst hv;rfl
 | x :: xs,vs,hv=>by
  simp only[Eng.opsv] at hv;cases hx:env.ev g x with
  | none=>simp[hx] at hv
  | some v =>
   cases v with
   | ptr j o=>simp[hx] at hv
   | lit v =>
    simp only[hx] at hv;cases hr:Eng.opsv env g xs with
    | none=>simp[hr] at hv
    | some us =>
     simp only[hr,Qy.injEq] at hv;subst hv;rw[List.map_cons,z0n.opsv h hg hr,h.ev hg hx];rfl
theorem z0n.rho(h:z0n n ds env pr ids a){g:Gd}(hg:gH a.tmps g):∀{xs:List Operand},z5x env g xs=true->∀x∈xs,a.eval x=rho env g x
 | [],_,x,hx=>by cases hx
 | y :: ys,hv,x,hx=>by
  simp only[z5x] at hv;cases hy:env.ev g y with
  | none=>simp[hy] at hv
  | some v =>
   cases v with
   | ptr j o=>simp[hy] at hv
   | lit v =>
    simp only[hy] at hv;rcases Qo.1 hx with rfl|hx
    ·rw[h.ev hg hy];simp[Eng.rho,hy,V0.val]
    ·exact z0n.rho h hg hv x hx
end
theorem yst{α:Type}{P:Program}:∀{s:Sem α}{v:α},yss P s=some v->∀w,s.run P w=.ok v w
 | .pure a,v,h,w=>by simp only[yss,Qy.injEq] at h;subst h;simp[Q5]
 | .program k,v,h,w=>by simp only[yss] at h;simp only[Q5];exact yst h w
 | .mark m k,v,h,w=>by simp only[yss] at h;simp only[Q5];exact yst h w
 | .load ..,_,h,_ | .store ..,_,h,_ | .new ..,_,h,_ | .shape ..,_,h,_ | .freeze ..,_,h,_ | .frozen ..,_,h,_ | .getObj ..,_,h,_ | .setObj ..,_,h,_
 | .choose ..,_,h,_ | .sys ..,_,h,_ | .halt ..,_,h,_=>by simp[yss] at h
theorem ygw{α:Type}{P:Program}:∀{s:Sem α}{ob:Obj}{f:Nat->Option α},ygv P s=some (ob,f)->∀w v,f w.heap.size=some v ->
  s.run P w=.ok v { w with heap:=w.heap.push ob }
 | .new o k,ob,f,h,w,v,hv=>by
  simp only[ygv,Qy.injEq,Q1.injEq] at h;obtain⟨rfl,rfl⟩:=h;simp only[Q5];exact yst hv _
 | .program k,ob,f,h,w,v,hv=>by simp only[ygv] at h;simp only[Q5];exact ygw h w v hv
 | .mark m k,ob,f,h,w,v,hv=>by simp only[ygv] at h;simp only[Q5];exact ygw h w v hv
 | .pure ..,_,_,h,_,_,_ | .load ..,_,_,h,_,_,_ | .store ..,_,_,h,_,_,_ | .shape ..,_,_,h,_,_,_ | .freeze ..,_,_,h,_,_,_ | .frozen ..,_,_,h,_,_,_
 | .getObj ..,_,_,h,_,_,_ | .setObj ..,_,_,h,_,_,_ | .choose ..,_,_,h,_,_,_ | .sys ..,_,_,h,_,_,_ | .halt ..,_,_,h,_,_,_=>by simp[ygv] at h
end Go.Eng
namespace Go.Eng
variable{t:TypeId}{v:Value}{wr:Bool}{ob:Option Prop}{z:Int}
theorem xco(h:inI z):Qj.wrap z=z:=by
 obtain⟨h1,h2⟩:=h;have e:Qj.wrap z=if z%18446744073709551616>=9223372036854775808 then z%18446744073709551616-18446744073709551616 else z%18446744073709551616:=by
  simp[Ql,Qn,Qm]
 rw[e];split <;> omega
theorem xcq(z:Int):IntKind.u64.wrap z=xcl z:=by
 simp[Ql,Qn,Qm,xcl]
theorem y5x{p:Prop}{g:Gd}(h:imp true p g):p:=by
 cases g with
 | nil=>exact h
 | cons a g=>exact h rfl
section
variable{P:Program}
def z21(P:Program)(s:Sem Value)(v:Value):Prop:=∀w,s.run P w=.ok v w
theorem z7k{g:Gd}{k:IntKind}(h:z7j wr g true k z=some (ob,v))(ho:∀p,ob=some p->p):v=.int k (k.wrap z):=by
 unfold z7j at h;split at h
 ·split at h
  ·simp only[yes,Qy.injEq,Q1.injEq] at h;obtain⟨rfl,rfl⟩:=h;rfl
  simp only[ifs,Qy.injEq,Q1.injEq] at h;obtain⟨rfl,rfl⟩:=h;rw[xco (y5x (ho _ rfl))]
 ·simp only[yes,Qy.injEq,Q1.injEq] at h;obtain⟨rfl,rfl⟩:=h;rw[xcq]
 ·simp only[yes,Qy.injEq,Q1.injEq] at h;obtain⟨rfl,rfl⟩:=h;rfl
theorem zad{g:Gd}{op:BinOp}{k:IntKind}{x y:Int}(t:TypeId)(h:zac wr g true op k x y=some (ob,v))(ho:∀p,ob=some p->p) :
  z21 P (binOp op t (.int k x) (.int k y)) v:=by
 intro w;cases op <;> simp only[zac] at h
 case add=>rw[z7k h ho];simp[binOp,Op.intArith]
 case sub=>rw[z7k h ho];simp[binOp,Op.intArith]
 case mul=>rw[z7k h ho];simp[binOp,Op.intArith]
 case quo =>
  unfold ytz at h;split at h
  ·simp only[ifs,Qy.injEq,Q1.injEq] at h;obtain⟨rfl,rfl⟩:=h;obtain⟨h1,h2⟩:=y5x (ho _ rfl);have h1:y≠0:=h1;simp[binOp,Op.intDiv,h1,xco h2]
  ·simp only[ifs,Qy.injEq,Q1.injEq] at h;obtain⟨rfl,rfl⟩:=h;have h1:y≠0:=y5x (ho _ rfl);simp[binOp,Op.intDiv,h1,xcq]
  ·simp only[ifs,Qy.injEq,Q1.injEq] at h;obtain⟨rfl,rfl⟩:=h;have h1:y≠0:=y5x (ho _ rfl);simp[binOp,Op.intDiv,h1]
 case rem =>
  simp only[ifs,Qy.injEq,Q1.injEq] at h;obtain⟨rfl,rfl⟩:=h;have h1:y≠0:=y5x (ho _ rfl);simp[binOp,Op.intDiv,h1]
 case shl =>
  simp only[ifs,Qy.injEq,Q1.injEq] at h;obtain⟨rfl,rfl⟩:=h;have h1:0<=y:=y5x (ho _ rfl);simp[binOp,Op.shift,Qi.2 h1]
 case shr =>
  simp only[ifs,Qy.injEq,Q1.injEq] at h;obtain⟨rfl,rfl⟩:=h;have h1:0<=y:=y5x (ho _ rfl);simp[binOp,Op.shift,Qi.2 h1]
 all_goals first
  | (simp only[yes,Qy.injEq,Q1.injEq] at h;obtain⟨rfl,rfl⟩:=h;simp[binOp,Op.intCmp,Op.intBits];done)
  | (simp at h;done)
theorem zuh{op:BinOp}{x y:Operand}{k k':IntKind}{m n:Int}(w:World):(eqGuard op t x y (.int k m) (.int k' n)).run P w=.ok () w:=by
 unfold eqGuard;split <;> simp
theorem zug{op:BinOp}{x y:Operand}{m n:Bool}(w:World):(eqGuard op t x y (.bool m) (.bool n)).run P w=.ok () w:=by
 unfold eqGuard;split <;> simp
theorem zui{op:BinOp}{x y:Operand}{p q:Option Addr}{m n m' n':Nat}(w:World):(eqGuard op t x y (.slice p m n) (.slice q m' n')).run P w=.ok () w:=by
 unfold eqGuard;split <;> simp
theorem zuf{op:BinOp}{x y:Operand}{c d:Array Value}(w:World)(h:P.eqGuardType P.depth t=false):(eqGuard op t x y (.agg c) (.agg d)).run P w=.ok () w:=by
 unfold eqGuard;split <;> simp[h]
def oB:Option Bool->Bool
 | none=>true
 | some b=>b
theorem yjk(acc:Option Bool)(b:Bool):oB (z6y acc b)=(oB acc&&b):=by cases acc <;> simp[z6y,oB]
theorem xad{x:TypeDesc}(h:P.underlying t=some x):∃i,P.info? t=some i:=by
 unfold Program.underlying at h;cases hi:P.info? t with
 | none=>simp[hi] at h
 | some i=>exact⟨i,rfl⟩
theorem run_isAgg{x:TypeDesc}(h:P.underlying t=some x)(w:World):(isAgg t).run P w=.ok (z5o P t) w:=by
 unfold isAgg z5o;rw[Q4,run_underlying h,Q2,h];cases x <;> simp
theorem run_sizeOf{x:TypeDesc}(h:P.underlying t=some x)(w:World):(sizeOf t).run P w=.ok (P.cellsOf t) w:=by
 obtain⟨i,hi⟩:=xad h;simp[sizeOf,typeInfo,hi,Program.cellsOf]
theorem yys{cs:Array Value}{off:Nat}{x:TypeDesc}(h:ynq P t cs off=some v)(hu:P.underlying t=some x)(w:World):(part t cs off).run P w=.ok v w:=by
 unfold ynq at h;unfold part;rw[Q4,run_isAgg hu,Q2];cases ha:z5o P t with
 | true =>
  simp only[ha,Qy.injEq] at h;subst h;simp[run_sizeOf hu]
 | false =>
  simp only[ha] at h;simp[h]
theorem zuk{d:Nat}{acc acc':Option Bool}{x y:Value}(h:eqV P d acc t x y=some acc'):∃u,P.underlying t=some u:=by
 cases d with
 | zero=>simp[eqV] at h
 | succ d =>
  simp only[eqV] at h;split at h <;> first|exact⟨_,by assumption⟩|cases h
theorem yyo(d:Nat)(ih:∀(acc acc':Option Bool)(t:TypeId)(x y:Value),eqV P d acc t x y=some acc' ->
  ∃r,(∀D w,d<=D->(Op.equalIn D t x y).run P w=.ok r w)/\oB acc'=(oB acc&&r)) (xs ys:Array Value):∀(fs:List Field)(acc acc':Option Bool),
  zue P (eqV P d) xs ys acc fs=some acc'->∃r,(∀D w,d<=D->(Op.eqFields D xs ys fs).run P w=.ok r w)/\oB acc'=(oB acc&&r)
 | [],acc,acc',h=>by
  simp only[zue,Qy.injEq] at h;subst h;exact⟨true,λD w _=>by simp[Op.eqFields],by simp⟩
 | f :: fs,acc,acc',h=>by
  simp only[zue] at h;split at h
  ·rename_i a b hn ha hb;split at h
   ·rename_i acc1 h1;obtain⟨r1,hr1,e1⟩:=ih _ _ _ _ _ h1;obtain⟨r2,hr2,e2⟩:=yyo d ih xs ys fs acc1 acc' h;obtain⟨u,hu⟩:=zuk h1;refine⟨r1&&r2,λD w hD=>?_,by rw[e2,e1,Bool.and_assoc]⟩;have hn':f.name ≠ "_":=by simpa using hn
    rw[Op.eqFields,Zp hn'];simp only[Q4,yys ha hu,yys hb hu,Q2,hr1 D w hD,Sem.run_ite];cases r1 with
    | true=>simp[hr2 D w hD]
    | false=>simp
   ·cases h
  ·cases h
theorem yyp:∀(d:Nat)(acc acc':Option Bool)(t:TypeId)(x y:Value),eqV P d acc t x y=some acc' ->
  ∃r,(∀D w,d<=D->(Op.equalIn D t x y).run P w=.ok r w)/\oB acc'=(oB acc&&r)
 | 0,_,_,_,_,_,h=>by simp[eqV] at h
 | d+1,acc,acc',t,x,y,h=>by
  simp only[eqV] at h;split at h
  ·rename_i k k1 a k2 b hu;split at h
   ·rename_i hk;have hk':k1=k2:=Zr hk;subst hk';cases h;refine⟨a==b,λD w hD=>?_,yjk _ _⟩;obtain⟨D,rfl⟩:∃D',D=D'+1:=⟨D-1,by omega⟩;exact run_equalIn_int w D t k1 k a b hu
   ·cases h
  ·rename_i a b hu;cases h;refine⟨a==b,λD w hD=>?_,yjk _ _⟩;obtain⟨D,rfl⟩:∃D',D=D'+1:=⟨D-1,by omega⟩;exact run_equalIn_bool' w D t a b hu
  ·rename_i fs xs ys hu;split at h
   ·cases h
   ·rename_i hp;obtain⟨r,hr,e⟩:=yyo d (yyp d) xs ys _ _ _ h;refine⟨r,λD w hD=>?_,e⟩;obtain⟨D,rfl⟩:∃D',D=D'+1:=⟨D-1,by omega⟩;have hf:P.fieldsOf t=fs:=by simp[Program.fieldsOf,hu]
    rw[run_equalIn_struct w D t xs ys (by rw[hf];exact hu) hp,hf];exact hr D w (by omega)
  ·cases h
theorem zae{g:Gd}{op:BinOp}{y:Operand}{A B:Value}(x:Operand)(h:bin P wr g true op t y A B=some (ob,v))
  (ho:∀p,ob=some p->p) (hy:∀u,y=.const u->u=B):z21 P (do eqGuard op t x y A B;binOp op t A B) v:=by
 intro w;unfold bin at h;split at h
 ·split at h
  ·rename_i k m k' n;rw[Q4,zuh,Q2];split at h
   ·simp only[zac,ifs,Qy.injEq,Q1.injEq] at h;obtain⟨rfl,rfl⟩:=h;have h1:0<=n:=y5x (ho _ rfl);simp[binOp,Op.shift,Qi.2 h1]
   ·simp only[zac,ifs,Qy.injEq,Q1.injEq] at h;obtain⟨rfl,rfl⟩:=h;have h1:0<=n:=y5x (ho _ rfl);simp[binOp,Op.shift,Qi.2 h1]
   ·split at h
    ·rename_i hk;have hk':k=k':=Zr hk;subst hk';exact zad t h ho w
    ·cases h
  ·cases h
 ·split at h
  ·rename_i hu _ _ m n;rw[Q4,zug,Q2];split at h
   ·simp only[yes,Qy.injEq,Q1.injEq] at h;obtain⟨rfl,rfl⟩:=h;simp[binOp,Op.equal,Op.maxDepth,run_equalIn_bool' w 9999 t m n hu]
   ·simp only[yes,Qy.injEq,Q1.injEq] at h;obtain⟨rfl,rfl⟩:=h;simp[binOp,Op.equal,Op.maxDepth,run_equalIn_bool' w 9999 t m n hu]
   ·cases h
  ·cases h
 ·rename_i e hu;split at h
  ·rename_i p q r hn;have hB:B=.slice none 0 0:=by
    unfold y7a at hn;split at hn
    ·exact(hy _ rfl).symm
    ·cases hn
   subst hB;rw[Q4,zui,Q2];have heq0:(Op.equalIn (9999+1) t (.slice p q r) (.slice none 0 0)).run P w=.ok p.isNone w:=by
    rw[Op.equalIn,Q4,run_underlying hu,Q2];cases p <;> rfl
   have heq:(Op.equal t (.slice p q r) (.slice none 0 0)).run P w=.ok p.isNone w:=heq0;split at h
   ·simp only[yes,Qy.injEq,Q1.injEq] at h;obtain⟨rfl,rfl⟩:=h;simp[binOp,heq]
   ·simp only[yes,Qy.injEq,Q1.injEq] at h;obtain⟨rfl,rfl⟩:=h;simp[binOp,heq]
   ·cases h
  ·cases h
 ·split at h
  ·rename_i xs ys;split at h
   ·rename_i r hm he;rw[Q4,zuf w hm,Q2];obtain⟨r',hr,e⟩:=yyp 9 _ _ _ _ _ he;have e':r=r':=by simpa[oB] using e
    subst e';split at h
    ·simp only[yes,Qy.injEq,Q1.injEq] at h;obtain⟨rfl,rfl⟩:=h;simp[binOp,Op.equal,Op.maxDepth,hr 10000 w (by omega)]
    ·simp only[yes,Qy.injEq,Q1.injEq] at h;obtain⟨rfl,rfl⟩:=h;simp[binOp,Op.equal,Op.maxDepth,hr 10000 w (by omega)]
    ·cases h
   ·cases h
  ·cases h
 ·cases h
end
end Go.Eng
namespace Go.Eng
variable{A:Value}{tc:Nat}{mk:Nat->Value}{gb:Bool}
def SlV(ids:Nat->Nat)(x:Sl)(v:Value):Prop:=∀g1 v0,x=some (g1,v0)->v=v0.val ids
def SlS(g:Gd)(pr:z1r)(x:Sl):Prop:=∀g1 v0,x=some (g1,v0)->g1=g/\v0.known pr
theorem SlV.lit{g:Gd}{ids:Nat->Nat}{v:Value}:SlV ids (some (g,.lit v)) v:=λ_ _ h=>by cases h;rfl
theorem SlV.none{ids:Nat->Nat}{v:Value}:SlV ids none v:=λ_ _ h=>by cases h
theorem SlS.lit{g:Gd}{pr:z1r}{v:Value}:SlS g pr (some (g,.lit v)):=λ_ _ h=>by cases h;exact⟨rfl,trivial⟩
theorem SlS.none{g:Gd}{pr:z1r}:SlS g pr none:=λ_ _ h=>by cases h
theorem SlS.ptr{g:Gd}{pr:z1r}{j o:Nat}(h:pr j≠Qz):SlS g pr (some (g,.ptr j o)):=λ_ _ h'=>by cases h';exact⟨rfl,h⟩
def NFs(g:Gd)(pr:z1r):NF->Prop
 | .bad=>True
 | .pu _ x=>SlS g pr x
 | .px _ _ x=>∀vs,SlS g pr (x vs)
 | .rd _ _ x=>∀vs,SlS g pr (x vs)
 | .ow f=>∀x pr',f pr=some (x,pr')->SlS g pr' x/\(g≠[]->pr'=pr)
 | .al _ x _=>g=[]/\∀b,SlS g pr (x b)
 | .ag _ x _=>∀b,SlS g pr (x b)
 | .cf g0 _ _ _=>g=[]/\g0=[]
 | .cg _ g0 _ _ _=>g0=g
 | .ce _ _ _=>g=[]
 | .cy _ _ _=>g=[]
 | .cv _ _ _=>g=[]
 | .ef _ _=>g=[]
 | .st _ _=>g=[]
def NFm(P:Program)(n:Nat)(ds:List Nat)(o:Oper)(env:Env)(pr:z1r)(ids:Nat->Nat)(a:Act)(H:Hp)(w:World)(B:Nat):NF->Prop
 | .bad=>True
 | .pu ob x=>(∀p,ob=some p->p)->∃v,(execOp a.eval o).run P w=.ok (.value v) w/\SlV ids x v
 | .px ls ob x=>∀vs,vs.length=ls.length->ob vs->∃v,(execOp a.eval o).run P w=.ok (.value v) w/\SlV ids (x vs) v
 | .rd ls ob x=>∀vs,vs.length=ls.length->ob vs H->(∃v,(execOp a.eval o).run P w=.ok (.value v) w/\SlV ids (x vs) v) \/
   ∃f args,(execOp a.eval o).run P w=.ok (.enter f args) w/\Calls P f args w λe w'=>∃v,e=.returned v/\SlV ids (x vs) v/\Tr w H w' H
 | .ow f=>∀x pr',f pr=some (x,pr')->∃v w' ids',((execOp a.eval o).run P w=.ok (.value v) w'\/((execOp a.eval o).run P w=.ok .skip w'/\v=undef)) /\
   z2i w' H/\(∀w0 H0,w0.heap.size=B->Tr w0 H0 w H->Tr w0 H0 w' H)/\z1t ds pr' ids' H w' B/\z0n n ds env pr' ids' a/\SlV ids' x v
 | .al c x ob=>(∀p,c=some p->p)->∃v,(execOp a.eval o).run P w=.ok (.value v) { w with heap:=w.heap.push ob }/\SlV ids (x w.heap.size) v
 | .ag _ x ob=>∃v,(execOp a.eval o).run P w=.ok (.value v) { w with heap:=w.heap.push ob }/\SlV ids (x w.heap.size) v
 | .cf _ f args _=>(execOp a.eval o).run P w=.ok (.enter f args.toArray) w
 | .cg _ _ f args _=>(execOp a.eval o).run P w=.ok (.enter f args.toArray) w
 | .ce f args _=>(execOp a.eval o).run P w=.ok (.enter f args.toArray) w
 | .cy l args _=>(execOp a.eval o).run P w=(Instr.yield l args.toArray).run P w
 | .cv F args _=>∀f first cap,F=.func (.func f) first cap->zbt P f->(execOp a.eval o).run P w=.ok (.enter f (first++args.toArray++cap)) w
 | .ef s _=>execOp a.eval o=s
 | .st ad vs=>Hp.canStore H ad 0 vs->∃w',(execOp a.eval o).run P w=.ok .skip w'/\Tr w H w' (H.store ad 0 vs)
def z1i(P:Program):Prop:=∀(f:FuncId)(fn:Func),P.funcs[f]?=some fn->fn.body.isSome=true->(fn.name == "runtime.NumGoroutine")=false
section
variable{P:Program}{n:Nat}{ds:List Nat}{o:Oper}{env:Env}{pr:z1r}{ids:Nat->Nat}{a:Act}{H:Hp}{w:World}{B:Nat}{g:Gd}
theorem yie{x:Operand}(hE:z0n n ds env pr ids a):NFs g pr (yfk env g x):=by
 unfold yfk;cases hx:env.ev g x with
 | none=>exact SlS.none
 | some v=>intro g1 v0 h;cases h;exact⟨rfl,hE.evk hx⟩
theorem yhr{x:Operand}(hE:z0n n ds env pr ids a)(hg:gH a.tmps g)(ho:o.op=.move x\/o.op=.assign x):NFm P n ds o env pr ids a H w B (yfk env g x):=by
 have hr:(execOp a.eval o).run P w=.ok (.value (a.eval x)) w:=by
  rcases ho with ho|ho <;> simp[execOp,ho]
 unfold yfk;cases hx:env.ev g x with
 | none=>exact λ_=>⟨_,hr,SlV.none⟩
 | some v=>exact λ_=>⟨_,hr,λg1 v0 h=>by cases h;exact hE.ev hg hx⟩
theorem yig{x:Operand}(hE:z0n n ds env pr ids a):NFs g pr (yin env g x):=by
 unfold yin;split
 ·exact SlS.lit
 ·rename_i hx;exact SlS.ptr (z0n.evk (v:=.ptr _ _) hE hx)
 ·trivial
theorem yhu{x:Operand}(hE:z0n n ds env pr ids a)(hg:gH a.tmps g)(ho:o.op=.nilCheck x):NFm P n ds o env pr ids a H w B (yin env g x):=by
 unfold yin;split
 ·rename_i p hx;intro _;have e1:a.eval x=.pointer (some p):=hE.ev hg hx;refine⟨_,?_,SlV.lit⟩;simp only[execOp,ho];rw[e1];rfl
 ·rename_i j off hx;intro _;have e1:a.eval x=.pointer (some ⟨ids j,off,none⟩):=hE.ev hg hx;refine⟨_,?_,λg1 v0 h=>by cases h;rfl⟩;simp only[execOp,ho];rw[e1];rfl
 ·trivial
theorem yik{x y:Operand}:NFs g pr (ypn env g tc x y):=by
 unfold ypn;split
 ·split
  ·exact SlS.lit
  ·trivial
 ·trivial
theorem ypp{x:Bool}{p q:Operand}{B v:Value}(h:ypo x p q A B=some v)(hp:∀u,p=.const u->u=A)(hq:∀u,q=.const u->u=B):v=if x then A else B:=by
 unfold ypo at h;split at h
 ·rename_i b c;split at h
  ·have:=hp _ rfl;cases this;cases h;cases x <;> simp
  ·have:=hq _ rfl;cases this;cases h;cases x <;> simp
  ·cases h;cases x <;> simp
 ·split at h
  ·rename_i hk;have:=Zr hk;subst this;cases h;cases x <;> simp
  ·cases h
 ·cases h
theorem zup{x:Operand}(h:env.ev g x=some (.lit A)):∀u,x=.const u->u=A:=by
 intro u hu;subst hu;simp only[Env.ev,Qy.injEq,V0.lit.injEq] at h;exact h
theorem yhz{x y:Operand}(hE:z0n n ds env pr ids a)(hg:gH a.tmps g)(ho:o.op=.pick (.tmp tc) x y):NFm P n ds o env pr ids a H w B (ypn env g tc x y):=by
 unfold ypn;split
 ·rename_i c A B' hc hA hB;split
  ·rename_i v hv;intro _;have e:=hE.ev hg hc;refine⟨v,?_,SlV.lit⟩;rw[ypp hv (zup hA) (zup hB)];have hc':a.tmps.getD tc undef=.bool c:=e;have r:(execOp a.eval o).run P w=.ok (.value (if c then a.eval x else a.eval y)) w:=by
    simp only[execOp,ho];rw[e];simp[V0.val,asBool]
   rw[r];have gcons:∀b,c=b->gH a.tmps ((tc,b) :: g):=λb hb p hp=>by
    rcases Qo.1 hp with rfl|hp
    ·rw[← hb];exact hc'
    ·exact hg p hp
   cases c with
   | true=>have:=hE.ev (gcons true rfl) hA;simp only[if_true];rw[this];rfl
   | false=>have:=hE.ev (gcons false rfl) hB;simp only[Bool.false_eq_true,if_false];rw[this];rfl
  ·trivial
 ·trivial
theorem yih{p:Pv}:NFs g pr (yjv g p):=by
 unfold yjv;split
 ·trivial
 ·exact SlS.lit
theorem yhd{wr:Bool}{op:BinOp}{t u:TypeId}{x y:Operand}{A':Value}(hE:z0n n ds env pr ids a)(hg:gH a.tmps g)(ho:o.op=.binOp op t x y u)
  (hx:env.ev g x=some (.lit A)) (hy:env.ev g y=some (.lit A')):NFm P n ds o env pr ids a H w B (yjv g (bin P wr g true op t y A A')):=by
 cases hb:bin P wr g true op t y A A' with
 | none=>trivial
 | some r =>
  obtain⟨ob,v⟩:=r;intro hob;refine⟨v,?_,SlV.lit⟩;have hr:=zae x hb hob (zup hy) w;have e1:a.eval x=A:=hE.ev hg hx;have e2:a.eval y=A':=hE.ev hg hy;simp only[execOp,ho];rw[e1,e2,Q4,hr];rfl
theorem yi0(hE:z0n n ds env pr ids a)(hg:gH a.tmps g)(hs:∀cs b,o.op≠.select cs b):NFm P n ds o env pr ids a H w B (ysr P env g o):=by
 unfold ysr;split
 ·rename_i hl;split
  ·rename_i v hr;intro _;refine⟨v,?_,SlV.lit⟩;rw[execOp_congr o hs (λx hx=>hE.rho hg hl x (by simpa using hx))];exact yst hr w
  ·trivial
 ·trivial
theorem yil:NFs g pr (ysr P env g o):=by
 unfold ysr;split
 ·split
  ·exact SlS.lit
  ·trivial
 ·trivial
theorem yht(hE:z0n n ds env pr ids a)(hg:gH a.tmps g)(hs:∀cs b,o.op≠.select cs b)
  (hmk:∀(ρ:Operand->Value) ob f,ygv P (execOp ρ o)=some (ob,f)->∀b,f b=some (.value (mk b))):NFm P n ds o env pr ids a H w B (ygu P env g gb o mk):=by
 unfold ygu;split
 ·rename_i hl;split
  ·rename_i ob f hr;have hrun:(execOp a.eval o).run P w=.ok (.value (mk w.heap.size)) { w with heap:=w.heap.push ob }:=by
    rw[execOp_congr o hs (λx hx=>hE.rho hg hl x (by simpa using hx))];exact ygw hr w _ (hmk _ ob f hr _)
   split
   ·intro _;exact⟨mk w.heap.size,hrun,SlV.lit⟩
   ·exact⟨mk w.heap.size,hrun,SlV.lit⟩
  ·trivial
 ·trivial
theorem yif:NFs g pr (ygu P env g gb o mk):=by
 unfold ygu;split
 ·split
  ·split
   ·exact⟨rfl,λ_=>SlS.lit⟩
   ·exact λ_=>SlS.lit
  ·trivial
 ·trivial
end
end Go.Eng
namespace Go.Eng
variable{t:TypeId}{ids':Nat->Nat}{d:Nat}
section
variable{P:Program}{n:Nat}{ds:List Nat}{o:Oper}{env:Env}{pr:z1r}{ids:Nat->Nat}{a:Act}{H:Hp}{w:World}{B:Nat}{g:Gd}
theorem ygy(ρ:Operand->Value)(ho:(∃t,o.op=.alloc t)\/(∃t x,o.op=.box t x)){ob:Obj}{f:Nat->Option Next}(h:ygv P (execOp ρ o)=some (ob,f)) :
  ∀b,f b=some (.value (.pointer (some ⟨b,0,none⟩))):=by
 rcases ho with⟨t,ho⟩|⟨t,x,ho⟩
 ·simp only[execOp,ho,Instr.alloc,zeroValue,typeInfo,program,newVar,newRow,newObj,Bind.bind,Q3,ygv] at h;cases hi:P.info? t with
  | none=>simp[hi,Q3,stuck,ygv] at h
  | some i =>
   cases hz:i.zero with
   | none=>simp[hi,hz,Q3,Pure.pure,unsupported,ygv] at h
   | some z =>
    simp only[hi,Pure.pure,Q3,hz,ygv,Qy.injEq,Q1.injEq] at h;obtain⟨_,rfl⟩:=h;intro b;rfl
 ·simp only[execOp,ho,Instr.box,newVar,newRow,newObj,Bind.bind,Q3,ygv,Pure.pure,Qy.injEq,Q1.injEq] at h;obtain⟨_,rfl⟩:=h;intro b;rfl
theorem ygx(ρ:Operand->Value)(ho:o.op=.makeMap t none){ob:Obj}{f:Nat->Option Next}(h:ygv P (execOp ρ o)=some (ob,f)) :
  ∀b,f b=some (.value (.map (some b))):=by
 simp only[execOp,ho,Option.map_none,Instr.makeMap] at h;simp[newObj,Bind.bind,Q3,ygv,Pure.pure] at h;obtain⟨_,rfl⟩:=h;intro b;rfl
theorem ygz(ρ:Operand->Value){m:Nat}{ps:Array (Nat×Operand)}(ho:o.op=.buildSlice t m ps){ob:Obj}{f:Nat->Option Next}(h:ygv P (execOp ρ o)=some (ob,f)) :
  ∀b,f b=some (.value (.slice (some ⟨b,0,none⟩) m m)):=by
 simp only[execOp,ho,Instr.buildSlice] at h;generalize (ps.map λ(i,x)=>(i,ρ x))=qs at h;cases hu:P.underlying t with
 | none=>simp[underlying,program,hu,Bind.bind,Q3,ygv,stuck] at h
 | some d =>
  cases d with
  | slice e =>
   cases hi:P.info? e with
   | none=>simp[underlying,program,hu,Bind.bind,Q3,ygv,sizeOf,typeInfo,hi,stuck,Pure.pure] at h
   | some i =>
    simp only[underlying,program,hu,Bind.bind,Q3,ygv,sizeOf,typeInfo,hi,Pure.pure] at h;split at h
    ·simp[unsupported,Q3,ygv] at h
    ·split at h
     ·split at h
      ·simp only[newRow,newObj,Bind.bind,Q3,ygv,Pure.pure,Qy.injEq,Q1.injEq] at h;obtain⟨_,rfl⟩:=h;intro b;rfl
      ·simp[stuck,Q3,ygv] at h
     ·simp only[zeroValue,typeInfo,program,hi,Bind.bind,Q3,ygv,Pure.pure] at h;cases hz:i.zero with
      | none=>simp[hz,unsupported,Q3,ygv] at h
      | some z =>
       simp only[hz,Q3] at h;split at h
       ·simp only[newRow,newObj,Bind.bind,Q3,ygv,Pure.pure,Qy.injEq,Q1.injEq] at h;obtain⟨_,rfl⟩:=h;intro b;rfl
       ·simp[stuck,Q3,ygv] at h
  | _=>simp[underlying,program,hu,Bind.bind,Q3,ygv,stuck,Pure.pure] at h
theorem z1r.set_same(pr:z1r)(j:Nat)(x:Option (List Value×TypeId)):pr.set j x j=x:=by
 have h:Qq j j=true:=Qs j;simp only[z1r.set,h]
theorem z1r.set_ne(pr:z1r){j k:Nat}(x:Option (List Value×TypeId))(h:k≠j):pr.set j x k=pr k:=by
 have hb:Qq k j=false:=by
  cases hx:Qq k j
  ·rfl
  ·exact absurd ((Nat.beq_iff k j).1 hx) h
 simp only[z1r.set,hb]
theorem xb4{v:V0}(h:v.known pr)(he:∀j,pr j≠none->ids' j=ids j):v.val ids'=v.val ids:=by
 cases v with
 | lit v=>rfl
 | ptr j o=>simp only[V0.val,he j h]
theorem y8q{v:V0}{pr':z1r}(h:v.known pr)(he:∀j,pr j≠none->pr' j≠none):v.known pr':=by
 cases v with
 | lit v=>trivial
 | ptr j o=>exact he j h
theorem z0n.reids(h:z0n n ds env pr ids a){pr':z1r}(he:∀j,pr j≠none->ids' j=ids j)(hk:∀j,pr j≠none->pr' j≠none):z0n n ds env pr' ids' a :=
 ⟨h.size,h.defers,λt g v ht hg=>by rw[xb4 (h.known t g v ht) he];exact h.ok t g v ht hg,h.no,λt g v ht=>y8q (h.known t g v ht) hk⟩
theorem yhy(hE:z0n n ds env pr ids a)(hP:z1t ds pr ids H w B)(hv:z2i w H)(hB:B<=w.heap.size)(hg:gH a.tmps g)(ho:(∃t,o.op=.alloc t)\/(∃t x,o.op=.box t x)) :
  NFm P n ds o env pr ids a H w B (ymt P env g o d):=by
 have hs:∀cs b,o.op≠.select cs b:=by rcases ho with⟨t,ho⟩|⟨t,x,ho⟩ <;> simp[ho]
 unfold ymt;split
 ·rename_i hl;split
  ·rename_i c t f hr;intro x pr' hf;dsimp only at hf;cases hd:pr d with
   | some y=>simp[hd] at hf
   | none =>
    simp only[hd,Qy.injEq,Q1.injEq] at hf;obtain⟨rfl,rfl⟩:=hf;have hptr:=ygy (P:=P) _ ho hr;have hrun:(execOp a.eval o).run P w=.ok (.value (.pointer (some ⟨w.heap.size,0,none⟩))) { w with heap:=w.heap.push (.cells c t (0,0)) }:=by
     rw[execOp_congr o hs (λx hx=>hE.rho hg hl x (by simpa using hx))];exact ygw hr w _ (hptr _)
    let ids':Nat->Nat:=λj=>if j=d then w.heap.size else ids j
    have hne:∀j,pr j≠none->j≠d:=λj hj e=>by subst e;exact hj hd
    have hids:∀j,pr j≠none->ids' j=ids j:=λj hj=>Zn (hne j hj)
    have hup:∀j,pr j≠none->pr.set d (some (c.toList,t)) j≠none:=λj hj=>by rw[z1r.set_ne _ _ (hne j hj)];exact hj
    have halloc:=Tr.alloc hv (Obj.cells c t (0,0));have hT:Tr w H { w with heap:=w.heap.push (.cells c t (0,0)) } H:=halloc.2.forget (Hp.put_le H _ halloc.1);have hP':=hP.tr hT;refine⟨_,_,ids',.inl hrun,hT.view,λw0 H0 _ h0=>h0.trans hT,⟨λj cs u hj=>?_,λj hj=>?_,λj hj=>?_,λj k hj hk e=>?_,hP'.dfs⟩,hE.reids hids hup,λg1 v0 h=>?_⟩
    ·by_cases e:j=d
     ·subst e;rw[z1r.set_same] at hj;cases hj;simp[ids']
     ·rw[z1r.set_ne _ _ e] at hj;simp only[ids',Zn e];exact hP'.blk j cs u hj
    ·by_cases e:j=d
     ·subst e;simp only[ids',if_true];exact halloc.1
     ·rw[z1r.set_ne _ _ e] at hj;simp only[ids',Zn e];exact hP.hid j hj
    ·by_cases e:j=d
     ·subst e;simp only[ids',if_true];exact hB
     ·rw[z1r.set_ne _ _ e] at hj;simp only[ids',Zn e];exact hP.low j hj
    ·by_cases e1:j=d <;> by_cases e2:k=d
     ·rw[e1,e2]
     ·rw[z1r.set_ne _ _ e2] at hk;simp only[ids',Zp e1,Zn e2] at e;have:=hP.lt hk;omega
     ·rw[z1r.set_ne _ _ e1] at hj;simp only[ids',Zn e1,Zp e2] at e;have:=hP.lt hj;omega
     ·rw[z1r.set_ne _ _ e1] at hj;rw[z1r.set_ne _ _ e2] at hk;simp only[ids',Zn e1,Zn e2] at e;exact hP.inj j k hj hk e
    ·cases h;simp[V0.val,ids']
  ·trivial
 ·trivial
theorem yij:NFs g pr (ymt P env g o d):=by
 unfold ymt;split
 ·split
  ·rename_i c t f hr;intro x pr' hf;dsimp only at hf;cases hd:pr d with
   | some y=>simp[hd] at hf
   | none =>
    simp only[hd,Qy.injEq,Q1.injEq] at hf;obtain⟨rfl,rfl⟩:=hf;exact⟨SlS.ptr (by simp[z1r.set_same]),λh=>absurd rfl h⟩
  ·trivial
 ·trivial
end
end Go.Eng
namespace Go.Eng
variable{t:TypeId}{C:Cfg}{x:Nat}{p:Addr}{v:Value}
section
variable{P:Program}{n:Nat}{ds:List Nat}{o:Oper}{env:Env}{pr:z1r}{ids:Nat->Nat}{a:Act}{H:Hp}{w:World}{B:Nat}{g:Gd}
theorem run_loadVar'{x:TypeDesc}{vs:List Value}(hu:P.underlying t=some x)(h:∀j v,vs[j]?=some v->w.cell? (p.add j)=some v)
  (hl:vs.length=P.cellsOf t) (h1:z5o P t=true\/P.cellsOf t=1):(loadVar t p).run P w=.ok (mkV (z5o P t) vs) w:=by
 unfold loadVar;rw[Q4,run_isAgg hu,Q2];cases ha:z5o P t with
 | true =>
  have:=run_loadCells_list (P:=P) w p vs h;rw[hl] at this;simp[run_sizeOf hu,this,mkV]
 | false =>
  rw[ha] at h1;have h1':P.cellsOf t=1:=h1.resolve_left (by simp);rw[h1'] at hl;obtain⟨v,rfl⟩:=List.length_eq_one_iff.1 hl;have hc:=h 0 v rfl;have:p.add 0=p:=by simp[Addr.add]
  rw[this] at hc;simp[hc,mkV]
theorem y49(h:y48 P t=true):∃x,P.underlying t=some x:=by
 unfold y48 at h;split at h
 ·exact⟨_,by assumption⟩
 ·cases h
theorem z40(b off j:Nat):(Addr.add ⟨b,off,none⟩ j)=⟨b,off+j,none⟩:=by
 unfold Addr.add;split
 ·rename_i e;subst e;rfl
 ·rfl
theorem zc8:∀(vs:List Value)(i:Nat)(p:Addr),zc7 H p i vs->∀j v,vs[j]?=some v->H.at (p.add (i+j))=some v
 | [],_,_,_,j,v,h=>by simp at h
 | u :: vs,i,p,hc,j,v,h=>by
  have h0:H.at (p.add i)=some u/\zc7 H p (i+1) vs:=by
   cases vs with
   | nil=>exact⟨hc,trivial⟩
   | cons x xs=>exact hc
  cases j with
  | zero=>simp at h;subst h;exact h0.1
  | succ j =>
   have:=zc8 vs (i+1) p h0.2 j v (by simpa using h);rw[show i+(j+1)=i+1+j by omega];exact this
theorem yid{gb:Bool}:NFs g pr (ybd C env g gb t x):=by
 unfold ybd;split
 ·rename_i j off _ _ _;split
  ·intro y pr' hf;dsimp only at hf;cases hj:pr j with
   | none=>simp[hj] at hf
   | some cs =>
    obtain⟨cs,u⟩:=cs;simp only[hj] at hf;split at hf
    ·cases hf;exact⟨SlS.lit,λ_=>rfl⟩
    ·cases hf
  ·trivial
 ·split
  ·exact λ_=>SlS.lit
  ·trivial
 ·trivial
theorem yhn(hE:z0n n ds env pr ids a)(hP:z1t ds pr ids H w B)(hv:z2i w H)(hg:gH a.tmps g)(ho:o.op=.load t (.tmp x)) :
  NFm C.P n ds o env pr ids a H w B (ybd C env g true t x):=by
 unfold ybd;split
 ·rename_i j off hpv hx hs;split
  ·intro y pr' hf;simp only[Qg,Qh,Nat.beq_iff] at hs;obtain⟨u,hu⟩:=y49 hs.2;dsimp only at hf;cases hj:pr j with
   | none=>simp[hj] at hf
   | some cs =>
    obtain⟨cs,e⟩:=cs;simp only[hj] at hf;split at hf
    ·rename_i hle;cases hf;have hle':off+C.P.cellsOf t<=cs.length:=Qw hle;have hb:=hP.blk j cs e hj;have e1:a.eval (.tmp x)=.pointer (some ⟨ids j,off,none⟩):=hE.ev hg hx;have hr:=run_loadVar' (P:=C.P) (w:=w) (t:=t) (p:=⟨ids j,off,none⟩) (vs:=(cs.drop off).take (C.P.cellsOf t)) hu (λi v h=>by
       rw[z40];rw[List.getElem?_take] at h;split at h
       ·rw[List.getElem?_drop] at h;simp[World.cell?,hb,h]
       ·cases h) (by simp;omega) hs.1
     refine⟨_,w,ids,.inl ?_,hv,λ_ _ _ h=>h,hP,hE,SlV.lit⟩;simp only[execOp,ho];rw[e1];simp[Instr.loadAt,Instr.sureAddr,hr]
    ·cases hf
  ·trivial
 ·rename_i p hpv hx hs;split
  ·rename_i hlen;intro vs hl hob;left;simp only[Qg,Qh,Nat.beq_iff] at hs;obtain⟨u,hu⟩:=y49 hs.2;have e1:a.eval (.tmp x)=.pointer (some p):=hE.ev hg hx;have hc:=y5x hob;have hr:=run_loadVar' (P:=C.P) (w:=w) (t:=t) (p:=p) (vs:=vs) hu (λj v h=>hv.cell (by have:=zc8 vs 0 p hc j v h;simpa using this))
    (by rw[hl];exact Qx hlen) hs.1
   refine⟨_,?_,SlV.lit⟩;simp only[execOp,ho];rw[e1];simp[Instr.loadAt,Instr.sureAddr,hr]
  ·trivial
 ·trivial
theorem x0g:∀(cs:List Value)(off:Nat)(vs:List Value),off+vs.length<=cs.length->x0f cs off vs=cs.take off++vs++cs.drop (off+vs.length)
 | cs,off,[],_=>by cases cs <;> cases off <;> simp[x0f]
 | [],off,v :: vs,h=>by simp at h
 | c :: cs,0,v :: vs,h=>by
  have:=x0g cs 0 vs (by simp at h;omega);simp only[x0f,this];simp[Nat.add_comm]
 | c :: cs,off+1,v :: vs,h=>by
  have:=x0g cs off (v :: vs) (by simp at h ⊢;omega);have e:off+1+(v :: vs).length=(off+(v :: vs).length)+1:=by omega
  rw[e];simp only[x0f,this];simp
theorem xbm{agg:Bool}(h1:(xbl agg v).all Q6=true)(hn:(xbl agg v).length≠0):v.cells.toList=xbl agg v:=by
 cases agg with
 | true =>
  cases v with
  | agg cs=>rfl
  | _=>simp[xbl] at hn
 | false =>
  cases v with
  | agg cs=>simp[xbl,Q6] at h1
  | _=>rfl
theorem run_storeVar'{x:TypeDesc}{w':World}(hu:P.underlying t=some x)(hl:v.cells.toList.length=P.cellsOf t)
  (h:(storeCells p v.cells.toList).run P w=.ok () w'):(storeVar t p v).run P w=.ok () w':=by
 unfold storeVar;rw[Q4,run_sizeOf hu,Q2];have:¬ (v.cells.size≠P.cellsOf t):=by simpa using hl
 simp only[this,if_false];simpa using h
theorem x0i{b k:Nat}(cs:Array Value)(h:k≠b):(w.setRow b cs).heap[k]?=w.heap[k]?:=by
 simp only[World.setRow,Qa];rw[Zn (λe=>h e.symm)]
theorem zbw{p q:Addr}{v:Value}:∀(vs:List Value)(i:Nat),Hp.canStore H p i vs->Hp.canStore (H.set1 q v) p i vs
 | [],_,_=>trivial
 | u :: vs,i,h=>by
  obtain⟨⟨c,T,fz,h1,h2,h3,h4⟩,hr⟩:=h;refine⟨?_,zbw vs (i+1) hr⟩;unfold Hp.set1;cases hb:Qq (p.add i).block q.block with
  | true=>simp only[h1];exact⟨_,T,fz,rfl,h2,by simpa using h3,h4⟩
  | false=>exact⟨c,T,fz,h1,h2,h3,h4⟩
theorem x9v{c:Array Value}{T:TypeId}{fz:Nat×Nat}(hv:z2i w H)(hb:H p.block=some (.cells c T fz))(hs:p.spot=none) :
  Tr w H (w.setCell p v) (H.set1 p v):=by
 have hw:=hv _ _ hb;have hlt:p.block<w.heap.size:=(Qb.1 hw).1;refine⟨λk o hk=>?_,λk hk hn=>?_,λk hk=>.inl ?_,by simp[World.setCell],rfl,rfl,rfl,Qr _⟩
 ·unfold Hp.set1 at hk;simp only[World.setCell,Qa];cases hq:Qq k p.block with
  | true =>
   have e:=(Nat.beq_iff _ _).1 hq;subst e;simp only[hq,hb,Qy.injEq] at hk;subst hk;simp[hw,hs]
  | false =>
   simp only[hq] at hk;have e:p.block≠k:=λe=>by subst e;rw[Qs] at hq;cases hq
   rw[Zn e];exact hv _ _ hk
 ·have e:p.block≠k:=λe=>by subst e;rw[hb] at hn;cases hn
  simp only[World.setCell,Qa];rw[Zn e]
 ·unfold Hp.set1 at hk;intro hn;cases hq:Qq k p.block with
  | true =>
   have e:=(Nat.beq_iff _ _).1 hq;subst e;rw[hb] at hn;cases hn
  | false=>simp only[hq] at hk;exact hk hn
theorem yyw{p:Addr}:∀(vs:List Value)(i:Nat)(H:Hp)(w:World),z2i w H->Hp.canStore H p i vs->vs.all Q6=true ->
  ∃w',(storeCells p vs i).run P w=.ok () w'/\Tr w H w' (H.store p i vs)
 | [],i,H,w,hv,_,_=>⟨w,by simp[storeCells],Tr.refl hv⟩
 | v :: vs,i,H,w,hv,hc,h1=>by
  obtain⟨⟨c,T,fz,hb,hs,hlt,hfz⟩,hr⟩:=hc;simp only[List.all_cons,Qg] at h1;have hw:=hv _ _ hb;have hcell:w.cell? (p.add i)=some c[(p.add i).off]:=by simp[World.cell?,hw,hs,hlt]
  have hfro:w.frozen? (p.add i)=false:=by
   simp only[World.frozen?,hw];simpa using hfz
  have hst:(store (p.add i) v).run P w=.ok () (w.setCell (p.add i) v):=by
   rw[run_store P w _ v _ h1.1,hcell];simp[hfro]
  have hT:=x9v (v:=v) hv hb hs;obtain⟨w',hr',hT'⟩:=yyw vs (i+1) (H.set1 (p.add i) v) (w.setCell (p.add i) v) hT.view (zbw vs (i+1) hr) h1.2;refine⟨w',?_,hT.trans hT'⟩;simp only[storeCells,Q4,hst,Q2,hr']
theorem yim{y:Operand}:NFs g pr (x60 C env g t x y):=by
 unfold x60;split
 ·split
  ·intro z pr' hf;dsimp only at hf;split at hf
   ·split at hf
    ·cases hf;exact⟨SlS.none,λh=>absurd rfl h⟩
    ·cases hf
   ·cases hf
  ·trivial
 ·split
  ·rfl
  ·trivial
 ·trivial
theorem yi2{y:Operand}(hE:z0n n ds env pr ids a)(hP:z1t ds pr ids H w B)(hv:z2i w H)(hg:gH a.tmps g)(ho:o.op=.store t (.tmp x) y) :
  NFm C.P n ds o env pr ids a H w B (x60 C env g t x y):=by
 unfold x60;split
 ·rename_i _ j off v hpv hx hy;simp only[Qg,Bool.not_eq_true'] at hpv;obtain⟨⟨_,hu⟩,hz⟩:=hpv;obtain⟨u,hu⟩:=y49 hu;split
  ·rename_i hc;simp only[Qg,Nat.beq_iff] at hc;obtain⟨⟨hl,h1⟩,_⟩:=hc;have hcs:=xbm h1 (by rw[hl];intro e;rw[e] at hz;simp at hz);intro z pr' hf;dsimp only at hf;cases hj:pr j with
   | none=>simp[hj] at hf
   | some cs =>
    obtain⟨cs,e⟩:=cs;simp only[hj] at hf;split at hf
    ·rename_i hle;cases hf;have hle':off+C.P.cellsOf t<=cs.length:=Qw hle;have hb:=hP.blk j cs e hj;have hjn:pr j≠none:=by simp[hj]
     have e1:a.eval (.tmp x)=.pointer (some ⟨ids j,off,none⟩):=hE.ev hg hx;have e2:a.eval y=v:=hE.ev hg hy;have hst:=run_storeCells_at C.P (ids j) off e v.cells.toList 0 cs.toArray w hb (by rw[hcs,hl];simpa using hle') (by rw[hcs];simpa using h1);have hrun:=run_storeVar' (P:=C.P) (t:=t) (p:=⟨ids j,off,none⟩) hu (by rw[hcs,hl]) hst;have hrow:(cs.toArray.toList.take (off+0)++v.cells.toList++cs.toArray.toList.drop (off+0+v.cells.toList.length)).toArray=(x0f cs off (xbl (z5o C.P t) v)).toArray:=by
      rw[hcs,x0g cs off _ (by rw[hl];exact hle')];simp
     rw[hrow] at hrun;have hup:∀k,pr k≠none->pr.set j (some (x0f cs off (xbl (z5o C.P t) v),e)) k≠none:=λk hk=>by
      by_cases ek:k=j
      ·subst ek;simp[z1r.set_same]
      ·rw[z1r.set_ne _ _ ek];exact hk
     have hdn:∀k,pr.set j (some (x0f cs off (xbl (z5o C.P t) v),e)) k≠none->pr k≠none:=λk hk=>by
      by_cases ek:k=j
      ·subst ek;exact hjn
      ·rw[z1r.set_ne _ _ ek] at hk;exact hk
     have hview:z2i (w.setRow (ids j) (x0f cs off (xbl (z5o C.P t) v)).toArray) H:=λk ob hk=>by
      have hk':k≠ids j:=λek=>by subst ek;rw[hP.hid j hjn] at hk;cases hk
      rw[x0i _ hk'];exact hv k ob hk
     refine⟨undef,_,ids,.inr ⟨?_,rfl⟩,hview,λw0 H0 hB h0=>⟨hview,λk hk hn=>?_,h0.fresh,by simp only[World.setRow,Array.size_modify];exact h0.size,h0.os,h0.tape,h0.output,h0.drawn⟩,
      ⟨λk cs' t' hk=>?_,λk hk=>hP.hid k (hdn k hk),λk hk=>hP.low k (hdn k hk),λk l hk hl'=>hP.inj k l (hdn k hk) (hdn l hl'),λD hD=>?_⟩,
      hE.reids (λ_ _=>rfl) hup,SlV.none⟩
     ·simp only[execOp,ho];rw[e1,e2];simp[Instr.storeAt,Instr.sureAddr,hrun]
     ·have hk':k≠ids j:=λek=>by have:=hP.low j hjn;omega
      rw[x0i _ hk'];exact h0.frame k hk hn
     ·by_cases ek:k=j
      ·subst ek;rw[z1r.set_same] at hk;cases hk;exact setRow_heap w (ids k) _ _ _ _ hb
      ·rw[z1r.set_ne _ _ ek] at hk;have hk':ids k≠ids j:=λe=>ek (hP.inj k j (by simp[hk]) hjn e)
       rw[x0i _ hk'];exact hP.blk k cs' t' hk
     ·obtain⟨h1,h2,h3⟩:=hP.dfs D hD;have hk':D≠ids j:=λek=>by rw[ek,hb] at h3;cases h3
      exact⟨h1,h2,(x0i _ hk').trans h3⟩
    ·cases hf
  ·trivial
 ·rename_i _ p v hpv hx hy;simp only[Bool.or_eq_false_iff,Bool.not_eq_false'] at hpv;obtain⟨⟨_,hu⟩,hz⟩:=hpv;obtain⟨u,hu⟩:=y49 hu;split
  ·rename_i hc;simp only[Qg,Nat.beq_iff] at hc;obtain⟨hl,h1⟩:=hc;have hcs:=xbm h1 (by rw[hl];intro e;rw[e] at hz;simp at hz);intro hcan;have e1:a.eval (.tmp x)=.pointer (some p):=hE.ev hg hx;have e2:a.eval y=v:=hE.ev hg hy;obtain⟨w',hst,hT⟩:=yyw (P:=C.P) (p:=p) _ 0 H w hv hcan h1;rw[← hcs] at hst;have hrun:=run_storeVar' (P:=C.P) (t:=t) (p:=p) hu (by rw[hcs,hl]) hst;refine⟨w',?_,hT⟩;simp only[execOp,ho];rw[e1,e2];simp[Instr.storeAt,Instr.sureAddr,hrun]
  ·trivial
 ·trivial
end
end Go.Eng
end
