/- The engine, parts EngA, EngB, EngC, EngD, EngE, EngF, EngG, put together. Conditions: none. -/
import Derived.Calls
import Derived.Orders
import Derived.Laws.Sem
import Derived.OrdersIn
import Derived.DefersIn
import Derived.RangeFuncIn
import Derived.RangeFuncRecord
import Derived.Laws.StructEq
import Derived.Laws.CopyRow
import Derived.Laws.Cells
set_option linter.unusedVariables false
section
/- The engine, part A: heap views, transitions of worlds, contracts over heap views, the frame rule. Conditions: none. -/
namespace Go.Eng

abbrev Hp:=Nat→Option Obj

def z24 (w:World) (H:Hp):Prop:=∀ b o,H b=some o→w.heap[b]?=some o

structure Tr (w:World) (H:Hp) (w':World) (H':Hp):Prop where
 view:z24 w' H'
 frame:∀ b,b<w.heap.size→H b=none→w'.heap[b]?=w.heap[b]?
 fresh:∀ b,H' b≠none→H b≠none∨w.heap.size≤b
 size:w.heap.size≤w'.heap.size
 os:w'.os=w.os
 tape:w'.tape=w.tape
 output:w'.output=w.output
 drawn:w.drawn≤w'.drawn

def Hp.le (H H':Hp):Prop:=∀ b o,H b=some o→H' b=some o

theorem Hp.le_refl (H:Hp):Hp.le H H:=fun _ _ h=>h
theorem Hp.le_trans {H H' H'':Hp} (h:Hp.le H H') (h':Hp.le H' H''):Hp.le H H'':=fun b o x=>h' b o (h b o x)

theorem z24.lt {w:World} {H:Hp} (h:z24 w H) {b:Nat} (hb:H b≠none):b<w.heap.size:=by
 cases ho:H b with
 | none=>exact absurd ho hb
 | some o =>
  have:=h b o ho
  rcases Nat.lt_or_ge b w.heap.size with h' | h'
  ·exact h'
  ·simp [Array.getElem?_eq_none h'] at this

theorem z24.mono {w:World} {H H':Hp} (h:z24 w H') (hl:Hp.le H H'):z24 w H:=fun b o hb=>h b o (hl b o hb)

theorem Tr.refl {w:World} {H:Hp} (h:z24 w H):Tr w H w H :=
 ⟨h,fun _ _ _=>rfl,fun _ h=>.inl h,Nat.le_refl _,rfl,rfl,rfl,Nat.le_refl _⟩

theorem Tr.none {w:World} {H:Hp} {w':World} {H':Hp} (h:Tr w H w' H') {b:Nat} (hb:b<w.heap.size) (hn:H b=none):H' b=none:=by
 cases h':H' b with
 | none=>rfl
 | some o =>
  rcases h.fresh b (by simp [h']) with h1 | h1
  ·exact absurd hn h1
  ·omega

theorem Tr.trans {w:World} {H:Hp} {w1:World} {H1:Hp} {w2:World} {H2:Hp} (a:Tr w H w1 H1) (b:Tr w1 H1 w2 H2):Tr w H w2 H2:=by
 refine ⟨b.view,fun k hk hn=>?_,fun k hk=>?_,Nat.le_trans a.size b.size,b.os.trans a.os,b.tape.trans a.tape,b.output.trans a.output,Nat.le_trans a.drawn b.drawn⟩
 ·rw [b.frame k (Nat.lt_of_lt_of_le hk a.size) (a.none hk hn),a.frame k hk hn]
 ·rcases b.fresh k hk with h | h
  ·exact a.fresh k h
  ·exact .inr (Nat.le_trans a.size h)

theorem Tr.forget {w:World} {H:Hp} {w':World} {H' H'':Hp} (h:Tr w H w' H') (hl:Hp.le H'' H'):Tr w H w' H'':=by
 refine ⟨h.view.mono hl,h.frame,fun b hb=>h.fresh b ?_,h.size,h.os,h.tape,h.output,h.drawn⟩
 cases hx:H'' b with
 | none=>exact absurd hx hb
 | some o=>simp [hl b o hx]

theorem Tr.widen {w:World} {H Hb:Hp} {w':World} {H':Hp} (h:Tr w H w' H') (hv:z24 w Hb) (hl:Hp.le H Hb) (hk:Hp.le H H'):Tr w Hb w' Hb:=by
 refine ⟨fun b o hb=>?_,fun b hb hn=>?_,fun b hb=>.inl hb,h.size,h.os,h.tape,h.output,h.drawn⟩
 ·cases hx:H b with
  | none =>
   have hlt:b<w.heap.size:=hv.lt (by simp [hb])
   rw [h.frame b hlt hx]; exact hv b o hb
  | some o' =>
   have e:=hl b o' hx
   rw [hb] at e; cases e
   exact h.view b o (hk b o hx)
 ·refine h.frame b hb ?_
  cases hx:H b with
  | none=>rfl
  | some o'=>rw [hl b o' hx] at hn; cases hn

def Fn (P:Program) (f:FuncId) (args:Array Value) (H:Hp) (post:Value→Hp→Prop):Prop :=
 ∀ w,z24 w H→Calls P f args w fun e w'=>∃ v H',e=.returned v∧Tr w H w' H'∧post v H'

theorem Fn.mono {P:Program} {f:FuncId} {args:Array Value} {H:Hp} {post post':Value→Hp→Prop} (h:Fn P f args H post)
  (hp:∀ v H',post v H'→post' v H'):Fn P f args H post' :=
 fun w hv=>(h w hv).mono fun _ _ ⟨v,H',he,ht,hq⟩=>⟨v,H',he,ht,hp v H' hq⟩

def Qf (P:Program) (f:FuncId) (args:Array Value) (H:Hp) (v:Value):Prop :=
 Fn P f args H fun v' H'=>v'=v∧Hp.le H H'

theorem Qf.up {P:Program} {f:FuncId} {args:Array Value} {H Hb:Hp} {v:Value} (h:Qf P f args H v) (hl:Hp.le H Hb):Qf P f args Hb v :=
 fun w hv=>(h w (hv.mono hl)).mono fun _ _ ⟨v',H',he,ht,hq,hk⟩=>⟨v',Hb,he,ht.widen hv hl hk,hq,Hp.le_refl _⟩

def Ex (H:Hp):Prop:=∃ w,z24 w H

theorem Fn.live {P:Program} {f:FuncId} {args:Array Value} {H:Hp} {post:Value→Hp→Prop} (h:Fn P f args H post) (hx:Ex H) :
  ∃ v H1,post v H1∧Ex H1:=by
 obtain ⟨w,hv⟩:=hx
 obtain ⟨e,w',fr,⟨v,H',_,ht,hq⟩,_⟩:=h w hv []
 exact ⟨v,H',hq,w',ht.view⟩

def Hp.put (H:Hp) (b:Nat) (o:Obj):Hp:=fun k=>if k=b then some o else H k

@[simp] theorem Hp.put_same (H:Hp) (b:Nat) (o:Obj):Hp.put H b o b=some o:=by simp [Hp.put]
theorem Hp.put_ne (H:Hp) {b k:Nat} (o:Obj) (h:k≠b):Hp.put H b o k=H k:=by simp [Hp.put,h]
theorem Hp.put_le (H:Hp) {b:Nat} (o:Obj) (h:H b=none):Hp.le H (Hp.put H b o):=fun k o' hk=>by
 rw [Hp.put_ne]; exact hk; intro e; subst e; rw [h] at hk; cases hk
theorem Hp.put_comm (H:Hp) {b c:Nat} (o u:Obj) (h:b≠c):Hp.put (Hp.put H b o) c u=Hp.put (Hp.put H c u) b o:=by
 funext k; simp only [Hp.put]; split <;> split <;> simp_all

theorem Tr.alloc {w:World} {H:Hp} (h:z24 w H) (o:Obj):H w.heap.size=Option.none∧Tr w H { w with heap:=w.heap.push o } (Hp.put H w.heap.size o):=by
 have hn:H w.heap.size=Option.none:=by
  cases hx:H w.heap.size with
  | none=>rfl
  | some o'=>have:=h.lt (b:=w.heap.size) (by simp [hx]); omega
 refine ⟨hn,⟨fun b o' hb=>?_,fun b hb _=>?_,fun b hb=>?_,by simp,rfl,rfl,rfl,Nat.le_refl _⟩⟩
 ·simp only [Hp.put] at hb
  split at hb
  ·rename_i e; subst e; simpa using hb
  ·have:=h b o' hb
   have hlt:=h.lt (b:=b) (by simp [hb])
   simp [Array.getElem?_push,Nat.ne_of_lt hlt,this]
 ·simp [Array.getElem?_push,Nat.ne_of_lt hb]
 ·simp only [Hp.put] at hb
  split at hb
  ·rename_i e; subst e; exact .inr (Nat.le_refl _)
  ·exact .inl hb

theorem Fn.frame_put {P:Program} {f:FuncId} {args:Array Value} {H:Hp} {post:Value→Hp→Prop} (h:Fn P f args H post) {b:Nat} {o:Obj} (hb:H b=none) :
  Fn P f args (Hp.put H b o) fun v H''=>∃ H',post v H'∧H' b=none∧H''=Hp.put H' b o∧(Hp.le H H'→Hp.le (Hp.put H b o) H''):=by
 intro w hv
 have hl:=Hp.put_le H o hb
 refine (h w (hv.mono hl)).mono fun e w' ⟨v,H',he,ht,hq⟩=>?_
 have hlt:b<w.heap.size:=hv.lt (by simp)
 have hn:H' b=Option.none:=ht.none hlt hb
 refine ⟨v,Hp.put H' b o,he,⟨fun k o' hk=>?_,fun k hk hkn=>?_,fun k hk=>?_,ht.size,ht.os,ht.tape,ht.output,ht.drawn⟩,H',hq,hn,rfl,fun hle k o' hk=>?_⟩
 ·simp only [Hp.put] at hk
  split at hk
  ·rename_i e; subst e; cases hk
   rw [ht.frame k hlt hb]; exact hv k o (by simp)
  ·exact ht.view k o' hk
 ·have:k≠b:=by intro e; subst e; simp at hkn
  rw [Hp.put_ne _ _ this] at hkn
  exact ht.frame k hk hkn
 ·by_cases e:k=b
  ·subst e; exact .inl (by simp)
  ·rw [Hp.put_ne _ _ e] at hk ⊢; exact ht.fresh k hk
 ·by_cases e:k=b
  ·subst e; simpa using hk
  ·rw [Hp.put_ne _ _ e] at hk ⊢; exact hle k o' hk

def Hp.at (H:Hp) (a:Addr):Option Value :=
 match H a.block with
 | some (.cells c _ _)=>if a.spot.isSome then none else c[a.off]?
 | _=>none

theorem Hp.at_le {H H':Hp} (h:Hp.le H H') {a:Addr} {v:Value} (hv:H.at a=some v):H'.at a=some v:=by
 unfold Hp.at at *
 cases hx:H a.block with
 | none=>simp [hx] at hv
 | some o=>rw [hx] at hv; rw [h _ _ hx]; exact hv

theorem z24.cell {w:World} {H:Hp} (h:z24 w H) {a:Addr} {v:Value} (hv:H.at a=some v):w.cell? a=some v:=by
 unfold Hp.at at hv
 unfold World.cell?
 cases hx:H a.block with
 | none=>simp [hx] at hv
 | some o=>rw [h _ _ hx]; rw [hx] at hv; exact hv

end Go.Eng
end
section
/- The engine,part B: the conditions of a piece of code,reckoned from its text. Conditions: none. -/
namespace Go.Eng

inductive V0 where
 | lit (v:Value)
 | ptr (j off:Nat)

abbrev Gd:=List (Nat × Bool)
abbrev Sl:=Option (Gd × V0)
abbrev Env:=Nat→Sl
abbrev z1i:=Nat→Option (List Value × TypeId)

structure Slc where
 a:Option Addr
 n:Nat
 c:Nat
def Slc.v (u:Slc):Value:=.slice u.a u.n u.c

inductive z0x where
 | int (k:IntKind)
 | bool
 | sl
 | ptr
 | mp
 | val

structure Cfg where
 P:Program
 n:Nat
 pv:Nat→Bool
 perm:Nat→Option (List Nat)
 eff:Nat→Bool
 effv:Bool
 nm:Nat→Nat
 lp:Nat→List (Nat × z0x) × List (Nat × List z0x)
 wr:Bool:=false
 qf:Nat→Bool:=fun _=>false
 eff2:Nat→Bool:=fun _=>false
 perm2:Nat→Option (Nat × Bool):=fun _=>none
 yl:Bool:=false

def y6b (d:Nat):Gd→Bool
 | []=>false
 | p :: g=>Nat.beq p.1 d||y6b d g

def Env.put (env:Env) (d:Nat) (x:Sl):Env:=fun t =>
 match Nat.beq t d with
 | true=>x
 | false=>match env t with
  | some (g,v)=>match y6b d g with
   | true=>none
   | false=>some (g,v)
  | none=>none

def bEq:Bool→Bool→Bool
 | true,b=>b
 | false,true=>false
 | false,false=>true

def gIn (s:Nat) (w:Bool):Gd→Bool
 | []=>false
 | p :: g=>(Nat.beq p.1 s&&bEq p.2 w)||gIn s w g

def zw6:Gd→Gd→Bool
 | [],_=>true
 | p :: g',g=>gIn p.1 p.2 g&&zw6 g' g

def gEq:Gd→Gd→Bool
 | [],[]=>true
 | p :: g,q :: g'=>Nat.beq p.1 q.1&&bEq p.2 q.2&&gEq g g'
 | _,_=>false

def Env.ev (env:Env) (g:Gd):Operand→Option V0
 | .tmp t=>match env t with
  | some (g',v)=>match zw6 g' g with
   | true=>some v
   | false=>none
  | none=>none
 | .const v=>some (.lit v)
 | .func f=>some (.lit (.func (.func f) #[] #[]))
 | .global _=>none

def Env.gb (env:Env):Gd→Option Bool
 | []=>some true
 | (s,w) :: g=>match env s with
  | some (g',.lit (.bool x))=>match gEq g' g with
   | true=>match g,env.gb g,w with
    | [],_,true=>some x
    | [],_,false=>some (!x)
    | _ :: _,some y,true=>some (y&&x)
    | _ :: _,some y,false=>some (y&&!x)
    | _ :: _,none,_=>none
   | false=>none
  | _=>none

def imp (gb:Bool) (p:Prop):Gd→Prop
 | []=>p
 | _ :: _=>gb=true→p

def zio (ops:Array Oper):Nat→Oper→Option Gd
 | 0,_=>none
 | f+1,o=>match o.guard with
  | none=>some []
  | some (j,w)=>match ops[j]? with
   | some oj=>match oj.dst,zio ops f oj with
    | some s,some g=>some ((s,w) :: g)
    | _,_=>none
   | none=>none

def leaves (P:Program):Nat→TypeId→List z0x
 | 0,_=>[]
 | d+1,t=>match P.underlying t with
  | some (.int k)=>[.int k]
  | some .bool=>[.bool]
  | some (.struct fs)=>fs.toList.flatMap fun f=>leaves P d f.type
  | some (.array n e)=>(List.replicate n (leaves P d e)).flatten
  | some (.slice _)=>[.sl]
  | some (.pointer _)=>[.ptr]
  | some (.map _ _)=>[.mp]
  | some _=>[.val]
  | none=>[]

def z56 (P:Program) (t:TypeId):Bool :=
 match P.underlying t with
 | some (.struct _)=>true
 | some (.array _ _)=>true
 | _=>false

def z0x.dflt:z0x→Value
 | .int k=>.int k 0
 | .bool=>.bool false
 | .sl=>.slice none 0 0
 | .ptr=>.pointer (some ⟨0,0,none⟩)
 | .mp=>.map none
 | .val=>undef

def exL:List z0x→(List Value→Prop)→Prop
 | [],f=>f []
 | .int k :: ls,f=>∃ n:Int,exL ls fun vs=>f (.int k n :: vs)
 | .bool :: ls,f=>∃ b:Bool,exL ls fun vs=>f (.bool b :: vs)
 | .sl :: ls,f=>∃ u:Slc,exL ls fun vs=>f (u.v :: vs)
 | .ptr :: ls,f=>∃ a:Addr,exL ls fun vs=>f (.pointer (some a) :: vs)
 | .mp :: ls,f=>∃ r:Option Nat,exL ls fun vs=>f (.map r :: vs)
 | .val :: ls,f=>∃ v:Value,exL ls fun vs=>f (v :: vs)

def mkV (agg:Bool) (vs:List Value):Value :=
 match agg with
 | true=>.agg vs.toArray
 | false=>match vs with
  | v :: _=>v
  | []=>undef

inductive Shp where
 | one (agg:Bool) (ls:List z0x)
 | tup (l:List (Bool × List z0x))

def Shp.leaves:Shp→List z0x
 | .one _ ls=>ls
 | .tup l=>l.flatMap (·.2)

def yya:List (Bool × List z0x)→List Value→List Value
 | [],_=>[]
 | (a,ls) :: l,vs=>mkV a (vs.take ls.length) :: yya l (vs.drop ls.length)

def Shp.mk:Shp→List Value→Value
 | .one a _,vs=>mkV a vs
 | .tup l,vs=>.tuple (yya l vs).toArray

def shp (P:Program) (t:TypeId):Shp :=
 match P.underlying t with
 | some (.tuple ts)=>.tup (ts.toList.map fun u=>(z56 P u,Eng.leaves P 9 u))
 | _=>.one (z56 P t) (Eng.leaves P 9 t)

def zux (s:Shp):Bool:=s.leaves.all fun l=>match l with
 | .int _=>true
 | .bool=>true
 | _=>false

def zag (H:Hp) (p:Addr):Nat→List Value→Prop
 | _,[]=>True
 | i,v :: vs=>match vs with
  | []=>H.at (p.add i)=some v
  | _ :: _=>H.at (p.add i)=some v∧zag H p (i+1) vs

def zpw (a:Option Addr) (s:Nat) (i:Int):Addr :=
 match a with
 | some a=>a.add (i.toNat * s)
 | none=>default
def zzp (a:Option Addr) (n:Nat) (i:Int):Prop:=0≤i∧i<n∧a.isSome=true
def yvk (a:Option Addr) (s:Nat) (l m:Int):Option Addr:=if m.toNat=l.toNat then a else a.map (·.add (l.toNat * s))

def nz (y:Int):Prop:=y≠0
def nn (y:Int):Prop:=0≤y
def ybn (l h m cp:Int):Prop:=0≤l∧l≤h∧h≤m∧m≤cp
def ybi (n m bytes:Int):Prop:=n=m∧0≤n∧n * bytes≤140737488355328
def ybe (z:Int) (len:Nat) (cs:List Value) (s:Nat) (vs:List Value):Prop:=0≤z∧z<len∧(cs.drop (z.toNat * s)).take s=vs∧vs.length=s
def inI (z:Int):Prop:=-9223372036854775808≤z∧z≤9223372036854775807
def x0h (z:Int):Int:=z % 18446744073709551616

abbrev Pv:=Option (Option Prop × Value)

def yes (v:Value):Pv:=some (none,v)
def ifs (g:Gd) (gb:Bool) (p:Prop) (v:Value):Pv:=some (some (imp gb p g),v)

def z6s (wr:Bool) (g:Gd) (gb:Bool) (k:IntKind) (z:Int):Pv :=
 match k with
 | .i64=>match wr with
  | true=>yes (.int .i64 (IntKind.i64.wrap z))
  | false=>ifs g gb (inI z) (.int .i64 z)
 | .u64=>yes (.int .u64 (x0h z))
 | k=>yes (.int k (k.wrap z))

def ykq (g:Gd) (gb:Bool) (k:IntKind) (x y:Int):Pv :=
 match k with
 | .i64=>ifs g gb (nz y∧inI (x.tdiv y)) (.int .i64 (x.tdiv y))
 | .u64=>ifs g gb (nz y) (.int .u64 (x0h (x.tdiv y)))
 | k=>ifs g gb (nz y) (.int k (k.wrap (x.tdiv y)))

def z8v (wr:Bool) (g:Gd) (gb:Bool) (op:BinOp) (k:IntKind) (x y:Int):Pv :=
 match op with
 | .add=>z6s wr g gb k (x+y)
 | .sub=>z6s wr g gb k (x-y)
 | .mul=>z6s wr g gb k (x * y)
 | .quo=>ykq g gb k x y
 | .rem=>ifs g gb (nz y) (.int k (x.tmod y))
 | .eql=>yes (.bool (x==y))
 | .neq=>yes (.bool (x != y))
 | .lss=>yes (.bool (x<y))
 | .leq=>yes (.bool (x≤y))
 | .gtr=>yes (.bool (x>y))
 | .geq=>yes (.bool (x≥y))
 | .shl=>ifs g gb (nn y) (.int k (k.wrap (x * 2 ^ (min y.toNat k.bits))))
 | .shr=>ifs g gb (nn y) (.int k (x.fdiv (2 ^ (min y.toNat k.bits))))
 | .and=>yes (.int k (k.wrap (BitVec.ofInt k.bits x &&& BitVec.ofInt k.bits y).toNat))
 | .or=>yes (.int k (k.wrap (BitVec.ofInt k.bits x ||| BitVec.ofInt k.bits y).toNat))
 | .xor=>yes (.int k (k.wrap (BitVec.ofInt k.bits x ^^^ BitVec.ofInt k.bits y).toNat))
 | _=>none

def z6c:Option Bool→Bool→Option Bool
 | none,b=>some b
 | some a,b=>some (a&&b)

def ydz (P:Program) (t:TypeId) (cs:Array Value) (off:Nat):Option Value :=
 match z56 P t with
 | true=>some (.agg (cs.extract off (off+P.cellsOf t)))
 | false=>cs[off]?

def zq4 (P:Program) (rec:Option Bool→TypeId→Value→Value→Option (Option Bool)) (xs ys:Array Value):Option Bool→List Field→Option (Option Bool)
 | acc,[]=>some acc
 | acc,f :: fs=>match f.name== "_",ydz P f.type xs f.offset,ydz P f.type ys f.offset with
  | false,some a,some b=>match rec acc f.type a b with
   | some acc'=>zq4 P rec xs ys acc' fs
   | none=>none
  | _,_,_=>none

def eqV (P:Program):Nat→Option Bool→TypeId→Value→Value→Option (Option Bool)
 | 0,_,_,_,_=>none
 | d+1,acc,t,x,y=>match P.underlying t,x,y with
  | some (.int _),.int k a,.int k' b=>match decide (k=k') with
   | true=>some (z6c acc (a==b))
   | false=>none
  | some .bool,.bool a,.bool b=>some (z6c acc (a==b))
  | some (.struct fs),.agg xs,.agg ys=>match P.stoodInHeld t with
   | true=>none
   | false=>zq4 P (eqV P d) xs ys acc fs.toList
  | _,_,_=>none

def y0u:Operand→Bool
 | .const (.slice none 0 0)=>true
 | _=>false

def bin (P:Program) (wr:Bool) (g:Gd) (gb:Bool) (op:BinOp) (t:TypeId) (y:Operand) (a b:Value):Pv :=
 match P.underlying t with
 | some (.int _)=>match a,b with
  | .int k m,.int k' n=>match op with
   | .shl=>z8v wr g gb .shl k m n
   | .shr=>z8v wr g gb .shr k m n
   | op=>match decide (k=k') with
    | true=>z8v wr g gb op k m n
    | false=>none
  | _,_=>none
 | some .bool=>match a,b with
  | .bool m,.bool n=>match op with
   | .eql=>yes (.bool (m==n))
   | .neq=>yes (.bool (!(m==n)))
   | _=>none
  | _,_=>none
 | some (.slice _)=>match y0u y,a with
  | true,.slice p _ _=>match op with
   | .eql=>yes (.bool p.isNone)
   | .neq=>yes (.bool (!p.isNone))
   | _=>none
  | _,_=>none
 | some (.struct _)=>match a,b with
  | .agg xs,.agg ys=>match P.eqGuardType P.depth t,eqV P 9 none t (.agg xs) (.agg ys) with
   | false,some (some r)=>match op with
    | .eql=>yes (.bool r)
    | .neq=>yes (.bool (!r))
    | _=>none
   | _,_=>none
  | _,_=>none
 | _=>none

def yjj {α:Type} (P:Program):Sem α→Option α
 | .pure a=>some a
 | .program k=>yjj P (k P)
 | .mark _ k=>yjj P k
 | _=>none

def y8g {α:Type} (P:Program):Sem α→Option (Obj × (Nat→Option α))
 | .new o k=>some (o,fun r=>yjj P (k r))
 | .program k=>y8g P (k P)
 | .mark _ k=>y8g P k
 | _=>none

def yhd (x:Bool) (a b:Operand) (A B:Value):Option Value :=
 match A,B with
 | .bool p,.bool q=>match a,b with
  | .const (.bool true),_=>some (.bool (x||q))
  | _,.const (.bool false)=>some (.bool (x&&p))
  | _,_=>some (.bool (cond x p q))
 | .int k m,.int k' n=>match decide (k=k') with
  | true=>some (.int k (cond x m n))
  | false=>none
 | _,_=>none

def zvb (P:Program) (t:TypeId) (f:Nat):Option Nat :=
 match P.underlying t with
 | some (.struct fs)=>match fs[f]? with
  | some fd=>match Nat.beq (P.cellsOf fd.type) 0 with
   | true=>none
   | false=>some fd.offset
  | none=>none
 | _=>none

def y0p (P:Program) (t:TypeId):Option (Nat × Nat) :=
 match P.underlying t with
 | some (.array n e)=>some (n,P.cellsOf e)
 | _=>none

def yzl (agg:Bool) (v:Value):List Value :=
 match agg with
 | true=>match v with
  | .agg cs=>cs.toList
  | _=>[]
 | false=>[v]

def yrd:List Value→Nat→List Value→List Value
 | xs,_,[]=>xs
 | [],_,_=>[]
 | _ :: xs,0,v :: vs=>v :: yrd xs 0 vs
 | x :: xs,i+1,vs=>x :: yrd xs i vs

def z1i.set (pr:z1i) (j:Nat) (x:Option (List Value × TypeId)):z1i:=fun k =>
 match Nat.beq k j with
 | true=>x
 | false=>pr k

def Hp.canStore (H:Hp) (p:Addr):Nat→List Value→Prop
 | _,[]=>True
 | i,_ :: vs=>(∃ c T fz,H (p.add i).block=some (.cells c T fz)∧(p.add i).spot=none∧(p.add i).off<c.size∧¬ (fz.1≤(p.add i).off∧(p.add i).off<fz.2))∧Hp.canStore H p (i+1) vs

def Hp.set1 (H:Hp) (p:Addr) (v:Value):Hp:=fun k =>
 match Nat.beq k p.block with
 | true=>match H k with
  | some (.cells c T fz)=>some (.cells (c.setIfInBounds p.off v) T fz)
  | o=>o
 | false=>H k

def Hp.store (H:Hp) (p:Addr):Nat→List Value→Hp
 | _,[]=>H
 | i,v :: vs=>Hp.store (H.set1 (p.add i) v) p (i+1) vs

def z1e (P:Program) (s:Sem Next) (H:Hp) (post:Value→Hp→Prop):Prop :=
 ∀ w,z24 w H→∃ v w' H',(s.run P w=.ok (.value v) w'∨(s.run P w=.ok .skip w'∧v=undef))∧Tr w H w' H'∧post v H'

def OpQ (P:Program) (s:Sem Next) (H:Hp) (v:Value):Prop:=∀ w,z24 w H→s.run P w=.ok (.value v) w

def za5 (P:Program) (f:FuncId):Prop:=∃ fn,P.funcs[f]?=some fn∧fn.body.isSome=true

def FnV (P:Program) (F:Value) (args:List Value) (H:Hp) (post:Value→Hp→Prop):Prop :=
 ∃ f first cap,F=.func (.func f) first cap∧za5 P f∧Fn P f (first++args.toArray++cap) H post
def QfV (P:Program) (F:Value) (args:List Value) (H:Hp) (v:Value):Prop:=FnV P F args H fun v' H'=>v'=v∧Hp.le H H'

def Yd (P:Program) (l:Nat) (args:Array Value) (w:World) (R:Ending→World→Prop):Prop :=
 ∃ fn tmps assign body,(Instr.yield l args).run P w=.ok (.round l fn tmps assign body) w∧RoundIn Fence.wide 0 P l fn tmps assign body w R
theorem Yd.mono {P:Program} {l:Nat} {args:Array Value} {w:World} {R R':Ending→World→Prop} (h:Yd P l args w R) (hr:∀ e w',R e w'→R' e w'):Yd P l args w R' :=
 let ⟨a,b,c,d,h1,h2⟩:=h; ⟨a,b,c,d,h1,h2.mono hr⟩
def FnY (P:Program) (l:Nat) (args:List Value) (H:Hp) (post:Value→Hp→Prop):Prop :=
 ∀ w,z24 w H→Yd P l args.toArray w fun e w'=>∃ v H',e=.returned v∧Tr w H w' H'∧post v H'

abbrev Kop:=Sl→z1i→Hp→Prop

def opsv (env:Env) (g:Gd):List Operand→Option (List Value)
 | []=>some []
 | x :: xs=>match env.ev g x with
  | some (.lit v)=>match opsv env g xs with
   | some vs=>some (v :: vs)
   | none=>none
  | _=>none

def rho (env:Env) (g:Gd) (x:Operand):Value :=
 match env.ev g x with
 | some (.lit v)=>v
 | _=>undef

def z5c (env:Env) (g:Gd):List Operand→Bool
 | []=>true
 | x :: xs=>match env.ev g x with
  | some (.lit _)=>z5c env g xs
  | _=>false

inductive NF where
 | bad
 | pu (ob:Option Prop) (x:Sl)
 | px (ls:List z0x) (ob:List Value→Prop) (x:List Value→Sl)
 | rd (ls:List z0x) (ob:List Value→Hp→Prop) (x:List Value→Sl)
 | ow (f:z1i→Option (Sl × z1i))
 | al (c:Option Prop) (x:Nat→Sl) (ob:Obj)
 | ag (gb:Bool) (x:Nat→Sl) (ob:Obj)
 | cf (g:Gd) (f:FuncId) (args:List Value) (sh:Shp)
 | cg (gb:Bool) (g:Gd) (f:FuncId) (args:List Value) (sh:Shp)
 | ce (f:FuncId) (args:List Value) (sh:Shp)
 | cy (l:Nat) (args:List Value) (sh:Shp)
 | cv (F:Value) (args:List Value) (sh:Shp)
 | ef (s:Sem Next) (sh:Shp)
 | st (ad:Addr) (vs:List Value)

def yaw:Option Prop→Prop→Prop
 | none,q=>q
 | some p,q=>p∧q

def NF.vc (P:Program) (draw:Bool) (k:Kop) (pr:z1i) (H:Hp):NF→Prop
 | .bad=>False
 | .pu ob x=>yaw ob (k x pr H)
 | .px ls ob x=>exL ls fun vs=>ob vs∧k (x vs) pr H
 | .rd ls ob x=>exL ls fun vs=>ob vs H∧k (x vs) pr H
 | .ow f=>match f pr with
  | some (x,pr')=>k x pr' H
  | none=>False
 | .al c x ob=>yaw c (∀ (b:Nat) (H':Hp),H b=none→H'=H.put b ob→k (x b) pr H')
 | .ag gb x ob=>(gb=true→∀ (b:Nat) (H':Hp),H b=none→H'=H.put b ob→k (x b) pr H')∧(gb=false→k (x 0) pr H)
 | .cf g f args sh=>Fn P f args.toArray H fun v H'=>yaw (match draw with | true=>some (Hp.le H H') | false=>none)
   (exL sh.leaves fun vs=>v=sh.mk vs∧k (some (g,.lit (sh.mk vs))) pr H')
 | .cg gb g f args sh=>(gb=true→Fn P f args.toArray H fun v H'=>yaw (match draw with | true=>some (Hp.le H H') | false=>none)
   (exL sh.leaves fun vs=>v=sh.mk vs∧k (some (g,.lit (sh.mk vs))) pr H'))∧(gb=false→k (some (g,.lit (sh.mk (sh.leaves.map z0x.dflt)))) pr H)
 | .ce f args sh=>Fn P f args.toArray H fun v H'=>exL sh.leaves fun vs=>v=sh.mk vs∧k (some ([],.lit (sh.mk vs))) pr H'
 | .cy l args sh=>FnY P l args H fun v H'=>exL sh.leaves fun vs=>v=sh.mk vs∧k (some ([],.lit (sh.mk vs))) pr H'
 | .cv F args sh=>FnV P F args H fun v H'=>yaw (match draw with | true=>some (Hp.le H H') | false=>none)
   (exL sh.leaves fun vs=>v=sh.mk vs∧k (some ([],.lit (sh.mk vs))) pr H')
 | .ef s sh=>z1e P s H fun v H'=>exL sh.leaves fun vs=>v=sh.mk vs∧k (some ([],.lit (sh.mk vs))) pr H'
 | .st ad vs=>Hp.canStore H ad 0 vs∧∀ H':Hp,H'=H.store ad 0 vs→k none pr H'

def yb2 (g:Gd):Pv→NF
 | none=>.bad
 | some (ob,v)=>.pu ob (some (g,.lit v))

def yji (P:Program) (env:Env) (g:Gd) (o:Oper):NF :=
 match z5c env g o.op.operands.toList with
 | true=>match yjj P (execOp (rho env g) o) with
  | some (.value v)=>.pu none (some (g,.lit v))
  | _=>.bad
 | false=>.bad

def y8f (P:Program) (env:Env) (g:Gd) (gb:Bool) (o:Oper) (mk:Nat→Value):NF :=
 match z5c env g o.op.operands.toList with
 | true=>match y8g P (execOp (rho env g) o) with
  | some (ob,_)=>match g with
   | []=>.al none (fun b=>some ([],.lit (mk b))) ob
   | _ :: _=>.ag gb (fun b=>some (g,.lit (mk b))) ob
  | none=>.bad
 | false=>.bad

def yde (P:Program) (env:Env) (g:Gd) (o:Oper) (d:Nat):NF :=
 match g,z5c env g o.op.operands.toList with
 | [],true=>match y8g P (execOp (rho env g) o) with
  | some (.cells c t (0,0),_)=>.ow fun pr=>match pr d with
   | none=>some (some ([],.ptr d 0),pr.set d (some (c.toList,t)))
   | some _=>none
  | _=>.bad
 | _,_=>.bad

def isC:Operand→Bool
 | .const _=>true
 | _=>false
def yr6 (s:Sem Value):Sem Next:=do pure (.value (← s))
def yr5 (s:Sem Unit):Sem Next:=do s; pure .skip
def z8b (b:Builtin) (ts:Array TypeId) (t:TypeId) (cs:Array Bool) (args:List Value):Sem Next:=Go.builtin b ts t cs args.toArray

def ycd (env:Env) (g:Gd) (d:Int):Option Operand→Option Int
 | none=>some d
 | some x=>match env.ev g x with
  | some (.lit (.int _ n))=>some n
  | _=>none

def za4 (C:Cfg) (g:Gd) (gb:Bool) (x:Operand) (args:List Value) (sh:Shp) (env:Env):NF :=
  match x with
  | .func f=>match C.P.funcs[f]? with
    | some fn=>match fn.body.isSome with
      | true=>match (zux sh||C.qf f)&&!C.eff f with
        | true=>.rd sh.leaves (fun vs H=>imp gb (Qf C.P f args.toArray H (sh.mk vs)) g) fun vs=>some (g,.lit (sh.mk vs))
        | false=>match g with
          | []=>match C.eff2 f with
            | true=>.ce f args sh
            | false=>.cf [] f args sh
          | p :: g'=>match C.eff2 f with
            | true=>.bad
            | false=>.cg gb (p :: g') f args sh
      | false=>match (zux sh||C.qf f)&&!C.eff f with
        | true=>.rd sh.leaves (fun vs H=>imp gb (OpQ C.P (callFunc f args.toArray) H (sh.mk vs)) g) fun vs=>some (g,.lit (sh.mk vs))
        | false=>.bad
    | none=>.bad
  | x=>match C.yl with
   | true=>match env.ev g x with
    | some (.lit (.func (.yield l) p q))=>match g,p.size,q.size with
      | [],0,0=>.cy l args sh
      | _,_,_=>.bad
    | _=>.bad
   | false=>match env.ev g x with
    | some (.lit F)=>match zux sh&&!C.effv with
      | true=>.rd sh.leaves (fun vs H=>imp gb (QfV C.P F args H (sh.mk vs)) g) fun vs=>some (g,.lit (sh.mk vs))
      | false=>match g with
        | []=>.cv F args sh
        | _ :: _=>.bad
    | _=>.bad

def y79 (env:Env) (g:Gd) (x:Operand):NF :=
 match env.ev g x with
 | some v=>.pu none (some (g,v))
 | none=>.pu none none

def ya5 (env:Env) (g:Gd) (x:Operand):NF :=
 match env.ev g x with
 | some (.lit (.pointer (some a)))=>.pu none (some (g,.lit (.pointer (some a))))
 | some (.ptr j off)=>.pu none (some (g,.ptr j off))
 | _=>.bad

def za3 (C:Cfg) (env:Env) (g:Gd) (o:Oper) (c:Call) (b:Builtin):NF :=
 match b,opsv env g c.args.toList with
 | .len,some [.slice _ n _]=>match c.argTypes[0]? with
  | some t=>match C.P.underlying t with
   | some (.slice _)=>.pu none (some (g,.lit (.int .i64 n)))
   | _=>.bad
  | none=>.bad
 | .cap,some [.slice _ _ cp]=>match c.argTypes[0]? with
  | some t=>match C.P.underlying t with
   | some (.slice _)=>.pu none (some (g,.lit (.int .i64 cp)))
   | _=>.bad
  | none=>.bad
 | .min,some [.int ka a,.int _ b]=>.pu none (some (g,.lit (.int ka (if b<a then b else a))))
 | .min,some [.int ka a,.int _ b,.int _ d]=>.pu none (some (g,.lit (.int ka (if d<(if b<a then b else a) then d else (if b<a then b else a)))))
 | .max,some [.int ka a,.int _ b]=>.pu none (some (g,.lit (.int ka (if b>a then b else a))))
 | .max,some [.int ka a,.int _ b,.int _ d]=>.pu none (some (g,.lit (.int ka (if d>(if b>a then b else a) then d else (if b>a then b else a)))))
 | .append,some vs=>match g with
  | []=>.ef (z8b .append c.argTypes o.type (c.args.map isC) vs) (shp C.P o.type)
  | _ :: _=>.bad
 | .copy,some vs=>match g with
  | []=>.ef (z8b .copy c.argTypes o.type (c.args.map isC) vs) (shp C.P o.type)
  | _ :: _=>.bad
 | .clear,some vs=>match g with
  | []=>.ef (z8b .clear c.argTypes o.type (c.args.map isC) vs) (shp C.P o.type)
  | _ :: _=>.bad
 | .delete,some vs=>match g with
  | []=>.ef (z8b .delete c.argTypes o.type (c.args.map isC) vs) (shp C.P o.type)
  | _ :: _=>.bad
 | _,_=>.bad

def zy4 (P:Program) (t:TypeId):Bool :=
 match P.underlying t with
 | some _=>true
 | none=>false

def y4s (C:Cfg) (env:Env) (g:Gd) (gb:Bool) (t:TypeId) (x:Nat):NF :=
 match C.pv x,env.ev g (.tmp x),(z56 C.P t||Nat.beq (C.P.cellsOf t) 1)&&zy4 C.P t with
 | true,some (.ptr j off),true=>match Nat.beq (C.nm x) j with
  | true=>.ow fun pr=>match pr j with
   | some (cs,_)=>match Nat.ble (off+C.P.cellsOf t) cs.length with
    | true=>some (some (g,.lit (mkV (z56 C.P t) ((cs.drop off).take (C.P.cellsOf t)))),pr)
    | false=>none
   | none=>none
  | false=>.bad
 | false,some (.lit (.pointer (some a))),true=>match Nat.beq (leaves C.P 9 t).length (C.P.cellsOf t) with
  | true=>.rd (leaves C.P 9 t) (fun vs H=>imp gb (zag H a 0 vs) g) fun vs=>some (g,.lit (mkV (z56 C.P t) vs))
  | false=>.bad
 | _,_,_=>.bad

def yvg (C:Cfg) (env:Env) (g:Gd) (t:TypeId) (x:Nat) (y:Operand):NF :=
 match g,C.pv x&&zy4 C.P t&&!(Nat.beq (C.P.cellsOf t) 0),C.pv x||!zy4 C.P t||Nat.beq (C.P.cellsOf t) 0,env.ev g (.tmp x),env.ev g y with
 | [],true,_,some (.ptr j off),some (.lit v)=>match Nat.beq (yzl (z56 C.P t) v).length (C.P.cellsOf t)&&(yzl (z56 C.P t) v).all Value.oneCell'&&Nat.beq (C.nm x) j with
  | true=>.ow fun pr=>match pr j with
   | some (cs,e)=>match Nat.ble (off+C.P.cellsOf t) cs.length with
    | true=>some (none,pr.set j (some (yrd cs off (yzl (z56 C.P t) v),e)))
    | false=>none
   | none=>none
  | false=>.bad
 | [],_,false,some (.lit (.pointer (some a))),some (.lit v)=>match Nat.beq (yzl (z56 C.P t) v).length (C.P.cellsOf t)&&(yzl (z56 C.P t) v).all Value.oneCell' with
  | true=>.st a (yzl (z56 C.P t) v)
  | false=>.bad
 | _,_,_,_,_=>.bad

def yhc (env:Env) (g:Gd) (tc:Nat) (a b:Operand):NF :=
 match env.ev g (.tmp tc),env.ev ((tc,true) :: g) a,env.ev ((tc,false) :: g) b with
 | some (.lit (.bool x)),some (.lit A),some (.lit B)=>match yhd x a b A B with
  | some v=>.pu none (some (g,.lit v))
  | none=>.bad
 | _,_,_=>.bad

def zno (P:Program) (g:Gd) (gb:Bool) (s t:TypeId) (x:Option V0):NF :=
 match P.underlying s,P.underlying t,x with
 | some (.int _),some (.int kd),some (.lit (.int ks n))=>match ks,kd with
  | .i64,.i64=>.pu (some (imp gb (inI n) g)) (some (g,.lit (.int .i64 n)))
  | _,.u64=>.pu none (some (g,.lit (.int .u64 (x0h n))))
  | _,kd=>.pu none (some (g,.lit (.int kd (kd.wrap n))))
 | _,_,_=>.bad

def zzc (P:Program) (g:Gd) (gb:Bool) (t:TypeId) (x i:Option V0):NF :=
 match x,i with
 | some (.ptr j off),some (.lit (.int _ n))=>match y0p P t,n with
  | some (len,s),.ofNat m=>match Nat.blt m len&&!(Nat.beq s 0) with
   | true=>.pu none (some (g,.ptr j (off+m * s)))
   | false=>.bad
  | _,_=>.bad
 | some (.lit (.slice a len _)),some (.lit (.int _ n))=>match P.underlying t with
  | some (.slice e)=>match Nat.beq (P.cellsOf e) 0 with
   | false=>.pu (some (imp gb (zzp a len n) g)) (some (g,.lit (.pointer (some (zpw a (P.cellsOf e) n)))))
   | true=>.bad
  | _=>.bad
 | _,_=>.bad

def ybq (C:Cfg) (env:Env) (g:Gd) (gb:Bool) (o:Oper):NF :=
 match o.op with
 | .move x=>y79 env g x
 | .assign x=>y79 env g x
 | .nilCheck x=>ya5 env g x
 | .pick (.tmp tc) a b=>yhc env g tc a b
 | .binOp op t x y _=>match env.ev g x,env.ev g y with
  | some (.lit a),some (.lit b)=>yb2 g (bin C.P C.wr g gb op t y a b)
  | _,_=>.bad
 | .unOp .not _ x=>match env.ev g x with
  | some (.lit (.bool b))=>.pu none (some (g,.lit (.bool !b)))
  | _=>.bad
 | .unOp .neg _ x=>match env.ev g x with
  | some (.lit (.int kd n))=>yb2 g (z6s C.wr g gb kd (0-n))
  | _=>.bad
 | .convert s t x=>zno C.P g gb s t (env.ev g x)
 | .fieldAddr t x f=>match zvb C.P t f,env.ev g x with
  | some i,some (.ptr j off)=>.pu none (some (g,.ptr j (off+i)))
  | some i,some (.lit (.pointer (some a)))=>.pu none (some (g,.lit (.pointer (some (a.add i)))))
  | _,_=>.bad
 | .indexAddr t x i=>zzc C.P g gb t (env.ev g x) (env.ev g i)
 | .index t x i=>match C.P.underlying t,env.ev g x,env.ev g i with
  | some (.array len e),some (.lit (.agg cs)),some (.lit (.int _ n))=>match (z56 C.P e||Nat.beq (C.P.cellsOf e) 1)&&zy4 C.P e&&!(Nat.beq (C.P.cellsOf e) 0) with
   | true=>.px (leaves C.P 9 e) (fun vs=>imp gb (ybe n len cs.toList (C.P.cellsOf e) vs) g)
     fun vs=>some (g,.lit (mkV (z56 C.P e) vs))
   | false=>.bad
  | _,_,_=>.bad
 | .load t (.tmp x)=>y4s C env g gb t x
 | .store t (.tmp x) y=>yvg C env g t x y
 | .alloc _=>match o.dst with
  | some d=>match C.pv d with
   | false=>y8f C.P env g gb o fun b=>.pointer (some ⟨b,0,none⟩)
   | true=>yde C.P env g o d
  | none=>.bad
 | .box _ _=>match o.dst with
  | some d=>match C.pv d with
   | false=>y8f C.P env g gb o fun b=>.pointer (some ⟨b,0,none⟩)
   | true=>yde C.P env g o d
  | none=>.bad
 | .buildSlice _ n _=>y8f C.P env g gb o fun b=>.slice (some ⟨b,0,none⟩) n n
 | .makeMap _ none=>y8f C.P env g gb o fun b=>.map (some b)
 | .build _ _=>yji C.P env g o
 | .field _ _ _=>yji C.P env g o
 | .extract _ _=>yji C.P env g o
 | .makeFunc _ _ _=>yji C.P env g o
 | .slice t x lo hi mx=>match C.P.underlying t,env.ev g x with
  | some (.slice e),some (.lit (.slice a len cp))=>match ycd env g 0 lo,ycd env g len hi,ycd env g cp mx,(hi.isSome||!mx.isSome)&&!(Nat.beq (C.P.cellsOf e) 0) with
   | some l,some h,some m,true=>.pu (some (imp gb (ybn l h m cp) g)) (some (g,.lit (.slice (yvk a (C.P.cellsOf e) l m) (h.toNat-l.toNat) (m.toNat-l.toNat))))
   | _,_,_,_=>.bad
  | _,_=>.bad
 | .makeSlice t l c=>match g,env.ev g l,env.ev g c,C.P.underlying t with
  | [],some (.lit (.int .i64 n)),some (.lit (.int .i64 m)),some (.slice e)=>match C.P.info? e with
   | some i=>match i.zero with
    | some z=>match Nat.blt 0 i.size&&Nat.blt 0 i.bytes&&Nat.beq z.cells.size i.size with
     | true=>.al (some (ybi n m i.bytes)) (fun b=>some ([],.lit (.slice (some ⟨b,0,none⟩) n.toNat n.toNat))) (.cells (List.replicate n.toNat z.cells.toList).flatten.toArray e (0,0))
     | false=>.bad
    | none=>.bad
   | none=>.bad
  | _,_,_,_=>.bad
 | .call c=>match c.callee with
  | .value x=>match opsv env g c.args.toList with
   | some args=>za4 C g gb x args (shp C.P o.type) env
   | none=>.bad
  | .builtin b=>za3 C env g o c b
  | _=>.bad
 | .lookup t x i ok=>match env.ev g x,env.ev g i with
  | some (.lit xv),some (.lit iv)=>.rd (shp C.P o.type).leaves (fun vs H=>imp gb (OpQ C.P (yr6 (Instr.lookup t xv iv ok)) H ((shp C.P o.type).mk vs)) g) fun vs=>some (g,.lit ((shp C.P o.type).mk vs))
  | _,_=>.bad
 | .mapUpdate t m x y=>match g,env.ev g m,env.ev g x,env.ev g y with
  | [],some (.lit mv),some (.lit xv),some (.lit yv)=>.ef (yr5 (Instr.mapUpdate t mv xv yv)) (.one false [.val])
  | _,_,_,_=>.bad
 | .range t x=>match g,env.ev g x with
  | [],some (.lit xv)=>.ef (yr6 (Instr.range t xv)) (shp C.P o.type)
  | _,_=>.bad
 | .next x b=>match g,env.ev g x with
  | [],some (.lit xv)=>.ef (yr6 (Instr.next xv b o.type)) (shp C.P o.type)
  | _,_=>.bad
 | .entry x=>match g,env.ev g x with
  | [],some (.lit xv)=>.ef (yr6 (Instr.entry xv)) (shp C.P o.type)
  | _,_=>.bad
 | _=>.bad

end Go.Eng
end
section
/- The engine,part C: states and what they say of a frame and a world; the operands. Conditions: none. -/
namespace Go.Eng

structure St where
 env:Env
 priv:z1i

def V0.val (ids:Nat→Nat):V0→Value
 | .lit v=>v
 | .ptr j off=>.pointer (some ⟨ids j,off,none⟩)

def V0.known (pr:z1i):V0→Prop
 | .lit _=>True
 | .ptr j _=>pr j≠none

def gH (t:Array Value) (g:Gd):Prop:=∀ p∈g,t.getD p.1 undef=.bool p.2

def dfr (D:Nat):Deferred:={ target:=.collected D,args:=#[] }

structure z0m (n:Nat) (ds:List Nat) (env:Env) (pr:z1i) (ids:Nat→Nat) (a:Act):Prop where
 size:a.tmps.size=n
 defers:a.defers=ds.map dfr
 ok:∀ t g v,env t=some (g,v)→gH a.tmps g→a.tmps.getD t undef=v.val ids
 no:∀ t g v,env t=some (g,v)→¬ gH a.tmps g→a.tmps.getD t undef=undef
 known:∀ t g v,env t=some (g,v)→v.known pr

structure z1j (ds:List Nat) (pr:z1i) (ids:Nat→Nat) (H:Hp) (w:World) (B:Nat):Prop where
 blk:∀ j cs t,pr j=some (cs,t)→w.heap[ids j]?=some (.cells cs.toArray t (0,0))
 hid:∀ j,pr j≠none→H (ids j)=none
 low:∀ j,pr j≠none→B≤ids j
 inj:∀ j k,pr j≠none→pr k≠none→ids j=ids k→j=k
 dfs:∀ D∈ds,B≤D∧H D=none∧w.heap[D]?=some (.deferred (some []))

def Sim (n:Nat) (ds:List Nat) (w0:World) (H0:Hp) (st:St) (H:Hp) (a:Act) (w:World):Prop :=
 ∃ ids,z0m n ds st.env st.priv ids a∧z1j ds st.priv ids H w w0.heap.size∧Tr w0 H0 w H

theorem z1j.lt {ds:List Nat} {pr:z1i} {ids:Nat→Nat} {H:Hp} {w:World} {B:Nat} (h:z1j ds pr ids H w B) {j:Nat} (hj:pr j≠none):ids j<w.heap.size:=by
 cases hx:pr j with
 | none=>exact absurd hx hj
 | some x =>
  obtain ⟨cs,t⟩:=x
  have:=h.blk j cs t hx
  exact (Array.getElem?_eq_some_iff.1 this).1

theorem z1j.tr {ds:List Nat} {pr:z1i} {ids:Nat→Nat} {H H':Hp} {w w':World} {B:Nat} (h:z1j ds pr ids H w B) (ht:Tr w H w' H'):z1j ds pr ids H' w' B:=by
 refine ⟨fun j cs t hj=>?_,fun j hj=>?_,h.low,h.inj,fun D hD=>?_⟩
 ·have hk:pr j≠none:=by simp [hj]
  rw [ht.frame (ids j) (h.lt hk) (h.hid j hk)]; exact h.blk j cs t hj
 ·exact ht.none (h.lt hj) (h.hid j hj)
 ·obtain ⟨h1,h2,h3⟩:=h.dfs D hD
  have hl:=(Array.getElem?_eq_some_iff.1 h3).1
  exact ⟨h1,ht.none hl h2,(ht.frame D hl h2).trans h3⟩

theorem Nat.beq_iff (a b:Nat):Nat.beq a b=true↔a=b:=⟨Nat.eq_of_beq_eq_true,fun h=>by subst h; exact Nat.beq_refl a⟩

theorem y6c {d:Nat}:∀ {g:Gd},y6b d g=true↔∃ p∈g,p.1=d
 | []=>by simp [y6b]
 | p :: g=>by simp [y6b,y6c (g:=g)]

theorem z7p {a b:Bool}:bEq a b=true↔a=b:=by cases a <;> cases b <;> simp [bEq]

theorem zw3 {s:Nat} {w:Bool}:∀ {g:Gd},gIn s w g=true↔(s,w)∈g
 | []=>by simp [gIn]
 | (a,b) :: g=>by
  simp only [gIn,Bool.or_eq_true,Bool.and_eq_true,Nat.beq_iff,z7p,zw3 (g:=g),List.mem_cons,Prod.mk.injEq]
  constructor
  ·rintro (⟨h1,h2⟩ | h)
   ·exact .inl ⟨h1.symm,h2.symm⟩
   ·exact .inr h
  ·rintro (⟨h1,h2⟩ | h)
   ·exact .inl ⟨h1.symm,h2.symm⟩
   ·exact .inr h

theorem zw7:∀ {g' g:Gd},zw6 g' g=true↔∀ p∈g',p∈g
 | [],g=>by simp [zw6]
 | (a,b) :: g',g=>by simp [zw6,zw3,zw7 (g':=g')]

theorem zw0:∀ {g g':Gd},gEq g g'=true→g=g'
 | [],[],_=>rfl
 | (a,b) :: g,(c,d) :: g',h=>by
  simp only [gEq,Bool.and_eq_true,Nat.beq_iff,z7p] at h
  obtain ⟨⟨h1,h2⟩,h3⟩:=h
  rw [h1,h2,zw0 h3]
 | [],_ :: _,h=>by simp [gEq] at h
 | _ :: _,[],h=>by simp [gEq] at h

theorem Env.put_at (env:Env) (d:Nat) (x:Sl):env.put d x d=x:=by
 have h:Nat.beq d d=true:=Nat.beq_refl d
 simp only [Env.put,h]
theorem Env.put_ne {env:Env} {d t:Nat} {x:Sl} (h:t≠d):env.put d x t=match env t with
  | some (g,v)=>match y6b d g with
   | true=>none
   | false=>some (g,v)
  | none=>none:=by
 have hb:Nat.beq t d=false:=by
  cases hx:Nat.beq t d
  ·rfl
  ·exact absurd ((Nat.beq_iff t d).1 hx) h
 simp only [Env.put,hb] <;> rfl
theorem Env.put_some {env:Env} {d t:Nat} {x:Sl} {g:Gd} {v:V0} (h:t≠d) (hp:env.put d x t=some (g,v)):env t=some (g,v)∧y6b d g=false:=by
 rw [Env.put_ne h] at hp
 cases hx:env t with
 | none=>simp [hx] at hp
 | some y =>
  obtain ⟨g',v'⟩:=y
  simp only [hx] at hp
  cases hm:y6b d g' with
  | true=>simp [hm] at hp
  | false=>simp only [hm,Option.some.injEq,Prod.mk.injEq] at hp; obtain ⟨rfl,rfl⟩:=hp; exact ⟨rfl,hm⟩

section
variable {n:Nat} {ds:List Nat} {env:Env} {pr:z1i} {ids:Nat→Nat} {a:Act}

theorem zw2 {t:Array Value} {g g':Gd} (h:gH t g) (hs:zw6 g' g=true):gH t g':=fun p hp=>h p (zw7.1 hs p hp)

theorem z0m.ev (h:z0m n ds env pr ids a) {g:Gd} (hg:gH a.tmps g) {x:Operand} {v:V0} (hx:env.ev g x=some v):a.eval x=v.val ids:=by
 cases x with
 | tmp t =>
  simp only [Env.ev] at hx
  cases he:env t with
  | none=>simp [he] at hx
  | some y =>
   obtain ⟨g',v'⟩:=y
   simp only [he] at hx
   cases hs:zw6 g' g with
   | false=>simp [hs] at hx
   | true =>
    simp only [hs,Option.some.injEq] at hx
    subst hx
    exact h.ok t g' v' he (zw2 hg hs)
 | const c=>simp only [Env.ev,Option.some.injEq] at hx; subst hx; rfl
 | func f=>simp only [Env.ev,Option.some.injEq] at hx; subst hx; rfl
 | global g=>simp [Env.ev] at hx

theorem z0m.evk (h:z0m n ds env pr ids a) {g:Gd} {x:Operand} {v:V0} (hx:env.ev g x=some v):v.known pr:=by
 cases x with
 | tmp t =>
  simp only [Env.ev] at hx
  cases he:env t with
  | none=>simp [he] at hx
  | some y =>
   obtain ⟨g',v'⟩:=y
   simp only [he] at hx
   cases hs:zw6 g' g with
   | false=>simp [hs] at hx
   | true =>
    simp only [hs,Option.some.injEq] at hx
    subst hx
    exact h.known t g' v' he
 | const c=>simp only [Env.ev,Option.some.injEq] at hx; subst hx; trivial
 | func f=>simp only [Env.ev,Option.some.injEq] at hx; subst hx; trivial
 | global g=>simp [Env.ev] at hx

theorem yyl (b:Bool):undef≠.bool b:=by simp [undef]

theorem z0m.gb (h:z0m n ds env pr ids a):∀ {g:Gd} {b:Bool},env.gb g=some b→(gH a.tmps g↔b=true)
 | [],b,hb=>by simp only [Env.gb,Option.some.injEq] at hb; subst hb; simp [gH]
 | (s,w) :: g,b,hb=>by
  simp only [Env.gb] at hb
  cases he:env s with
  | none=>simp [he] at hb
  | some y =>
   obtain ⟨g',v⟩:=y
   cases v with
   | ptr j o=>simp [he] at hb
   | lit v =>
    cases v with
    | bool x =>
     simp only [he] at hb
     cases hq:gEq g' g with
     | false=>simp [hq] at hb
     | true =>
      have e:=zw0 hq
      subst e
      simp only [hq] at hb
      have hok:=h.ok s g' _ he
      have hno:=h.no s g' _ he
      have split:gH a.tmps ((s,w) :: g')↔gH a.tmps g'∧a.tmps.getD s undef=.bool w:=by
       simp only [gH,List.mem_cons,forall_eq_or_imp]; exact And.comm
      rw [split]
      have key:(gH a.tmps g'∧a.tmps.getD s undef=.bool w)↔(gH a.tmps g'∧x=w):=by
       constructor
       ·rintro ⟨h1,h2⟩
        refine ⟨h1,?_⟩
        rw [hok h1] at h2
        simpa [V0.val] using h2
       ·rintro ⟨h1,rfl⟩
        exact ⟨h1,hok h1⟩
      rw [key]
      cases g' with
      | nil=>cases w <;> simp at hb <;> subst hb <;> simp [gH]
      | cons p g'' =>
       cases hgb:env.gb (p :: g'') with
       | none=>simp [hgb] at hb
       | some y =>
        have ih:=z0m.gb h hgb
        rw [ih]
        cases w <;> simp [hgb] at hb <;> subst hb <;> simp
    | _=>simp [he] at hb

theorem zwk {g:Gd} {s:Nat} {w b:Bool} (hb:env.gb ((s,w) :: g)=some b):∃ x,env s=some (g,.lit (.bool x)):=by
 simp only [Env.gb] at hb
 cases he:env s with
 | none=>simp [he] at hb
 | some y =>
  obtain ⟨g',v⟩:=y
  cases v with
  | ptr j o=>simp [he] at hb
  | lit v =>
   cases v with
   | bool x =>
    simp only [he] at hb
    cases hq:gEq g' g with
    | false=>simp [hq] at hb
    | true=>rw [zw0 hq]; exact ⟨x,rfl⟩
   | _=>simp [he] at hb

theorem z0m.wanted (h:z0m n ds env pr ids a) {ops:Array Oper} {f:Nat} {o:Oper} {g:Gd} {b:Bool} (hc:zio ops f o=some g) (hb:env.gb g=some b) :
  Region.wanted o (yielded ops a.tmps)=true↔gH a.tmps g:=by
 cases f with
 | zero=>simp [zio] at hc
 | succ f =>
  simp only [zio] at hc
  unfold Region.wanted
  cases ho:o.guard with
  | none=>simp only [ho,Option.some.injEq] at hc; subst hc; simp [gH]
  | some jw =>
   obtain ⟨j,w⟩:=jw
   simp only [ho] at hc
   cases hj:ops[j]? with
   | none=>simp [hj] at hc
   | some oj =>
    simp only [hj] at hc
    cases hd:oj.dst with
    | none=>simp [hd] at hc
    | some s =>
     cases hg:zio ops f oj with
     | none=>simp [hd,hg] at hc
     | some g' =>
      simp only [hd,hg,Option.some.injEq] at hc
      subst hc
      obtain ⟨x,hx⟩:=zwk hb
      have hy:yielded ops a.tmps j=match a.tmps[s]? with
        | some (.bool b)=>some b
        | _=>none:=by
       unfold yielded
       simp only [hj,hd,Option.bind_some]
       cases a.tmps[s]? with
       | none=>rfl
       | some v=>cases v <;> rfl
      simp only [hy]
      have hok:=h.ok s g' _ hx
      have hno:=h.no s g' _ hx
      by_cases hgh:gH a.tmps g'
      ·have e:=hok hgh
       have e':a.tmps[s]?=some (.bool x):=by
        rw [Array.getD_eq_getD_getElem?] at e
        cases hs:a.tmps[s]? with
        | none=>rw [hs] at e; exact absurd e (yyl x)
        | some v=>rw [hs] at e; simpa [V0.val] using e
       simp only [e']
       constructor
       ·intro hw
        have:x=w:=by simpa using hw
        subst this
        intro p hp
        rcases List.mem_cons.1 hp with rfl | hp
        ·exact e
        ·exact hgh p hp
       ·intro hall
        have e2:=hall (s,w) (List.mem_cons_self ..)
        rw [e] at e2
        have:x=w:=by simpa [V0.val] using e2
        simp [this]
      ·have e:=hno hgh
       have hne:∀ c,a.tmps[s]?≠some (.bool c):=by
        intro c hc
        rw [Array.getD_eq_getD_getElem?,hc] at e
        exact yyl c (by simpa using e.symm)
       constructor
       ·intro hw
        exfalso
        revert hw
        cases hs:a.tmps[s]? with
        | none=>simp
        | some v =>
         cases v with
         | bool c=>exact absurd hs (hne c)
         | _=>simp
       ·intro hall
        exact absurd (fun p hp=>hall p (List.mem_cons_of_mem _ hp)) hgh

theorem zx3 (t:Array Value) (d s:Nat) (v:Value) (hd:d<t.size):(t.setIfInBounds d v).getD s undef=if s=d then v else t.getD s undef:=by
 by_cases h:s=d
 ·subst h; simp [hd]
 ·simp [h,Array.getElem?_setIfInBounds_ne (fun e:d=s=>h e.symm)]

theorem zw1 {t:Array Value} {d:Nat} {v:Value} {g:Gd} (hd:d<t.size) (hm:y6b d g=false):gH (t.setIfInBounds d v) g↔gH t g:=by
 have hne:∀ p∈g,p.1≠d:=fun p hp e=>by
  have:=y6c.2 ⟨p,hp,e⟩
  rw [hm] at this; cases this
 constructor
 ·intro h p hp
  have:=h p hp
  rwa [zx3 _ _ _ _ hd,if_neg (hne p hp)] at this
 ·intro h p hp
  rw [zx3 _ _ _ _ hd,if_neg (hne p hp)]; exact h p hp

theorem z0m.put (h:z0m n ds env pr ids a) {d:Nat} {x:Sl} {v:Value} (hd:d<n)
  (hx:∀ g v0,x=some (g,v0)→y6b d g=false∧(gH a.tmps g→v=v0.val ids)∧(¬ gH a.tmps g→v=undef)∧v0.known pr) :
  z0m n ds (env.put d x) pr ids (a.put (some d) v):=by
 have hd':d<a.tmps.size:=by rw [h.size]; exact hd
 refine ⟨by simp [Act.put,h.size],by simp [Act.put,h.defers],fun t g u ht hg=>?_,fun t g u ht hg=>?_,fun t g u ht=>?_⟩
 ·simp only [Act.put] at hg ⊢
  rw [zx3 _ _ _ _ hd']
  by_cases e:t=d
  ·subst e
   rw [Env.put_at] at ht
   obtain ⟨h1,h2,_⟩:=hx g u ht
   rw [if_pos rfl]
   exact h2 ((zw1 hd' h1).1 hg)
  ·rw [if_neg e]
   obtain ⟨h1,h2⟩:=Env.put_some e ht
   exact h.ok t g u h1 ((zw1 hd' h2).1 hg)
 ·simp only [Act.put] at hg ⊢
  rw [zx3 _ _ _ _ hd']
  by_cases e:t=d
  ·subst e
   rw [Env.put_at] at ht
   obtain ⟨h1,_,h2,_⟩:=hx g u ht
   rw [if_pos rfl]
   exact h2 (fun h'=>hg ((zw1 hd' h1).2 h'))
  ·rw [if_neg e]
   obtain ⟨h1,h2⟩:=Env.put_some e ht
   exact h.no t g u h1 (fun h'=>hg ((zw1 hd' h2).2 h'))
 ·by_cases e:t=d
  ·subst e
   rw [Env.put_at] at ht
   exact (hx g u ht).2.2.2
  ·exact h.known t g u (Env.put_some e ht).1

theorem z0m.opsv (h:z0m n ds env pr ids a) {g:Gd} (hg:gH a.tmps g):∀ {xs:List Operand} {vs:List Value},opsv env g xs=some vs→xs.map a.eval=vs
 | [],vs,hv=>by simp only [Eng.opsv,Option.some.injEq] at hv; subst hv; rfl
 | x :: xs,vs,hv=>by
  simp only [Eng.opsv] at hv
  cases hx:env.ev g x with
  | none=>simp [hx] at hv
  | some v =>
   cases v with
   | ptr j o=>simp [hx] at hv
   | lit v =>
    simp only [hx] at hv
    cases hr:Eng.opsv env g xs with
    | none=>simp [hr] at hv
    | some us =>
     simp only [hr,Option.some.injEq] at hv
     subst hv
     rw [List.map_cons,z0m.opsv h hg hr,h.ev hg hx]; rfl

theorem z0m.rho (h:z0m n ds env pr ids a) {g:Gd} (hg:gH a.tmps g):∀ {xs:List Operand},z5c env g xs=true→∀ x∈xs,a.eval x=rho env g x
 | [],_,x,hx=>by cases hx
 | y :: ys,hv,x,hx=>by
  simp only [z5c] at hv
  cases hy:env.ev g y with
  | none=>simp [hy] at hv
  | some v =>
   cases v with
   | ptr j o=>simp [hy] at hv
   | lit v =>
    simp only [hy] at hv
    rcases List.mem_cons.1 hx with rfl | hx
    ·rw [h.ev hg hy]; simp [Eng.rho,hy,V0.val]
    ·exact z0m.rho h hg hv x hx

end

theorem yjk {α:Type} {P:Program}:∀ {s:Sem α} {v:α},yjj P s=some v→∀ w,s.run P w=.ok v w
 | .pure a,v,h,w=>by simp only [yjj,Option.some.injEq] at h; subst h; simp [Sem.run]
 | .program k,v,h,w=>by simp only [yjj] at h; simp only [Sem.run]; exact yjk h w
 | .mark m k,v,h,w=>by simp only [yjj] at h; simp only [Sem.run]; exact yjk h w
 | .load ..,_,h,_ | .store ..,_,h,_ | .new ..,_,h,_ | .shape ..,_,h,_ | .freeze ..,_,h,_ | .frozen ..,_,h,_ | .getObj ..,_,h,_ | .setObj ..,_,h,_
 | .choose ..,_,h,_ | .sys ..,_,h,_ | .halt ..,_,h,_=>by simp [yjj] at h

theorem y8h {α:Type} {P:Program}:∀ {s:Sem α} {ob:Obj} {f:Nat→Option α},y8g P s=some (ob,f)→∀ w v,f w.heap.size=some v →
  s.run P w=.ok v { w with heap:=w.heap.push ob }
 | .new o k,ob,f,h,w,v,hv=>by
  simp only [y8g,Option.some.injEq,Prod.mk.injEq] at h
  obtain ⟨rfl,rfl⟩:=h
  simp only [Sem.run]; exact yjk hv _
 | .program k,ob,f,h,w,v,hv=>by simp only [y8g] at h; simp only [Sem.run]; exact y8h h w v hv
 | .mark m k,ob,f,h,w,v,hv=>by simp only [y8g] at h; simp only [Sem.run]; exact y8h h w v hv
 | .pure ..,_,_,h,_,_,_ | .load ..,_,_,h,_,_,_ | .store ..,_,_,h,_,_,_ | .shape ..,_,_,h,_,_,_ | .freeze ..,_,_,h,_,_,_ | .frozen ..,_,_,h,_,_,_
 | .getObj ..,_,_,h,_,_,_ | .setObj ..,_,_,h,_,_,_ | .choose ..,_,_,h,_,_,_ | .sys ..,_,_,h,_,_,_ | .halt ..,_,_,h,_,_,_=>by simp [y8g] at h

end Go.Eng
end
section
/- The engine,part D: each operation comes to its form. Conditions: none. -/
namespace Go.Eng

theorem x0k {z:Int} (h:inI z):IntKind.i64.wrap z=z:=by
 obtain ⟨h1,h2⟩:=h
 have e:IntKind.i64.wrap z=if z % 18446744073709551616≥9223372036854775808 then z % 18446744073709551616-18446744073709551616 else z % 18446744073709551616:=by
  simp [IntKind.wrap,IntKind.bits,IntKind.signed]
 rw [e]
 split <;> omega

theorem x0m (z:Int):IntKind.u64.wrap z=x0h z:=by
 simp [IntKind.wrap,IntKind.bits,IntKind.signed,x0h]

theorem zzj {p:Prop} {g:Gd} (h:imp true p g):p:=by
 cases g with
 | nil=>exact h
 | cons a g=>exact h rfl

section
variable {P:Program}

def z1r (P:Program) (s:Sem Value) (v:Value):Prop:=∀ w,s.run P w=.ok v w

theorem z6t {wr:Bool} {g:Gd} {k:IntKind} {z:Int} {ob:Option Prop} {v:Value} (h:z6s wr g true k z=some (ob,v)) (ho:∀ p,ob=some p→p):v=.int k (k.wrap z):=by
 unfold z6s at h
 split at h
 ·split at h
  ·simp only [yes,Option.some.injEq,Prod.mk.injEq] at h
   obtain ⟨rfl,rfl⟩:=h
   rfl
  simp only [ifs,Option.some.injEq,Prod.mk.injEq] at h
  obtain ⟨rfl,rfl⟩:=h
  rw [x0k (zzj (ho _ rfl))]
 ·simp only [yes,Option.some.injEq,Prod.mk.injEq] at h
  obtain ⟨rfl,rfl⟩:=h
  rw [x0m]
 ·simp only [yes,Option.some.injEq,Prod.mk.injEq] at h
  obtain ⟨rfl,rfl⟩:=h
  rfl

theorem z8w {wr:Bool} {g:Gd} {op:BinOp} {k:IntKind} {x y:Int} {ob:Option Prop} {v:Value} (t:TypeId) (h:z8v wr g true op k x y=some (ob,v)) (ho:∀ p,ob=some p→p) :
  z1r P (binOp op t (.int k x) (.int k y)) v:=by
 intro w
 cases op <;> simp only [z8v] at h
 case add=>rw [z6t h ho]; simp [binOp,Op.intArith]
 case sub=>rw [z6t h ho]; simp [binOp,Op.intArith]
 case mul=>rw [z6t h ho]; simp [binOp,Op.intArith]
 case quo =>
  unfold ykq at h
  split at h
  ·simp only [ifs,Option.some.injEq,Prod.mk.injEq] at h
   obtain ⟨rfl,rfl⟩:=h
   obtain ⟨h1,h2⟩:=zzj (ho _ rfl)
   have h1:y≠0:=h1
   simp [binOp,Op.intDiv,h1,x0k h2]
  ·simp only [ifs,Option.some.injEq,Prod.mk.injEq] at h
   obtain ⟨rfl,rfl⟩:=h
   have h1:y≠0:=zzj (ho _ rfl)
   simp [binOp,Op.intDiv,h1,x0m]
  ·simp only [ifs,Option.some.injEq,Prod.mk.injEq] at h
   obtain ⟨rfl,rfl⟩:=h
   have h1:y≠0:=zzj (ho _ rfl)
   simp [binOp,Op.intDiv,h1]
 case rem =>
  simp only [ifs,Option.some.injEq,Prod.mk.injEq] at h
  obtain ⟨rfl,rfl⟩:=h
  have h1:y≠0:=zzj (ho _ rfl)
  simp [binOp,Op.intDiv,h1]
 case shl =>
  simp only [ifs,Option.some.injEq,Prod.mk.injEq] at h
  obtain ⟨rfl,rfl⟩:=h
  have h1:0≤y:=zzj (ho _ rfl)
  simp [binOp,Op.shift,Int.not_lt.2 h1]
 case shr =>
  simp only [ifs,Option.some.injEq,Prod.mk.injEq] at h
  obtain ⟨rfl,rfl⟩:=h
  have h1:0≤y:=zzj (ho _ rfl)
  simp [binOp,Op.shift,Int.not_lt.2 h1]
 all_goals first
  | (simp only [yes,Option.some.injEq,Prod.mk.injEq] at h; obtain ⟨rfl,rfl⟩:=h; simp [binOp,Op.intCmp,Op.intBits]; done)
  | (simp at h; done)

theorem zq7 {op:BinOp} {t:TypeId} {x y:Operand} {k k':IntKind} {m n:Int} (w:World):(eqGuard op t x y (.int k m) (.int k' n)).run P w=.ok () w:=by
 unfold eqGuard; split <;> simp
theorem zq6 {op:BinOp} {t:TypeId} {x y:Operand} {m n:Bool} (w:World):(eqGuard op t x y (.bool m) (.bool n)).run P w=.ok () w:=by
 unfold eqGuard; split <;> simp
theorem zq8 {op:BinOp} {t:TypeId} {x y:Operand} {p q:Option Addr} {m n m' n':Nat} (w:World):(eqGuard op t x y (.slice p m n) (.slice q m' n')).run P w=.ok () w:=by
 unfold eqGuard; split <;> simp
theorem zq5 {op:BinOp} {t:TypeId} {x y:Operand} {c d:Array Value} (w:World) (h:P.eqGuardType P.depth t=false):(eqGuard op t x y (.agg c) (.agg d)).run P w=.ok () w:=by
 unfold eqGuard; split <;> simp [h]

def oB:Option Bool→Bool
 | none=>true
 | some b=>b

theorem yb0 (acc:Option Bool) (b:Bool):oB (z6c acc b)=(oB acc&&b):=by cases acc <;> simp [z6c,oB]

theorem yym {t:TypeId} {x:TypeDesc} (h:P.underlying t=some x):∃ i,P.info? t=some i:=by
 unfold Program.underlying at h
 cases hi:P.info? t with
 | none=>simp [hi] at h
 | some i=>exact ⟨i,rfl⟩

theorem run_isAgg {t:TypeId} {x:TypeDesc} (h:P.underlying t=some x) (w:World):(isAgg t).run P w=.ok (z56 P t) w:=by
 unfold isAgg z56
 rw [Sem.run_bind,run_underlying h,Result.andThen_ok,h]
 cases x <;> simp

theorem run_sizeOf {t:TypeId} {x:TypeDesc} (h:P.underlying t=some x) (w:World):(sizeOf t).run P w=.ok (P.cellsOf t) w:=by
 obtain ⟨i,hi⟩:=yym h
 simp [sizeOf,typeInfo,hi,Program.cellsOf]

theorem yq2 {t:TypeId} {cs:Array Value} {off:Nat} {v:Value} {x:TypeDesc} (h:ydz P t cs off=some v) (hu:P.underlying t=some x) (w:World):(part t cs off).run P w=.ok v w:=by
 unfold ydz at h
 unfold part
 rw [Sem.run_bind,run_isAgg hu,Result.andThen_ok]
 cases ha:z56 P t with
 | true =>
  simp only [ha,Option.some.injEq] at h
  subst h
  simp [run_sizeOf hu]
 | false =>
  simp only [ha] at h
  simp [h]

theorem zqa {d:Nat} {acc acc':Option Bool} {t:TypeId} {x y:Value} (h:eqV P d acc t x y=some acc'):∃ u,P.underlying t=some u:=by
 cases d with
 | zero=>simp [eqV] at h
 | succ d =>
  simp only [eqV] at h
  split at h <;> first | exact ⟨_,by assumption⟩ | cases h

theorem ypy (d:Nat) (ih:∀ (acc acc':Option Bool) (t:TypeId) (x y:Value),eqV P d acc t x y=some acc' →
  ∃ r,(∀ D w,d≤D→(Op.equalIn D t x y).run P w=.ok r w)∧oB acc'=(oB acc&&r)) (xs ys:Array Value):∀ (fs:List Field) (acc acc':Option Bool),
  zq4 P (eqV P d) xs ys acc fs=some acc'→∃ r,(∀ D w,d≤D→(Op.eqFields D xs ys fs).run P w=.ok r w)∧oB acc'=(oB acc&&r)
 | [],acc,acc',h=>by
  simp only [zq4,Option.some.injEq] at h
  subst h
  exact ⟨true,fun D w _=>by simp [Op.eqFields],by simp⟩
 | f :: fs,acc,acc',h=>by
  simp only [zq4] at h
  split at h
  ·rename_i a b hn ha hb
   split at h
   ·rename_i acc1 h1
    obtain ⟨r1,hr1,e1⟩:=ih _ _ _ _ _ h1
    obtain ⟨r2,hr2,e2⟩:=ypy d ih xs ys fs acc1 acc' h
    obtain ⟨u,hu⟩:=zqa h1
    refine ⟨r1&&r2,fun D w hD=>?_,by rw [e2,e1,Bool.and_assoc]⟩
    have hn':f.name≠ "_":=by simpa using hn
    rw [Op.eqFields,if_pos hn']
    simp only [Sem.run_bind,yq2 ha hu,yq2 hb hu,Result.andThen_ok,hr1 D w hD,Sem.run_ite]
    cases r1 with
    | true=>simp [hr2 D w hD]
    | false=>simp
   ·cases h
  ·cases h

theorem ypz:∀ (d:Nat) (acc acc':Option Bool) (t:TypeId) (x y:Value),eqV P d acc t x y=some acc' →
  ∃ r,(∀ D w,d≤D→(Op.equalIn D t x y).run P w=.ok r w)∧oB acc'=(oB acc&&r)
 | 0,_,_,_,_,_,h=>by simp [eqV] at h
 | d+1,acc,acc',t,x,y,h=>by
  simp only [eqV] at h
  split at h
  ·rename_i k k1 a k2 b hu
   split at h
   ·rename_i hk
    have hk':k1=k2:=of_decide_eq_true hk
    subst hk'
    cases h
    refine ⟨a==b,fun D w hD=>?_,yb0 _ _⟩
    obtain ⟨D,rfl⟩:∃ D',D=D'+1:=⟨D-1,by omega⟩
    exact run_equalIn_int w D t k1 k a b hu
   ·cases h
  ·rename_i a b hu
   cases h
   refine ⟨a==b,fun D w hD=>?_,yb0 _ _⟩
   obtain ⟨D,rfl⟩:∃ D',D=D'+1:=⟨D-1,by omega⟩
   exact run_equalIn_bool' w D t a b hu
  ·rename_i fs xs ys hu
   split at h
   ·cases h
   ·rename_i hp
    obtain ⟨r,hr,e⟩:=ypy d (ypz d) xs ys _ _ _ h
    refine ⟨r,fun D w hD=>?_,e⟩
    obtain ⟨D,rfl⟩:∃ D',D=D'+1:=⟨D-1,by omega⟩
    have hf:P.fieldsOf t=fs:=by simp [Program.fieldsOf,hu]
    rw [run_equalIn_struct w D t xs ys (by rw [hf]; exact hu) hp,hf]
    exact hr D w (by omega)
  ·cases h

theorem z8x {wr:Bool} {g:Gd} {op:BinOp} {t:TypeId} {y:Operand} {A B:Value} {ob:Option Prop} {v:Value} (x:Operand) (h:bin P wr g true op t y A B=some (ob,v))
  (ho:∀ p,ob=some p→p) (hy:∀ u,y=.const u→u=B):z1r P (do eqGuard op t x y A B; binOp op t A B) v:=by
 intro w
 unfold bin at h
 split at h
 ·split at h
  ·rename_i k m k' n
   rw [Sem.run_bind,zq7,Result.andThen_ok]
   split at h
   ·simp only [z8v,ifs,Option.some.injEq,Prod.mk.injEq] at h
    obtain ⟨rfl,rfl⟩:=h
    have h1:0≤n:=zzj (ho _ rfl)
    simp [binOp,Op.shift,Int.not_lt.2 h1]
   ·simp only [z8v,ifs,Option.some.injEq,Prod.mk.injEq] at h
    obtain ⟨rfl,rfl⟩:=h
    have h1:0≤n:=zzj (ho _ rfl)
    simp [binOp,Op.shift,Int.not_lt.2 h1]
   ·split at h
    ·rename_i hk
     have hk':k=k':=of_decide_eq_true hk
     subst hk'
     exact z8w t h ho w
    ·cases h
  ·cases h
 ·split at h
  ·rename_i hu _ _ m n
   rw [Sem.run_bind,zq6,Result.andThen_ok]
   split at h
   ·simp only [yes,Option.some.injEq,Prod.mk.injEq] at h
    obtain ⟨rfl,rfl⟩:=h
    simp [binOp,Op.equal,Op.maxDepth,run_equalIn_bool' w 9999 t m n hu]
   ·simp only [yes,Option.some.injEq,Prod.mk.injEq] at h
    obtain ⟨rfl,rfl⟩:=h
    simp [binOp,Op.equal,Op.maxDepth,run_equalIn_bool' w 9999 t m n hu]
   ·cases h
  ·cases h
 ·rename_i e hu
  split at h
  ·rename_i p q r hn
   have hB:B=.slice none 0 0:=by
    unfold y0u at hn
    split at hn
    ·exact (hy _ rfl).symm
    ·cases hn
   subst hB
   rw [Sem.run_bind,zq8,Result.andThen_ok]
   have heq0:(Op.equalIn (9999+1) t (.slice p q r) (.slice none 0 0)).run P w=.ok p.isNone w:=by
    rw [Op.equalIn,Sem.run_bind,run_underlying hu,Result.andThen_ok]
    cases p <;> rfl
   have heq:(Op.equal t (.slice p q r) (.slice none 0 0)).run P w=.ok p.isNone w:=heq0
   split at h
   ·simp only [yes,Option.some.injEq,Prod.mk.injEq] at h
    obtain ⟨rfl,rfl⟩:=h
    simp [binOp,heq]
   ·simp only [yes,Option.some.injEq,Prod.mk.injEq] at h
    obtain ⟨rfl,rfl⟩:=h
    simp [binOp,heq]
   ·cases h
  ·cases h
 ·split at h
  ·rename_i xs ys
   split at h
   ·rename_i r hm he
    rw [Sem.run_bind,zq5 w hm,Result.andThen_ok]
    obtain ⟨r',hr,e⟩:=ypz 9 _ _ _ _ _ he
    have e':r=r':=by simpa [oB] using e
    subst e'
    split at h
    ·simp only [yes,Option.some.injEq,Prod.mk.injEq] at h
     obtain ⟨rfl,rfl⟩:=h
     simp [binOp,Op.equal,Op.maxDepth,hr 10000 w (by omega)]
    ·simp only [yes,Option.some.injEq,Prod.mk.injEq] at h
     obtain ⟨rfl,rfl⟩:=h
     simp [binOp,Op.equal,Op.maxDepth,hr 10000 w (by omega)]
    ·cases h
   ·cases h
  ·cases h
 ·cases h

end

end Go.Eng
end
section
/- The engine,part E: what the forms mean; each operation means its form. Conditions: none. -/
namespace Go.Eng

def SlV (ids:Nat→Nat) (x:Sl) (v:Value):Prop:=∀ g1 v0,x=some (g1,v0)→v=v0.val ids
def SlS (g:Gd) (pr:z1i) (x:Sl):Prop:=∀ g1 v0,x=some (g1,v0)→g1=g∧v0.known pr

theorem SlV.lit {g:Gd} {ids:Nat→Nat} {v:Value}:SlV ids (some (g,.lit v)) v:=fun _ _ h=>by cases h; rfl
theorem SlV.none {ids:Nat→Nat} {v:Value}:SlV ids none v:=fun _ _ h=>by cases h
theorem SlS.lit {g:Gd} {pr:z1i} {v:Value}:SlS g pr (some (g,.lit v)):=fun _ _ h=>by cases h; exact ⟨rfl,trivial⟩
theorem SlS.none {g:Gd} {pr:z1i}:SlS g pr none:=fun _ _ h=>by cases h
theorem SlS.ptr {g:Gd} {pr:z1i} {j o:Nat} (h:pr j≠Option.none):SlS g pr (some (g,.ptr j o)):=fun _ _ h'=>by cases h'; exact ⟨rfl,h⟩

def NFs (g:Gd) (pr:z1i):NF→Prop
 | .bad=>True
 | .pu _ x=>SlS g pr x
 | .px _ _ x=>∀ vs,SlS g pr (x vs)
 | .rd _ _ x=>∀ vs,SlS g pr (x vs)
 | .ow f=>∀ x pr',f pr=some (x,pr')→SlS g pr' x∧(g≠[]→pr'=pr)
 | .al _ x _=>g=[]∧∀ b,SlS g pr (x b)
 | .ag _ x _=>∀ b,SlS g pr (x b)
 | .cf g0 _ _ _=>g=[]∧g0=[]
 | .cg _ g0 _ _ _=>g0=g
 | .ce _ _ _=>g=[]
 | .cy _ _ _=>g=[]
 | .cv _ _ _=>g=[]
 | .ef _ _=>g=[]
 | .st _ _=>g=[]

def NFm (P:Program) (n:Nat) (ds:List Nat) (o:Oper) (env:Env) (pr:z1i) (ids:Nat→Nat) (a:Act) (H:Hp) (w:World) (B:Nat):NF→Prop
 | .bad=>True
 | .pu ob x=>(∀ p,ob=some p→p)→∃ v,(execOp a.eval o).run P w=.ok (.value v) w∧SlV ids x v
 | .px ls ob x=>∀ vs,vs.length=ls.length→ob vs→∃ v,(execOp a.eval o).run P w=.ok (.value v) w∧SlV ids (x vs) v
 | .rd ls ob x=>∀ vs,vs.length=ls.length→ob vs H→(∃ v,(execOp a.eval o).run P w=.ok (.value v) w∧SlV ids (x vs) v) ∨
   ∃ f args,(execOp a.eval o).run P w=.ok (.enter f args) w∧Calls P f args w fun e w'=>∃ v,e=.returned v∧SlV ids (x vs) v∧Tr w H w' H
 | .ow f=>∀ x pr',f pr=some (x,pr')→∃ v w' ids',((execOp a.eval o).run P w=.ok (.value v) w'∨((execOp a.eval o).run P w=.ok .skip w'∧v=undef)) ∧
   z24 w' H∧(∀ w0 H0,w0.heap.size=B→Tr w0 H0 w H→Tr w0 H0 w' H)∧z1j ds pr' ids' H w' B∧z0m n ds env pr' ids' a∧SlV ids' x v
 | .al c x ob=>(∀ p,c=some p→p)→∃ v,(execOp a.eval o).run P w=.ok (.value v) { w with heap:=w.heap.push ob }∧SlV ids (x w.heap.size) v
 | .ag _ x ob=>∃ v,(execOp a.eval o).run P w=.ok (.value v) { w with heap:=w.heap.push ob }∧SlV ids (x w.heap.size) v
 | .cf _ f args _=>(execOp a.eval o).run P w=.ok (.enter f args.toArray) w
 | .cg _ _ f args _=>(execOp a.eval o).run P w=.ok (.enter f args.toArray) w
 | .ce f args _=>(execOp a.eval o).run P w=.ok (.enter f args.toArray) w
 | .cy l args _=>(execOp a.eval o).run P w=(Instr.yield l args.toArray).run P w
 | .cv F args _=>∀ f first cap,F=.func (.func f) first cap→za5 P f→(execOp a.eval o).run P w=.ok (.enter f (first++args.toArray++cap)) w
 | .ef s _=>execOp a.eval o=s
 | .st ad vs=>Hp.canStore H ad 0 vs→∃ w',(execOp a.eval o).run P w=.ok .skip w'∧Tr w H w' (H.store ad 0 vs)

def z1b (P:Program):Prop:=∀ (f:FuncId) (fn:Func),P.funcs[f]?=some fn→fn.body.isSome=true→(fn.name== "runtime.NumGoroutine")=false

section
variable {P:Program} {n:Nat} {ds:List Nat} {o:Oper} {env:Env} {pr:z1i} {ids:Nat→Nat} {a:Act} {H:Hp} {w:World} {B:Nat} {g:Gd}

theorem y9w {x:Operand} (hE:z0m n ds env pr ids a):NFs g pr (y79 env g x):=by
 unfold y79
 cases hx:env.ev g x with
 | none=>exact SlS.none
 | some v=>intro g1 v0 h; cases h; exact ⟨rfl,hE.evk hx⟩

theorem y99 {x:Operand} (hE:z0m n ds env pr ids a) (hg:gH a.tmps g) (ho:o.op=.move x∨o.op=.assign x):NFm P n ds o env pr ids a H w B (y79 env g x):=by
 have hr:(execOp a.eval o).run P w=.ok (.value (a.eval x)) w:=by
  rcases ho with ho | ho <;> simp [execOp,ho]
 unfold y79
 cases hx:env.ev g x with
 | none=>exact fun _=>⟨_,hr,SlV.none⟩
 | some v=>exact fun _=>⟨_,hr,fun g1 v0 h=>by cases h; exact hE.ev hg hx⟩

theorem y9y {x:Operand} (hE:z0m n ds env pr ids a):NFs g pr (ya5 env g x):=by
 unfold ya5
 split
 ·exact SlS.lit
 ·rename_i hx
  exact SlS.ptr (z0m.evk (v:=.ptr _ _) hE hx)
 ·trivial

theorem y9c {x:Operand} (hE:z0m n ds env pr ids a) (hg:gH a.tmps g) (ho:o.op=.nilCheck x):NFm P n ds o env pr ids a H w B (ya5 env g x):=by
 unfold ya5
 split
 ·rename_i p hx
  intro _
  have e1:a.eval x=.pointer (some p):=hE.ev hg hx
  refine ⟨_,?_,SlV.lit⟩
  simp only [execOp,ho]
  rw [e1]
  rfl
 ·rename_i j off hx
  intro _
  have e1:a.eval x=.pointer (some ⟨ids j,off,none⟩):=hE.ev hg hx
  refine ⟨_,?_,fun g1 v0 h=>by cases h; rfl⟩
  simp only [execOp,ho]
  rw [e1]
  rfl
 ·trivial

theorem ya2 {tc:Nat} {x y:Operand}:NFs g pr (yhc env g tc x y):=by
 unfold yhc
 split
 ·split
  ·exact SlS.lit
  ·trivial
 ·trivial

theorem yhe {x:Bool} {p q:Operand} {A B v:Value} (h:yhd x p q A B=some v) (hp:∀ u,p=.const u→u=A) (hq:∀ u,q=.const u→u=B):v=if x then A else B:=by
 unfold yhd at h
 split at h
 ·rename_i b c
  split at h
  ·have:=hp _ rfl; cases this; cases h; cases x <;> simp
  ·have:=hq _ rfl; cases this; cases h; cases x <;> simp
  ·cases h; cases x <;> simp
 ·split at h
  ·rename_i hk
   have:=of_decide_eq_true hk
   subst this
   cases h; cases x <;> simp
  ·cases h
 ·cases h

theorem zqe {x:Operand} {A:Value} (h:env.ev g x=some (.lit A)):∀ u,x=.const u→u=A:=by
 intro u hu; subst hu; simp only [Env.ev,Option.some.injEq,V0.lit.injEq] at h; exact h

theorem y9h {tc:Nat} {x y:Operand} (hE:z0m n ds env pr ids a) (hg:gH a.tmps g) (ho:o.op=.pick (.tmp tc) x y):NFm P n ds o env pr ids a H w B (yhc env g tc x y):=by
 unfold yhc
 split
 ·rename_i c A B' hc hA hB
  split
  ·rename_i v hv
   intro _
   have e:=hE.ev hg hc
   refine ⟨v,?_,SlV.lit⟩
   rw [yhe hv (zqe hA) (zqe hB)]
   have hc':a.tmps.getD tc undef=.bool c:=e
   have r:(execOp a.eval o).run P w=.ok (.value (if c then a.eval x else a.eval y)) w:=by
    simp only [execOp,ho]
    rw [e]
    simp [V0.val,asBool]
   rw [r]
   have gcons:∀ b,c=b→gH a.tmps ((tc,b) :: g):=fun b hb p hp=>by
    rcases List.mem_cons.1 hp with rfl | hp
    ·rw [← hb]; exact hc'
    ·exact hg p hp
   cases c with
   | true=>have:=hE.ev (gcons true rfl) hA; simp only [if_true]; rw [this]; rfl
   | false=>have:=hE.ev (gcons false rfl) hB; simp only [Bool.false_eq_true,if_false]; rw [this]; rfl
  ·trivial
 ·trivial

theorem y9z {p:Pv}:NFs g pr (yb2 g p):=by
 unfold yb2
 split
 ·trivial
 ·exact SlS.lit

theorem y8x {wr:Bool} {op:BinOp} {t u:TypeId} {x y:Operand} {A A':Value} (hE:z0m n ds env pr ids a) (hg:gH a.tmps g) (ho:o.op=.binOp op t x y u)
  (hx:env.ev g x=some (.lit A)) (hy:env.ev g y=some (.lit A')):NFm P n ds o env pr ids a H w B (yb2 g (bin P wr g true op t y A A')):=by
 cases hb:bin P wr g true op t y A A' with
 | none=>trivial
 | some r =>
  obtain ⟨ob,v⟩:=r
  intro hob
  refine ⟨v,?_,SlV.lit⟩
  have hr:=z8x x hb hob (zqe hy) w
  have e1:a.eval x=A:=hE.ev hg hx
  have e2:a.eval y=A':=hE.ev hg hy
  simp only [execOp,ho]
  rw [e1,e2,Sem.run_bind,hr]
  rfl

theorem y9i (hE:z0m n ds env pr ids a) (hg:gH a.tmps g) (hs:∀ cs b,o.op≠.select cs b):NFm P n ds o env pr ids a H w B (yji P env g o):=by
 unfold yji
 split
 ·rename_i hl
  split
  ·rename_i v hr
   intro _
   refine ⟨v,?_,SlV.lit⟩
   rw [execOp_congr o hs (fun x hx=>hE.rho hg hl x (by simpa using hx))]
   exact yjk hr w
  ·trivial
 ·trivial

theorem ya3:NFs g pr (yji P env g o):=by
 unfold yji
 split
 ·split
  ·exact SlS.lit
  ·trivial
 ·trivial

theorem y9b {mk:Nat→Value} {gb:Bool} (hE:z0m n ds env pr ids a) (hg:gH a.tmps g) (hs:∀ cs b,o.op≠.select cs b)
  (hmk:∀ (ρ:Operand→Value) ob f,y8g P (execOp ρ o)=some (ob,f)→∀ b,f b=some (.value (mk b))):NFm P n ds o env pr ids a H w B (y8f P env g gb o mk):=by
 unfold y8f
 split
 ·rename_i hl
  split
  ·rename_i ob f hr
   have hrun:(execOp a.eval o).run P w=.ok (.value (mk w.heap.size)) { w with heap:=w.heap.push ob }:=by
    rw [execOp_congr o hs (fun x hx=>hE.rho hg hl x (by simpa using hx))]
    exact y8h hr w _ (hmk _ ob f hr _)
   split
   ·intro _
    exact ⟨mk w.heap.size,hrun,SlV.lit⟩
   ·exact ⟨mk w.heap.size,hrun,SlV.lit⟩
  ·trivial
 ·trivial

theorem y9x {mk:Nat→Value} {gb:Bool}:NFs g pr (y8f P env g gb o mk):=by
 unfold y8f
 split
 ·split
  ·split
   ·exact ⟨rfl,fun _=>SlS.lit⟩
   ·exact fun _=>SlS.lit
  ·trivial
 ·trivial

end

end Go.Eng
end
section
/- The engine,part F: each operation means its form,the rest. Conditions: none. -/
namespace Go.Eng
section
variable {P:Program} {n:Nat} {ds:List Nat} {o:Oper} {env:Env} {pr:z1i} {ids:Nat→Nat} {a:Act} {H:Hp} {w:World} {B:Nat} {g:Gd}

theorem y8j (ρ:Operand→Value) (ho:(∃ t,o.op=.alloc t)∨(∃ t x,o.op=.box t x)) {ob:Obj} {f:Nat→Option Next} (h:y8g P (execOp ρ o)=some (ob,f)) :
  ∀ b,f b=some (.value (.pointer (some ⟨b,0,none⟩))):=by
 rcases ho with ⟨t,ho⟩ | ⟨t,x,ho⟩
 ·simp only [execOp,ho,Instr.alloc,zeroValue,typeInfo,program,newVar,newRow,newObj,Bind.bind,Sem.bind,y8g] at h
  cases hi:P.info? t with
  | none=>simp [hi,Sem.bind,stuck,y8g] at h
  | some i =>
   cases hz:i.zero with
   | none=>simp [hi,hz,Sem.bind,Pure.pure,unsupported,y8g] at h
   | some z =>
    simp only [hi,Pure.pure,Sem.bind,hz,y8g,Option.some.injEq,Prod.mk.injEq] at h
    obtain ⟨_,rfl⟩:=h
    intro b; rfl
 ·simp only [execOp,ho,Instr.box,newVar,newRow,newObj,Bind.bind,Sem.bind,y8g,Pure.pure,Option.some.injEq,Prod.mk.injEq] at h
  obtain ⟨_,rfl⟩:=h
  intro b; rfl

theorem y8i (ρ:Operand→Value) {t:TypeId} (ho:o.op=.makeMap t none) {ob:Obj} {f:Nat→Option Next} (h:y8g P (execOp ρ o)=some (ob,f)) :
  ∀ b,f b=some (.value (.map (some b))):=by
 simp only [execOp,ho,Option.map_none,Instr.makeMap] at h
 simp [newObj,Bind.bind,Sem.bind,y8g,Pure.pure] at h
 obtain ⟨_,rfl⟩:=h
 intro b; rfl

theorem y8k (ρ:Operand→Value) {t:TypeId} {m:Nat} {ps:Array (Nat × Operand)} (ho:o.op=.buildSlice t m ps) {ob:Obj} {f:Nat→Option Next} (h:y8g P (execOp ρ o)=some (ob,f)) :
  ∀ b,f b=some (.value (.slice (some ⟨b,0,none⟩) m m)):=by
 simp only [execOp,ho,Instr.buildSlice] at h
 generalize (ps.map fun (i,x)=>(i,ρ x))=qs at h
 cases hu:P.underlying t with
 | none=>simp [underlying,program,hu,Bind.bind,Sem.bind,y8g,stuck] at h
 | some d =>
  cases d with
  | slice e =>
   cases hi:P.info? e with
   | none=>simp [underlying,program,hu,Bind.bind,Sem.bind,y8g,sizeOf,typeInfo,hi,stuck,Pure.pure] at h
   | some i =>
    simp only [underlying,program,hu,Bind.bind,Sem.bind,y8g,sizeOf,typeInfo,hi,Pure.pure] at h
    split at h
    ·simp [unsupported,Sem.bind,y8g] at h
    ·split at h
     ·split at h
      ·simp only [newRow,newObj,Bind.bind,Sem.bind,y8g,Pure.pure,Option.some.injEq,Prod.mk.injEq] at h
       obtain ⟨_,rfl⟩:=h
       intro b; rfl
      ·simp [stuck,Sem.bind,y8g] at h
     ·simp only [zeroValue,typeInfo,program,hi,Bind.bind,Sem.bind,y8g,Pure.pure] at h
      cases hz:i.zero with
      | none=>simp [hz,unsupported,Sem.bind,y8g] at h
      | some z =>
       simp only [hz,Sem.bind] at h
       split at h
       ·simp only [newRow,newObj,Bind.bind,Sem.bind,y8g,Pure.pure,Option.some.injEq,Prod.mk.injEq] at h
        obtain ⟨_,rfl⟩:=h
        intro b; rfl
       ·simp [stuck,Sem.bind,y8g] at h
  | _=>simp [underlying,program,hu,Bind.bind,Sem.bind,y8g,stuck,Pure.pure] at h

theorem z1i.set_same (pr:z1i) (j:Nat) (x:Option (List Value × TypeId)):pr.set j x j=x:=by
 have h:Nat.beq j j=true:=Nat.beq_refl j
 simp only [z1i.set,h]
theorem z1i.set_ne (pr:z1i) {j k:Nat} (x:Option (List Value × TypeId)) (h:k≠j):pr.set j x k=pr k:=by
 have hb:Nat.beq k j=false:=by
  cases hx:Nat.beq k j
  ·rfl
  ·exact absurd ((Nat.beq_iff k j).1 hx) h
 simp only [z1i.set,hb]

theorem yz8 {v:V0} {ids':Nat→Nat} (h:v.known pr) (he:∀ j,pr j≠none→ids' j=ids j):v.val ids'=v.val ids:=by
 cases v with
 | lit v=>rfl
 | ptr j o=>simp only [V0.val,he j h]

theorem y20 {v:V0} {pr':z1i} (h:v.known pr) (he:∀ j,pr j≠none→pr' j≠none):v.known pr':=by
 cases v with
 | lit v=>trivial
 | ptr j o=>exact he j h

theorem z0m.reids (h:z0m n ds env pr ids a) {pr':z1i} {ids':Nat→Nat} (he:∀ j,pr j≠none→ids' j=ids j) (hk:∀ j,pr j≠none→pr' j≠none):z0m n ds env pr' ids' a :=
 ⟨h.size,h.defers,fun t g v ht hg=>by rw [yz8 (h.known t g v ht) he]; exact h.ok t g v ht hg,h.no,fun t g v ht=>y20 (h.known t g v ht) hk⟩

theorem y9g (hE:z0m n ds env pr ids a) (hP:z1j ds pr ids H w B) (hv:z24 w H) (hB:B≤w.heap.size) (hg:gH a.tmps g) {d:Nat} (ho:(∃ t,o.op=.alloc t)∨(∃ t x,o.op=.box t x)) :
  NFm P n ds o env pr ids a H w B (yde P env g o d):=by
 have hs:∀ cs b,o.op≠.select cs b:=by rcases ho with ⟨t,ho⟩ | ⟨t,x,ho⟩ <;> simp [ho]
 unfold yde
 split
 ·rename_i hl
  split
  ·rename_i c t f hr
   intro x pr' hf
   dsimp only at hf
   cases hd:pr d with
   | some y=>simp [hd] at hf
   | none =>
    simp only [hd,Option.some.injEq,Prod.mk.injEq] at hf
    obtain ⟨rfl,rfl⟩:=hf
    have hptr:=y8j (P:=P) _ ho hr
    have hrun:(execOp a.eval o).run P w=.ok (.value (.pointer (some ⟨w.heap.size,0,none⟩))) { w with heap:=w.heap.push (.cells c t (0,0)) }:=by
     rw [execOp_congr o hs (fun x hx=>hE.rho hg hl x (by simpa using hx))]
     exact y8h hr w _ (hptr _)
    let ids':Nat→Nat:=fun j=>if j=d then w.heap.size else ids j
    have hne:∀ j,pr j≠none→j≠d:=fun j hj e=>by subst e; exact hj hd
    have hids:∀ j,pr j≠none→ids' j=ids j:=fun j hj=>if_neg (hne j hj)
    have hup:∀ j,pr j≠none→pr.set d (some (c.toList,t)) j≠none:=fun j hj=>by rw [z1i.set_ne _ _ (hne j hj)]; exact hj
    have halloc:=Tr.alloc hv (Obj.cells c t (0,0))
    have hT:Tr w H { w with heap:=w.heap.push (.cells c t (0,0)) } H:=halloc.2.forget (Hp.put_le H _ halloc.1)
    have hP':=hP.tr hT
    refine ⟨_,_,ids',.inl hrun,hT.view,fun w0 H0 _ h0=>h0.trans hT,⟨fun j cs u hj=>?_,fun j hj=>?_,fun j hj=>?_,fun j k hj hk e=>?_,hP'.dfs⟩,hE.reids hids hup,fun g1 v0 h=>?_⟩
    ·by_cases e:j=d
     ·subst e
      rw [z1i.set_same] at hj
      cases hj
      simp [ids']
     ·rw [z1i.set_ne _ _ e] at hj
      simp only [ids',if_neg e]
      exact hP'.blk j cs u hj
    ·by_cases e:j=d
     ·subst e; simp only [ids',if_true]; exact halloc.1
     ·rw [z1i.set_ne _ _ e] at hj
      simp only [ids',if_neg e]; exact hP.hid j hj
    ·by_cases e:j=d
     ·subst e; simp only [ids',if_true]; exact hB
     ·rw [z1i.set_ne _ _ e] at hj
      simp only [ids',if_neg e]; exact hP.low j hj
    ·by_cases e1:j=d <;> by_cases e2:k=d
     ·rw [e1,e2]
     ·rw [z1i.set_ne _ _ e2] at hk
      simp only [ids',if_pos e1,if_neg e2] at e
      have:=hP.lt hk; omega
     ·rw [z1i.set_ne _ _ e1] at hj
      simp only [ids',if_neg e1,if_pos e2] at e
      have:=hP.lt hj; omega
     ·rw [z1i.set_ne _ _ e1] at hj
      rw [z1i.set_ne _ _ e2] at hk
      simp only [ids',if_neg e1,if_neg e2] at e
      exact hP.inj j k hj hk e
    ·cases h; simp [V0.val,ids']
  ·trivial
 ·trivial

theorem ya1 {d:Nat}:NFs g pr (yde P env g o d):=by
 unfold yde
 split
 ·split
  ·rename_i c t f hr
   intro x pr' hf
   dsimp only at hf
   cases hd:pr d with
   | some y=>simp [hd] at hf
   | none =>
    simp only [hd,Option.some.injEq,Prod.mk.injEq] at hf
    obtain ⟨rfl,rfl⟩:=hf
    exact ⟨SlS.ptr (by simp [z1i.set_same]),fun h=>absurd rfl h⟩
  ·trivial
 ·trivial

end
end Go.Eng
end
section
/- The engine,part G: loads and stores mean their forms. Conditions: none. -/
namespace Go.Eng
section
variable {P:Program} {n:Nat} {ds:List Nat} {o:Oper} {env:Env} {pr:z1i} {ids:Nat→Nat} {a:Act} {H:Hp} {w:World} {B:Nat} {g:Gd}

theorem run_loadVar' {t:TypeId} {x:TypeDesc} {p:Addr} {vs:List Value} (hu:P.underlying t=some x) (h:∀ j v,vs[j]?=some v→w.cell? (p.add j)=some v)
  (hl:vs.length=P.cellsOf t) (h1:z56 P t=true∨P.cellsOf t=1):(loadVar t p).run P w=.ok (mkV (z56 P t) vs) w:=by
 unfold loadVar
 rw [Sem.run_bind,run_isAgg hu,Result.andThen_ok]
 cases ha:z56 P t with
 | true =>
  have:=run_loadCells_list (P:=P) w p vs h
  rw [hl] at this
  simp [run_sizeOf hu,this,mkV]
 | false =>
  rw [ha] at h1
  have h1':P.cellsOf t=1:=h1.resolve_left (by simp)
  rw [h1'] at hl
  obtain ⟨v,rfl⟩:=List.length_eq_one_iff.1 hl
  have hc:=h 0 v rfl
  have:p.add 0=p:=by simp [Addr.add]
  rw [this] at hc
  simp [hc,mkV]

theorem zy5 {t:TypeId} (h:zy4 P t=true):∃ x,P.underlying t=some x:=by
 unfold zy4 at h
 split at h
 ·exact ⟨_,by assumption⟩
 ·cases h

theorem z3n (b off j:Nat):(Addr.add ⟨b,off,none⟩ j)=⟨b,off+j,none⟩:=by
 unfold Addr.add; split
 ·rename_i e; subst e; rfl
 ·rfl

theorem zah:∀ (vs:List Value) (i:Nat) (p:Addr),zag H p i vs→∀ j v,vs[j]?=some v→H.at (p.add (i+j))=some v
 | [],_,_,_,j,v,h=>by simp at h
 | u :: vs,i,p,hc,j,v,h=>by
  have h0:H.at (p.add i)=some u∧zag H p (i+1) vs:=by
   cases vs with
   | nil=>exact ⟨hc,trivial⟩
   | cons x xs=>exact hc
  cases j with
  | zero=>simp at h; subst h; exact h0.1
  | succ j =>
   have:=zah vs (i+1) p h0.2 j v (by simpa using h)
   rw [show i+(j+1)=i+1+j by omega]; exact this

theorem y9v {C:Cfg} {gb:Bool} {t:TypeId} {x:Nat}:NFs g pr (y4s C env g gb t x):=by
 unfold y4s
 split
 ·rename_i j off _ _ _
  split
  ·intro y pr' hf
   dsimp only at hf
   cases hj:pr j with
   | none=>simp [hj] at hf
   | some cs =>
    obtain ⟨cs,u⟩:=cs
    simp only [hj] at hf
    split at hf
    ·cases hf; exact ⟨SlS.lit,fun _=>rfl⟩
    ·cases hf
  ·trivial
 ·split
  ·exact fun _=>SlS.lit
  ·trivial
 ·trivial

theorem y96 {C:Cfg} {t:TypeId} {x:Nat} (hE:z0m n ds env pr ids a) (hP:z1j ds pr ids H w B) (hv:z24 w H) (hg:gH a.tmps g) (ho:o.op=.load t (.tmp x)) :
  NFm C.P n ds o env pr ids a H w B (y4s C env g true t x):=by
 unfold y4s
 split
 ·rename_i j off hpv hx hs
  split
  ·intro y pr' hf
   simp only [Bool.and_eq_true,Bool.or_eq_true,Nat.beq_iff] at hs
   obtain ⟨u,hu⟩:=zy5 hs.2
   dsimp only at hf
   cases hj:pr j with
   | none=>simp [hj] at hf
   | some cs =>
    obtain ⟨cs,e⟩:=cs
    simp only [hj] at hf
    split at hf
    ·rename_i hle
     cases hf
     have hle':off+C.P.cellsOf t≤cs.length:=Nat.le_of_ble_eq_true hle
     have hb:=hP.blk j cs e hj
     have e1:a.eval (.tmp x)=.pointer (some ⟨ids j,off,none⟩):=hE.ev hg hx
     have hr:=run_loadVar' (P:=C.P) (w:=w) (t:=t) (p:=⟨ids j,off,none⟩) (vs:=(cs.drop off).take (C.P.cellsOf t)) hu (fun i v h=>by
       rw [z3n]
       rw [List.getElem?_take] at h
       split at h
       ·rw [List.getElem?_drop] at h
        simp [World.cell?,hb,h]
       ·cases h) (by simp; omega) hs.1
     refine ⟨_,w,ids,.inl ?_,hv,fun _ _ _ h=>h,hP,hE,SlV.lit⟩
     simp only [execOp,ho]
     rw [e1]
     simp [Instr.loadAt,Instr.sureAddr,hr]
    ·cases hf
  ·trivial
 ·rename_i p hpv hx hs
  split
  ·rename_i hlen
   intro vs hl hob
   left
   simp only [Bool.and_eq_true,Bool.or_eq_true,Nat.beq_iff] at hs
   obtain ⟨u,hu⟩:=zy5 hs.2
   have e1:a.eval (.tmp x)=.pointer (some p):=hE.ev hg hx
   have hc:=zzj hob
   have hr:=run_loadVar' (P:=C.P) (w:=w) (t:=t) (p:=p) (vs:=vs) hu (fun j v h=>hv.cell (by have:=zah vs 0 p hc j v h; simpa using this))
    (by rw [hl]; exact Nat.eq_of_beq_eq_true hlen) hs.1
   refine ⟨_,?_,SlV.lit⟩
   simp only [execOp,ho]
   rw [e1]
   simp [Instr.loadAt,Instr.sureAddr,hr]
  ·trivial
 ·trivial

theorem yre:∀ (cs:List Value) (off:Nat) (vs:List Value),off+vs.length≤cs.length→yrd cs off vs=cs.take off++vs++cs.drop (off+vs.length)
 | cs,off,[],_=>by cases cs <;> cases off <;> simp [yrd]
 | [],off,v :: vs,h=>by simp at h
 | c :: cs,0,v :: vs,h=>by
  have:=yre cs 0 vs (by simp at h; omega)
  simp only [yrd,this]
  simp [Nat.add_comm]
 | c :: cs,off+1,v :: vs,h=>by
  have:=yre cs off (v :: vs) (by simp at h ⊢; omega)
  have e:off+1+(v :: vs).length=(off+(v :: vs).length)+1:=by omega
  rw [e]
  simp only [yrd,this]
  simp

theorem yzm {agg:Bool} {v:Value} (h1:(yzl agg v).all Value.oneCell'=true) (hn:(yzl agg v).length≠0):v.cells.toList=yzl agg v:=by
 cases agg with
 | true =>
  cases v with
  | agg cs=>rfl
  | _=>simp [yzl] at hn
 | false =>
  cases v with
  | agg cs=>simp [yzl,Value.oneCell'] at h1
  | _=>rfl

theorem run_storeVar' {t:TypeId} {x:TypeDesc} {p:Addr} {v:Value} {w':World} (hu:P.underlying t=some x) (hl:v.cells.toList.length=P.cellsOf t)
  (h:(storeCells p v.cells.toList).run P w=.ok () w'):(storeVar t p v).run P w=.ok () w':=by
 unfold storeVar
 rw [Sem.run_bind,run_sizeOf hu,Result.andThen_ok]
 have:¬ (v.cells.size≠P.cellsOf t):=by simpa using hl
 simp only [this,if_false]
 simpa using h

theorem yrg {b k:Nat} (cs:Array Value) (h:k≠b):(w.setRow b cs).heap[k]?=w.heap[k]?:=by
 simp only [World.setRow,Array.getElem?_modify]
 rw [if_neg (fun e=>h e.symm)]

theorem za8 {p q:Addr} {v:Value}:∀ (vs:List Value) (i:Nat),Hp.canStore H p i vs→Hp.canStore (H.set1 q v) p i vs
 | [],_,_=>trivial
 | u :: vs,i,h=>by
  obtain ⟨⟨c,T,fz,h1,h2,h3,h4⟩,hr⟩:=h
  refine ⟨?_,za8 vs (i+1) hr⟩
  unfold Hp.set1
  cases hb:Nat.beq (p.add i).block q.block with
  | true=>simp only [h1]; exact ⟨_,T,fz,rfl,h2,by simpa using h3,h4⟩
  | false=>exact ⟨c,T,fz,h1,h2,h3,h4⟩

theorem yy6 {p:Addr} {v:Value} {c:Array Value} {T:TypeId} {fz:Nat × Nat} (hv:z24 w H) (hb:H p.block=some (.cells c T fz)) (hs:p.spot=none) :
  Tr w H (w.setCell p v) (H.set1 p v):=by
 have hw:=hv _ _ hb
 have hlt:p.block<w.heap.size:=(Array.getElem?_eq_some_iff.1 hw).1
 refine ⟨fun k o hk=>?_,fun k hk hn=>?_,fun k hk=>.inl ?_,by simp [World.setCell],rfl,rfl,rfl,Nat.le_refl _⟩
 ·unfold Hp.set1 at hk
  simp only [World.setCell,Array.getElem?_modify]
  cases hq:Nat.beq k p.block with
  | true =>
   have e:=(Nat.beq_iff _ _).1 hq
   subst e
   simp only [hq,hb,Option.some.injEq] at hk
   subst hk
   simp [hw,hs]
  | false =>
   simp only [hq] at hk
   have e:p.block≠k:=fun e=>by subst e; rw [Nat.beq_refl] at hq; cases hq
   rw [if_neg e]; exact hv _ _ hk
 ·have e:p.block≠k:=fun e=>by subst e; rw [hb] at hn; cases hn
  simp only [World.setCell,Array.getElem?_modify]
  rw [if_neg e]
 ·unfold Hp.set1 at hk
  intro hn
  cases hq:Nat.beq k p.block with
  | true =>
   have e:=(Nat.beq_iff _ _).1 hq
   subst e
   rw [hb] at hn; cases hn
  | false=>simp only [hq] at hk; exact hk hn

theorem yq5 {p:Addr}:∀ (vs:List Value) (i:Nat) (H:Hp) (w:World),z24 w H→Hp.canStore H p i vs→vs.all Value.oneCell'=true →
  ∃ w',(storeCells p vs i).run P w=.ok () w'∧Tr w H w' (H.store p i vs)
 | [],i,H,w,hv,_,_=>⟨w,by simp [storeCells],Tr.refl hv⟩
 | v :: vs,i,H,w,hv,hc,h1=>by
  obtain ⟨⟨c,T,fz,hb,hs,hlt,hfz⟩,hr⟩:=hc
  simp only [List.all_cons,Bool.and_eq_true] at h1
  have hw:=hv _ _ hb
  have hcell:w.cell? (p.add i)=some c[(p.add i).off]:=by simp [World.cell?,hw,hs,hlt]
  have hfro:w.frozen? (p.add i)=false:=by
   simp only [World.frozen?,hw]
   simpa using hfz
  have hst:(store (p.add i) v).run P w=.ok () (w.setCell (p.add i) v):=by
   rw [run_store P w _ v _ h1.1,hcell]; simp [hfro]
  have hT:=yy6 (v:=v) hv hb hs
  obtain ⟨w',hr',hT'⟩:=yq5 vs (i+1) (H.set1 (p.add i) v) (w.setCell (p.add i) v) hT.view (za8 vs (i+1) hr) h1.2
  refine ⟨w',?_,hT.trans hT'⟩
  simp only [storeCells,Sem.run_bind,hst,Result.andThen_ok,hr']

theorem ya4 {C:Cfg} {t:TypeId} {x:Nat} {y:Operand}:NFs g pr (yvg C env g t x y):=by
 unfold yvg
 split
 ·split
  ·intro z pr' hf
   dsimp only at hf
   split at hf
   ·split at hf
    ·cases hf; exact ⟨SlS.none,fun h=>absurd rfl h⟩
    ·cases hf
   ·cases hf
  ·trivial
 ·split
  ·rfl
  ·trivial
 ·trivial

theorem y9k {C:Cfg} {t:TypeId} {x:Nat} {y:Operand} (hE:z0m n ds env pr ids a) (hP:z1j ds pr ids H w B) (hv:z24 w H) (hg:gH a.tmps g) (ho:o.op=.store t (.tmp x) y) :
  NFm C.P n ds o env pr ids a H w B (yvg C env g t x y):=by
 unfold yvg
 split
 ·rename_i _ j off v hpv hx hy
  simp only [Bool.and_eq_true,Bool.not_eq_true'] at hpv
  obtain ⟨⟨_,hu⟩,hz⟩:=hpv
  obtain ⟨u,hu⟩:=zy5 hu
  split
  ·rename_i hc
   simp only [Bool.and_eq_true,Nat.beq_iff] at hc
   obtain ⟨⟨hl,h1⟩,_⟩:=hc
   have hcs:=yzm h1 (by rw [hl]; intro e; rw [e] at hz; simp at hz)
   intro z pr' hf
   dsimp only at hf
   cases hj:pr j with
   | none=>simp [hj] at hf
   | some cs =>
    obtain ⟨cs,e⟩:=cs
    simp only [hj] at hf
    split at hf
    ·rename_i hle
     cases hf
     have hle':off+C.P.cellsOf t≤cs.length:=Nat.le_of_ble_eq_true hle
     have hb:=hP.blk j cs e hj
     have hjn:pr j≠none:=by simp [hj]
     have e1:a.eval (.tmp x)=.pointer (some ⟨ids j,off,none⟩):=hE.ev hg hx
     have e2:a.eval y=v:=hE.ev hg hy
     have hst:=run_storeCells_at C.P (ids j) off e v.cells.toList 0 cs.toArray w hb (by rw [hcs,hl]; simpa using hle') (by rw [hcs]; simpa using h1)
     have hrun:=run_storeVar' (P:=C.P) (t:=t) (p:=⟨ids j,off,none⟩) hu (by rw [hcs,hl]) hst
     have hrow:(cs.toArray.toList.take (off+0)++v.cells.toList++cs.toArray.toList.drop (off+0+v.cells.toList.length)).toArray=(yrd cs off (yzl (z56 C.P t) v)).toArray:=by
      rw [hcs,yre cs off _ (by rw [hl]; exact hle')]; simp
     rw [hrow] at hrun
     have hup:∀ k,pr k≠none→pr.set j (some (yrd cs off (yzl (z56 C.P t) v),e)) k≠none:=fun k hk=>by
      by_cases ek:k=j
      ·subst ek; simp [z1i.set_same]
      ·rw [z1i.set_ne _ _ ek]; exact hk
     have hdn:∀ k,pr.set j (some (yrd cs off (yzl (z56 C.P t) v),e)) k≠none→pr k≠none:=fun k hk=>by
      by_cases ek:k=j
      ·subst ek; exact hjn
      ·rw [z1i.set_ne _ _ ek] at hk; exact hk
     have hview:z24 (w.setRow (ids j) (yrd cs off (yzl (z56 C.P t) v)).toArray) H:=fun k ob hk=>by
      have hk':k≠ids j:=fun ek=>by subst ek; rw [hP.hid j hjn] at hk; cases hk
      rw [yrg _ hk']; exact hv k ob hk
     refine ⟨undef,_,ids,.inr ⟨?_,rfl⟩,hview,fun w0 H0 hB h0=>⟨hview,fun k hk hn=>?_,h0.fresh,by simp only [World.setRow,Array.size_modify]; exact h0.size,h0.os,h0.tape,h0.output,h0.drawn⟩,
      ⟨fun k cs' t' hk=>?_,fun k hk=>hP.hid k (hdn k hk),fun k hk=>hP.low k (hdn k hk),fun k l hk hl'=>hP.inj k l (hdn k hk) (hdn l hl'),fun D hD=>?_⟩,
      hE.reids (fun _ _=>rfl) hup,SlV.none⟩
     ·simp only [execOp,ho]
      rw [e1,e2]
      simp [Instr.storeAt,Instr.sureAddr,hrun]
     ·have hk':k≠ids j:=fun ek=>by have:=hP.low j hjn; omega
      rw [yrg _ hk']; exact h0.frame k hk hn
     ·by_cases ek:k=j
      ·subst ek
       rw [z1i.set_same] at hk
       cases hk
       exact setRow_heap w (ids k) _ _ _ _ hb
      ·rw [z1i.set_ne _ _ ek] at hk
       have hk':ids k≠ids j:=fun e=>ek (hP.inj k j (by simp [hk]) hjn e)
       rw [yrg _ hk']; exact hP.blk k cs' t' hk
     ·obtain ⟨h1,h2,h3⟩:=hP.dfs D hD
      have hk':D≠ids j:=fun ek=>by rw [ek,hb] at h3; cases h3
      exact ⟨h1,h2,(yrg _ hk').trans h3⟩
    ·cases hf
  ·trivial
 ·rename_i _ p v hpv hx hy
  simp only [Bool.or_eq_false_iff,Bool.not_eq_false'] at hpv
  obtain ⟨⟨_,hu⟩,hz⟩:=hpv
  obtain ⟨u,hu⟩:=zy5 hu
  split
  ·rename_i hc
   simp only [Bool.and_eq_true,Nat.beq_iff] at hc
   obtain ⟨hl,h1⟩:=hc
   have hcs:=yzm h1 (by rw [hl]; intro e; rw [e] at hz; simp at hz)
   intro hcan
   have e1:a.eval (.tmp x)=.pointer (some p):=hE.ev hg hx
   have e2:a.eval y=v:=hE.ev hg hy
   obtain ⟨w',hst,hT⟩:=yq5 (P:=C.P) (p:=p) _ 0 H w hv hcan h1
   rw [← hcs] at hst
   have hrun:=run_storeVar' (P:=C.P) (t:=t) (p:=p) hu (by rw [hcs,hl]) hst
   refine ⟨w',?_,hT⟩
   simp only [execOp,ho]
   rw [e1,e2]
   simp [Instr.storeAt,Instr.sureAddr,hrun]
  ·trivial
 ·trivial

end
end Go.Eng
end
