/- The engine, part B: the conditions of a piece of code, reckoned from its text. Conditions: none. -/
import Derived.Test.YtmnbekffebdfmaaEngA
import Derived.Laws.Sem
set_option linter.unusedVariables false
namespace Go.Eng

/-- A value in a slot: one that is known, or a pointer into a block that the call keeps for itself. -/
inductive V0 where
  | lit (v : Value)
  | ptr (j off : Nat)

abbrev Gd := List (Nat × Bool)
abbrev Sl := Option (Gd × V0)
abbrev Env := Nat → Sl
abbrev Priv := Nat → Option (List Value × TypeId)

/-- A slice: where its elements begin, how many there are, how many have room. -/
structure Slc where
  a : Option Addr
  n : Nat
  c : Nat
def Slc.v (u : Slc) : Value := .slice u.a u.n u.c

inductive Leaf where
  | int (k : IntKind)
  | bool
  | sl
  | ptr
  | mp
  | val

/-- What is chosen for one function: 'pv t': slot t holds a pointer into a block of the call's own; 'perm': the order in which a region that draws is taken; 'eff f': a call of f may change what is in view; 'effv': so may a call through a function value; 'nm t': the block of the call's own to which slot t points; 'lp': what a loop carries; 'wr': sums of ints are taken as they wrap. -/
structure Cfg where
  P : Program
  n : Nat
  pv : Nat → Bool
  perm : Nat → Option (List Nat)
  eff : Nat → Bool
  effv : Bool
  nm : Nat → Nat
  lp : Nat → List (Nat × Leaf) × List (Nat × List Leaf)
  wr : Bool := false

def mentions (d : Nat) : Gd → Bool
  | [] => false
  | p :: g => Nat.beq p.1 d || mentions d g

def Env.put (env : Env) (d : Nat) (x : Sl) : Env := fun t =>
  match Nat.beq t d with
  | true => x
  | false => match env t with
    | some (g, v) => match mentions d g with
      | true => none
      | false => some (g, v)
    | none => none

def bEq : Bool → Bool → Bool
  | true, b => b
  | false, true => false
  | false, false => true

def gIn (s : Nat) (w : Bool) : Gd → Bool
  | [] => false
  | p :: g => (Nat.beq p.1 s && bEq p.2 w) || gIn s w g

def gSub : Gd → Gd → Bool
  | [], _ => true
  | p :: g', g => gIn p.1 p.2 g && gSub g' g

def gEq : Gd → Gd → Bool
  | [], [] => true
  | p :: g, q :: g' => Nat.beq p.1 q.1 && bEq p.2 q.2 && gEq g g'
  | _, _ => false

def Env.ev (env : Env) (g : Gd) : Operand → Option V0
  | .tmp t => match env t with
    | some (g', v) => match gSub g' g with
      | true => some v
      | false => none
    | none => none
  | .const v => some (.lit v)
  | .func f => some (.lit (.func (.func f) #[] #[]))
  | .global _ => none

/-- What a chain of guards comes to. -/
def Env.gb (env : Env) : Gd → Option Bool
  | [] => some true
  | (s, w) :: g => match env s with
    | some (g', .lit (.bool x)) => match gEq g' g with
      | true => match g, env.gb g, w with
        | [], _, true => some x
        | [], _, false => some (!x)
        | _ :: _, some y, true => some (y && x)
        | _ :: _, some y, false => some (y && !x)
        | _ :: _, none, _ => none
      | false => none
    | _ => none

def imp (gb : Bool) (p : Prop) : Gd → Prop
  | [] => p
  | _ :: _ => gb = true → p

def chain (ops : Array Oper) : Nat → Oper → Option Gd
  | 0, _ => none
  | f + 1, o => match o.guard with
    | none => some []
    | some (j, w) => match ops[j]? with
      | some oj => match oj.dst, chain ops f oj with
        | some s, some g => some ((s, w) :: g)
        | _, _ => none
      | none => none

def leaves (P : Program) : Nat → TypeId → List Leaf
  | 0, _ => []
  | d + 1, t => match P.underlying t with
    | some (.int k) => [.int k]
    | some .bool => [.bool]
    | some (.struct fs) => fs.toList.flatMap fun f => leaves P d f.type
    | some (.array n e) => (List.replicate n (leaves P d e)).flatten
    | some (.slice _) => [.sl]
    | some (.pointer _) => [.ptr]
    | some (.map _ _) => [.mp]
    | some _ => [.val]
    | none => []

def aggT (P : Program) (t : TypeId) : Bool :=
  match P.underlying t with
  | some (.struct _) => true
  | some (.array _ _) => true
  | _ => false

def exL : List Leaf → (List Value → Prop) → Prop
  | [], f => f []
  | .int k :: ls, f => ∃ n : Int, exL ls fun vs => f (.int k n :: vs)
  | .bool :: ls, f => ∃ b : Bool, exL ls fun vs => f (.bool b :: vs)
  | .sl :: ls, f => ∃ u : Slc, exL ls fun vs => f (u.v :: vs)
  | .ptr :: ls, f => ∃ a : Addr, exL ls fun vs => f (.pointer (some a) :: vs)
  | .mp :: ls, f => ∃ r : Option Nat, exL ls fun vs => f (.map r :: vs)
  | .val :: ls, f => ∃ v : Value, exL ls fun vs => f (v :: vs)

def mkV (agg : Bool) (vs : List Value) : Value :=
  match agg with
  | true => .agg vs.toArray
  | false => match vs with
    | v :: _ => v
    | [] => undef

/-- How a value is made of its leaves. -/
inductive Shp where
  | one (agg : Bool) (ls : List Leaf)
  | tup (l : List (Bool × List Leaf))

def Shp.leaves : Shp → List Leaf
  | .one _ ls => ls
  | .tup l => l.flatMap (·.2)

def tupVs : List (Bool × List Leaf) → List Value → List Value
  | [], _ => []
  | (a, ls) :: l, vs => mkV a (vs.take ls.length) :: tupVs l (vs.drop ls.length)

def Shp.mk : Shp → List Value → Value
  | .one a _, vs => mkV a vs
  | .tup l, vs => .tuple (tupVs l vs).toArray

def shp (P : Program) (t : TypeId) : Shp :=
  match P.underlying t with
  | some (.tuple ts) => .tup (ts.toList.map fun u => (aggT P u, Eng.leaves P 9 u))
  | _ => .one (aggT P t) (Eng.leaves P 9 t)

def flat (s : Shp) : Bool := s.leaves.all fun l => match l with
  | .int _ => true
  | .bool => true
  | _ => false

def cellsAt (H : Hp) (p : Addr) : Nat → List Value → Prop
  | _, [] => True
  | i, v :: vs => match vs with
    | [] => H.at (p.add i) = some v
    | _ :: _ => H.at (p.add i) = some v ∧ cellsAt H p (i + 1) vs

/-- The address of an element. -/
def eaddr (a : Option Addr) (s : Nat) (i : Int) : Addr :=
  match a with
  | some a => a.add (i.toNat * s)
  | none => default
def inSl (a : Option Addr) (n : Nat) (i : Int) : Prop := 0 ≤ i ∧ i < n ∧ a.isSome = true
/-- Where a part of a slice begins. -/
def subA (a : Option Addr) (s : Nat) (l m : Int) : Option Addr := if m.toNat = l.toNat then a else a.map (·.add (l.toNat * s))

def nz (y : Int) : Prop := y ≠ 0
def nn (y : Int) : Prop := 0 ≤ y
def okSl (l h m cp : Int) : Prop := 0 ≤ l ∧ l ≤ h ∧ h ≤ m ∧ m ≤ cp
def okMk (n m bytes : Int) : Prop := n = m ∧ 0 ≤ n ∧ n * bytes ≤ 140737488355328
def okIx (z : Int) (len : Nat) (cs : List Value) (s : Nat) (vs : List Value) : Prop := 0 ≤ z ∧ z < len ∧ (cs.drop (z.toNat * s)).take s = vs ∧ vs.length = s
def inI (z : Int) : Prop := -9223372036854775808 ≤ z ∧ z ≤ 9223372036854775807
def wrapU (z : Int) : Int := z % 18446744073709551616

abbrev Pv := Option (Option Prop × Value)

def yes (v : Value) : Pv := some (none, v)
def ifs (g : Gd) (gb : Bool) (p : Prop) (v : Value) : Pv := some (some (imp gb p g), v)

/-- A sum, a difference, a product. -/
def arith (wr : Bool) (g : Gd) (gb : Bool) (k : IntKind) (z : Int) : Pv :=
  match k with
  | .i64 => match wr with
    | true => yes (.int .i64 (IntKind.i64.wrap z))
    | false => ifs g gb (inI z) (.int .i64 z)
  | .u64 => yes (.int .u64 (wrapU z))
  | k => yes (.int k (k.wrap z))

def quot (g : Gd) (gb : Bool) (k : IntKind) (x y : Int) : Pv :=
  match k with
  | .i64 => ifs g gb (nz y ∧ inI (x.tdiv y)) (.int .i64 (x.tdiv y))
  | .u64 => ifs g gb (nz y) (.int .u64 (wrapU (x.tdiv y)))
  | k => ifs g gb (nz y) (.int k (k.wrap (x.tdiv y)))

def binI (wr : Bool) (g : Gd) (gb : Bool) (op : BinOp) (k : IntKind) (x y : Int) : Pv :=
  match op with
  | .add => arith wr g gb k (x + y)
  | .sub => arith wr g gb k (x - y)
  | .mul => arith wr g gb k (x * y)
  | .quo => quot g gb k x y
  | .rem => ifs g gb (nz y) (.int k (x.tmod y))
  | .eql => yes (.bool (x == y))
  | .neq => yes (.bool (x != y))
  | .lss => yes (.bool (x < y))
  | .leq => yes (.bool (x ≤ y))
  | .gtr => yes (.bool (x > y))
  | .geq => yes (.bool (x ≥ y))
  | .shl => ifs g gb (nn y) (.int k (k.wrap (x * 2 ^ (min y.toNat k.bits))))
  | .shr => ifs g gb (nn y) (.int k (x.fdiv (2 ^ (min y.toNat k.bits))))
  | .and => yes (.int k (k.wrap (BitVec.ofInt k.bits x &&& BitVec.ofInt k.bits y).toNat))
  | .or => yes (.int k (k.wrap (BitVec.ofInt k.bits x ||| BitVec.ofInt k.bits y).toNat))
  | .xor => yes (.int k (k.wrap (BitVec.ofInt k.bits x ^^^ BitVec.ofInt k.bits y).toNat))
  | _ => none

def andB : Option Bool → Bool → Option Bool
  | none, b => some b
  | some a, b => some (a && b)

def partV (P : Program) (t : TypeId) (cs : Array Value) (off : Nat) : Option Value :=
  match aggT P t with
  | true => some (.agg (cs.extract off (off + P.cellsOf t)))
  | false => cs[off]?

def eqFs (P : Program) (rec : Option Bool → TypeId → Value → Value → Option (Option Bool)) (xs ys : Array Value) : Option Bool → List Field → Option (Option Bool)
  | acc, [] => some acc
  | acc, f :: fs => match f.name == "_", partV P f.type xs f.offset, partV P f.type ys f.offset with
    | false, some a, some b => match rec acc f.type a b with
      | some acc' => eqFs P rec xs ys acc' fs
      | none => none
    | _, _, _ => none

/-- Two values of a type, field by field: are they alike? -/
def eqV (P : Program) : Nat → Option Bool → TypeId → Value → Value → Option (Option Bool)
  | 0, _, _, _, _ => none
  | d + 1, acc, t, x, y => match P.underlying t, x, y with
    | some (.int _), .int k a, .int k' b => match decide (k = k') with
      | true => some (andB acc (a == b))
      | false => none
    | some .bool, .bool a, .bool b => some (andB acc (a == b))
    | some (.struct fs), .agg xs, .agg ys => match P.stoodInHeld t with
      | true => none
      | false => eqFs P (eqV P d) xs ys acc fs.toList
    | _, _, _ => none

def isNilC : Operand → Bool
  | .const (.slice none 0 0) => true
  | _ => false

def bin (P : Program) (wr : Bool) (g : Gd) (gb : Bool) (op : BinOp) (t : TypeId) (y : Operand) (a b : Value) : Pv :=
  match P.underlying t with
  | some (.int _) => match a, b with
    | .int k m, .int k' n => match op with
      | .shl => binI wr g gb .shl k m n
      | .shr => binI wr g gb .shr k m n
      | op => match decide (k = k') with
        | true => binI wr g gb op k m n
        | false => none
    | _, _ => none
  | some .bool => match a, b with
    | .bool m, .bool n => match op with
      | .eql => yes (.bool (m == n))
      | .neq => yes (.bool (!(m == n)))
      | _ => none
    | _, _ => none
  | some (.slice _) => match isNilC y, a with
    | true, .slice p _ _ => match op with
      | .eql => yes (.bool p.isNone)
      | .neq => yes (.bool (!p.isNone))
      | _ => none
    | _, _ => none
  | some (.struct _) => match a, b with
    | .agg xs, .agg ys => match P.eqGuardType P.depth t, eqV P 9 none t (.agg xs) (.agg ys) with
      | false, some (some r) => match op with
        | .eql => yes (.bool r)
        | .neq => yes (.bool (!r))
        | _ => none
      | _, _ => none
    | _, _ => none
  | _ => none

/-- A run that only looks at the program. -/
def pureRun {α : Type} (P : Program) : Sem α → Option α
  | .pure a => some a
  | .program k => pureRun P (k P)
  | .mark _ k => pureRun P k
  | _ => none

/-- A run that makes one block and only looks at the program besides. -/
def newRun {α : Type} (P : Program) : Sem α → Option (Obj × (Nat → Option α))
  | .new o k => some (o, fun r => pureRun P (k r))
  | .program k => newRun P (k P)
  | .mark _ k => newRun P k
  | _ => none

def pickV (x : Bool) (a b : Operand) (A B : Value) : Option Value :=
  match A, B with
  | .bool p, .bool q => match a, b with
    | .const (.bool true), _ => some (.bool (x || q))
    | _, .const (.bool false) => some (.bool (x && p))
    | _, _ => some (.bool (cond x p q))
  | .int k m, .int k' n => match decide (k = k') with
    | true => some (.int k (cond x m n))
    | false => none
  | _, _ => none

def foff (P : Program) (t : TypeId) (f : Nat) : Option Nat :=
  match P.underlying t with
  | some (.struct fs) => match fs[f]? with
    | some fd => match Nat.beq (P.cellsOf fd.type) 0 with
      | true => none
      | false => some fd.offset
    | none => none
  | _ => none

def ioff (P : Program) (t : TypeId) : Option (Nat × Nat) :=
  match P.underlying t with
  | some (.array n e) => some (n, P.cellsOf e)
  | _ => none

def vcells (agg : Bool) (v : Value) : List Value :=
  match agg with
  | true => match v with
    | .agg cs => cs.toList
    | _ => []
  | false => [v]

def setL : List Value → Nat → List Value → List Value
  | xs, _, [] => xs
  | [], _, _ => []
  | _ :: xs, 0, v :: vs => v :: setL xs 0 vs
  | x :: xs, i + 1, vs => x :: setL xs i vs

def Priv.set (pr : Priv) (j : Nat) (x : Option (List Value × TypeId)) : Priv := fun k =>
  match Nat.beq k j with
  | true => x
  | false => pr k

/-- The block behind a store. -/
def Hp.canStore (H : Hp) (p : Addr) : Nat → List Value → Prop
  | _, [] => True
  | i, _ :: vs => (∃ c T fz, H (p.add i).block = some (.cells c T fz) ∧ (p.add i).spot = none ∧ (p.add i).off < c.size ∧ ¬ (fz.1 ≤ (p.add i).off ∧ (p.add i).off < fz.2)) ∧ Hp.canStore H p (i + 1) vs

def Hp.set1 (H : Hp) (p : Addr) (v : Value) : Hp := fun k =>
  match Nat.beq k p.block with
  | true => match H k with
    | some (.cells c T fz) => some (.cells (c.setIfInBounds p.off v) T fz)
    | o => o
  | false => H k

def Hp.store (H : Hp) (p : Addr) : Nat → List Value → Hp
  | _, [] => H
  | i, v :: vs => Hp.store (H.set1 (p.add i) v) p (i + 1) vs

/-- An operation that is taken as it runs. -/
def OpSem (P : Program) (s : Sem Next) (H : Hp) (post : Value → Hp → Prop) : Prop :=
  ∀ w, View w H → ∃ v w' H', (s.run P w = .ok (.value v) w' ∨ (s.run P w = .ok .skip w' ∧ v = undef)) ∧ Tr w H w' H' ∧ post v H'

/-- A run that yields one value and leaves the world as it is. -/
def OpQ (P : Program) (s : Sem Next) (H : Hp) (v : Value) : Prop := ∀ w, View w H → s.run P w = .ok (.value v) w

/-- May function f be called? -/
def callable (P : Program) (f : FuncId) : Prop := ∃ fn, P.funcs[f]? = some fn ∧ fn.body.isSome = true

/-- A function value, called. -/
def FnV (P : Program) (F : Value) (args : List Value) (H : Hp) (post : Value → Hp → Prop) : Prop :=
  ∃ f first cap, F = .func (.func f) first cap ∧ callable P f ∧ Fn P f (first ++ args.toArray ++ cap) H post
def QfV (P : Program) (F : Value) (args : List Value) (H : Hp) (v : Value) : Prop := FnV P F args H fun v' H' => v' = v ∧ Hp.le H H'

abbrev Kop := Sl → Priv → Hp → Prop

def opsv (env : Env) (g : Gd) : List Operand → Option (List Value)
  | [] => some []
  | x :: xs => match env.ev g x with
    | some (.lit v) => match opsv env g xs with
      | some vs => some (v :: vs)
      | none => none
    | _ => none

def rho (env : Env) (g : Gd) (x : Operand) : Value :=
  match env.ev g x with
  | some (.lit v) => v
  | _ => undef

def allLit (env : Env) (g : Gd) : List Operand → Bool
  | [] => true
  | x :: xs => match env.ev g x with
    | some (.lit _) => allLit env g xs
    | _ => false

/-- The forms to which an operation comes, its operands being known: pure; one that reads what is in view; one on the blocks of the call's own; a new block that all may see; a call; an operation as it runs; a store into what is in view. -/
inductive NF where
  | bad
  | pu (ob : Option Prop) (x : Sl)
  | px (ls : List Leaf) (ob : List Value → Prop) (x : List Value → Sl)
  | rd (ls : List Leaf) (ob : List Value → Hp → Prop) (x : List Value → Sl)
  | ow (f : Priv → Option (Sl × Priv))
  | al (c : Option Prop) (x : Nat → Sl) (ob : Obj)
  | cf (f : FuncId) (args : List Value) (sh : Shp)
  | cv (F : Value) (args : List Value) (sh : Shp)
  | ef (s : Sem Next) (sh : Shp)
  | st (ad : Addr) (vs : List Value)

def oAnd : Option Prop → Prop → Prop
  | none, q => q
  | some p, q => p ∧ q

def NF.vc (P : Program) (draw : Bool) (k : Kop) (pr : Priv) (H : Hp) : NF → Prop
  | .bad => False
  | .pu ob x => oAnd ob (k x pr H)
  | .px ls ob x => exL ls fun vs => ob vs ∧ k (x vs) pr H
  | .rd ls ob x => exL ls fun vs => ob vs H ∧ k (x vs) pr H
  | .ow f => match f pr with
    | some (x, pr') => k x pr' H
    | none => False
  | .al c x ob => oAnd c (∀ (b : Nat) (H' : Hp), H b = none → H' = H.put b ob → k (x b) pr H')
  | .cf f args sh => Fn P f args.toArray H fun v H' => oAnd (match draw with | true => some (Hp.le H H') | false => none)
      (exL sh.leaves fun vs => v = sh.mk vs ∧ k (some ([], .lit (sh.mk vs))) pr H')
  | .cv F args sh => FnV P F args H fun v H' => oAnd (match draw with | true => some (Hp.le H H') | false => none)
      (exL sh.leaves fun vs => v = sh.mk vs ∧ k (some ([], .lit (sh.mk vs))) pr H')
  | .ef s sh => OpSem P s H fun v H' => exL sh.leaves fun vs => v = sh.mk vs ∧ k (some ([], .lit (sh.mk vs))) pr H'
  | .st ad vs => Hp.canStore H ad 0 vs ∧ ∀ H' : Hp, H' = H.store ad 0 vs → k none pr H'

def ofPv (g : Gd) : Pv → NF
  | none => .bad
  | some (ob, v) => .pu ob (some (g, .lit v))

def pureOp (P : Program) (env : Env) (g : Gd) (o : Oper) : NF :=
  match allLit env g o.op.operands.toList with
  | true => match pureRun P (execOp (rho env g) o) with
    | some (.value v) => .pu none (some (g, .lit v))
    | _ => .bad
  | false => .bad

/-- A new block that all may see. -/
def newOp (P : Program) (env : Env) (g : Gd) (o : Oper) (mk : Nat → Value) : NF :=
  match g, allLit env g o.op.operands.toList with
  | [], true => match newRun P (execOp (rho env g) o) with
    | some (ob, _) => .al none (fun b => some ([], .lit (mk b))) ob
    | none => .bad
  | _, _ => .bad

/-- A new block of the call's own. -/
def ownOp (P : Program) (env : Env) (g : Gd) (o : Oper) (d : Nat) : NF :=
  match g, allLit env g o.op.operands.toList with
  | [], true => match newRun P (execOp (rho env g) o) with
    | some (.cells c t (0, 0), _) => .ow fun pr => match pr d with
      | none => some (some ([], .ptr d 0), pr.set d (some (c.toList, t)))
      | some _ => none
    | _ => .bad
  | _, _ => .bad

def isC : Operand → Bool
  | .const _ => true
  | _ => false
def semV (s : Sem Value) : Sem Next := do pure (.value (← s))
def semU (s : Sem Unit) : Sem Next := do s; pure .skip
/-- A builtin function, called. -/
def bcall (b : Builtin) (ts : Array TypeId) (t : TypeId) (cs : Array Bool) (args : List Value) : Sem Next := Go.builtin b ts t cs args.toArray

def optI (env : Env) (g : Gd) (d : Int) : Option Operand → Option Int
  | none => some d
  | some x => match env.ev g x with
    | some (.lit (.int _ n)) => some n
    | _ => none

def callNF (C : Cfg) (g : Gd) (gb : Bool) (x : Operand) (args : List Value) (sh : Shp) (env : Env) : NF :=
  match x with
  | .func f => match C.P.funcs[f]? with
    | some fn => match fn.body.isSome with
      | true => match flat sh && !C.eff f with
        | true => .rd sh.leaves (fun vs H => imp gb (Qf C.P f args.toArray H (sh.mk vs)) g) fun vs => some (g, .lit (sh.mk vs))
        | false => match g with
          | [] => .cf f args sh
          | _ :: _ => .bad
      | false => .bad
    | none => .bad
  | x => match env.ev g x with
    | some (.lit F) => match flat sh && !C.effv with
      | true => .rd sh.leaves (fun vs H => imp gb (QfV C.P F args H (sh.mk vs)) g) fun vs => some (g, .lit (sh.mk vs))
      | false => match g with
        | [] => .cv F args sh
        | _ :: _ => .bad
    | _ => .bad

def moveNF (env : Env) (g : Gd) (x : Operand) : NF :=
  match env.ev g x with
  | some v => .pu none (some (g, v))
  | none => .pu none none

def builtinNF (C : Cfg) (env : Env) (g : Gd) (o : Oper) (c : Call) (b : Builtin) : NF :=
  match b, opsv env g c.args.toList with
  | .len, some [.slice _ n _] => match c.argTypes[0]? with
    | some t => match C.P.underlying t with
      | some (.slice _) => .pu none (some (g, .lit (.int .i64 n)))
      | _ => .bad
    | none => .bad
  | .min, some [.int ka a, .int _ b] => .pu none (some (g, .lit (.int ka (if b < a then b else a))))
  | .min, some [.int ka a, .int _ b, .int _ d] => .pu none (some (g, .lit (.int ka (if d < (if b < a then b else a) then d else (if b < a then b else a)))))
  | .max, some [.int ka a, .int _ b] => .pu none (some (g, .lit (.int ka (if b > a then b else a))))
  | .max, some [.int ka a, .int _ b, .int _ d] => .pu none (some (g, .lit (.int ka (if d > (if b > a then b else a) then d else (if b > a then b else a)))))
  | .append, some vs => match g with
    | [] => .ef (bcall .append c.argTypes o.type (c.args.map isC) vs) (shp C.P o.type)
    | _ :: _ => .bad
  | .copy, some vs => match g with
    | [] => .ef (bcall .copy c.argTypes o.type (c.args.map isC) vs) (shp C.P o.type)
    | _ :: _ => .bad
  | .clear, some vs => match g with
    | [] => .ef (bcall .clear c.argTypes o.type (c.args.map isC) vs) (shp C.P o.type)
    | _ :: _ => .bad
  | .delete, some vs => match g with
    | [] => .ef (bcall .delete c.argTypes o.type (c.args.map isC) vs) (shp C.P o.type)
    | _ :: _ => .bad
  | _, _ => .bad

def hasU (P : Program) (t : TypeId) : Bool :=
  match P.underlying t with
  | some _ => true
  | none => false

def loadNF (C : Cfg) (env : Env) (g : Gd) (gb : Bool) (t : TypeId) (x : Nat) : NF :=
  match C.pv x, env.ev g (.tmp x), (aggT C.P t || Nat.beq (C.P.cellsOf t) 1) && hasU C.P t with
  | true, some (.ptr j off), true => match Nat.beq (C.nm x) j with
    | true => .ow fun pr => match pr j with
      | some (cs, _) => match Nat.ble (off + C.P.cellsOf t) cs.length with
        | true => some (some (g, .lit (mkV (aggT C.P t) ((cs.drop off).take (C.P.cellsOf t)))), pr)
        | false => none
      | none => none
    | false => .bad
  | false, some (.lit (.pointer (some a))), true => match Nat.beq (leaves C.P 9 t).length (C.P.cellsOf t) with
    | true => .rd (leaves C.P 9 t) (fun vs H => imp gb (cellsAt H a 0 vs) g) fun vs => some (g, .lit (mkV (aggT C.P t) vs))
    | false => .bad
  | _, _, _ => .bad

def storeNF (C : Cfg) (env : Env) (g : Gd) (t : TypeId) (x : Nat) (y : Operand) : NF :=
  match g, C.pv x && hasU C.P t && !(Nat.beq (C.P.cellsOf t) 0), C.pv x || !hasU C.P t || Nat.beq (C.P.cellsOf t) 0, env.ev g (.tmp x), env.ev g y with
  | [], true, _, some (.ptr j off), some (.lit v) => match Nat.beq (vcells (aggT C.P t) v).length (C.P.cellsOf t) && (vcells (aggT C.P t) v).all Value.oneCell' && Nat.beq (C.nm x) j with
    | true => .ow fun pr => match pr j with
      | some (cs, e) => match Nat.ble (off + C.P.cellsOf t) cs.length with
        | true => some (none, pr.set j (some (setL cs off (vcells (aggT C.P t) v), e)))
        | false => none
      | none => none
    | false => .bad
  | [], _, false, some (.lit (.pointer (some a))), some (.lit v) => match Nat.beq (vcells (aggT C.P t) v).length (C.P.cellsOf t) && (vcells (aggT C.P t) v).all Value.oneCell' with
    | true => .st a (vcells (aggT C.P t) v)
    | false => .bad
  | _, _, _, _, _ => .bad

def pickNF (env : Env) (g : Gd) (tc : Nat) (a b : Operand) : NF :=
  match env.ev g (.tmp tc), env.ev ((tc, true) :: g) a, env.ev ((tc, false) :: g) b with
  | some (.lit (.bool x)), some (.lit A), some (.lit B) => match pickV x a b A B with
    | some v => .pu none (some (g, .lit v))
    | none => .bad
  | _, _, _ => .bad

def convNF (P : Program) (g : Gd) (gb : Bool) (s t : TypeId) (x : Option V0) : NF :=
  match P.underlying s, P.underlying t, x with
  | some (.int _), some (.int kd), some (.lit (.int ks n)) => match ks, kd with
    | .i64, .i64 => .pu (some (imp gb (inI n) g)) (some (g, .lit (.int .i64 n)))
    | _, .u64 => .pu none (some (g, .lit (.int .u64 (wrapU n))))
    | _, kd => .pu none (some (g, .lit (.int kd (kd.wrap n))))
  | _, _, _ => .bad

def idxNF (P : Program) (g : Gd) (gb : Bool) (t : TypeId) (x i : Option V0) : NF :=
  match x, i with
  | some (.ptr j off), some (.lit (.int _ n)) => match ioff P t, n with
    | some (len, s), .ofNat m => match Nat.blt m len && !(Nat.beq s 0) with
      | true => .pu none (some (g, .ptr j (off + m * s)))
      | false => .bad
    | _, _ => .bad
  | some (.lit (.slice a len _)), some (.lit (.int _ n)) => match P.underlying t with
    | some (.slice e) => match Nat.beq (P.cellsOf e) 0 with
      | false => .pu (some (imp gb (inSl a len n) g)) (some (g, .lit (.pointer (some (eaddr a (P.cellsOf e) n)))))
      | true => .bad
    | _ => .bad
  | _, _ => .bad

def opNF (C : Cfg) (env : Env) (g : Gd) (gb : Bool) (o : Oper) : NF :=
  match o.op with
  | .move x => moveNF env g x
  | .assign x => moveNF env g x
  | .pick (.tmp tc) a b => pickNF env g tc a b
  | .binOp op t x y _ => match env.ev g x, env.ev g y with
    | some (.lit a), some (.lit b) => ofPv g (bin C.P C.wr g gb op t y a b)
    | _, _ => .bad
  | .unOp .not _ x => match env.ev g x with
    | some (.lit (.bool b)) => .pu none (some (g, .lit (.bool !b)))
    | _ => .bad
  | .unOp .neg _ x => match env.ev g x with
    | some (.lit (.int kd n)) => ofPv g (arith C.wr g gb kd (0 - n))
    | _ => .bad
  | .convert s t x => convNF C.P g gb s t (env.ev g x)
  | .fieldAddr t x f => match foff C.P t f, env.ev g x with
    | some i, some (.ptr j off) => .pu none (some (g, .ptr j (off + i)))
    | some i, some (.lit (.pointer (some a))) => .pu none (some (g, .lit (.pointer (some (a.add i)))))
    | _, _ => .bad
  | .indexAddr t x i => idxNF C.P g gb t (env.ev g x) (env.ev g i)
  | .index t x i => match C.P.underlying t, env.ev g x, env.ev g i with
    | some (.array len e), some (.lit (.agg cs)), some (.lit (.int _ n)) => match (aggT C.P e || Nat.beq (C.P.cellsOf e) 1) && hasU C.P e && !(Nat.beq (C.P.cellsOf e) 0) with
      | true => .px (leaves C.P 9 e) (fun vs => imp gb (okIx n len cs.toList (C.P.cellsOf e) vs) g)
          fun vs => some (g, .lit (mkV (aggT C.P e) vs))
      | false => .bad
    | _, _, _ => .bad
  | .load t (.tmp x) => loadNF C env g gb t x
  | .store t (.tmp x) y => storeNF C env g t x y
  | .alloc _ => match o.dst with
    | some d => match C.pv d with
      | false => newOp C.P env g o fun b => .pointer (some ⟨b, 0, none⟩)
      | true => ownOp C.P env g o d
    | none => .bad
  | .box _ _ => match o.dst with
    | some d => match C.pv d with
      | false => newOp C.P env g o fun b => .pointer (some ⟨b, 0, none⟩)
      | true => ownOp C.P env g o d
    | none => .bad
  | .buildSlice _ n _ => newOp C.P env g o fun b => .slice (some ⟨b, 0, none⟩) n n
  | .makeMap _ none => newOp C.P env g o fun b => .map (some b)
  | .build _ _ => pureOp C.P env g o
  | .field _ _ _ => pureOp C.P env g o
  | .extract _ _ => pureOp C.P env g o
  | .makeFunc _ _ _ => pureOp C.P env g o
  | .slice t x lo hi mx => match C.P.underlying t, env.ev g x with
    | some (.slice e), some (.lit (.slice a len cp)) => match optI env g 0 lo, optI env g len hi, optI env g cp mx, (hi.isSome || !mx.isSome) && !(Nat.beq (C.P.cellsOf e) 0) with
      | some l, some h, some m, true => .pu (some (imp gb (okSl l h m cp) g)) (some (g, .lit (.slice (subA a (C.P.cellsOf e) l m) (h.toNat - l.toNat) (m.toNat - l.toNat))))
      | _, _, _, _ => .bad
    | _, _ => .bad
  | .makeSlice t l c => match g, env.ev g l, env.ev g c, C.P.underlying t with
    | [], some (.lit (.int .i64 n)), some (.lit (.int .i64 m)), some (.slice e) => match C.P.info? e with
      | some i => match i.zero with
        | some z => match Nat.blt 0 i.size && Nat.blt 0 i.bytes && Nat.beq z.cells.size i.size with
          | true => .al (some (okMk n m i.bytes)) (fun b => some ([], .lit (.slice (some ⟨b, 0, none⟩) n.toNat n.toNat))) (.cells (List.replicate n.toNat z.cells.toList).flatten.toArray e (0, 0))
          | false => .bad
        | none => .bad
      | none => .bad
    | _, _, _, _ => .bad
  | .call c => match c.callee with
    | .value x => match opsv env g c.args.toList with
      | some args => callNF C g gb x args (shp C.P o.type) env
      | none => .bad
    | .builtin b => builtinNF C env g o c b
    | _ => .bad
  | .lookup t x i ok => match env.ev g x, env.ev g i with
    | some (.lit xv), some (.lit iv) => .rd (shp C.P o.type).leaves (fun vs H => imp gb (OpQ C.P (semV (Instr.lookup t xv iv ok)) H ((shp C.P o.type).mk vs)) g) fun vs => some (g, .lit ((shp C.P o.type).mk vs))
    | _, _ => .bad
  | .mapUpdate t m x y => match g, env.ev g m, env.ev g x, env.ev g y with
    | [], some (.lit mv), some (.lit xv), some (.lit yv) => .ef (semU (Instr.mapUpdate t mv xv yv)) (.one false [.val])
    | _, _, _, _ => .bad
  | .range t x => match g, env.ev g x with
    | [], some (.lit xv) => .ef (semV (Instr.range t xv)) (shp C.P o.type)
    | _, _ => .bad
  | .next x b => match g, env.ev g x with
    | [], some (.lit xv) => .ef (semV (Instr.next xv b o.type)) (shp C.P o.type)
    | _, _ => .bad
  | .entry x => match g, env.ev g x with
    | [], some (.lit xv) => .ef (semV (Instr.entry xv)) (shp C.P o.type)
    | _, _ => .bad
  | _ => .bad

end Go.Eng
