/- The engine, part O: code, loops, functions. Conditions: none. -/
import Derived.Test.YtmnbekffebdfmaaEngN
import Derived.Deep.LoopGhost
set_option linter.unusedVariables false
namespace Go.Eng

/-- Slots and blocks of the call's own that may change on a way through the code which ends so: none: at its end; some id: by leaving block id. -/
abbrev Md := Option (List Nat × List Nat)

def Md.seq : Md → Md → Md
  | some (a, b), some (c, d) => some (a ++ c, b ++ d)
  | _, _ => none
def Md.alt : Md → Md → Md
  | some (a, b), some (c, d) => some (a ++ c, b ++ d)
  | some x, none => some x
  | none, y => y

def opMd (C : Cfg) (o : Oper) : List Nat × List Nat :=
  (match o.dst with
   | some d => [d]
   | none => [], match o.op with
   | .store _ (.tmp x) _ => match C.pv x with
     | true => [C.nm x]
     | false => []
   | _ => [])

def opsMd (C : Cfg) : List Oper → List Nat × List Nat
  | [] => ([], [])
  | o :: os => ((opMd C o).1 ++ (opsMd C os).1, (opMd C o).2 ++ (opsMd C os).2)

def mod (C : Cfg) : Code → Option Nat → Md
  | .region _ ops _, t => match t with
    | none => some (opsMd C ops.toList)
    | some _ => none
  | .skip, t => match t with
    | none => some ([], [])
    | some _ => none
  | .exit id, t => match t with
    | none => none
    | some k => match Nat.beq id k with
      | true => some ([], [])
      | false => none
  | .seq a b, t => match t with
    | none => Md.seq (mod C a none) (mod C b none)
    | some k => Md.alt (mod C a (some k)) (Md.seq (mod C a none) (mod C b (some k)))
  | .cond _ a b, t => Md.alt (mod C a t) (mod C b t)
  | .block id b, t => match t with
    | none => Md.alt (mod C b none) (mod C b (some id))
    | some k => match Nat.beq id k with
      | true => none
      | false => mod C b (some k)
  | .loop b, t => match t with
    | none => none
    | some k => Md.alt (mod C b (some k)) (Md.seq (mod C b none) (mod C b (some k)))
  | _, _ => none

def Cur (R : Type) : List Leaf → Type
  | [] => R
  | .int _ :: ls => Int → Cur R ls
  | .bool :: ls => Bool → Cur R ls
  | .sl :: ls => Slc → Cur R ls
  | .ptr :: ls => Addr → Cur R ls
  | .mp :: ls => Option Nat → Cur R ls
  | .val :: ls => Value → Cur R ls

def appC {R : Type} : (ls : List Leaf) → Cur R ls → List Value → Option R
  | [], r, [] => some r
  | .int k :: ls, f, .int k' n :: vs => match decide (k = k') with
    | true => appC ls (f n) vs
    | false => none
  | .bool :: ls, f, .bool b :: vs => appC ls (f b) vs
  | .sl :: ls, f, .slice a n c :: vs => appC ls (f ⟨a, n, c⟩) vs
  | .ptr :: ls, f, .pointer (some a) :: vs => appC ls (f a) vs
  | .mp :: ls, f, .map r :: vs => appC ls (f r) vs
  | .val :: ls, f, v :: vs => appC ls (f v) vs
  | _, _, _ => none

def allL : List Leaf → (List Value → Prop) → Prop
  | [], f => f []
  | .int k :: ls, f => ∀ n : Int, allL ls fun vs => f (.int k n :: vs)
  | .bool :: ls, f => ∀ b : Bool, allL ls fun vs => f (.bool b :: vs)
  | .sl :: ls, f => ∀ u : Slc, allL ls fun vs => f (u.v :: vs)
  | .ptr :: ls, f => ∀ a : Addr, allL ls fun vs => f (.pointer (some a) :: vs)
  | .mp :: ls, f => ∀ r : Option Nat, allL ls fun vs => f (.map r :: vs)
  | .val :: ls, f => ∀ v : Value, allL ls fun vs => f (v :: vs)

abbrev Lp := List (Nat × Leaf) × List (Nat × List Leaf)

def Lp.leaves (l : Lp) : List Leaf := l.1.map (·.2) ++ l.2.flatMap (·.2)

def slotVals (env : Env) : List (Nat × Leaf) → Option (List Value)
  | [] => some []
  | (t, _) :: l => match env t with
    | some ([], .lit v) => match slotVals env l with
      | some vs => some (v :: vs)
      | none => none
    | _ => none

def privVals (pr : Priv) : List (Nat × List Leaf) → Option (List Value)
  | [] => some []
  | (j, ls) :: l => match pr j with
    | some (cs, _) => match Nat.beq cs.length ls.length, privVals pr l with
      | true, some vs => some (cs ++ vs)
      | _, _ => none
    | none => none

def lpVals (l : Lp) (st : St) : Option (List Value) :=
  match slotVals st.env l.1, privVals st.priv l.2 with
  | some a, some b => some (a ++ b)
  | _, _ => none

def headEnv (ms : List Nat) (base : Env) : List (Nat × Leaf) → List Value → Env
  | [], _ => fun t => match memN t ms with
    | true => none
    | false => match base t with
      | some (g, v) => match g.any fun p => memN p.1 ms with
        | true => none
        | false => some (g, v)
      | none => none
  | (s, _) :: l, vs => fun t => match Nat.beq t s with
    | true => match vs with
      | v :: _ => some ([], .lit v)
      | [] => none
    | false => headEnv ms base l vs.tail t

def headPriv (base : Priv) : List (Nat × List Leaf) → List Value → Priv
  | [], _ => base
  | (j, ls) :: l, vs => fun k => match Nat.beq k j with
    | true => match base j with
      | some (_, t) => some (vs.take ls.length, t)
      | none => none
    | false => headPriv base l (vs.drop ls.length) k

def headSt (ms : List Nat) (l : Lp) (st : St) (vs : List Value) : St :=
  ⟨headEnv ms st.env l.1 vs, headPriv st.priv l.2 (vs.drop l.1.length)⟩

def firstId : Code → Option Nat
  | .region id _ _ => some id
  | .seq a b => match firstId a with
    | some i => some i
    | none => firstId b
  | .cond _ a b => match firstId a with
    | some i => some i
    | none => firstId b
  | .block _ b => firstId b
  | .loop b => firstId b
  | _ => none

abbrev Kc := Exit → St → Hp → Prop

def loopVC (body : Kc → St → Hp → Prop) (ms : List Nat) (l : Lp) (K : Kc) (st : St) (H : Hp) : Prop :=
  match lpVals l st with
  | some v0 => ∃ (I : Cur (Hp → Prop) l.leaves) (m : Cur (Hp → Nat) l.leaves),
      (match appC l.leaves I v0 with
       | some p => p H
       | none => False) ∧
      allL l.leaves fun vs => ∀ H, (match appC l.leaves I vs with
        | some p => p H
        | none => False) →
        body (fun e st' H' => match e with
          | .normal => match lpVals l st' with
            | some vs' => match appC l.leaves I vs', appC l.leaves m vs', appC l.leaves m vs with
              | some p, some n', some n => p H' ∧ n' H' < n H
              | _, _, _ => False
            | none => False
          | e => K e st' H') (headSt ms l st vs) H
  | none => False

def privNone (pr : Priv) (j : Nat) : Bool :=
  match pr j with
  | none => true
  | some _ => false

theorem privNone_iff {pr : Priv} {j : Nat} (h : privNone pr j = true) : pr j = none := by
  unfold privNone at h
  cases hj : pr j with
  | none => rfl
  | some y => rw [hj] at h; cases h

def vc (C : Cfg) : Code → Kc → St → Hp → Prop
  | .skip, K, st, H => K .normal st H
  | .region id ops draw, K, st, H => match draw with
    | false => listVC C false ops (List.range ops.size) (K .normal) st H
    | true => match C.perm id with
      | some l => match permOk C ops l with
        | true => listVC C true ops l (K .normal) st H
        | false => False
      | none => False
  | .seq a b, K, st, H => vc C a (fun e st H => match e with
    | .normal => vc C b K st H
    | e => K e st H) st H
  | .cond c a b, K, st, H => match st.env.ev [] c with
    | some (.lit (.bool x)) => (x = true → vc C a K st H) ∧ (x = false → vc C b K st H)
    | _ => False
  | .block id b, K, st, H => vc C b (fun e st H => match e with
    | .exit k => match Nat.beq k id with
      | true => K .normal st H
      | false => K (.exit k) st H
    | e => K e st H) st H
  | .loop b, K, st, H => match firstId b, mod C b none with
    | some id, some (ms, ps) => match (ps.all fun j => memN j ((C.lp id).2.map (·.1)) || privNone st.priv j) && ((C.lp id).1.all fun x => memN x.1 ms) && ((C.lp id).2.all fun x => memN x.1 ps) with
      | true => loopVC (vc C b) ms (C.lp id) K st H
      | false => False
    | some _, none => vc C b (fun e st' H' => match e with
      | .normal => False
      | e => K e st' H') st H
    | none, _ => False
  | .exit id, K, st, H => K (.exit id) st H
  | .ret, K, st, H => K .ret st H
  | _, _, _, _ => False

end Go.Eng
