/- The engine, part T: the door. Conditions: none. -/
import Derived.Test.YtmnbekffebdfmaaEngS
set_option linter.unusedVariables false
namespace Go.Eng

def bodyOf (f : Func) : Code :=
  match f.body with
  | some c => c
  | none => .skip

theorem bodyOf_eq {f : Func} (h : f.body.isSome = true) : f.body = some (bodyOf f) := by
  unfold bodyOf
  cases hb : f.body with
  | none => rw [hb] at h; cases h
  | some c => rfl

/-- What is held of a whole program. -/
def GoodP (P : Program) : Prop := NoCount P ∧ P.follows .mixedOrders = true

theorem goodP {P : Program} (h1 : (P.funcs.toList.all fun fn => fn.body.isNone || !(fn.name == "runtime.NumGoroutine")) = true) (h2 : P.follows .mixedOrders = true) : GoodP P := by
  refine ⟨fun f fn hf hb => ?_, h2⟩
  have hm : fn ∈ P.funcs.toList := by simpa using Array.mem_of_getElem? hf
  have := List.all_eq_true.1 h1 fn hm
  cases hbb : fn.body with
  | none => rw [hbb] at hb; cases hb
  | some c => simpa [hbb] using this

def vcF (C : Cfg) (fn : Func) (args : List Value) (H : Hp) (post : Value → Hp → Prop) : Prop :=
  vc C (bodyOf fn) (retK C fn.results.toList post) ⟨env0 args, fun _ => none⟩ H

/-- A function's contract out of its conditions, as they are written out. -/
theorem Fn.door {C : Cfg} {f : FuncId} {fn : Func} {args : List Value} {H : Hp} {post : Value → Hp → Prop} {T : Prop} (hP : GoodP C.P) (hf : C.P.funcs[f]? = some fn)
    (hb : (fn.body.isSome && Nat.beq fn.ntmps C.n && Nat.ble args.length C.n) = true) (e : T = vcF C fn args H post) (h : T) : Fn C.P f args.toArray H post := by
  simp only [Bool.and_eq_true, Nat.beq_iff] at hb
  have h' : vcF C fn args H post := by rw [← e]; exact h
  exact Fn.of_vc hP.1 hP.2 hf (bodyOf_eq hb.1.1) hb.1.2 hb.2 h'

end Go.Eng
