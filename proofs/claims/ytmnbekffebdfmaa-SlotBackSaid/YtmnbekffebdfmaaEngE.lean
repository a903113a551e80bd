/- The engine, part E: what the forms mean; each operation means its form. Conditions: none. -/
import Derived.Test.YtmnbekffebdfmaaEngD
import Derived.Laws.CopyRow
set_option linter.unusedVariables false
namespace Go.Eng

def SlV (ids : Nat → Nat) (x : Sl) (v : Value) : Prop := ∀ g1 v0, x = some (g1, v0) → v = v0.val ids
def SlS (g : Gd) (pr : Priv) (x : Sl) : Prop := ∀ g1 v0, x = some (g1, v0) → g1 = g ∧ v0.known pr

theorem SlV.lit {g : Gd} {ids : Nat → Nat} {v : Value} : SlV ids (some (g, .lit v)) v := fun _ _ h => by cases h; rfl
theorem SlV.none {ids : Nat → Nat} {v : Value} : SlV ids none v := fun _ _ h => by cases h
theorem SlS.lit {g : Gd} {pr : Priv} {v : Value} : SlS g pr (some (g, .lit v)) := fun _ _ h => by cases h; exact ⟨rfl, trivial⟩
theorem SlS.none {g : Gd} {pr : Priv} : SlS g pr none := fun _ _ h => by cases h
theorem SlS.ptr {g : Gd} {pr : Priv} {j o : Nat} (h : pr j ≠ Option.none) : SlS g pr (some (g, .ptr j o)) := fun _ _ h' => by cases h'; exact ⟨rfl, h⟩

/-- The forms, whatever comes. -/
def NFs (g : Gd) (pr : Priv) : NF → Prop
  | .bad => True
  | .pu _ x => SlS g pr x
  | .px _ _ x => ∀ vs, SlS g pr (x vs)
  | .rd _ _ x => ∀ vs, SlS g pr (x vs)
  | .ow f => ∀ x pr', f pr = some (x, pr') → SlS g pr' x ∧ (g ≠ [] → pr' = pr)
  | .al _ x _ => g = [] ∧ ∀ b, SlS g pr (x b)
  | .cf _ _ _ => g = []
  | .cv _ _ _ => g = []
  | .ef _ _ => g = []
  | .st _ _ => g = []

/-- The forms, where the operation is carried out. -/
def NFm (P : Program) (n : Nat) (o : Oper) (env : Env) (pr : Priv) (ids : Nat → Nat) (a : Act) (H : Hp) (w : World) (B : Nat) : NF → Prop
  | .bad => True
  | .pu ob x => (∀ p, ob = some p → p) → ∃ v, (execOp a.eval o).run P w = .ok (.value v) w ∧ SlV ids x v
  | .px ls ob x => ∀ vs, vs.length = ls.length → ob vs → ∃ v, (execOp a.eval o).run P w = .ok (.value v) w ∧ SlV ids (x vs) v
  | .rd ls ob x => ∀ vs, vs.length = ls.length → ob vs H → (∃ v, (execOp a.eval o).run P w = .ok (.value v) w ∧ SlV ids (x vs) v) ∨
      ∃ f args, (execOp a.eval o).run P w = .ok (.enter f args) w ∧ Calls P f args w fun e w' => ∃ v, e = .returned v ∧ SlV ids (x vs) v ∧ Tr w H w' H
  | .ow f => ∀ x pr', f pr = some (x, pr') → ∃ v w' ids', ((execOp a.eval o).run P w = .ok (.value v) w' ∨ ((execOp a.eval o).run P w = .ok .skip w' ∧ v = undef)) ∧
      View w' H ∧ (∀ w0 H0, w0.heap.size = B → Tr w0 H0 w H → Tr w0 H0 w' H) ∧ PrivOk pr' ids' H w' B ∧ EnvOk n env pr' ids' a ∧ SlV ids' x v
  | .al c x ob => (∀ p, c = some p → p) → ∃ v, (execOp a.eval o).run P w = .ok (.value v) { w with heap := w.heap.push ob } ∧ SlV ids (x w.heap.size) v
  | .cf f args _ => (execOp a.eval o).run P w = .ok (.enter f args.toArray) w
  | .cv F args _ => ∀ f first cap, F = .func (.func f) first cap → callable P f → (execOp a.eval o).run P w = .ok (.enter f (first ++ args.toArray ++ cap)) w
  | .ef s _ => execOp a.eval o = s
  | .st ad vs => Hp.canStore H ad 0 vs → ∃ w', (execOp a.eval o).run P w = .ok .skip w' ∧ Tr w H w' (H.store ad 0 vs)

/-- No function of the program is the one that the machine answers by itself. -/
def NoCount (P : Program) : Prop := ∀ (f : FuncId) (fn : Func), P.funcs[f]? = some fn → fn.body.isSome = true → (fn.name == "runtime.NumGoroutine") = false

section
variable {P : Program} {n : Nat} {o : Oper} {env : Env} {pr : Priv} {ids : Nat → Nat} {a : Act} {H : Hp} {w : World} {B : Nat} {g : Gd}

theorem nfs_move {x : Operand} (hE : EnvOk n env pr ids a) : NFs g pr (moveNF env g x) := by
  unfold moveNF
  cases hx : env.ev g x with
  | none => exact SlS.none
  | some v => intro g1 v0 h; cases h; exact ⟨rfl, hE.evk hx⟩

theorem nfm_move {x : Operand} (hE : EnvOk n env pr ids a) (hg : gH a.tmps g) (ho : o.op = .move x ∨ o.op = .assign x) : NFm P n o env pr ids a H w B (moveNF env g x) := by
  have hr : (execOp a.eval o).run P w = .ok (.value (a.eval x)) w := by
    rcases ho with ho | ho <;> simp [execOp, ho]
  unfold moveNF
  cases hx : env.ev g x with
  | none => exact fun _ => ⟨_, hr, SlV.none⟩
  | some v => exact fun _ => ⟨_, hr, fun g1 v0 h => by cases h; exact hE.ev hg hx⟩

theorem nfs_pick {tc : Nat} {x y : Operand} : NFs g pr (pickNF env g tc x y) := by
  unfold pickNF
  split
  · split
    · exact SlS.lit
    · trivial
  · trivial

theorem pickV_eq {x : Bool} {p q : Operand} {A B v : Value} (h : pickV x p q A B = some v) (hp : ∀ u, p = .const u → u = A) (hq : ∀ u, q = .const u → u = B) : v = if x then A else B := by
  unfold pickV at h
  split at h
  · rename_i b c
    split at h
    · have := hp _ rfl; cases this; cases h; cases x <;> simp
    · have := hq _ rfl; cases this; cases h; cases x <;> simp
    · cases h; cases x <;> simp
  · split at h
    · rename_i hk
      have := of_decide_eq_true hk
      subst this
      cases h; cases x <;> simp
    · cases h
  · cases h

theorem ev_const {x : Operand} {A : Value} (h : env.ev g x = some (.lit A)) : ∀ u, x = .const u → u = A := by
  intro u hu; subst hu; simp only [Env.ev, Option.some.injEq, V0.lit.injEq] at h; exact h

theorem nfm_pick {tc : Nat} {x y : Operand} (hE : EnvOk n env pr ids a) (hg : gH a.tmps g) (ho : o.op = .pick (.tmp tc) x y) : NFm P n o env pr ids a H w B (pickNF env g tc x y) := by
  unfold pickNF
  split
  · rename_i c A B' hc hA hB
    split
    · rename_i v hv
      intro _
      have e := hE.ev hg hc
      refine ⟨v, ?_, SlV.lit⟩
      rw [pickV_eq hv (ev_const hA) (ev_const hB)]
      have hc' : a.tmps.getD tc undef = .bool c := e
      have r : (execOp a.eval o).run P w = .ok (.value (if c then a.eval x else a.eval y)) w := by
        simp only [execOp, ho]
        rw [e]
        simp [V0.val, asBool]
      rw [r]
      have gcons : ∀ b, c = b → gH a.tmps ((tc, b) :: g) := fun b hb p hp => by
        rcases List.mem_cons.1 hp with rfl | hp
        · rw [← hb]; exact hc'
        · exact hg p hp
      cases c with
      | true => have := hE.ev (gcons true rfl) hA; simp only [if_true]; rw [this]; rfl
      | false => have := hE.ev (gcons false rfl) hB; simp only [Bool.false_eq_true, if_false]; rw [this]; rfl
    · trivial
  · trivial

theorem nfs_ofPv {p : Pv} : NFs g pr (ofPv g p) := by
  unfold ofPv
  split
  · trivial
  · exact SlS.lit

theorem nfm_bin {wr : Bool} {op : BinOp} {t u : TypeId} {x y : Operand} {A A' : Value} (hE : EnvOk n env pr ids a) (hg : gH a.tmps g) (ho : o.op = .binOp op t x y u)
    (hx : env.ev g x = some (.lit A)) (hy : env.ev g y = some (.lit A')) : NFm P n o env pr ids a H w B (ofPv g (bin P wr g true op t y A A')) := by
  cases hb : bin P wr g true op t y A A' with
  | none => trivial
  | some r =>
    obtain ⟨ob, v⟩ := r
    intro hob
    refine ⟨v, ?_, SlV.lit⟩
    have hr := bin_run x hb hob (ev_const hy) w
    have e1 : a.eval x = A := hE.ev hg hx
    have e2 : a.eval y = A' := hE.ev hg hy
    simp only [execOp, ho]
    rw [e1, e2, Sem.run_bind, hr]
    rfl

theorem nfm_pure (hE : EnvOk n env pr ids a) (hg : gH a.tmps g) (hs : ∀ cs b, o.op ≠ .select cs b) : NFm P n o env pr ids a H w B (pureOp P env g o) := by
  unfold pureOp
  split
  · rename_i hl
    split
    · rename_i v hr
      intro _
      refine ⟨v, ?_, SlV.lit⟩
      rw [execOp_congr o hs (fun x hx => hE.rho hg hl x (by simpa using hx))]
      exact pureRun_run hr w
    · trivial
  · trivial

theorem nfs_pure : NFs g pr (pureOp P env g o) := by
  unfold pureOp
  split
  · split
    · exact SlS.lit
    · trivial
  · trivial

theorem nfm_new {mk : Nat → Value} (hE : EnvOk n env pr ids a) (hg : gH a.tmps g) (hs : ∀ cs b, o.op ≠ .select cs b)
    (hmk : ∀ (ρ : Operand → Value) ob f, newRun P (execOp ρ o) = some (ob, f) → ∀ b, f b = some (.value (mk b))) : NFm P n o env pr ids a H w B (newOp P env g o mk) := by
  unfold newOp
  split
  · rename_i hl
    split
    · rename_i ob f hr
      intro _
      refine ⟨mk w.heap.size, ?_, SlV.lit⟩
      rw [execOp_congr o hs (fun x hx => hE.rho hg hl x (by simpa using hx))]
      exact newRun_run hr w _ (hmk _ ob f hr _)
    · trivial
  · trivial

theorem nfs_new {mk : Nat → Value} : NFs g pr (newOp P env g o mk) := by
  unfold newOp
  split
  · split
    · exact ⟨rfl, fun _ => SlS.lit⟩
    · trivial
  · trivial

end

end Go.Eng
