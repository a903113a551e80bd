/- The engine, part L: what an operation looks at; operations of one region change places. Conditions: none. -/
import Derived.Test.YtmnbekffebdfmaaEngK
set_option linter.unusedVariables false
namespace Go.Eng

theorem ev_put {env : Env} {d : Nat} {s : Sl} {g : Gd} {x : Operand} (hm : mentions d g = false) (hx : x ≠ .tmp d) : (env.put d s).ev g x = env.ev g x := by
  cases x with
  | tmp t =>
    have ht : t ≠ d := fun e => hx (by rw [e])
    simp only [Env.ev]
    rw [Env.put_ne ht]
    cases he : env t with
    | none => rfl
    | some y =>
      obtain ⟨g', v⟩ := y
      simp only
      cases hm' : mentions d g' with
      | false => rfl
      | true =>
        simp only
        cases hs : gSub g' g with
        | false => rfl
        | true =>
          obtain ⟨p, hp, e⟩ := mentions_iff.1 hm'
          have := mentions_iff.2 ⟨p, gSub_iff.1 hs p hp, e⟩
          rw [hm] at this; cases this
  | _ => rfl

theorem gb_put {env : Env} {d : Nat} {s : Sl} : ∀ {g : Gd}, mentions d g = false → (env.put d s).gb g = env.gb g
  | [], _ => rfl
  | (t, w) :: g, hm => by
    simp only [mentions, Bool.or_eq_false_iff] at hm
    have ht : t ≠ d := fun e => by subst e; rw [Nat.beq_refl] at hm; cases hm.1
    have ih := gb_put (env := env) (s := s) hm.2
    have hp := Env.put_ne (env := env) (x := s) ht
    simp only [Env.gb, ih]
    cases he : env t with
    | none => rw [he] at hp; simp only at hp; rw [hp]
    | some y =>
      obtain ⟨g', v⟩ := y
      rw [he] at hp
      simp only at hp
      cases hm' : mentions d g' with
      | false => rw [hm'] at hp; rw [hp]
      | true =>
        rw [hm'] at hp
        rw [hp]
        cases v with
        | ptr j o => rfl
        | lit v =>
          cases v with
          | bool x =>
            simp only
            cases hq : gEq g' g with
            | false => rfl
            | true => rw [gEq_eq hq, hm.2] at hm'; cases hm'
          | _ => rfl

section
variable {env env' : Env} {g : Gd}

theorem allLit_congr : ∀ {xs : List Operand}, (∀ x ∈ xs, env'.ev g x = env.ev g x) → allLit env' g xs = allLit env g xs
  | [], _ => rfl
  | x :: xs, h => by
    simp only [allLit]
    rw [h x (List.mem_cons_self ..), allLit_congr (xs := xs) fun y hy => h y (List.mem_cons_of_mem _ hy)]

theorem opsv_congr : ∀ {xs : List Operand}, (∀ x ∈ xs, env'.ev g x = env.ev g x) → opsv env' g xs = opsv env g xs
  | [], _ => rfl
  | x :: xs, h => by
    simp only [opsv]
    rw [h x (List.mem_cons_self ..), opsv_congr (xs := xs) fun y hy => h y (List.mem_cons_of_mem _ hy)]

theorem rho_congr {x : Operand} (h : env'.ev g x = env.ev g x) : rho env' g x = rho env g x := by simp only [rho, h]

theorem optI_congr {d : Int} {x : Option Operand} (h : ∀ y, x = some y → env'.ev g y = env.ev g y) : optI env' g d x = optI env g d x := by
  cases x with
  | none => rfl
  | some y => simp only [optI, h y rfl]

theorem opNF_congr {C : Cfg} {gb : Bool} {o : Oper} (h : ∀ x ∈ o.op.operands, env'.ev g x = env.ev g x)
    (hp : ∀ tc a b, o.op = .pick (.tmp tc) a b → ∀ w, env'.ev ((tc, w) :: g) a = env.ev ((tc, w) :: g) a ∧ env'.ev ((tc, w) :: g) b = env.ev ((tc, w) :: g) b) :
    opNF C env' g gb o = opNF C env g gb o := by
  have hl : allLit env' g o.op.operands.toList = allLit env g o.op.operands.toList := allLit_congr fun x hx => h x (by simpa using hx)
  have hr : (∀ cs b, o.op ≠ .select cs b) → execOp (rho env' g) o = execOp (rho env g) o := fun hs => execOp_congr o hs fun x hx => rho_congr (h x hx)
  unfold opNF
  cases hop : o.op with
  | move x => rw [hop] at h; simp only [moveNF]; rw [h x (by simp [Op.operands])]
  | assign x => rw [hop] at h; simp only [moveNF]; rw [h x (by simp [Op.operands])]
  | pick c a b =>
    cases c with
    | tmp tc =>
      rw [hop] at h
      simp only [pickNF]
      rw [h (.tmp tc) (by simp [Op.operands]), (hp tc a b hop true).1, (hp tc a b hop false).2]
    | _ => rfl
  | binOp op t x y u => rw [hop] at h; simp only; rw [h x (by simp [Op.operands]), h y (by simp [Op.operands])]
  | unOp op t x =>
    rw [hop] at h
    cases op <;> simp only <;> rw [h x (by simp [Op.operands])]
  | convert s t x => rw [hop] at h; simp only; rw [h x (by simp [Op.operands])]
  | fieldAddr t x f => rw [hop] at h; simp only; rw [h x (by simp [Op.operands])]
  | indexAddr t x i => rw [hop] at h; simp only; rw [h x (by simp [Op.operands]), h i (by simp [Op.operands])]
  | index t x i => rw [hop] at h; simp only; rw [h x (by simp [Op.operands]), h i (by simp [Op.operands])]
  | load t x =>
    rw [hop] at h
    cases x with
    | tmp x => simp only [loadNF]; rw [h (.tmp x) (by simp [Op.operands])]
    | _ => rfl
  | store t x y =>
    rw [hop] at h
    cases x with
    | tmp x => simp only [storeNF]; rw [h (.tmp x) (by simp [Op.operands]), h y (by simp [Op.operands])]
    | _ => rfl
  | alloc t =>
    simp only
    cases o.dst with
    | none => rfl
    | some d => simp only [newOp, ownOp, hl, hr (by simp [hop])]
  | box t x =>
    simp only
    cases o.dst with
    | none => rfl
    | some d => simp only [newOp, ownOp, hl, hr (by simp [hop])]
  | buildSlice t n ps => simp only [newOp, hl, hr (by simp [hop])]
  | makeMap t r =>
    cases r with
    | none => simp only [newOp, hl, hr (by simp [hop])]
    | some x => rfl
  | build t ps => simp only [pureOp, hl, hr (by simp [hop])]
  | field t x f => simp only [pureOp, hl, hr (by simp [hop])]
  | extract x i => simp only [pureOp, hl, hr (by simp [hop])]
  | makeFunc f xs ys => simp only [pureOp, hl, hr (by simp [hop])]
  | slice t x lo hi mx =>
    rw [hop] at h
    simp only
    have hlo : ∀ d, optI env' g d lo = optI env g d lo := fun d => optI_congr fun y e => h y (by subst e; simp [Op.operands])
    have hhi : ∀ d, optI env' g d hi = optI env g d hi := fun d => optI_congr fun y e => h y (by subst e; simp [Op.operands])
    have hmx : ∀ d, optI env' g d mx = optI env g d mx := fun d => optI_congr fun y e => h y (by subst e; simp [Op.operands])
    rw [h x (by simp [Op.operands])]
    simp only [hlo, hhi, hmx]
  | makeSlice t l c => rw [hop] at h; simp only; rw [h l (by simp [Op.operands]), h c (by simp [Op.operands])]
  | call c =>
    rw [hop] at h
    have ha : opsv env' g c.args.toList = opsv env g c.args.toList := opsv_congr fun x hx => h x (by simp only [Op.operands, Call.operands]; simp at hx ⊢; exact .inr hx)
    dsimp only
    cases hc : c.callee with
    | value x =>
      have hx := h x (by simp [Op.operands, Call.operands, hc])
      simp only [ha]
      cases opsv env g c.args.toList with
      | none => rfl
      | some args =>
        simp only [callNF]
        cases x <;> first | rfl | simp only [hx]
    | builtin b =>
      simp only [builtinNF, ha]
    | invoke x m => rfl
  | lookup t x i b => rw [hop] at h; simp only; rw [h x (by simp [Op.operands]), h i (by simp [Op.operands])]
  | mapUpdate t m x y => rw [hop] at h; simp only; rw [h m (by simp [Op.operands]), h x (by simp [Op.operands]), h y (by simp [Op.operands])]
  | range t x => rw [hop] at h; simp only; rw [h x (by simp [Op.operands])]
  | next x b => rw [hop] at h; simp only; rw [h x (by simp [Op.operands])]
  | entry x => rw [hop] at h; simp only; rw [h x (by simp [Op.operands])]
  | _ => rfl

end

/-- What the slots are called after. -/
def Fg (g : Gd) (x : Sl) : Prop := ∀ g1 v0, x = some (g1, v0) → g1 = g

def NFG (g : Gd) : NF → Prop
  | .bad => True
  | .pu _ x => Fg g x
  | .px _ _ x => ∀ vs, Fg g (x vs)
  | .rd _ _ x => ∀ vs, Fg g (x vs)
  | .ow f => ∀ pr x pr', f pr = some (x, pr') → Fg g x
  | .al _ x _ => ∀ b, Fg g (x b)
  | .cf _ _ _ => g = []
  | .cv _ _ _ => g = []
  | .ef _ _ => g = []
  | .st _ _ => True

theorem Fg.some {g : Gd} {v : V0} : Fg g (some (g, v)) := fun _ _ h => by cases h; rfl
theorem Fg.none {g : Gd} : Fg g Option.none := fun _ _ h => by cases h

theorem nfg_call {C : Cfg} {env : Env} {g : Gd} {gb : Bool} {x : Operand} {args : List Value} {sh : Shp} : NFG g (callNF C g gb x args sh env) := by
  unfold callNF
  (repeat' split) <;> first | trivial | exact (fun _ => Fg.some) | rfl

theorem nfg_op {C : Cfg} {env : Env} {g : Gd} {gb : Bool} {o : Oper} : NFG g (opNF C env g gb o) := by
  unfold opNF
  (repeat' split) <;> first
    | trivial
    | exact Fg.some
    | exact (fun _ => Fg.some)
    | exact nfg_call
    | (unfold moveNF; split <;> first | exact Fg.some | exact Fg.none)
    | (unfold pickNF; (repeat' split) <;> first | exact Fg.some | trivial)
    | (unfold ofPv; split <;> first | exact Fg.some | trivial)
    | (unfold convNF; (repeat' split) <;> first | exact Fg.some | trivial)
    | (unfold idxNF; (repeat' split) <;> first | exact Fg.some | trivial)
    | (unfold pureOp; (repeat' split) <;> first | exact Fg.some | trivial)
    | (unfold builtinNF; (repeat' split) <;> first | exact Fg.some | trivial | rfl)
    | (unfold newOp; (repeat' split) <;> first | trivial | exact (fun _ => Fg.some))
    | (unfold loadNF; (repeat' split) <;> first | trivial | exact (fun _ => Fg.some) | (intro pr x pr' hf; dsimp only at hf; (repeat' split at hf) <;> first | (cases hf; exact Fg.some) | cases hf))
    | (unfold storeNF; (repeat' split) <;> first | trivial | (intro pr x pr' hf; dsimp only at hf; (repeat' split at hf) <;> first | (cases hf; exact Fg.none) | cases hf))
    | (unfold ownOp; (repeat' split) <;> first | trivial | (intro pr x pr' hf; dsimp only at hf; (repeat' split at hf) <;> first | (cases hf; exact Fg.some) | cases hf))

theorem mono_load {p : Addr} {gb : Bool} {g : Gd} : Mono fun vs H => imp gb (cellsAt H p 0 vs) g := by
  intro vs H H' hl h
  have key : ∀ (vs : List Value) (i : Nat), cellsAt H p i vs → cellsAt H' p i vs := by
    intro vs
    induction vs with
    | nil => intro i _; trivial
    | cons v vs ih =>
      intro i h
      cases vs with
      | nil => exact Hp.at_le hl h
      | cons u us => exact ⟨Hp.at_le hl h.1, ih _ h.2⟩
  cases g with
  | nil => exact key vs 0 h
  | cons a g => exact fun hb => key vs 0 (h hb)

theorem imp_mono {gb : Bool} {g : Gd} {p q : Prop} (h : imp gb p g) (hq : p → q) : imp gb q g := by
  cases g with
  | nil => exact hq h
  | cons a g => exact fun hb => hq (h hb)

theorem QfV.up {P : Program} {F : Value} {args : List Value} {H Hb : Hp} {v : Value} (h : QfV P F args H v) (hl : Hp.le H Hb) : QfV P F args Hb v := by
  obtain ⟨f, first, cap, h1, h2, h3⟩ := h
  exact ⟨f, first, cap, h1, h2, Qf.up h3 hl⟩

theorem nfk_call {C : Cfg} {env : Env} {g : Gd} {gb : Bool} {x : Operand} {c : Call} {args : List Value} {o : Oper} (ho : o.op = .call c) (hc : c.callee = .value x) : NFk C o (callNF C g gb x args (shp C.P o.type) env) := by
  unfold callNF
  split
  · rename_i f
    split
    · split
      · split
        · rename_i hf
          exact ⟨by simp [cls, ho, hc, hf], fun vs H H' hl h => imp_mono h fun h => Qf.up h hl⟩
        · rename_i hf
          split
          · exact (by simp [cls, ho, hc, hf] : cls C o = 6)
          · trivial
      · trivial
    · trivial
  · split
    · split
      · rename_i hf
        refine ⟨?_, fun vs H H' hl h => imp_mono h fun h => QfV.up h hl⟩
        cases x <;> first | (simp [cls, ho, hc, hf]; done) | exact (‹∀ f : FuncId, Operand.func _ = Operand.func f → False› _ rfl).elim
      · rename_i hf
        split
        · show cls C o = 6
          cases x <;> first | (simp [cls, ho, hc, hf]; done) | exact (‹∀ f : FuncId, Operand.func _ = Operand.func f → False› _ rfl).elim
        · trivial
    · trivial

theorem nfk_load {C : Cfg} {env : Env} {g : Gd} {gb : Bool} {o : Oper} {t : TypeId} {x : Nat} (ho : o.op = .load t (.tmp x)) : NFk C o (loadNF C env g gb t x) := by
  unfold loadNF
  split
  · rename_i j off hpv _ _
    split
    · rename_i hnm
      refine ⟨.inl ⟨by simp [cls, ho, hpv], j, fun pr => ⟨fun hj => by dsimp only; rw [hj], fun x p' hf => ?_⟩⟩, fun j' hj' => ?_⟩
      · dsimp only at hf
        cases hj : pr j with
        | none => simp [hj] at hf
        | some y =>
          obtain ⟨cs, e⟩ := y
          simp only [hj] at hf
          split at hf
          · rename_i hle
            cases hf
            exact ⟨rfl, fun pr2 h2 => by simp only [h2, hle]⟩
          · cases hf
      · have hjj : j' = j := by
          simp only [blkOf, ho, hpv, Option.some.injEq] at hj'
          rw [← hj']; exact (Nat.beq_iff _ _).1 hnm
        subst hjj
        refine ⟨fun b => match b with
          | some (cs, e) => match Nat.ble (off + C.P.cellsOf t) cs.length with
            | true => some (some (g, .lit (mkV (aggT C.P t) ((cs.drop off).take (C.P.cellsOf t)))), some (cs, e))
            | false => none
          | none => none, fun pr => ?_⟩
        dsimp only
        cases hj : pr j' with
        | none => rfl
        | some y =>
          obtain ⟨cs, e⟩ := y
          dsimp only
          cases Nat.ble (off + C.P.cellsOf t) cs.length with
          | true => dsimp only; rw [← hj, Priv.set_self]
          | false => rfl
    · trivial
  · rename_i p hpv _ _
    split
    · exact ⟨by simp [cls, ho, hpv], mono_load⟩
    · trivial
  · trivial

theorem nfk_store {C : Cfg} {env : Env} {g : Gd} {o : Oper} {t : TypeId} {x : Nat} {y : Operand} (ho : o.op = .store t (.tmp x) y) : NFk C o (storeNF C env g t x y) := by
  unfold storeNF
  split
  · rename_i _ j off v hpv _ _
    simp only [Bool.and_eq_true] at hpv
    split
    · rename_i hck
      simp only [Bool.and_eq_true] at hck
      refine ⟨.inr (.inr (by simp [cls, ho, hpv.1.1])), fun j' hj' => ?_⟩
      have hjj : j' = j := by
        simp only [blkOf, ho, hpv.1.1, Option.some.injEq] at hj'
        rw [← hj']; exact (Nat.beq_iff _ _).1 hck.2
      subst hjj
      refine ⟨fun b => match b with
        | some (cs, e) => match Nat.ble (off + C.P.cellsOf t) cs.length with
          | true => some (none, some (setL cs off (vcells (aggT C.P t) v), e))
          | false => none
        | none => none, fun pr => ?_⟩
      dsimp only
      cases hj : pr j' with
      | none => rfl
      | some y =>
        obtain ⟨cs, e⟩ := y
        dsimp only
        cases Nat.ble (off + C.P.cellsOf t) cs.length <;> rfl
    · trivial
  · rename_i _ _ _ hpv _ _
    simp only [Bool.or_eq_false_iff] at hpv
    split
    · exact (by simp [cls, ho, hpv.1.1] : cls C o = 8)
    · trivial
  · trivial

theorem nfk_own {C : Cfg} {env : Env} {g : Gd} {o : Oper} {d : Nat} (hd : o.dst = some d) (hpv : C.pv d = true) (ho : (∃ t, o.op = .alloc t) ∨ (∃ t x, o.op = .box t x)) : NFk C o (ownOp C.P env g o d) := by
  unfold ownOp
  split
  · split
    · refine ⟨.inr (.inl ⟨?_, d, hd, _, _, fun pr => rfl⟩), fun j' hj' => ?_⟩
      · rcases ho with ⟨t, ho⟩ | ⟨t, x, ho⟩ <;> simp [cls, ho, hd, hpv]
      · have hjj : j' = d := by
          rcases ho with ⟨t, ho⟩ | ⟨t, x, ho⟩ <;> simp only [blkOf, ho, hd, hpv, Option.some.injEq] at hj' <;> exact hj'.symm
        subst hjj
        rename_i c t _ _
        refine ⟨fun b => match b with
          | none => some (some ([], .ptr j' 0), some (c.toList, t))
          | some _ => none, fun pr => ?_⟩
        dsimp only
        cases hj : pr j' <;> rfl
    · trivial
  · trivial

theorem nfk_op {C : Cfg} {env : Env} {g : Gd} {gb : Bool} {o : Oper} : NFk C o (opNF C env g gb o) := by
  unfold opNF
  (repeat' split) <;> rename_i ho <;> first
    | trivial
    | exact nfk_call (by assumption) (by assumption)
    | (simp [NFk, cls, *]; done)
    | (unfold moveNF; split <;> simp [NFk, cls, *]; done)
    | (unfold pickNF; (repeat' split) <;> simp [NFk, cls, *]; done)
    | (unfold ofPv; split <;> simp [NFk, cls, *]; done)
    | (unfold convNF; (repeat' split) <;> simp [NFk, cls, *]; done)
    | (unfold idxNF; (repeat' split) <;> simp [NFk, cls, *]; done)
    | (unfold pureOp; (repeat' split) <;> simp [NFk, cls, *]; done)
    | (unfold newOp; (repeat' split) <;> simp [NFk, cls, *]; done)
    | (unfold builtinNF; (repeat' split) <;> simp [NFk, cls, *]; done)
    | exact nfk_load ho
    | exact nfk_store ho
    | exact nfk_own (by assumption) ho (.inl ⟨_, by assumption⟩)
    | exact nfk_own (by assumption) ho (.inr ⟨_, _, by assumption⟩)
    | exact ⟨by simp [cls, *], fun vs H H' hl h => imp_mono h fun h w hv => h w (hv.mono hl)⟩

end Go.Eng
