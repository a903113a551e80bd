/- The engine, part D: each operation comes to its form. Conditions: none. -/
import Derived.Test.YtmnbekffebdfmaaEngC
import Derived.Laws.StructEq
set_option linter.unusedVariables false
namespace Go.Eng

theorem wrap_i64 {z : Int} (h : inI z) : IntKind.i64.wrap z = z := by
  obtain ⟨h1, h2⟩ := h
  have e : IntKind.i64.wrap z = if z % 18446744073709551616 ≥ 9223372036854775808 then z % 18446744073709551616 - 18446744073709551616 else z % 18446744073709551616 := by
    simp [IntKind.wrap, IntKind.bits, IntKind.signed]
  rw [e]
  split <;> omega

theorem wrap_u64 (z : Int) : IntKind.u64.wrap z = wrapU z := by
  simp [IntKind.wrap, IntKind.bits, IntKind.signed, wrapU]

theorem imp_out {p : Prop} {g : Gd} (h : imp true p g) : p := by
  cases g with
  | nil => exact h
  | cons a g => exact h rfl

section
variable {P : Program}

def Runs (P : Program) (s : Sem Value) (v : Value) : Prop := ∀ w, s.run P w = .ok v w

theorem arith_run {wr : Bool} {g : Gd} {k : IntKind} {z : Int} {ob : Option Prop} {v : Value} (h : arith wr g true k z = some (ob, v)) (ho : ∀ p, ob = some p → p) : v = .int k (k.wrap z) := by
  unfold arith at h
  split at h
  · split at h
    · simp only [yes, Option.some.injEq, Prod.mk.injEq] at h
      obtain ⟨rfl, rfl⟩ := h
      rfl
    simp only [ifs, Option.some.injEq, Prod.mk.injEq] at h
    obtain ⟨rfl, rfl⟩ := h
    rw [wrap_i64 (imp_out (ho _ rfl))]
  · simp only [yes, Option.some.injEq, Prod.mk.injEq] at h
    obtain ⟨rfl, rfl⟩ := h
    rw [wrap_u64]
  · simp only [yes, Option.some.injEq, Prod.mk.injEq] at h
    obtain ⟨rfl, rfl⟩ := h
    rfl

theorem binI_run {wr : Bool} {g : Gd} {op : BinOp} {k : IntKind} {x y : Int} {ob : Option Prop} {v : Value} (t : TypeId) (h : binI wr g true op k x y = some (ob, v)) (ho : ∀ p, ob = some p → p) :
    Runs P (binOp op t (.int k x) (.int k y)) v := by
  intro w
  cases op <;> simp only [binI] at h
  case add => rw [arith_run h ho]; simp [binOp, Op.intArith]
  case sub => rw [arith_run h ho]; simp [binOp, Op.intArith]
  case mul => rw [arith_run h ho]; simp [binOp, Op.intArith]
  case quo =>
    unfold quot at h
    split at h
    · simp only [ifs, Option.some.injEq, Prod.mk.injEq] at h
      obtain ⟨rfl, rfl⟩ := h
      obtain ⟨h1, h2⟩ := imp_out (ho _ rfl)
      have h1 : y ≠ 0 := h1
      simp [binOp, Op.intDiv, h1, wrap_i64 h2]
    · simp only [ifs, Option.some.injEq, Prod.mk.injEq] at h
      obtain ⟨rfl, rfl⟩ := h
      have h1 : y ≠ 0 := imp_out (ho _ rfl)
      simp [binOp, Op.intDiv, h1, wrap_u64]
    · simp only [ifs, Option.some.injEq, Prod.mk.injEq] at h
      obtain ⟨rfl, rfl⟩ := h
      have h1 : y ≠ 0 := imp_out (ho _ rfl)
      simp [binOp, Op.intDiv, h1]
  case rem =>
    simp only [ifs, Option.some.injEq, Prod.mk.injEq] at h
    obtain ⟨rfl, rfl⟩ := h
    have h1 : y ≠ 0 := imp_out (ho _ rfl)
    simp [binOp, Op.intDiv, h1]
  case shl =>
    simp only [ifs, Option.some.injEq, Prod.mk.injEq] at h
    obtain ⟨rfl, rfl⟩ := h
    have h1 : 0 ≤ y := imp_out (ho _ rfl)
    simp [binOp, Op.shift, Int.not_lt.2 h1]
  case shr =>
    simp only [ifs, Option.some.injEq, Prod.mk.injEq] at h
    obtain ⟨rfl, rfl⟩ := h
    have h1 : 0 ≤ y := imp_out (ho _ rfl)
    simp [binOp, Op.shift, Int.not_lt.2 h1]
  all_goals first
    | (simp only [yes, Option.some.injEq, Prod.mk.injEq] at h; obtain ⟨rfl, rfl⟩ := h; simp [binOp, Op.intCmp, Op.intBits]; done)
    | (simp at h; done)

theorem eqGuard_int {op : BinOp} {t : TypeId} {x y : Operand} {k k' : IntKind} {m n : Int} (w : World) : (eqGuard op t x y (.int k m) (.int k' n)).run P w = .ok () w := by
  unfold eqGuard; split <;> simp
theorem eqGuard_bool {op : BinOp} {t : TypeId} {x y : Operand} {m n : Bool} (w : World) : (eqGuard op t x y (.bool m) (.bool n)).run P w = .ok () w := by
  unfold eqGuard; split <;> simp
theorem eqGuard_slice {op : BinOp} {t : TypeId} {x y : Operand} {p q : Option Addr} {m n m' n' : Nat} (w : World) : (eqGuard op t x y (.slice p m n) (.slice q m' n')).run P w = .ok () w := by
  unfold eqGuard; split <;> simp
theorem eqGuard_agg {op : BinOp} {t : TypeId} {x y : Operand} {c d : Array Value} (w : World) (h : P.eqGuardType P.depth t = false) : (eqGuard op t x y (.agg c) (.agg d)).run P w = .ok () w := by
  unfold eqGuard; split <;> simp [h]

def oB : Option Bool → Bool
  | none => true
  | some b => b

theorem oB_andB (acc : Option Bool) (b : Bool) : oB (andB acc b) = (oB acc && b) := by cases acc <;> simp [andB, oB]

theorem underlying_info {t : TypeId} {x : TypeDesc} (h : P.underlying t = some x) : ∃ i, P.info? t = some i := by
  unfold Program.underlying at h
  cases hi : P.info? t with
  | none => simp [hi] at h
  | some i => exact ⟨i, rfl⟩

theorem run_isAgg {t : TypeId} {x : TypeDesc} (h : P.underlying t = some x) (w : World) : (isAgg t).run P w = .ok (aggT P t) w := by
  unfold isAgg aggT
  rw [Sem.run_bind, run_underlying h, Result.andThen_ok, h]
  cases x <;> simp

theorem run_sizeOf {t : TypeId} {x : TypeDesc} (h : P.underlying t = some x) (w : World) : (sizeOf t).run P w = .ok (P.cellsOf t) w := by
  obtain ⟨i, hi⟩ := underlying_info h
  simp [sizeOf, typeInfo, hi, Program.cellsOf]

theorem run_part {t : TypeId} {cs : Array Value} {off : Nat} {v : Value} {x : TypeDesc} (h : partV P t cs off = some v) (hu : P.underlying t = some x) (w : World) : (part t cs off).run P w = .ok v w := by
  unfold partV at h
  unfold part
  rw [Sem.run_bind, run_isAgg hu, Result.andThen_ok]
  cases ha : aggT P t with
  | true =>
    simp only [ha, Option.some.injEq] at h
    subst h
    simp [run_sizeOf hu]
  | false =>
    simp only [ha] at h
    simp [h]

theorem eqV_underlying {d : Nat} {acc acc' : Option Bool} {t : TypeId} {x y : Value} (h : eqV P d acc t x y = some acc') : ∃ u, P.underlying t = some u := by
  cases d with
  | zero => simp [eqV] at h
  | succ d =>
    simp only [eqV] at h
    split at h <;> first | exact ⟨_, by assumption⟩ | cases h

theorem run_eqFs (d : Nat) (ih : ∀ (acc acc' : Option Bool) (t : TypeId) (x y : Value), eqV P d acc t x y = some acc' →
    ∃ r, (∀ D w, d ≤ D → (Op.equalIn D t x y).run P w = .ok r w) ∧ oB acc' = (oB acc && r)) (xs ys : Array Value) : ∀ (fs : List Field) (acc acc' : Option Bool),
    eqFs P (eqV P d) xs ys acc fs = some acc' → ∃ r, (∀ D w, d ≤ D → (Op.eqFields D xs ys fs).run P w = .ok r w) ∧ oB acc' = (oB acc && r)
  | [], acc, acc', h => by
    simp only [eqFs, Option.some.injEq] at h
    subst h
    exact ⟨true, fun D w _ => by simp [Op.eqFields], by simp⟩
  | f :: fs, acc, acc', h => by
    simp only [eqFs] at h
    split at h
    · rename_i a b hn ha hb
      split at h
      · rename_i acc1 h1
        obtain ⟨r1, hr1, e1⟩ := ih _ _ _ _ _ h1
        obtain ⟨r2, hr2, e2⟩ := run_eqFs d ih xs ys fs acc1 acc' h
        obtain ⟨u, hu⟩ := eqV_underlying h1
        refine ⟨r1 && r2, fun D w hD => ?_, by rw [e2, e1, Bool.and_assoc]⟩
        have hn' : f.name ≠ "_" := by simpa using hn
        rw [Op.eqFields, if_pos hn']
        simp only [Sem.run_bind, run_part ha hu, run_part hb hu, Result.andThen_ok, hr1 D w hD, Sem.run_ite]
        cases r1 with
        | true => simp [hr2 D w hD]
        | false => simp
      · cases h
    · cases h

theorem run_eqV : ∀ (d : Nat) (acc acc' : Option Bool) (t : TypeId) (x y : Value), eqV P d acc t x y = some acc' →
    ∃ r, (∀ D w, d ≤ D → (Op.equalIn D t x y).run P w = .ok r w) ∧ oB acc' = (oB acc && r)
  | 0, _, _, _, _, _, h => by simp [eqV] at h
  | d + 1, acc, acc', t, x, y, h => by
    simp only [eqV] at h
    split at h
    · rename_i k k1 a k2 b hu
      split at h
      · rename_i hk
        have hk' : k1 = k2 := of_decide_eq_true hk
        subst hk'
        cases h
        refine ⟨a == b, fun D w hD => ?_, oB_andB _ _⟩
        obtain ⟨D, rfl⟩ : ∃ D', D = D' + 1 := ⟨D - 1, by omega⟩
        exact run_equalIn_int w D t k1 k a b hu
      · cases h
    · rename_i a b hu
      cases h
      refine ⟨a == b, fun D w hD => ?_, oB_andB _ _⟩
      obtain ⟨D, rfl⟩ : ∃ D', D = D' + 1 := ⟨D - 1, by omega⟩
      exact run_equalIn_bool' w D t a b hu
    · rename_i fs xs ys hu
      split at h
      · cases h
      · rename_i hp
        obtain ⟨r, hr, e⟩ := run_eqFs d (run_eqV d) xs ys _ _ _ h
        refine ⟨r, fun D w hD => ?_, e⟩
        obtain ⟨D, rfl⟩ : ∃ D', D = D' + 1 := ⟨D - 1, by omega⟩
        have hf : P.fieldsOf t = fs := by simp [Program.fieldsOf, hu]
        rw [run_equalIn_struct w D t xs ys (by rw [hf]; exact hu) hp, hf]
        exact hr D w (by omega)
    · cases h

theorem bin_run {wr : Bool} {g : Gd} {op : BinOp} {t : TypeId} {y : Operand} {A B : Value} {ob : Option Prop} {v : Value} (x : Operand) (h : bin P wr g true op t y A B = some (ob, v))
    (ho : ∀ p, ob = some p → p) (hy : ∀ u, y = .const u → u = B) : Runs P (do eqGuard op t x y A B; binOp op t A B) v := by
  intro w
  unfold bin at h
  split at h
  · split at h
    · rename_i k m k' n
      rw [Sem.run_bind, eqGuard_int, Result.andThen_ok]
      split at h
      · simp only [binI, ifs, Option.some.injEq, Prod.mk.injEq] at h
        obtain ⟨rfl, rfl⟩ := h
        have h1 : 0 ≤ n := imp_out (ho _ rfl)
        simp [binOp, Op.shift, Int.not_lt.2 h1]
      · simp only [binI, ifs, Option.some.injEq, Prod.mk.injEq] at h
        obtain ⟨rfl, rfl⟩ := h
        have h1 : 0 ≤ n := imp_out (ho _ rfl)
        simp [binOp, Op.shift, Int.not_lt.2 h1]
      · split at h
        · rename_i hk
          have hk' : k = k' := of_decide_eq_true hk
          subst hk'
          exact binI_run t h ho w
        · cases h
    · cases h
  · split at h
    · rename_i hu _ _ m n
      rw [Sem.run_bind, eqGuard_bool, Result.andThen_ok]
      split at h
      · simp only [yes, Option.some.injEq, Prod.mk.injEq] at h
        obtain ⟨rfl, rfl⟩ := h
        simp [binOp, Op.equal, Op.maxDepth, run_equalIn_bool' w 9999 t m n hu]
      · simp only [yes, Option.some.injEq, Prod.mk.injEq] at h
        obtain ⟨rfl, rfl⟩ := h
        simp [binOp, Op.equal, Op.maxDepth, run_equalIn_bool' w 9999 t m n hu]
      · cases h
    · cases h
  · rename_i e hu
    split at h
    · rename_i p q r hn
      have hB : B = .slice none 0 0 := by
        unfold isNilC at hn
        split at hn
        · exact (hy _ rfl).symm
        · cases hn
      subst hB
      rw [Sem.run_bind, eqGuard_slice, Result.andThen_ok]
      have heq0 : (Op.equalIn (9999 + 1) t (.slice p q r) (.slice none 0 0)).run P w = .ok p.isNone w := by
        rw [Op.equalIn, Sem.run_bind, run_underlying hu, Result.andThen_ok]
        cases p <;> rfl
      have heq : (Op.equal t (.slice p q r) (.slice none 0 0)).run P w = .ok p.isNone w := heq0
      split at h
      · simp only [yes, Option.some.injEq, Prod.mk.injEq] at h
        obtain ⟨rfl, rfl⟩ := h
        simp [binOp, heq]
      · simp only [yes, Option.some.injEq, Prod.mk.injEq] at h
        obtain ⟨rfl, rfl⟩ := h
        simp [binOp, heq]
      · cases h
    · cases h
  · split at h
    · rename_i xs ys
      split at h
      · rename_i r hm he
        rw [Sem.run_bind, eqGuard_agg w hm, Result.andThen_ok]
        obtain ⟨r', hr, e⟩ := run_eqV 9 _ _ _ _ _ he
        have e' : r = r' := by simpa [oB] using e
        subst e'
        split at h
        · simp only [yes, Option.some.injEq, Prod.mk.injEq] at h
          obtain ⟨rfl, rfl⟩ := h
          simp [binOp, Op.equal, Op.maxDepth, hr 10000 w (by omega)]
        · simp only [yes, Option.some.injEq, Prod.mk.injEq] at h
          obtain ⟨rfl, rfl⟩ := h
          simp [binOp, Op.equal, Op.maxDepth, hr 10000 w (by omega)]
        · cases h
      · cases h
    · cases h
  · cases h

end

end Go.Eng
