/- The engine, part I: all operations together. Conditions: none. -/
import Derived.Test.YtmnbekffebdfmaaEngH
set_option linter.unusedVariables false
namespace Go.Eng
section
variable {P : Program} {n : Nat} {o : Oper} {env : Env} {pr : Priv} {ids : Nat → Nat} {a : Act} {H : Hp} {w : World} {B : Nat} {g : Gd}

theorem zeros_eq (m s : Nat) (z : List Value) (hz : z.length = s) (hs : 0 < s) :
    (List.replicate m z).flatten = (List.range (m * s)).map fun i => z.toArray[i % z.toArray.size]! := by
  induction m with
  | zero => simp
  | succ m ih =>
    rw [List.replicate_succ', List.flatten_append, ih, Nat.succ_mul, List.range_add, List.map_append]
    congr 1
    simp only [List.flatten_cons, List.flatten_nil, List.append_nil, List.map_map]
    apply List.ext_getElem?
    intro i
    by_cases hi : i < s
    · have hi' : i < z.length := by omega
      have e : (m * s + i) % z.length = i := by
        rw [hz, Nat.mul_comm, Nat.mul_add_mod, Nat.mod_eq_of_lt hi]
      simp [hi, hi', e]
    · rw [List.getElem?_eq_none (by omega), List.getElem?_eq_none (by simp; omega)]

theorem nfm_makeSlice {t e : TypeId} {l c : Operand} {m m' : Int} {i : TypeInfo} {z : Value} (hE : EnvOk n env pr ids a) (hg : gH a.tmps g) (ho : o.op = .makeSlice t l c)
    (hl : env.ev g l = some (.lit (.int .i64 m))) (hc : env.ev g c = some (.lit (.int .i64 m'))) (hu : P.underlying t = some (.slice e)) (hi : P.info? e = some i) (hz : i.zero = some z) (hst : (Nat.blt 0 i.size && Nat.blt 0 i.bytes && Nat.beq z.cells.size i.size) = true) :
    NFm P n o env pr ids a H w B (.al (some (okMk m m' i.bytes))
            (fun b => some ([], .lit (.slice (some ⟨b, 0, none⟩) m.toNat m.toNat))) (.cells (List.replicate m.toNat z.cells.toList).flatten.toArray e (0, 0))) := by
  intro hob
  obtain ⟨rfl, h0, h1⟩ := hob _ rfl
  simp only [Bool.and_eq_true, Nat.beq_iff, Nat.blt, Nat.ble_eq] at hst
  obtain ⟨⟨h2, h3⟩, h4⟩ := hst
  have e1 : a.eval l = .int .i64 m := hE.ev hg hl
  have e2 : a.eval c = .int .i64 m := hE.ev hg hc
  have hbm : m ≤ m * i.bytes := by
    have : (1 : Int) ≤ i.bytes := by omega
    calc m = m * 1 := by omega
      _ ≤ m * i.bytes := Int.mul_le_mul_of_nonneg_left this h0
  have hw : IntKind.i64.wrap m = m := wrap_i64 ⟨by omega, by omega⟩
  refine ⟨_, ?_, fun g1 v0 h => by cases h; rfl⟩
  simp only [execOp, ho]
  rw [e1, e2]
  have hb : ¬ ((i.bytes : Int) * m > 2 ^ 48) := by rw [Int.mul_comm]; simp; omega
  have hneg : ¬ m < 0 := by omega
  have hzc := zeros_eq m.toNat i.size z.cells.toList (by simpa using h4) h2
  have hrow : (List.replicate m.toNat z.cells.toList).flatten.toArray = (Array.range (m.toNat * i.size)).map (z.cells[· % z.cells.size]!) := by
    rw [hzc]
    apply Array.ext'
    simp
  rw [hrow]
  have hn0 : i.size ≠ 0 := by omega
  by_cases hm0 : m.toNat = 0
  · have : m = 0 := by omega
    subst this
    simp [Instr.makeSlice, run_underlying hu, asInt, asIntOf, typeInfo, hi, hw, sizeOf, newRow]
    have hr0 : Array.range 0 = #[] := rfl
    exact ⟨rfl, by rw [hr0]; simp⟩
  · have hm1 : ¬ m.toNat * i.size = 0 := by
      intro h; rcases Nat.mul_eq_zero.1 h with h | h <;> omega
    have hm2 : ¬ m ≤ 0 := by omega
    have hb' : ¬ 281474976710656 < (i.bytes : Int) * m := by rw [Int.mul_comm]; omega
    simp [Instr.makeSlice, run_underlying hu, asInt, asIntOf, typeInfo, hi, hw, hneg, sizeOf, newRow, zeroValue, hz]
    rw [if_neg hb', if_neg hm1]; rfl

theorem nfs_builtin {C : Cfg} {c : Call} {b : Builtin} : NFs g pr (builtinNF C env g o c b) := by
  unfold builtinNF
  split <;> first
    | trivial
    | exact SlS.lit
    | (split <;> first | trivial | rfl | (split <;> first | trivial | exact SlS.lit))

theorem nfm_builtin {C : Cfg} {c : Call} {b : Builtin} (hE : EnvOk n env pr ids a) (hg : gH a.tmps g) (ho : o.op = .call c) (hc : c.callee = .builtin b) :
    NFm C.P n o env pr ids a H w B (builtinNF C env g o c b) := by
  have hargs : ∀ {args : List Value}, opsv env g c.args.toList = some args → c.args.map a.eval = args.toArray := by
    intro args ha
    apply Array.ext'
    rw [Array.toList_map]
    exact hE.opsv hg ha
  unfold builtinNF
  split
  · rename_i p m cp ha
    split
    · rename_i t ht
      split
      · rename_i e hu
        intro _
        refine ⟨_, ?_, SlV.lit⟩
        simp only [execOp, ho, resolve, hc, hargs ha]
        simp [invoke, Go.builtin, Builtin.len_, ht, run_underlying hu, goInt]
      · trivial
    · trivial
  · rename_i ka x kb y ha
    intro _
    refine ⟨_, ?_, SlV.lit⟩
    simp only [execOp, ho, resolve, hc, hargs ha]
    simp [invoke, Go.builtin, Builtin.min_, Builtin.min2]
  · rename_i ka x kb y kc z ha
    intro _
    refine ⟨_, ?_, SlV.lit⟩
    simp only [execOp, ho, resolve, hc, hargs ha]
    simp [invoke, Go.builtin, Builtin.min_, Builtin.min2]
  · rename_i ka x kb y ha
    intro _
    refine ⟨_, ?_, SlV.lit⟩
    simp only [execOp, ho, resolve, hc, hargs ha]
    simp [invoke, Go.builtin, Builtin.max_, Builtin.max2]
  · rename_i ka x kb y kc z ha
    intro _
    refine ⟨_, ?_, SlV.lit⟩
    simp only [execOp, ho, resolve, hc, hargs ha]
    simp [invoke, Go.builtin, Builtin.max_, Builtin.max2]
  all_goals first
    | trivial
    | (rename_i vs ha; split <;> first | trivial | (show execOp a.eval o = _; simp only [execOp, ho, resolve, hc, hargs ha]; rfl))

theorem nfm_lookup {t : TypeId} {x i : Operand} {ok gb : Bool} {xv iv : Value} {sh : Shp} (hE : EnvOk n env pr ids a) (hv : View w H) (hg : gH a.tmps g) (hgb : gb = true) (ho : o.op = .lookup t x i ok)
    (hx : env.ev g x = some (.lit xv)) (hi : env.ev g i = some (.lit iv)) :
    NFm P n o env pr ids a H w B (.rd sh.leaves (fun vs H => imp gb (OpQ P (semV (Instr.lookup t xv iv ok)) H (sh.mk vs)) g) fun vs => some (g, .lit (sh.mk vs))) := by
  intro vs _ hob
  subst hgb
  left
  refine ⟨_, ?_, SlV.lit⟩
  have e1 : a.eval x = xv := hE.ev hg hx
  have e2 : a.eval i = iv := hE.ev hg hi
  simp only [execOp, ho]
  rw [e1, e2]
  exact imp_out hob w hv

theorem nfm_upd {t : TypeId} {m x y : Operand} {mv xv yv : Value} {sh : Shp} (hE : EnvOk n env pr ids a) (hg : gH a.tmps g) (ho : o.op = .mapUpdate t m x y)
    (hm : env.ev g m = some (.lit mv)) (hx : env.ev g x = some (.lit xv)) (hy : env.ev g y = some (.lit yv)) : NFm P n o env pr ids a H w B (.ef (semU (Instr.mapUpdate t mv xv yv)) sh) := by
  have e1 : a.eval m = mv := hE.ev hg hm
  have e2 : a.eval x = xv := hE.ev hg hx
  have e3 : a.eval y = yv := hE.ev hg hy
  show execOp a.eval o = _
  simp only [execOp, ho]
  rw [e1, e2, e3]; rfl

theorem nfm_one {x : Operand} {xv : Value} {sh : Shp} (hE : EnvOk n env pr ids a) (hg : gH a.tmps g) (hx : env.ev g x = some (.lit xv)) :
    (∀ t, o.op = .range t x → NFm P n o env pr ids a H w B (.ef (semV (Instr.range t xv)) sh)) ∧ (∀ b, o.op = .next x b → NFm P n o env pr ids a H w B (.ef (semV (Instr.next xv b o.type)) sh)) ∧
    (o.op = .entry x → NFm P n o env pr ids a H w B (.ef (semV (Instr.entry xv)) sh)) := by
  have e1 : a.eval x = xv := hE.ev hg hx
  refine ⟨fun t ho => ?_, fun b ho => ?_, fun ho => ?_⟩ <;> (show execOp a.eval o = _; simp only [execOp, ho]; rw [e1]; rfl)

theorem nfm_not {t : TypeId} {x : Operand} {b : Bool} (hE : EnvOk n env pr ids a) (hg : gH a.tmps g) (ho : o.op = .unOp .not t x) (hx : env.ev g x = some (.lit (.bool b))) :
    NFm P n o env pr ids a H w B (.pu none (some (g, .lit (.bool !b)))) := by
  intro _
  have e1 : a.eval x = .bool b := hE.ev hg hx
  refine ⟨_, ?_, SlV.lit⟩
  simp only [execOp, ho]
  rw [e1]
  simp [Op.unary]

theorem nfm_field1 {t : TypeId} {x : Operand} {f i j off : Nat} (hE : EnvOk n env pr ids a) (hg : gH a.tmps g) (ho : o.op = .fieldAddr t x f) (hf : foff P t f = some i) (hx : env.ev g x = some (.ptr j off)) :
    NFm P n o env pr ids a H w B (.pu none (some (g, .ptr j (off + i)))) := by
  have := nfm_field (P := P) (H := H) (w := w) (B := B) hE hg ho
  simpa only [hf, hx] using this

theorem nfm_field2 {t : TypeId} {x : Operand} {f i : Nat} {p : Addr} (hE : EnvOk n env pr ids a) (hg : gH a.tmps g) (ho : o.op = .fieldAddr t x f) (hf : foff P t f = some i) (hx : env.ev g x = some (.lit (.pointer (some p)))) :
    NFm P n o env pr ids a H w B (.pu none (some (g, .lit (.pointer (some (p.add i)))))) := by
  have := nfm_field (P := P) (H := H) (w := w) (B := B) hE hg ho
  simpa only [hf, hx] using this

/-- Whatever comes, an operation's form is as it should be. -/
theorem nfs_op {C : Cfg} {gb : Bool} (hE : EnvOk n env pr ids a) : NFs g pr (opNF C env g gb o) := by
  unfold opNF
  (repeat' split) <;> first
    | trivial
    | exact nfs_move hE
    | exact nfs_pick
    | exact nfs_ofPv
    | exact nfs_conv
    | exact nfs_idx hE
    | exact nfs_load
    | exact nfs_store
    | exact nfs_new
    | exact nfs_own
    | exact nfs_pure
    | exact nfs_call
    | exact nfs_builtin
    | exact SlS.lit
    | exact (fun _ => SlS.lit)
    | exact ⟨rfl, fun _ => SlS.lit⟩
    | exact SlS.ptr (EnvOk.evk (v := .ptr _ _) hE ‹env.ev _ _ = some (V0.ptr _ _)›)
    | rfl

/-- Where it is carried out, an operation means its form. -/
theorem nfm_op {C : Cfg} (hN : NoCount C.P) (hE : EnvOk n env pr ids a) (hP : PrivOk pr ids H w B) (hv : View w H) (hB : B ≤ w.heap.size) (hg : gH a.tmps g) :
    NFm C.P n o env pr ids a H w B (opNF C env g true o) := by
  unfold opNF
  (repeat' split) <;> rename_i ho <;> first
    | trivial
    | exact nfm_move hE hg (.inl (by assumption))
    | exact nfm_move hE hg (.inr (by assumption))
    | exact nfm_pick hE hg (by assumption)
    | exact nfm_bin hE hg (by assumption) (by assumption) (by assumption)
    | exact nfm_neg hE hg (by assumption) (by assumption)
    | exact nfm_conv hE hg (by assumption)
    | exact nfm_idx hE hg (by assumption)
    | exact nfm_load hE hP hv hg (by assumption)
    | exact nfm_store hE hP hv hg (by assumption)
    | exact nfm_slice hE hg (by assumption) (by assumption) (by assumption) (by assumption) (by assumption) (by assumption) (by assumption)
    | exact nfm_makeSlice hE hg (by assumption) (by assumption) (by assumption) (by assumption) (by assumption) (by assumption) (by assumption)
    | exact nfm_index hE hg (by assumption) (by assumption) (by assumption) (by assumption) (by assumption)
    | exact nfm_call hN hE hv hg (by assumption) (by assumption) (by assumption)
    | exact nfm_builtin hE hg (by assumption) (by assumption)
    | exact nfm_own hE hP hv hB hg (.inl ⟨_, by assumption⟩)
    | exact nfm_own hE hP hv hB hg (.inr ⟨_, _, by assumption⟩)
    | exact nfm_new hE hg (by simp [*]) fun ρ _ _ h => new_ptr ρ (.inl ⟨_, by assumption⟩) h
    | exact nfm_new hE hg (by simp [*]) fun ρ _ _ h => new_ptr ρ (.inr ⟨_, _, by assumption⟩) h
    | exact nfm_new hE hg (by simp [*]) fun ρ _ _ h => new_slice ρ (by assumption) h
    | exact nfm_new hE hg (by simp [*]) fun ρ _ _ h => new_map ρ (by assumption) h
    | exact nfm_pure hE hg (by simp [*])
    | exact nfm_lookup hE hv hg rfl (by assumption) (by assumption) (by assumption)
    | exact nfm_upd hE hg (by assumption) (by assumption) (by assumption) (by assumption)
    | exact (nfm_one hE hg (by assumption)).1 _ (by assumption)
    | exact (nfm_one hE hg (by assumption)).2.1 _ (by assumption)
    | exact (nfm_one hE hg (by assumption)).2.2 (by assumption)
    | exact nfm_not hE hg (by assumption) (by assumption)
    | exact nfm_field1 hE hg (by assumption) (by assumption) (by assumption)
    | exact nfm_field2 hE hg (by assumption) (by assumption) (by assumption)

end
end Go.Eng
