/- The engine, part H: the other operations mean their forms; all together. Conditions: none. -/
import Derived.Test.YtmnbekffebdfmaaEngG
set_option linter.unusedVariables false
namespace Go.Eng
section
variable {P : Program} {n : Nat} {o : Oper} {env : Env} {pr : Priv} {ids : Nat → Nat} {a : Act} {H : Hp} {w : World} {B : Nat} {g : Gd}

theorem nfm_neg {wr : Bool} {t : TypeId} {x : Operand} {kd : IntKind} {z : Int} (hE : EnvOk n env pr ids a) (hg : gH a.tmps g) (ho : o.op = .unOp .neg t x) (hx : env.ev g x = some (.lit (.int kd z))) :
    NFm P n o env pr ids a H w B (ofPv g (arith wr g true kd (0 - z))) := by
  cases hb : arith wr g true kd (0 - z) with
  | none => trivial
  | some r =>
    obtain ⟨ob, v⟩ := r
    intro hob
    refine ⟨v, ?_, SlV.lit⟩
    have e1 : a.eval x = .int kd z := hE.ev hg hx
    simp only [execOp, ho]
    rw [e1, arith_run hb hob]
    simp [Op.unary, Op.intArith]

theorem nfm_conv {s t : TypeId} {x : Operand} (hE : EnvOk n env pr ids a) (hg : gH a.tmps g) (ho : o.op = .convert s t x) : NFm P n o env pr ids a H w B (convNF P g true s t (env.ev g x)) := by
  unfold convNF
  split
  · rename_i ks' kd ks z hs ht hx
    have e1 : a.eval x = .int ks z := hE.ev hg hx
    have r : (execOp a.eval o).run P w = .ok (.value (.int kd (kd.wrap z))) w := by
      simp only [execOp, ho]
      rw [e1]
      simp [convert, run_underlying hs, run_underlying ht, Conv.intToInt]
    split
    · intro hob
      have h1 := imp_out (hob _ rfl)
      exact ⟨_, r, fun g1 v0 h => by cases h; rw [wrap_i64 h1]; rfl⟩
    · exact fun _ => ⟨_, r, fun g1 v0 h => by cases h; rw [wrap_u64]; rfl⟩
    · exact fun _ => ⟨_, r, SlV.lit⟩
  · trivial

theorem nfs_conv {gb : Bool} {s t : TypeId} {x : Option V0} : NFs g pr (convNF P g gb s t x) := by
  unfold convNF
  split
  · split <;> exact SlS.lit
  · trivial

theorem foff_spec {t : TypeId} {f i : Nat} (h : foff P t f = some i) (p : Addr) : (Instr.fieldAt t (.pointer (some p)) f).run P w = .ok (.pointer (some (p.add i))) w := by
  unfold foff at h
  split at h
  · rename_i fs hu
    split at h
    · rename_i fd hf
      split at h
      · cases h
      · rename_i hz
        cases h
        have hz' : P.cellsOf fd.type ≠ 0 := fun e => by rw [e] at hz; simp at hz
        have hi : ∃ x, P.info? fd.type = some x := by
          cases hx : P.info? fd.type with
          | none => simp [Program.cellsOf, hx] at hz'
          | some x => exact ⟨x, rfl⟩
        obtain ⟨x, hx⟩ := hi
        have hsz : x.size ≠ 0 := by simpa [Program.cellsOf, hx] using hz'
        simp [Instr.fieldAt, run_underlying hu, hf, Instr.sureAddr, fieldPlace, sizeOf, typeInfo, hx, hsz]
    · cases h
  · cases h

theorem nfm_field {t : TypeId} {x : Operand} {f : Nat} (hE : EnvOk n env pr ids a) (hg : gH a.tmps g) (ho : o.op = .fieldAddr t x f) :
    NFm P n o env pr ids a H w B (match foff P t f, env.ev g x with
      | some i, some (.ptr j off) => .pu none (some (g, .ptr j (off + i)))
      | some i, some (.lit (.pointer (some a))) => .pu none (some (g, .lit (.pointer (some (a.add i)))))
      | _, _ => .bad) := by
  split
  · rename_i i j off hf hx
    intro _
    have e1 : a.eval x = .pointer (some ⟨ids j, off, none⟩) := hE.ev hg hx
    refine ⟨_, ?_, fun g1 v0 h => by cases h; rfl⟩
    simp only [execOp, ho]
    rw [e1]
    simp [foff_spec hf, add_off, V0.val]
  · rename_i i p hf hx
    intro _
    have e1 : a.eval x = .pointer (some p) := hE.ev hg hx
    refine ⟨_, ?_, SlV.lit⟩
    simp only [execOp, ho]
    rw [e1]
    simp [foff_spec hf]
  · trivial

theorem nfs_field {t : TypeId} {x : Operand} {f : Nat} (hE : EnvOk n env pr ids a) :
    NFs g pr (match foff P t f, env.ev g x with
      | some i, some (.ptr j off) => .pu none (some (g, .ptr j (off + i)))
      | some i, some (.lit (.pointer (some a))) => .pu none (some (g, .lit (.pointer (some (a.add i)))))
      | _, _ => .bad) := by
  split
  · rename_i i j off hf hx
    exact SlS.ptr (hE.evk hx)
  · exact SlS.lit
  · trivial

theorem nfs_idx {gb : Bool} {t : TypeId} {x i : Operand} (hE : EnvOk n env pr ids a) : NFs g pr (idxNF P g gb t (env.ev g x) (env.ev g i)) := by
  unfold idxNF
  split
  · rename_i j off k m hx hi
    split
    · split
      · exact SlS.ptr (hE.evk hx)
      · trivial
    · trivial
  · split
    · split
      · exact SlS.lit
      · trivial
    · trivial
  · trivial

theorem sizeOf_pos {t : TypeId} (h : P.cellsOf t ≠ 0) (w : World) : (sizeOf t).run P w = .ok (P.cellsOf t) w := by
  cases hx : P.info? t with
  | none => simp [Program.cellsOf, hx] at h
  | some x => simp [sizeOf, typeInfo, hx, Program.cellsOf]

theorem nfm_idx {t : TypeId} {x i : Operand} (hE : EnvOk n env pr ids a) (hg : gH a.tmps g) (ho : o.op = .indexAddr t x i) :
    NFm P n o env pr ids a H w B (idxNF P g true t (env.ev g x) (env.ev g i)) := by
  unfold idxNF
  split
  · rename_i j off k z hx hi
    split
    · rename_i len s m hf
      split
      · rename_i hm
        intro _
        simp only [Bool.and_eq_true, Bool.not_eq_true'] at hm
        unfold ioff at hf
        split at hf
        · rename_i l e hu
          cases hf
          have hlt : m < len := by have := hm.1; simp only [Nat.blt] at this; exact Nat.le_of_ble_eq_true this
          have hz : P.cellsOf e ≠ 0 := fun h => by rw [h] at hm; simp at hm
          have e1 : a.eval x = .pointer (some ⟨ids j, off, none⟩) := hE.ev hg hx
          have e2 : a.eval i = .int k (Int.ofNat m) := hE.ev hg hi
          refine ⟨_, ?_, fun g1 v0 h => by cases h; rfl⟩
          simp only [execOp, ho]
          rw [e1, e2]
          have hb : 0 ≤ (m : Int) ∧ (m : Int) < (len : Int) := ⟨by omega, by omega⟩
          simp [Instr.indexAt, asIntOf, run_underlying hu, Instr.sureAddr, sizeOf_pos hz, hb, add_off, V0.val]
          intro h; omega
        · cases hf
      · trivial
    · trivial
  · rename_i p len cp k z hx hi
    split
    · rename_i e hu
      split
      · rename_i hz
        intro hob
        obtain ⟨h1, h2, h3⟩ := imp_out (hob _ rfl)
        have e1 : a.eval x = .slice p len cp := hE.ev hg hx
        have e2 : a.eval i = .int k z := hE.ev hg hi
        have hz' : P.cellsOf e ≠ 0 := fun h => by rw [h] at hz; simp at hz
        cases p with
        | none => simp at h3
        | some p =>
          refine ⟨_, ?_, SlV.lit⟩
          simp only [execOp, ho]
          rw [e1, e2]
          simp [Instr.indexAt, asIntOf, run_underlying hu, h1, h2, sizeOf_pos hz', eaddr]
      · trivial
    · trivial
  · trivial

theorem nfm_index {C : Cfg} {t e : TypeId} {len : Nat} {x i : Operand} {cs : Array Value} {k : IntKind} {z : Int} (hE : EnvOk n env pr ids a) (hg : gH a.tmps g) (ho : o.op = .index t x i)
    (hu : C.P.underlying t = some (.array len e)) (hx : env.ev g x = some (.lit (.agg cs))) (hi : env.ev g i = some (.lit (.int k z)))
    (hs : ((aggT C.P e || Nat.beq (C.P.cellsOf e) 1) && hasU C.P e && !(Nat.beq (C.P.cellsOf e) 0)) = true) :
    NFm C.P n o env pr ids a H w B (.px (leaves C.P 9 e) (fun vs => imp true (okIx z len cs.toList (C.P.cellsOf e) vs) g)
          fun vs => some (g, .lit (mkV (aggT C.P e) vs))) := by
  intro vs _ hob
  obtain ⟨h1, h2, h3, h4⟩ := imp_out hob
  simp only [Bool.and_eq_true, Bool.or_eq_true, Nat.beq_iff, Bool.not_eq_true'] at hs
  obtain ⟨⟨hs, hu'⟩, hz⟩ := hs
  obtain ⟨u, hu'⟩ := hasU_some hu'
  have hz' : C.P.cellsOf e ≠ 0 := fun h => by rw [h] at hz; simp at hz
  have e1 : a.eval x = .agg cs := hE.ev hg hx
  have e2 : a.eval i = .int k z := hE.ev hg hi
  have hp : partV C.P e cs (z.toNat * C.P.cellsOf e) = some (mkV (aggT C.P e) vs) := by
    unfold partV
    cases ha : aggT C.P e with
    | true =>
      simp only [mkV]
      congr 2
      apply Array.ext'
      rw [← h3]
      simp [List.take_drop]
    | false =>
      have hc : C.P.cellsOf e = 1 := hs.resolve_left (by simp [ha])
      rw [hc] at h3 h4 ⊢
      obtain ⟨v, rfl⟩ := List.length_eq_one_iff.1 h4
      simp only [mkV]
      have h5 : ((cs.toList.drop (z.toNat * 1)).take 1)[0]? = some v := by rw [h3]; rfl
      rw [List.getElem?_take] at h5
      simp at h5 ⊢
      exact h5
  refine ⟨_, ?_, SlV.lit⟩
  simp only [execOp, ho]
  rw [e1, e2]
  simp [Instr.index, asIntOf, run_underlying hu, h1, h2, sizeOf_pos hz', run_part hp hu']

theorem optI_ev {d z : Int} {x : Option Operand} (hE : EnvOk n env pr ids a) (hg : gH a.tmps g) (h : optI env g d x = some z) :
    (x = none ∧ z = d) ∨ ∃ y k, x = some y ∧ a.eval y = .int k z := by
  unfold optI at h
  split at h
  · cases h; exact .inl ⟨rfl, rfl⟩
  · rename_i y
    split at h
    · rename_i k m hy
      cases h
      exact .inr ⟨y, k, rfl, hE.ev hg hy⟩
    · cases h

theorem run_sliceBounds {len cp : Nat} {lo hi mx : Option Operand} {l h m : Int} (hE : EnvOk n env pr ids a) (hg : gH a.tmps g) (hl : optI env g 0 lo = some l) (hh : optI env g len hi = some h) (hm : optI env g cp mx = some m)
    (hb : (hi.isSome || !mx.isSome) = true) (h0 : 0 ≤ l) (h1 : l ≤ h) (h2 : h ≤ m) (h3 : m ≤ cp) :
    (Instr.sliceBounds true len cp (lo.map a.eval) (hi.map a.eval) (mx.map a.eval)).run P w = .ok (l.toNat, h.toNat, m.toNat) w := by
  have sb : ∀ (k : IntKind) (z : Int) (y : Nat) (c : BoundsCode), 0 ≤ z → z ≤ y → (Instr.sliceBound (.int k z) y c).run P w = .ok z.toNat w := by
    intro k z y c a1 a2
    simp [Instr.sliceBound, asIntOf, a1, a2]
  unfold Instr.sliceBounds
  rcases optI_ev hE hg hm with ⟨rfl, rfl⟩ | ⟨ym, km, rfl, em⟩
  · rcases optI_ev hE hg hh with ⟨rfl, rfl⟩ | ⟨yh, kh, rfl, eh⟩
    · rcases optI_ev hE hg hl with ⟨rfl, rfl⟩ | ⟨yl, kl, rfl, el⟩
      · simp
      · simp only [Option.map_none, Option.map_some, el, Sem.run_bind, Sem.run_pure, Result.andThen_ok]
        rw [sb _ _ _ _ h0 h1]; simp
    · rcases optI_ev hE hg hl with ⟨rfl, rfl⟩ | ⟨yl, kl, rfl, el⟩
      · simp only [Option.map_none, Option.map_some, eh, Sem.run_bind, Sem.run_pure, Result.andThen_ok]
        rw [sb _ _ _ _ (by omega) h2]; simp
      · simp only [Option.map_none, Option.map_some, eh, el, Sem.run_bind, Sem.run_pure, Result.andThen_ok]
        rw [sb _ _ _ _ (by omega) h2, Result.andThen_ok, sb _ _ _ _ h0 (by omega)]; simp
  · rcases optI_ev hE hg hh with ⟨rfl, rfl⟩ | ⟨yh, kh, rfl, eh⟩
    · simp at hb
    · rcases optI_ev hE hg hl with ⟨rfl, rfl⟩ | ⟨yl, kl, rfl, el⟩
      · simp only [Option.map_none, Option.map_some, eh, em, Sem.run_bind, Sem.run_pure, Result.andThen_ok]
        rw [sb _ _ _ _ (by omega) h3, Result.andThen_ok, sb _ _ _ _ (by omega) (by omega)]; simp
      · simp only [Option.map_some, eh, el, em, Sem.run_bind, Sem.run_pure]
        rw [sb _ _ _ _ (by omega) h3, Result.andThen_ok, sb _ _ _ _ (by omega) (by omega), Result.andThen_ok, sb _ _ _ _ h0 (by omega)]; simp

theorem nfm_slice {t e : TypeId} {x : Operand} {lo hi mx : Option Operand} {p : Option Addr} {len cp : Nat} {l h m : Int} (hE : EnvOk n env pr ids a) (hg : gH a.tmps g) (ho : o.op = .slice t x lo hi mx)
    (hu : P.underlying t = some (.slice e)) (hx : env.ev g x = some (.lit (.slice p len cp)))
    (hl : optI env g 0 lo = some l) (hh : optI env g len hi = some h) (hm : optI env g cp mx = some m) (hb : ((hi.isSome || !mx.isSome) && !(Nat.beq (P.cellsOf e) 0)) = true) :
    NFm P n o env pr ids a H w B (.pu (some (imp true (okSl l h m cp) g)) (some (g, .lit (.slice (subA p (P.cellsOf e) l m) (h.toNat - l.toNat) (m.toNat - l.toNat))))) := by
  intro hob
  obtain ⟨h0, h1, h2, h3⟩ := imp_out (hob _ rfl)
  simp only [Bool.and_eq_true, Bool.not_eq_true'] at hb
  have hz' : P.cellsOf e ≠ 0 := fun h => by rw [h] at hb; simp at hb
  have e1 : a.eval x = .slice p len cp := hE.ev hg hx
  have hsb := run_sliceBounds (P := P) (w := w) hE hg hl hh hm hb.1 h0 h1 h2 h3
  refine ⟨_, ?_, SlV.lit⟩
  simp only [execOp, ho]
  rw [e1]
  simp [Instr.sliceAt, run_underlying hu, Instr.slice, hsb, sizeOf_pos hz', subA]

theorem run_callFunc {f : FuncId} {fn : Func} {args : Array Value} (hN : NoCount P) (hf : P.funcs[f]? = some fn) (hb : fn.body.isSome = true) : (callFunc f args).run P w = .ok (.enter f args) w := by
  have := hN f fn hf hb
  have h1 : fn.name ≠ "runtime.NumGoroutine" := by simpa using this
  have h2 : fn.body ≠ none := by intro e; rw [e] at hb; cases hb
  simp [callFunc, hf, h1, h2]

theorem nfm_call {C : Cfg} {c : Call} {x : Operand} {args : List Value} {sh : Shp} (hN : NoCount C.P) (hE : EnvOk n env pr ids a) (hv : View w H) (hg : gH a.tmps g) (ho : o.op = .call c) (hc : c.callee = .value x)
    (ha : opsv env g c.args.toList = some args) : NFm C.P n o env pr ids a H w B (callNF C g true x args sh env) := by
  have hargs : c.args.map a.eval = args.toArray := by
    apply Array.ext'
    rw [Array.toList_map]
    exact hE.opsv hg ha
  have hrun : ∀ (f : FuncId) (fn : Func) (first cap : Array Value), a.eval x = .func (.func f) first cap → C.P.funcs[f]? = some fn → fn.body.isSome = true →
      (execOp a.eval o).run C.P w = .ok (.enter f (first ++ args.toArray ++ cap)) w := by
    intro f fn first cap hf h1 h2
    simp only [execOp, ho, resolve, hc, hargs, hf]
    simp [Deferred.ofValue, invoke, run_callFunc hN h1 h2]
  have quiet : ∀ (f : FuncId) (ar : Array Value) (v : Value), Qf C.P f ar H v → Calls C.P f ar w fun e w' => ∃ u, e = .returned u ∧ SlV ids (some (g, .lit v)) u ∧ Tr w H w' H := by
    intro f ar v hq
    refine (hq w hv).mono fun e w' ⟨v', H', he, ht, hvv, hle⟩ => ⟨v', he, ?_, ht.forget hle⟩
    subst hvv
    exact SlV.lit
  unfold callNF
  split
  · rename_i f
    split
    · rename_i fn hfn
      split
      · rename_i hbody
        have hr := hrun f fn #[] #[] rfl hfn hbody
        simp only [Array.empty_append, Array.append_empty] at hr
        split
        · intro vs _ hob
          exact .inr ⟨f, args.toArray, hr, quiet f _ _ (imp_out hob)⟩
        · split
          · exact hr
          · trivial
      · trivial
    · trivial
  · split
    · rename_i F hF
      have eF : a.eval x = F := hE.ev hg hF
      split
      · intro vs _ hob
        obtain ⟨f, first, cap, hF', ⟨fn, h1, h2⟩, hq⟩ := imp_out hob
        exact .inr ⟨f, _, hrun f fn first cap (by rw [eF, hF']) h1 h2, quiet f _ _ hq⟩
      · split
        · intro f first cap hF' ⟨fn, h1, h2⟩
          exact hrun f fn first cap (by rw [eF, hF']) h1 h2
        · trivial
    · trivial

theorem nfs_call {C : Cfg} {gb : Bool} {x : Operand} {args : List Value} {sh : Shp} : NFs g pr (callNF C g gb x args sh env) := by
  unfold callNF
  split
  · split
    · split
      · split
        · exact fun _ => SlS.lit
        · split
          · rfl
          · trivial
      · trivial
    · trivial
  · split
    · split
      · exact fun _ => SlS.lit
      · split
        · rfl
        · trivial
    · trivial

end
end Go.Eng
