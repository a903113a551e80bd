/- The engine, part M: regions. Conditions: none. -/
import Derived.Test.YtmnbekffebdfmaaEngL
set_option linter.unusedVariables false
namespace Go.Eng

/-- What an operation looks at, guards included. -/
def looks (o : Oper) (g : Gd) : List Nat := (o.op.operands.toList.filterMap fun | .tmp t => some t | _ => none) ++ g.map (·.1)

def memN (d : Nat) : List Nat → Bool
  | [] => false
  | x :: l => Nat.beq x d || memN d l

theorem memN_iff {d : Nat} : ∀ {l : List Nat}, memN d l = true ↔ d ∈ l
  | [] => by simp [memN]
  | x :: l => by
    simp only [memN, Bool.or_eq_true, Nat.beq_iff, List.mem_cons, memN_iff (l := l)]
    exact or_congr eq_comm Iff.rfl

def apartD (o : Oper) (g : Gd) : Option Tmp → Bool
  | none => true
  | some d => !memN d (looks o g)

def neD : Option Tmp → Option Tmp → Bool
  | some a, some b => !Nat.beq a b
  | _, _ => true

/-- May operation x be carried out ahead of y? -/
def swapOk (C : Cfg) (ops : Array Oper) (y x : Nat) : Bool :=
  match ops[y]?, ops[x]? with
  | some oy, some ox => match chain ops (ops.size + 1) oy, chain ops (ops.size + 1) ox with
    | some gy, some gx => apartD ox gx oy.dst && apartD oy gy ox.dst && neD oy.dst ox.dst && (swp (cls C oy) (cls C ox) || sepB (blkOf C oy) (blkOf C ox))
    | _, _ => false
  | _, _ => false

section
variable {P : Program} {draw : Bool}

theorem vc_form {nf : NF} {g : Gd} {K : Kop} {pr : Priv} {H : Hp} (hf : NFG g nf) (h : nf.vc P draw K pr H) (hx : Ex H) : nf.vc P draw (fun s p H' => Fg g s ∧ K s p H') pr H := by
  cases nf with
  | bad => exact h
  | pu ob x => exact oAnd_mono h fun h' => ⟨hf, h'⟩
  | px ls ob x => exact exL_mono h fun vs h' => ⟨h'.1, hf vs, h'.2⟩
  | rd ls ob x => exact exL_mono h fun vs h' => ⟨h'.1, hf vs, h'.2⟩
  | ow f =>
    simp only [NF.vc] at h ⊢
    cases hff : f pr with
    | none => simp [hff] at h
    | some y => simp only [hff] at h ⊢; exact ⟨hf pr _ _ hff, h⟩
  | al c x ob => exact oAnd_mono h fun h' b H1 hb e => ⟨hf b, h' b H1 hb e⟩
  | cf f args sh =>
    have hf' : g = [] := hf
    subst hf'
    exact Fn.mono h fun v H' hq => oAnd_mono hq fun hq => exL_mono hq fun vs hq => ⟨hq.1, Fg.some, hq.2⟩
  | cv F args sh =>
    have hf' : g = [] := hf
    subst hf'
    obtain ⟨f, first, cap, hF, hc, h⟩ := h
    exact ⟨f, first, cap, hF, hc, Fn.mono h fun v H' hq => oAnd_mono hq fun hq => exL_mono hq fun vs hq => ⟨hq.1, Fg.some, hq.2⟩⟩
  | ef s sh =>
    have hf' : g = [] := hf
    subst hf'
    intro w hv
    obtain ⟨v, w', H', hr, ht, hq⟩ := h w hv
    exact ⟨v, w', H', hr, ht, exL_mono hq fun vs hq => ⟨hq.1, Fg.some, hq.2⟩⟩
  | st ad vs => exact ⟨h.1, fun H1 e => ⟨Fg.none, h.2 H1 e⟩⟩

end

theorem put_put {env : Env} {d e : Nat} {x y : Sl} (hne : d ≠ e) (hx : ∀ g v, x = some (g, v) → mentions e g = false) (hy : ∀ g v, y = some (g, v) → mentions d g = false) : (env.put d x).put e y = (env.put e y).put d x := by
  funext t
  by_cases h1 : t = d
  · subst h1
    rw [Env.put_at, Env.put_ne hne, Env.put_at]
    cases hxx : x with
    | none => rfl
    | some z => obtain ⟨g, v⟩ := z; simp only [hx g v hxx]
  · by_cases h2 : t = e
    · subst h2
      rw [Env.put_at, Env.put_ne h1, Env.put_at]
      cases hyy : y with
      | none => rfl
      | some z => obtain ⟨g, v⟩ := z; simp only [hy g v hyy]
    · rw [Env.put_ne h2, Env.put_ne h1, Env.put_ne h1, Env.put_ne h2]
      cases env t with
      | none => rfl
      | some z =>
        obtain ⟨g, v⟩ := z
        simp only
        cases h3 : mentions d g <;> cases h4 : mentions e g <;> simp [h3, h4]

theorem putD_put {env : Env} {a b : Option Tmp} {x y : Sl} {ga gb : Gd} (hne : neD a b = true) (hx : Fg ga x) (hy : Fg gb y) (ha : ∀ e, b = some e → mentions e ga = false) (hb : ∀ d, a = some d → mentions d gb = false) :
    putD (putD env a x) b y = putD (putD env b y) a x := by
  cases a with
  | none => rfl
  | some d =>
    cases b with
    | none => rfl
    | some e =>
      have hde : d ≠ e := fun h => by subst h; simp [neD] at hne
      exact put_put hde (fun g v h => by rw [hx g v h]; exact ha e rfl) (fun g v h => by rw [hy g v h]; exact hb d rfl)

theorem neD_comm {a b : Option Tmp} (h : neD a b = true) : neD b a = true := by
  cases a with
  | none => cases b <;> rfl
  | some d =>
    cases b with
    | none => rfl
    | some e =>
      simp only [neD, Bool.not_eq_true'] at h ⊢
      cases hb : Nat.beq e d with
      | false => rfl
      | true => rw [(Nat.beq_iff _ _).1 hb, Nat.beq_refl] at h; cases h

theorem mentions_looks {d : Nat} {o : Oper} {g : Gd} (h : memN d (looks o g) = false) : mentions d g = false ∧ ∀ x ∈ o.op.operands, x ≠ .tmp d := by
  have hn : d ∉ looks o g := fun hm => by rw [memN_iff.2 hm] at h; cases h
  refine ⟨?_, fun x hx e => hn ?_⟩
  · cases hm : mentions d g with
    | false => rfl
    | true =>
      obtain ⟨p, hp, e⟩ := mentions_iff.1 hm
      exact absurd (List.mem_append_right _ (List.mem_map.2 ⟨p, hp, e⟩)) hn
  · subst e
    exact List.mem_append_left _ (List.mem_filterMap.2 ⟨.tmp d, by simpa using hx, rfl⟩)

theorem opNF_putD {C : Cfg} {env : Env} {dst : Option Tmp} {s : Sl} {g : Gd} {gb : Bool} {o : Oper} (h : apartD o g dst = true) : opNF C (putD env dst s) g gb o = opNF C env g gb o ∧ (putD env dst s).gb g = env.gb g := by
  cases dst with
  | none => exact ⟨rfl, rfl⟩
  | some d =>
    simp only [apartD, Bool.not_eq_true'] at h
    obtain ⟨hm, hx⟩ := mentions_looks h
    refine ⟨opNF_congr (fun x hxm => ev_put hm (hx x hxm)) fun tc a b ho w => ?_, gb_put hm⟩
    have htc : Operand.tmp tc ≠ .tmp d := hx (.tmp tc) (by simp [ho, Op.operands])
    have hm' : mentions d ((tc, w) :: g) = false := by
      simp only [mentions, Bool.or_eq_false_iff]
      refine ⟨?_, hm⟩
      cases hb : Nat.beq tc d with
      | false => rfl
      | true => exact absurd (by rw [(Nat.beq_iff _ _).1 hb]) htc
    exact ⟨ev_put hm' (hx a (by simp [ho, Op.operands])), ev_put hm' (hx b (by simp [ho, Op.operands]))⟩

theorem step_swap {C : Cfg} {ops : Array Oper} {y x : Nat} (hs : swapOk C ops y x = true) {k : St → Hp → Prop} {st : St} {H : Hp} (hx : Ex H) (h : stepVC C true ops y (stepVC C true ops x k) st H) :
    stepVC C true ops x (stepVC C true ops y k) st H := by
  unfold swapOk at hs
  cases hoy : ops[y]? with
  | none => simp [hoy] at hs
  | some oy =>
    cases hox : ops[x]? with
    | none => simp [hoy, hox] at hs
    | some ox =>
      cases hcy : chain ops (ops.size + 1) oy with
      | none => simp [hoy, hox, hcy] at hs
      | some gy =>
        cases hcx : chain ops (ops.size + 1) ox with
        | none => simp [hoy, hox, hcy, hcx] at hs
        | some gx =>
          simp only [hoy, hox, hcy, hcx, Bool.and_eq_true] at hs
          obtain ⟨⟨⟨h1, h2⟩, h3⟩, h4⟩ := hs
          simp only [stepVC, hoy, hox, hcy, hcx] at h ⊢
          cases hgy : st.env.gb gy with
          | none => simp [hgy] at h
          | some by_ =>
            cases hdy : dOk C.n gy oy.dst with
            | false => simp [hgy, hdy] at h
            | true =>
              simp only [hgy, hdy] at h
              -- the operation behind: its operands are known ahead
              have hinx : ∀ s, opNF C (putD st.env oy.dst s) gx = opNF C (putD st.env oy.dst s) gx := fun _ => rfl
              have hgx0 : ∀ s, (putD st.env oy.dst s).gb gx = st.env.gb gx := fun s => (opNF_putD (C := C) (gb := true) (s := s) (env := st.env) h1).2
              cases hgx : st.env.gb gx with
              | none =>
                exfalso
                obtain ⟨s, p, H', _, h'⟩ := vc_live h hx
                simp only [hgx0 s, hgx] at h'
              | some bx =>
                cases hdx : dOk C.n gx ox.dst with
                | false =>
                  exfalso
                  obtain ⟨s, p, H', _, h'⟩ := vc_live h hx
                  simp only [hgx0 s, hgx, hdx] at h'
                | true =>
                  simp only
                  have hstep := vc_mono (K' := fun s p H' => NF.vc C.P true (fun sx pr H' => Fg gy s ∧ Fg gx sx ∧ k ⟨putD (putD st.env oy.dst s) ox.dst sx, pr⟩ H') p H' (opNF C st.env gx bx ox)) (vc_form (nfg_op) h hx) hx
                    (fun s p H' hx' h' => by
                      obtain ⟨hfs, h'⟩ := h'
                      simp only [hgx0 s, hgx, hdx] at h'
                      rw [(opNF_putD (C := C) (gb := bx) (s := s) (env := st.env) h1).1] at h'
                      exact vc_mono (vc_form nfg_op h' hx') hx' fun _ _ _ _ h'' => ⟨hfs, h''⟩)
                  have hcomm : Comm C.P (opNF C st.env gy by_ oy) (opNF C st.env gx bx ox) := by
                    rcases Bool.or_eq_true _ _ ▸ h4 with h4 | h4
                    · exact comm_of (P := C.P) (nfk_op (C := C) (env := st.env) (g := gy) (gb := by_) (o := oy)) (nfk_op (C := C) (env := st.env) (g := gx) (gb := bx) (o := ox)) h4
                        (fun d hd he => by rw [hd, he] at h3; simp [neD] at h3)
                    · exact comm_sep (P := C.P) (nfk_op (C := C) (env := st.env) (g := gy) (gb := by_) (o := oy)) (nfk_op (C := C) (env := st.env) (g := gx) (gb := bx) (o := ox)) h4
                  have hsw := hcomm _ _ _ hx hstep
                  have hgy0 : ∀ s, (putD st.env ox.dst s).gb gy = st.env.gb gy := fun s => (opNF_putD (C := C) (gb := true) (s := s) (env := st.env) h2).2
                  have hme : ∀ (o : Oper) (g : Gd) (dst : Option Tmp), apartD o g dst = true → ∀ d, dst = some d → mentions d g = false := fun o g dst h d hd => by
                    subst hd
                    simp only [apartD, Bool.not_eq_true'] at h
                    exact (mentions_looks h).1
                  refine vc_mono hsw hx fun s p H' hx' h' => ?_
                  simp only [hgy0 s, hgy]
                  rw [(opNF_putD (C := C) (gb := by_) (s := s) (env := st.env) h2).1]
                  refine vc_mono h' hx' fun s' p' H'' _ h'' => ?_
                  obtain ⟨f1, f2, hk⟩ := h''
                  rw [putD_put (ga := gx) (gb := gy) (neD_comm h3) f2 f1 (hme ox gx oy.dst h1) (hme oy gy ox.dst h2)]
                  exact hk

end Go.Eng
