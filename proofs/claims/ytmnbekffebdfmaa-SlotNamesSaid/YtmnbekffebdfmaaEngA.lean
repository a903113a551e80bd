/- The engine, part A: heap views, transitions of worlds, contracts over heap views, the frame rule. Conditions: none. -/
import Derived.Calls
import Derived.Orders
set_option linter.unusedVariables false
namespace Go.Eng

/-- A view of the heap: what is known of some blocks. -/
abbrev Hp := Nat → Option Obj

def View (w : World) (H : Hp) : Prop := ∀ b o, H b = some o → w.heap[b]? = some o

structure Tr (w : World) (H : Hp) (w' : World) (H' : Hp) : Prop where
  view : View w' H'
  frame : ∀ b, b < w.heap.size → H b = none → w'.heap[b]? = w.heap[b]?
  fresh : ∀ b, H' b ≠ none → H b ≠ none ∨ w.heap.size ≤ b
  size : w.heap.size ≤ w'.heap.size
  os : w'.os = w.os
  tape : w'.tape = w.tape
  output : w'.output = w.output

def Hp.le (H H' : Hp) : Prop := ∀ b o, H b = some o → H' b = some o

theorem Hp.le_refl (H : Hp) : Hp.le H H := fun _ _ h => h
theorem Hp.le_trans {H H' H'' : Hp} (h : Hp.le H H') (h' : Hp.le H' H'') : Hp.le H H'' := fun b o x => h' b o (h b o x)

theorem View.lt {w : World} {H : Hp} (h : View w H) {b : Nat} (hb : H b ≠ none) : b < w.heap.size := by
  cases ho : H b with
  | none => exact absurd ho hb
  | some o =>
    have := h b o ho
    rcases Nat.lt_or_ge b w.heap.size with h' | h'
    · exact h'
    · simp [Array.getElem?_eq_none h'] at this

theorem View.mono {w : World} {H H' : Hp} (h : View w H') (hl : Hp.le H H') : View w H := fun b o hb => h b o (hl b o hb)

theorem Tr.refl {w : World} {H : Hp} (h : View w H) : Tr w H w H :=
  ⟨h, fun _ _ _ => rfl, fun _ h => .inl h, Nat.le_refl _, rfl, rfl, rfl⟩

theorem Tr.none {w : World} {H : Hp} {w' : World} {H' : Hp} (h : Tr w H w' H') {b : Nat} (hb : b < w.heap.size) (hn : H b = none) : H' b = none := by
  cases h' : H' b with
  | none => rfl
  | some o =>
    rcases h.fresh b (by simp [h']) with h1 | h1
    · exact absurd hn h1
    · omega

theorem Tr.trans {w : World} {H : Hp} {w1 : World} {H1 : Hp} {w2 : World} {H2 : Hp} (a : Tr w H w1 H1) (b : Tr w1 H1 w2 H2) : Tr w H w2 H2 := by
  refine ⟨b.view, fun k hk hn => ?_, fun k hk => ?_, Nat.le_trans a.size b.size, b.os.trans a.os, b.tape.trans a.tape, b.output.trans a.output⟩
  · rw [b.frame k (Nat.lt_of_lt_of_le hk a.size) (a.none hk hn), a.frame k hk hn]
  · rcases b.fresh k hk with h | h
    · exact a.fresh k h
    · exact .inr (Nat.le_trans a.size h)

/-- The same transition, less being known behind it. -/
theorem Tr.forget {w : World} {H : Hp} {w' : World} {H' H'' : Hp} (h : Tr w H w' H') (hl : Hp.le H'' H') : Tr w H w' H'' := by
  refine ⟨h.view.mono hl, h.frame, fun b hb => h.fresh b ?_, h.size, h.os, h.tape, h.output⟩
  cases hx : H'' b with
  | none => exact absurd hx hb
  | some o => simp [hl b o hx]

/-- What is left alone: a transition from a smaller view that keeps it is a transition from the greater view. -/
theorem Tr.widen {w : World} {H Hb : Hp} {w' : World} {H' : Hp} (h : Tr w H w' H') (hv : View w Hb) (hl : Hp.le H Hb) (hk : Hp.le H H') : Tr w Hb w' Hb := by
  refine ⟨fun b o hb => ?_, fun b hb hn => ?_, fun b hb => .inl hb, h.size, h.os, h.tape, h.output⟩
  · cases hx : H b with
    | none =>
      have hlt : b < w.heap.size := hv.lt (by simp [hb])
      rw [h.frame b hlt hx]; exact hv b o hb
    | some o' =>
      have e := hl b o' hx
      rw [hb] at e; cases e
      exact h.view b o (hk b o hx)
  · refine h.frame b hb ?_
    cases hx : H b with
    | none => rfl
    | some o' => rw [hl b o' hx] at hn; cases hn

/-- The contract of a function over a view of the heap. -/
def Fn (P : Program) (f : FuncId) (args : Array Value) (H : Hp) (post : Value → Hp → Prop) : Prop :=
  ∀ w, View w H → Calls P f args w fun e w' => ∃ v H', e = .returned v ∧ Tr w H w' H' ∧ post v H'

theorem Fn.mono {P : Program} {f : FuncId} {args : Array Value} {H : Hp} {post post' : Value → Hp → Prop} (h : Fn P f args H post)
    (hp : ∀ v H', post v H' → post' v H') : Fn P f args H post' :=
  fun w hv => (h w hv).mono fun _ _ ⟨v, H', he, ht, hq⟩ => ⟨v, H', he, ht, hp v H' hq⟩

/-- A function that hands back one known value and leaves alone what is in view. -/
def Qf (P : Program) (f : FuncId) (args : Array Value) (H : Hp) (v : Value) : Prop :=
  Fn P f args H fun v' H' => v' = v ∧ Hp.le H H'

theorem Qf.up {P : Program} {f : FuncId} {args : Array Value} {H Hb : Hp} {v : Value} (h : Qf P f args H v) (hl : Hp.le H Hb) : Qf P f args Hb v :=
  fun w hv => (h w (hv.mono hl)).mono fun _ _ ⟨v', H', he, ht, hq, hk⟩ => ⟨v', Hb, he, ht.widen hv hl hk, hq, Hp.le_refl _⟩

/-- Some world shows this view. -/
def Ex (H : Hp) : Prop := ∃ w, View w H

theorem Fn.live {P : Program} {f : FuncId} {args : Array Value} {H : Hp} {post : Value → Hp → Prop} (h : Fn P f args H post) (hx : Ex H) :
    ∃ v H1, post v H1 ∧ Ex H1 := by
  obtain ⟨w, hv⟩ := hx
  obtain ⟨e, w', fr, ⟨v, H', _, ht, hq⟩, _⟩ := h w hv []
  exact ⟨v, H', hq, w', ht.view⟩

def Hp.put (H : Hp) (b : Nat) (o : Obj) : Hp := fun k => if k = b then some o else H k

@[simp] theorem Hp.put_same (H : Hp) (b : Nat) (o : Obj) : Hp.put H b o b = some o := by simp [Hp.put]
theorem Hp.put_ne (H : Hp) {b k : Nat} (o : Obj) (h : k ≠ b) : Hp.put H b o k = H k := by simp [Hp.put, h]
theorem Hp.put_le (H : Hp) {b : Nat} (o : Obj) (h : H b = none) : Hp.le H (Hp.put H b o) := fun k o' hk => by
  rw [Hp.put_ne]; exact hk; intro e; subst e; rw [h] at hk; cases hk
theorem Hp.put_comm (H : Hp) {b c : Nat} (o u : Obj) (h : b ≠ c) : Hp.put (Hp.put H b o) c u = Hp.put (Hp.put H c u) b o := by
  funext k; simp only [Hp.put]; split <;> split <;> simp_all

theorem Tr.alloc {w : World} {H : Hp} (h : View w H) (o : Obj) : H w.heap.size = Option.none ∧ Tr w H { w with heap := w.heap.push o } (Hp.put H w.heap.size o) := by
  have hn : H w.heap.size = Option.none := by
    cases hx : H w.heap.size with
    | none => rfl
    | some o' => have := h.lt (b := w.heap.size) (by simp [hx]); omega
  refine ⟨hn, ⟨fun b o' hb => ?_, fun b hb _ => ?_, fun b hb => ?_, by simp, rfl, rfl, rfl⟩⟩
  · simp only [Hp.put] at hb
    split at hb
    · rename_i e; subst e; simpa using hb
    · have := h b o' hb
      have hlt := h.lt (b := b) (by simp [hb])
      simp [Array.getElem?_push, Nat.ne_of_lt hlt, this]
  · simp [Array.getElem?_push, Nat.ne_of_lt hb]
  · simp only [Hp.put] at hb
    split at hb
    · rename_i e; subst e; exact .inr (Nat.le_refl _)
    · exact .inl hb

/-- The frame rule for a fresh block: a call that is known at the smaller view. -/
theorem Fn.frame_put {P : Program} {f : FuncId} {args : Array Value} {H : Hp} {post : Value → Hp → Prop} (h : Fn P f args H post) {b : Nat} {o : Obj} (hb : H b = none) :
    Fn P f args (Hp.put H b o) fun v H'' => ∃ H', post v H' ∧ H' b = none ∧ H'' = Hp.put H' b o ∧ (Hp.le H H' → Hp.le (Hp.put H b o) H'') := by
  intro w hv
  have hl := Hp.put_le H o hb
  refine (h w (hv.mono hl)).mono fun e w' ⟨v, H', he, ht, hq⟩ => ?_
  have hlt : b < w.heap.size := hv.lt (by simp)
  have hn : H' b = Option.none := ht.none hlt hb
  refine ⟨v, Hp.put H' b o, he, ⟨fun k o' hk => ?_, fun k hk hkn => ?_, fun k hk => ?_, ht.size, ht.os, ht.tape, ht.output⟩, H', hq, hn, rfl, fun hle k o' hk => ?_⟩
  · simp only [Hp.put] at hk
    split at hk
    · rename_i e; subst e; cases hk
      rw [ht.frame k hlt hb]; exact hv k o (by simp)
    · exact ht.view k o' hk
  · have : k ≠ b := by intro e; subst e; simp at hkn
    rw [Hp.put_ne _ _ this] at hkn
    exact ht.frame k hk hkn
  · by_cases e : k = b
    · subst e; exact .inl (by simp)
    · rw [Hp.put_ne _ _ e] at hk ⊢; exact ht.fresh k hk
  · by_cases e : k = b
    · subst e; simpa using hk
    · rw [Hp.put_ne _ _ e] at hk ⊢; exact hle k o' hk

/-- The cell at an address, as far as it is in view. -/
def Hp.at (H : Hp) (a : Addr) : Option Value :=
  match H a.block with
  | some (.cells c _ _) => if a.spot.isSome then none else c[a.off]?
  | _ => none

theorem Hp.at_le {H H' : Hp} (h : Hp.le H H') {a : Addr} {v : Value} (hv : H.at a = some v) : H'.at a = some v := by
  unfold Hp.at at *
  cases hx : H a.block with
  | none => simp [hx] at hv
  | some o => rw [hx] at hv; rw [h _ _ hx]; exact hv

theorem View.cell {w : World} {H : Hp} (h : View w H) {a : Addr} {v : Value} (hv : H.at a = some v) : w.cell? a = some v := by
  unfold Hp.at at hv
  unfold World.cell?
  cases hx : H a.block with
  | none => simp [hx] at hv
  | some o => rw [h _ _ hx]; rw [hx] at hv; exact hv

end Go.Eng
