/- The engine, parts LP, LR, LS, put together. Conditions: none. -/
import Derived.Test.YtkemdpobjaiolaaGreatPL7
import Derived.Test.YtkemdpobjaiolaaGreatVgClock
import Derived.Test.YtkemdpobjaiolaaGreatVgKlist
import Derived.Test.YtkemdpobjaiolaaGreatFs
import Derived.Test.YtkemdpobjaiolaaGreatPA1
import Derived.Test.YtkemdpobjaiolaaGreatPN2
set_option linter.unusedVariables false
section
/- Clocks' results are slices of their own; a list in a box whose slices are its own; make1 on it. Conditions: none. -/
set_option maxRecDepth 100000
open Go Go.Eng Go.Proofs
namespace Go.Proofs.YtkemdpobjaiolaaGreat

theorem NewW.low {H H' : Hp} {w : Cu} (n : NewW H' w) (hl : Hp.le H H') : NewW H w := ⟨n.f.low hl, n.cl.low hl, n.u1.low hl, n.u2.low hl, n.u3.low hl, n.u4.low hl, n.u5.low hl, n.d.low hl⟩
/-! ### A list in a box -/
/-- The blocks that a list in a box writes to. -/
def prot (b : Nat) (o n : Slc) (x : Nat) : Prop := x = b ∨ (∃ p, o.a = some p ∧ p.block = x) ∨ (∃ p, n.a = some p ∧ p.block = x)
structure BoxL (H0 H : Hp) (b : Nat) (u : Lu) (l : Ls) : Prop where
  box : Cel H b (lsC u l) 41
  k : ∃ G, Hp.le G H ∧ (∀ x, prot b u.o u.n x → G x = none) ∧ RdK G u.k l.ck
  o : Mine 1 fI 3 H0 H u.o l.ord
  n : Mine 1 fI 3 H0 H u.n l.num
  sep : Sep u.o u.n
  le : Hp.le H0 H
  nb : H0 b = none
  ob : ∀ p, u.o.a = some p → p.block ≠ b
  nn : ∀ p, u.n.a = some p → p.block ≠ b
theorem BoxL.rk {H0 H : Hp} {b : Nat} {u : Lu} {l : Ls} (B : BoxL H0 H b u l) : RdK H u.k l.ck := by
  obtain ⟨G, h1, _, h3⟩ := B.k
  exact h3.le h1
theorem BoxL.up {H0 H H' : Hp} {b : Nat} {u : Lu} {l : Ls} (B : BoxL H0 H b u l) (h : Hp.le H H') : BoxL H0 H' b u l := by
  obtain ⟨G, h1, h2, h3⟩ := B.k
  exact ⟨B.box.le h, ⟨G, Hp.le_trans h1 h, h2, h3⟩, B.o.le h, B.n.le h, B.sep, Hp.le_trans B.le h, B.nb, B.ob, B.nn⟩
theorem BoxL.used {H0 H : Hp} {b : Nat} {u : Lu} {l : Ls} (B : BoxL H0 H b u l) : ∀ x, prot b u.o u.n x → H x ≠ none := by
  rintro x (rfl | ⟨p, hp, rfl⟩ | ⟨p, hp, rfl⟩)
  · rw [B.box]; simp
  · exact B.o.isOld p hp
  · exact B.n.isOld p hp
theorem BoxL.chg {H0 H H' : Hp} {b : Nat} {u : Lu} {l : Ls} (B : BoxL H0 H b u l) {v : Slc} (ch : Chg H H' v) (hv : ∀ p, v.a = some p → p.block ≠ b) (hp : ∀ p, v.a = some p → prot b u.o u.n p.block) : Cel H' b (lsC u l) 41 ∧ ∃ G, Hp.le G H' ∧ (∀ x, prot b u.o u.n x → G x = none) ∧ RdK G u.k l.ck := by
  obtain ⟨G, h1, h2, h3⟩ := B.k
  refine ⟨?_, G, fun x o hx => ?_, h2, h3⟩
  · have := B.box
    unfold Cel at this ⊢
    rw [ch b (by rw [this]; simp) hv]; exact this
  · have hx1 := h1 x o hx
    rw [ch x (by rw [hx1]; simp) fun p hp' e => by
      have := h2 _ (hp p hp')
      rw [e, hx] at this; cases this]
    exact hx1
end Go.Proofs.YtkemdpobjaiolaaGreat
end
section
/- klist.swap on a list in a box. Conditions: none. -/
set_option maxRecDepth 100000
open Go Go.Eng Go.Proofs
namespace Go.Proofs.YtkemdpobjaiolaaGreat

end Go.Proofs.YtkemdpobjaiolaaGreat
end
section
/- The reference's swap. Conditions: none. -/
set_option maxRecDepth 100000
open Go Go.Eng Go.Proofs
namespace Go.Proofs.YtkemdpobjaiolaaGreat

/-- The frame rule: what is in view besides stays, and the call's own view knows nothing of it. -/
theorem _root_.Go.Eng.Fn.frame {P : Program} {f : FuncId} {args : Array Value} {H Hb : Hp} {post : Value → Hp → Prop} (h : Go.Eng.Fn P f args H post) (hl : Hp.le H Hb) :
    Go.Eng.Fn P f args Hb fun v H'' => ∃ H', post v H' ∧ Hp.le H' H'' ∧ (∀ b, H b = none → Hb b ≠ none → H' b = none) ∧ (Hp.le H H' → Hp.le Hb H'') := by
  intro w hv
  refine (h w (hv.mono hl)).mono fun e w' ⟨v, H', he, ht, hq⟩ => ?_
  have hn : ∀ b, H b = none → Hb b ≠ none → H' b = none := fun b h1 h2 => ht.none (hv.lt h2) h1
  refine ⟨v, fun k => if (H k).isNone && (Hb k).isSome then Hb k else H' k, he, ⟨fun b o hb => ?_, fun b hb hbn => ?_, fun b hb => ?_, ht.size, ht.os, ht.tape, ht.output, ht.drawn⟩, H', hq, fun b o hb => ?_, hn, fun hle b o hb => ?_⟩
  · split at hb
    · rename_i hc
      simp only [Bool.and_eq_true, Option.isNone_iff_eq_none] at hc
      rw [ht.frame b (hv.lt (by rw [hb]; simp)) hc.1]; exact hv b o hb
    · exact ht.view b o hb
  · have : H b = none := by
      cases hx : H b with
      | none => rfl
      | some o => rw [hl b o hx] at hbn; cases hbn
    exact ht.frame b hb this
  · split at hb
    · exact .inl hb
    · rcases ht.fresh b hb with h1 | h1
      · left
        cases hx : H b with
        | none => exact absurd hx h1
        | some o => rw [hl b o hx]; simp
      · exact .inr h1
  · show (if (H b).isNone && (Hb b).isSome then Hb b else H' b) = some o
    split
    · rename_i hc
      simp only [Bool.and_eq_true, Option.isNone_iff_eq_none] at hc
      have := hn b hc.1 (by intro e; rw [e] at hc; simp at hc)
      rw [this] at hb; cases hb
    · exact hb
  · show (if (H b).isNone && (Hb b).isSome then Hb b else H' b) = some o
    split
    · exact hb
    · rename_i hc
      cases hx : H b with
      | none => rw [hx, hb] at hc; simp at hc
      | some o' => have := hl b o' hx; rw [hb] at this; cases this; exact hle b o hx

/-- A list whose order and numbers are slices of its own. -/
structure OwnL (H0 H : Hp) (u : Lu) (l : Ls) : Prop where
  k : ∃ G, Hp.le G H ∧ (∀ p, u.o.a = some p → G p.block = none) ∧ RdK G u.k l.ck
  o : Mine 1 fI 3 H0 H u.o l.ord
  n : Mine 1 fI 3 H0 H u.n l.num
  sep : Sep u.o u.n
  le : Hp.le H0 H
theorem OwnL.rd {H0 H : Hp} {u : Lu} {l : Ls} (o : OwnL H0 H u l) : RdL H u l := by
  obtain ⟨G, h1, _, h3⟩ := o.k
  exact ⟨h3.le h1, o.o.rdI, o.n.rdI⟩
end Go.Proofs.YtkemdpobjaiolaaGreat
end
