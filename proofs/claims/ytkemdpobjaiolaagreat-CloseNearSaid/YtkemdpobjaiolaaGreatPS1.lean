/- The engine, parts LP, LR, LS, LT, LU, put together. Conditions: none. -/
import Derived.Test.YtkemdpobjaiolaaGreatPL7
import Derived.Test.YtkemdpobjaiolaaGreatVgClock
import Derived.Test.YtkemdpobjaiolaaGreatVgKlist
import Derived.Test.YtkemdpobjaiolaaGreatFs
import Derived.Test.YtkemdpobjaiolaaGreatPA1
import Derived.Test.YtkemdpobjaiolaaGreatPN2
set_option linter.unusedVariables false
section
/- Clocks' results are slices of their own; a list in a box whose slices are its own; make1 on it. Conditions: none. -/
set_option maxRecDepth 100000
open Go Go.Eng Go.Proofs
namespace Go.Proofs.YtkemdpobjaiolaaGreat

/-! ### A list in a box -/


theorem _root_.Go.Eng.Fn.frame {P : Program} {f : FuncId} {args : Array Value} {H Hb : Hp} {post : Value → Hp → Prop} (h : Go.Eng.Fn P f args H post) (hl : Hp.le H Hb) :
    Go.Eng.Fn P f args Hb fun v H'' => ∃ H', post v H' ∧ Hp.le H' H'' ∧ (∀ b, H b = none → Hb b ≠ none → H' b = none) ∧ (Hp.le H H' → Hp.le Hb H'') := by
  intro w hv
  refine (h w (hv.mono hl)).mono fun e w' ⟨v, H', he, ht, hq⟩ => ?_
  have hn : ∀ b, H b = none → Hb b ≠ none → H' b = none := fun b h1 h2 => ht.none (hv.lt h2) h1
  refine ⟨v, fun k => if (H k).isNone && (Hb k).isSome then Hb k else H' k, he, ⟨fun b o hb => ?_, fun b hb hbn => ?_, fun b hb => ?_, ht.size, ht.os, ht.tape, ht.output, ht.drawn⟩, H', hq, fun b o hb => ?_, hn, fun hle b o hb => ?_⟩
  · split at hb
    · rename_i hc
      simp only [Bool.and_eq_true, Option.isNone_iff_eq_none] at hc
      rw [ht.frame b (hv.lt (by rw [hb]; simp)) hc.1]; exact hv b o hb
    · exact ht.view b o hb
  · have : H b = none := by
      cases hx : H b with
      | none => rfl
      | some o => rw [hl b o hx] at hbn; cases hbn
    exact ht.frame b hb this
  · split at hb
    · exact .inl hb
    · rcases ht.fresh b hb with h1 | h1
      · left
        cases hx : H b with
        | none => exact absurd hx h1
        | some o => rw [hl b o hx]; simp
      · exact .inr h1
  · show (if (H b).isNone && (Hb b).isSome then Hb b else H' b) = some o
    split
    · rename_i hc
      simp only [Bool.and_eq_true, Option.isNone_iff_eq_none] at hc
      have := hn b hc.1 (by intro e; rw [e] at hc; simp at hc)
      rw [this] at hb; cases hb
    · exact hb
  · show (if (H b).isNone && (Hb b).isSome then Hb b else H' b) = some o
    split
    · exact hb
    · rename_i hc
      cases hx : H b with
      | none => rw [hx, hb] at hc; simp at hc
      | some o' => have := hl b o' hx; rw [hb] at this; cases this; exact hle b o hx



/-! ### Step -/
theorem kNext_fit {l : Ls} (h : (kNextM l).2 = 0) : okR (kNextM l).1 := by
  unfold kNextM at h ⊢
  by_cases ok : okLs l
  · rw [if_pos ok] at h ⊢
    by_cases h0 : l.ck.ag.heap.length = 0
    · rw [if_pos h0] at h; cases h
    · rw [if_neg h0]
      exact (ok.ck.ag.each _ (hp_mem (by omega))).1
  · rw [if_neg ok] at h; cases h
end Go.Proofs.YtkemdpobjaiolaaGreat
end
