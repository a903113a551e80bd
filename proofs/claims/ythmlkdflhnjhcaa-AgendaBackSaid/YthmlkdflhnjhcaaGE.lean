/- Agendas: what AgendaBack says, in plain words. Conditions: none. -/
import Derived.Test.YthmlkdflhnjhcaaG9
set_option linter.unusedVariables false
set_option maxRecDepth 100000
open Go Go.Eng Go.Proofs
namespace Go.Proofs.Ythmlkdflhnjhcaa

theorem pushA_zero {a : Ag} {t : Int × Int} {n : Int} (h : (pushA a t n).2.2 = 0) : okA a ∧ okR t ∧ 0 ≤ n ∧ n ≤ 1000000 ∧ hasA a n = false ∧ a.tb.canTake = true ∧ pushA a t n = (pushedA a t n, nextH a, 0) := by
  unfold pushA at h ⊢
  split at h
  · rename_i h1
    split at h
    · cases h
    · rename_i h2
      split at h
      · cases h
      · rename_i h3
        split at h
        · rename_i h4
          rw [if_pos h1, if_neg h2, if_neg h3, if_pos h4]
          exact ⟨h1.1, h1.2, by omega, by omega, by simpa using h3, h4, rfl⟩
        · cases h
  · cases h

/-- Pushed and removed again. -/
theorem back_push {a : Ag} {t : Int × Int} {n : Int} (ok : okA a) (ht : okR t) (h0 : 0 ≤ n) (h1 : n ≤ 1000000) (hn : hasA a n = false) (hc : a.tb.canTake = true) :
    okA (pushedA a t n) ∧ (pushedA a t n).heap.length = a.heap.length + 1 ∧ (∀ x ∈ a.heap, x ∈ (pushedA a t n).heap) ∧
    removeA (pushedA a t n) (nextH a) = (removedA (pushedA a t n) (nextH a), Ev.mk t n (nextH a), 0) ∧
    okA (removedA (pushedA a t n) (nextH a)) ∧ (removedA (pushedA a t n) (nextH a)).heap.Perm a.heap := by
  have okb := ok.pushed ht h0 h1 hn hc
  have pm := pushed_perm (n := n) ok ht hc
  have hm : Ev.mk t n (nextH a) ∈ (pushedA a t n).heap := pm.mem_iff.2 (List.mem_cons_self ..)
  have fe := find_eq okb hm
  have fe1 : findA (pushedA a t n) (nextH a) = (Ev.mk t n (nextH a), 0) := fe.1
  have fe2 : hp (pushedA a t n).heap (atA (pushedA a t n) (nextH a)) = Ev.mk t n (nextH a) := fe.2
  have hl : (pushedA a t n).tb.live (nextH a).1 (nextH a).2 = true := (okb.slot hm).2.2.2.2
  have r := okb.removed hl
  rw [fe2] at r
  refine ⟨okb, by rw [pm.length_eq]; rfl, fun x hx => pm.mem_iff.2 (List.mem_cons_of_mem _ hx), ?_, r.ok, List.Perm.cons_inv (r.perm.trans pm)⟩
  unfold removeA; rw [fe1]; rfl

/-- Rekeyed: that event has its time, the other ones stay. -/
theorem back_rekey {a : Ag} {h t : Int × Int} (ok : okA a) (hl : a.tb.live h.1 h.2 = true) (ht : okR t) :
    (hp a.heap (atA a h)).h = h ∧ okA (rekeyedA a h t) ∧ findA (rekeyedA a h t) h = ({ hp a.heap (atA a h) with at_ := t }, 0) ∧ (rekeyedA a h t).heap.length = a.heap.length ∧ ∀ y ∈ a.heap, y.h ≠ h → y ∈ (rekeyedA a h t).heap := by
  obtain ⟨m1, m2, m3⟩ := find_mem ok hl
  have r := ok.rekeyed hl ht
  generalize hp a.heap (atA a h) = x at *
  have hlen := r.perm.length_eq
  simp only [List.length_cons] at hlen
  have hin : { x with at_ := t } ∈ (rekeyedA a h t).heap := by
    have hm : { x with at_ := t } ∈ x :: (rekeyedA a h t).heap := r.perm.mem_iff.2 (List.mem_cons_self ..)
    rcases List.mem_cons.1 hm with e' | h2
    · have pm := r.perm
      rw [e'] at pm
      rw [e']
      exact (List.Perm.cons_inv pm).mem_iff.2 m1
    · exact h2
  refine ⟨m2, r.ok, ?_, by omega, fun y hy hne => ?_⟩
  · have := (find_eq r.ok hin).1
    have e : ({ x with at_ := t } : Ev).h = h := m2
    have t2 : findA (rekeyedA a h t) ({ x with at_ := t } : Ev).h = ({ x with at_ := t }, 0) := this
    generalize ({ x with at_ := t } : Ev) = z at *
    rw [e] at t2; exact t2
  · have := r.perm.mem_iff.2 (List.mem_cons_of_mem _ hy)
    rcases List.mem_cons.1 this with e' | h2
    · exfalso; rw [e'] at hne; exact hne m2
    · exact h2
end Go.Proofs.Ythmlkdflhnjhcaa
