/- Altering and certifying anew, in plain words. Conditions: none. -/
import Derived.Test.YtodmhdfenpkbdaaGreatPL6
set_option linter.unusedVariables false
set_option maxRecDepth 100000
open Go Go.Eng Go.Proofs
namespace Go.Proofs.YtodmhdfenpkbdaaGreat

theorem okK.dueLen {c : Ck} (ok : okK c) : c.due.length = (dueF c.f c.now c.ct.list).length := by
  obtain ⟨ps, e⟩ := ok.evs
  rw [e.due, e.at_]; simp
theorem okK.dueLe {c : Ck} (ok : okK c) : c.due.length ≤ c.ct.list.length := by
  rw [ok.dueLen]; exact List.length_filterMap_le _ _

/-- Certifying one after the other, so far. -/
structure CInv (f : List Pt) (t : Int × Int) (l : List (Int × Int)) (x : Ck) : Prop where
  ok : okK x
  f : x.f = f
  now : x.now = t
  next : x.ct.next = l.length
  cts : x.ct.list.map (·.2) = l
  low : ∀ i : Nat, x.ag.tb.uses.getD i 0 ≤ l.length

theorem CInv.start {f : List Pt} {t : Int × Int} (of : okF f) (ot : okR t) : CInv f t [] ⟨t, f, .zero, beginA 200, []⟩ := by
  refine ⟨⟨ot, of, (show okC Ct.zero by decide), rfl, okA.begin (by omega) (by omega), rfl, rfl, rfl⟩, rfl, rfl, rfl, rfl, fun i => ?_⟩
  show (List.replicate 200 (0 : Int)).getD i 0 ≤ _
  rw [List.getD_eq_getElem?_getD, List.getElem?_replicate]
  split <;> simp

theorem CInv.step {f : List Pt} {t : Int × Int} {l : List (Int × Int)} {x : Ck} (I : CInv f t l x) {y : Int × Int} (hv : validC y = true) (hn : y ∉ l) (h1 : 0 ≤ posF f y.1) (h2 : 0 ≤ posF f y.2) (hl : l.length < 200) :
    (certifyK x y).2.2 = 0 ∧ CInv f t (l ++ [y]) (certifyK x y).1 := by
  have ok := I.ok
  have lc : x.ct.list.length = l.length := by rw [← I.cts]; simp
  have h1' : 0 ≤ posF x.f y.1 := by rw [I.f]; exact h1
  have h2' : 0 ≤ posF x.f y.2 := by rw [I.f]; exact h2
  have hh : hasC x.ct y = false := by
    cases h : hasC x.ct y with
    | false => rfl
    | true =>
      obtain ⟨z, hz, e⟩ := List.any_eq_true.1 h
      rw [beq_iff_eq] at e
      exact absurd (by rw [← I.cts, ← e]; exact List.mem_map_of_mem hz) hn
  have ea : addC x.ct y = (⟨x.ct.next + 1, x.ct.list ++ [(x.ct.next, y)]⟩, x.ct.next, 0) := by
    have := I.next
    unfold addC
    rw [if_pos ⟨ok.ct, hv⟩, hh, if_neg (by simp), if_neg (by omega)]
  have hc : x.ag.tb.canTake = true := by
    have a1 := ok.ag.hl
    have a2 := ok.wl
    have a3 := ok.ag.wl
    have a4 := ok.hl
    have a5 := ok.dueLe
    exact canTake_iff.2 ⟨by omega, by have := I.low (topL x.ag.tb.free).toNat; omega⟩
  have ek : certifyK x y = addK x y := by
    unfold certifyK; rw [if_pos ⟨ok, hv⟩, if_neg (by omega)]
  rw [ek]
  have hk : (addK x y).2.2 = 0 := by
    unfold addK; rw [ea, if_pos rfl]
    cases whenM x.f y x.now with
    | none => rfl
    | some s => simp only; rw [if_pos hc]
  obtain ⟨o1, o2, o3, o4, o5⟩ := ok.add h1' h2' hk
  refine ⟨hk, o1, by rw [o4, I.f], by rw [o5, I.now], ?_, ?_, fun i => ?_⟩
  · rw [o3]; show x.ct.next + 1 = _; rw [I.next]; simp
  · rw [o3]; show (x.ct.list ++ [(x.ct.next, y)]).map (·.2) = _; rw [List.map_append, I.cts]; rfl
  · have li := I.low i
    rw [List.length_append, List.length_singleton]
    unfold addK; rw [ea, if_pos rfl]
    cases whenM x.f y x.now with
    | none => show x.ag.tb.uses.getD i 0 ≤ _; omega
    | some s =>
      simp only; rw [if_pos hc]
      show (x.ag.tb.uses.set _ _).getD i 0 ≤ _
      have hfl : 0 < x.ag.tb.free.length := (canTake_iff.1 hc).1
      obtain ⟨tm, k0, k1⟩ := ok.ag.tb.topR hfl
      rw [getD_setI (by omega)]
      have := I.low (topL x.ag.tb.free).toNat
      split <;> omega

end Go.Proofs.YtodmhdfenpkbdaaGreat
