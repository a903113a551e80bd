/- The engine, parts L8, L9, LA, put together. Conditions: none. -/
import Derived.Test.YtkemdpobjaiolaaGreatPL1
import Derived.Test.YtkemdpobjaiolaaGreatP6
import Derived.Test.YtkemdpobjaiolaaGreatVgClock
import Derived.Test.YtkemdpobjaiolaaGreatVgStd
import Derived.Test.YtkemdpobjaiolaaGreatFs
set_option linter.unusedVariables false
section
/- Clocks: copied. Conditions: none. -/
set_option maxRecDepth 100000
open Go Go.Eng Go.Proofs
namespace Go.Proofs.YtkemdpobjaiolaaGreat

theorem clone_pt {H : Hp} {s : Slc} {xs : List Pt} (hs : Rd 3 fD H s xs) (hl : xs.length ≤ 1000000000) :
    Go.Eng.Fn Tryz.prog F.slices_Clone_api_Point_api_Point #[s.v] H fun v H' => ∃ u : Slc, v = u.v ∧ Hp.le H H' ∧ Mine 3 fD T.api_Point H H' u xs :=
  slices_Clone_api_Point_api_Point_vc (clone_vc (k := 3) (f := fD) (bytes := 24) (by kernel_rfl) (by decide) (fun _ => rfl) hs (by omega) (by omega))
/-! ### A box: a block of the call's own that all may see -/
def Off (b : Nat) (H H' : Hp) : Prop := ∀ c, c ≠ b → H' c = H c
theorem Off.le {b : Nat} {H0 H H' : Hp} (o : Off b H H') (hb : H0 b = none) (l : Hp.le H0 H) : Hp.le H0 H' := fun c x hc => by
  have : c ≠ b := fun e => by subst e; rw [hb] at hc; cases hc
  rw [o c this]; exact l c x hc
section
variable {α : Type} {b k : Nat} {f : α → List Value} {H H' : Hp} {u : Slc} {xs : List α}
theorem Mine.off {e : TypeId} {H0 : Hp} (m : Mine k f e H0 H u xs) (o : Off b H H') (s : ∀ p, u.a = some p → p.block ≠ b) : Mine k f e H0 H' u xs :=
  Mine.chg (v := ⟨some ⟨b, 0, none⟩, 0, 0⟩) m (fun c _ hc => o c fun e => hc _ rfl (by rw [e])) fun p q hp hq e => by cases hq; exact s p hp e
end


structure NewK (H0 H : Hp) (u : Cu) (c : Ck) : Prop where
  f : Mine 3 fD T.api_Point H0 H u.f c.f
  cl : Mine 3 fD T.api_Held H0 H u.cl c.ct.list
  ag : NewA H0 H u.u1 u.u2 u.u3 u.u4 u.u5 c.ag
  due : Mine 3 fD T.api_Due H0 H u.d c.due
  sepFD : Sep u.f u.d
theorem NewK.le {H0 H : Hp} {u : Cu} {c : Ck} (n : NewK H0 H u c) : Hp.le H0 H := n.ag.le
theorem NewK.rd {H0 H : Hp} {u : Cu} {c : Ck} (n : NewK H0 H u c) : RdK H u c := ⟨n.f.rdD, n.cl.rdD, n.ag.rd, n.due.rdD⟩
theorem refKTwin {H : Hp} {u : Cu} {c : Ck} (r : RdK H u c) (fk : fitK c) :
    Go.Eng.Fn Tryz.prog F.pelotonref09_Twin #[ckV u c] H fun v H' => ∃ w : Cu, v = ckV w c ∧ NewK H H' w c := by
  have f1 := fk.f; have f2 := fk.ct; have f3 := fk.due
  refine pelotonref09_Twin_vc ((refFTwin r.f (by omega)).mono fun v H2 ⟨w1, hv, l2, m1⟩ => ⟨l2, w1, hv, ?_⟩)
  refine (rTwinC (c := c.ct) (r.cl.le l2) (by omega)).mono fun v H5 ⟨w2, hv, n2⟩ => ⟨n2.le, _, w2, hv, ?_⟩
  refine (refATwin ((r.ag.le l2).le n2.le) fk.ag).mono fun v H9 ⟨v1, v2, v3, v4, v5, hv, n3⟩ => ⟨n3.le, v1, v2, v3, v4, v5, hv, fun b H16 hb hH => ?_⟩
  refine (copy_ok (k := 3) (f := fD) (bytes := 24) (e := T.api_Due) (by kernel_rfl) (by decide) (fun _ => rfl) (fun x v hv => by simp [fD] at hv; rcases hv with rfl | rfl | rfl <;> rfl) hb hH (((r.due.le l2).le n2.le).le n3.le) (by omega) (by omega)).mono
    fun v H18 ⟨w3, hv, l18, m3⟩ => ⟨w3, hv, ⟨w1, w2, v1, v2, v3, v4, v5, w3⟩, rfl, ?_⟩
  exact ⟨((m1.le n2.le).le n3.le).le l18, ((n2.list.low l2).le n3.le).le l18, ((n3.low n2.le).low l2).up l18, ((m3.low n3.le).low n2.le).low l2, Sep.of ((m1.isOld.le n2.le).le n3.le) m3.isNew⟩

def greatG (a : Ag) : Bool := decide (a.tb.uses.length > 210) || decide (a.tb.used.length > 210) || decide (a.tb.free.length > 210) || decide (a.heap.length > 210) || decide (a.wh.length > 210)
def greatF (f : List Pt) : Bool := decide ((16 < f.length ∧ f.length < 64) ∨ 70 < f.length)
def greatK (c : Ck) : Bool := decide ((c.ct.list.length : Int) > 40) || decide ((c.due.length : Int) > 40) || greatF c.f || greatG c.ag

theorem RdK.zero {H : Hp} : RdK H zu .zero := ⟨(Rd.nil : Rd 3 fD H ⟨none, 0, 0⟩ []), (Rd.nil : Rd 3 fD H ⟨none, 0, 0⟩ []), (NewA.zero (Hp.le_refl _)).rd, (Rd.nil : Rd 3 fD H ⟨none, 0, 0⟩ [])⟩
theorem fD_one (x : Int × Int × Int) : ∀ v ∈ fD x, v.oneCell' = true := fun v hv => by simp [fD] at hv; rcases hv with rfl | rfl | rfl <;> rfl
theorem RdA.chg {H H' : Hp} {u1 u2 u3 u4 u5 d : Slc} {a : Ag} (r : RdA H u1 u2 u3 u4 u5 a) (c : Chg H H' d) (s1 : Sep u1 d) (s2 : Sep u2 d) (s3 : Sep u3 d) (s4 : Sep u4 d) (s5 : Sep u5 d) : RdA H' u1 u2 u3 u4 u5 a :=
  ⟨⟨r.tb.uses.chg c s1, r.tb.used.chg c s2, r.tb.free.chg c s3⟩, r.heap.chg c s4, r.wh.chg c s5⟩
theorem RdA.chgN {H0 H H' : Hp} {u1 u2 u3 u4 u5 d : Slc} {a : Ag} (n : NewA H0 H u1 u2 u3 u4 u5 a) (c : Chg H H' d) (o : Old H0 d) : RdA H' u1 u2 u3 u4 u5 a :=
  RdA.chg n.rd c (Sep.of o n.tb.uses.isNew).symm (Sep.of o n.tb.used.isNew).symm (Sep.of o n.tb.free.isNew).symm (Sep.of o n.heap.isNew).symm (Sep.of o n.wh.isNew).symm

theorem okK.push {c : Ck} (ok : okK c) {t : Int × Int} (ht : okR t) : pushA c.ag t c.ct.next = if c.ag.tb.canTake = true then (pushedA c.ag t c.ct.next, nextH c.ag, 0) else (.zero, (0, 0), 18) := by
  obtain ⟨ps, e⟩ := ok.evs
  have hn : hasA c.ag c.ct.next = false := by
    unfold hasA
    rw [List.any_eq_false]
    intro y hy
    obtain ⟨h, hm, he, _⟩ := e.cert (e.heap.mem_iff.1 hy)
    have := (ok.ct.ok.each h hm).2.2
    simp; omega
  have := ok.ct.n0; have := ok.ct.n1
  unfold pushA
  rw [if_pos ⟨ok.ag, ht⟩, if_neg (by omega), hn, if_neg (by simp)]

end Go.Proofs.YtkemdpobjaiolaaGreat
end
