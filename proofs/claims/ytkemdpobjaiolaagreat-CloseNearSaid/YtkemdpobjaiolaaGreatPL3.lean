/- The engine, parts L8, L9, LA, put together. Conditions: none. -/
import Derived.Test.YtkemdpobjaiolaaGreatPL1
import Derived.Test.YtkemdpobjaiolaaGreatP6
import Derived.Test.YtkemdpobjaiolaaGreatVgClock
import Derived.Test.YtkemdpobjaiolaaGreatVgStd
import Derived.Test.YtkemdpobjaiolaaGreatFs
set_option linter.unusedVariables false
section
/- Clocks: copied. Conditions: none. -/
set_option maxRecDepth 100000
open Go Go.Eng Go.Proofs
namespace Go.Proofs.YtkemdpobjaiolaaGreat

theorem clone_pt {H : Hp} {s : Slc} {xs : List Pt} (hs : Rd 3 fD H s xs) (hl : xs.length ≤ 1000000000) :
    Go.Eng.Fn Tryz.prog F.slices_Clone_api_Point_api_Point #[s.v] H fun v H' => ∃ u : Slc, v = u.v ∧ Hp.le H H' ∧ Mine 3 fD T.api_Point H H' u xs :=
  slices_Clone_api_Point_api_Point_vc (clone_vc (k := 3) (f := fD) (bytes := 24) (by kernel_rfl) (by decide) (fun _ => rfl) hs (by omega) (by omega))
/-! ### A box: a block of the call's own that all may see -/
def Off (b : Nat) (H H' : Hp) : Prop := ∀ c, c ≠ b → H' c = H c
theorem Off.le {b : Nat} {H0 H H' : Hp} (o : Off b H H') (hb : H0 b = none) (l : Hp.le H0 H) : Hp.le H0 H' := fun c x hc => by
  have : c ≠ b := fun e => by subst e; rw [hb] at hc; cases hc
  rw [o c this]; exact l c x hc
section
variable {α : Type} {b k : Nat} {f : α → List Value} {H H' : Hp} {u : Slc} {xs : List α}
theorem Mine.off {e : TypeId} {H0 : Hp} (m : Mine k f e H0 H u xs) (o : Off b H H') (s : ∀ p, u.a = some p → p.block ≠ b) : Mine k f e H0 H' u xs :=
  Mine.chg (v := ⟨some ⟨b, 0, none⟩, 0, 0⟩) m (fun c _ hc => o c fun e => hc _ rfl (by rw [e])) fun p q hp hq e => by cases hq; exact s p hp e
end


theorem findTest {a : Ag} (ok : okA a) {h s : Int × Int} {n : Int} : ((findA a h).2 = 0 ∧ (findA a h).1.no = n ∧ (findA a h).1.at_ = s) ↔ (⟨s, n, h⟩ : Ev) ∈ a.heap := by
  constructor
  · rintro ⟨h1, h2, h3⟩
    unfold findA at h1 h2 h3
    rw [if_pos ok] at h1 h2 h3
    by_cases hl : a.tb.live h.1 h.2 = true
    · rw [if_pos hl] at h2 h3
      obtain ⟨m1, m2, m3⟩ := find_mem ok hl
      have : (⟨s, n, h⟩ : Ev) = hp a.heap (atA a h) := by
        generalize hp a.heap (atA a h) = y at h2 h3 m2
        obtain ⟨y1, y2, y3⟩ := y
        simp only at h2 h3 m2
        rw [h2, h3, m2]
      rw [this]; exact m1
    · rw [if_neg hl] at h1; cases h1
  · intro hm
    rw [(find_eq ok hm).1]
    exact ⟨rfl, rfl, rfl⟩

theorem refKCheck {H : Hp} {u : Cu} {c : Ck} (r : RdK H u c) (fk : fitK c) : Qf Tryz.prog F.pelotonref09_Check #[ckV u c] H (.int .i64 (chkK c)) := by
  have l4 := r.ag.heap.len
  have l5 := r.ag.wh.len
  have ld := r.due.len
  have lc := r.cl.len
  have f1 := fk.ct
  have f2 := fk.due
  have f3 := fk.f
  refine pelotonref09_Check_vc ⟨_, refRCheck fk.now, _, fun _ => refFCheck r.f, _, fun _ => refCheckC r.cl, _, fun _ => refKnown r.cl r.f (by omega) (by omega), _, fun _ => refACheck r.ag fk.ag, fun hc => ⟨?_, Hp.le_refl _⟩, fun hc => ?_⟩
  · rw [chkK_bad]
    intro ok
    rw [chkR_ok ok.now, chkF_zero.2 ok.f, chkC_ok ok.ct, ok.known, chkA_ok ok.ag, l5, l4, ld, ok.wl, ok.hl] at hc
    simp at hc
  simp only [Bool.or_eq_false_iff, bne_eq_false_iff_eq, Bool.not_eq_false'] at hc
  obtain ⟨⟨⟨⟨⟨⟨h1, h2⟩, h3⟩, hk⟩, h5⟩, h6⟩, h7⟩ := hc
  have base : baseK c := ⟨chkR_zero.1 h1, chkF_zero.1 h2, chkC_zero.1 h3, chkA_zero.1 h5, by omega, by omega⟩
  refine ⟨fun a i H' => H' = H ∧ 0 ≤ i ∧ i ≤ c.ct.list.length ∧ 0 ≤ a ∧ a ≤ c.due.length ∧ chkDue c.ag.heap c.f c.now c.ct.list c.due = chkDue c.ag.heap c.f c.now (c.ct.list.drop i.toNat) (c.due.drop a.toNat),
    fun _ i _ => (c.ct.list.length - i).toNat, ⟨rfl, Int.le_refl _, by omega, Int.le_refl _, by omega, rfl⟩, fun a i H' ⟨e, i0, i1, a0, a1, hd⟩ => ?_⟩
  subst e
  refine ⟨fun hn => ?_, fun hn => ?_⟩
  · have hn : i < c.ct.list.length := by have : i < u.cl.n := by simpa using hn
                                         omega
    have hg := getX (d := ((0 : Int), (0 : Int), (0 : Int))) i0 hn
    obtain ⟨p1, p2⟩ := knownC_at hk (List.mem_of_getElem? hg)
    refine r.cl.ldD i0 hn ⟨_, _, _, refWhen (x := (c.ct.list.getD i.toNat (0, 0, 0)).2) r.f base.f base.now p1 p2, ?_⟩
    generalize c.ct.list.getD i.toNat (0, 0, 0) = x at hg p1 p2 ⊢
    rw [dropX hg, chkDue, if_neg (show ¬ lostX c.f x.2 = true by simp [lostX]; omega)] at hd
    have nx : ∀ {b : Int}, 0 ≤ b → b ≤ c.due.length → chkDue c.ag.heap c.f c.now c.ct.list c.due = chkDue c.ag.heap c.f c.now (c.ct.list.drop (i.toNat + 1)) (c.due.drop b.toNat) →
        inI (i + 1) ∧ (H' = H' ∧ 0 ≤ i + 1 ∧ i + 1 ≤ c.ct.list.length ∧ 0 ≤ b ∧ b ≤ c.due.length ∧ chkDue c.ag.heap c.f c.now c.ct.list c.due = chkDue c.ag.heap c.f c.now (c.ct.list.drop (i + 1).toNat) (c.due.drop b.toNat)) ∧ (c.ct.list.length - (i + 1)).toNat < (c.ct.list.length - i).toNat := by
      intro b b0 b1 e
      exact ⟨by unfold inI; omega, ⟨rfl, by omega, by omega, b0, b1, by rw [show (i + 1).toNat = i.toNat + 1 by omega]; exact e⟩, by omega⟩
    cases hw : whenM c.f x.2 c.now with
    | none =>
      rw [hw] at hd
      exact ⟨fun _ => nx a0 a1 hd, fun h => by simp at h⟩
    | some s =>
      rw [hw] at hd
      dsimp only at hd
      refine ⟨fun h => by simp at h, fun _ => ?_⟩
      by_cases ha : a < c.due.length
      · have hga := getX (d := ((0 : Int), (0 : Int), (0 : Int))) a0 ha
        have g1 := r.due.gD a0 ha
        have g2 := r.due.gD2 a0 ha
        have gs := r.due.inS a0 ha
        generalize c.due.getD a.toNat (0, 0, 0) = d at hga g1 g2
        rw [dropX hga] at hd
        dsimp only at hd
        refine ⟨fun _ => gs, d.1, fun _ => g1.1, fun hb => ⟨?_, Hp.le_refl _⟩, fun hb => ?_⟩
        · have hb : d.1 ≠ x.1 := by
            simp only [Bool.or_eq_true, decide_eq_true_eq, bne_iff_ne] at hb
            rcases hb with hb | hb
            · omega
            · exact hb
          rw [chkK_base base, hd, decide_eq_false hb, if_neg (by simp)]
        have hb : d.1 = x.1 := by
          simp only [Bool.or_eq_false_iff, bne_eq_false_iff_eq] at hb; exact hb.2
        rw [decide_eq_true hb, Bool.true_and] at hd
        have ft := findTest (h := d.2) (s := s) (n := x.1) base.ag
        refine ⟨gs, _, _, g2, _, _, _, _, _, _, refAFind (h := d.2) r.ag fk.ag, fun ht => ⟨?_, Hp.le_refl _⟩, fun ht => ?_⟩
        · rw [chkK_base base, hd]
          have : ¬ (⟨s, x.1, d.2⟩ : Ev) ∈ c.ag.heap := fun hm => by
            obtain ⟨t1, t2, t3⟩ := ft.2 hm
            rw [t1, t2, t3] at ht
            simp [o2] at ht
          rw [decide_eq_false this, if_neg (by simp)]
        · simp only [Bool.or_eq_false_iff, bne_eq_false_iff_eq, Bool.not_eq_false', Bool.and_eq_true, beq_iff_eq, o2, Option.getD_some] at ht
          obtain ⟨⟨t1, t2⟩, t3, t4⟩ := ht
          have hm := ft.1 ⟨t1, t2, Prod.ext t3 t4⟩
          rw [decide_eq_true hm, Bool.true_and] at hd
          have n := nx (b := a + 1) (by omega) (by omega) (by rw [show (a + 1).toNat = a.toNat + 1 by omega]; exact hd)
          exact ⟨by unfold inI; omega, n⟩
      · have hx : c.due.drop a.toNat = [] := List.drop_eq_nil_of_le (by omega)
        rw [hx] at hd
        dsimp only at hd
        refine ⟨fun h => absurd (by simpa using h : a < u.d.n) (by omega), 0, fun h => absurd (by simpa using h : a < u.d.n) (by omega), fun _ => ⟨by rw [chkK_base base, hd, if_neg (by simp)], Hp.le_refl _⟩, fun h => ?_⟩
        simp only [Bool.or_eq_false_iff, decide_eq_false_iff_not] at h
        omega
  · have hn : ¬ i < c.ct.list.length := by have : ¬ i < u.cl.n := by simpa using hn
                                           omega
    rw [List.drop_eq_nil_of_le (by omega), chkDue] at hd
    refine ⟨fun hb => ⟨?_, Hp.le_refl _⟩, fun hb => ⟨?_, Hp.le_refl _⟩⟩
    · have hb : a ≠ u.d.n := by simpa using hb
      have : c.due.drop a.toNat ≠ [] := fun e => by
        have := congrArg List.length e
        simp at this; omega
      rw [chkK_base base, hd, if_neg (by simpa using this)]
    · have hb : a = u.d.n := by simpa using hb
      rw [List.drop_eq_nil_of_le (by omega)] at hd
      rw [chkK_base base, hd]; rfl

structure NewK (H0 H : Hp) (u : Cu) (c : Ck) : Prop where
  f : Mine 3 fD T.api_Point H0 H u.f c.f
  cl : Mine 3 fD T.api_Held H0 H u.cl c.ct.list
  ag : NewA H0 H u.u1 u.u2 u.u3 u.u4 u.u5 c.ag
  due : Mine 3 fD T.api_Due H0 H u.d c.due
  sepFD : Sep u.f u.d
theorem NewK.le {H0 H : Hp} {u : Cu} {c : Ck} (n : NewK H0 H u c) : Hp.le H0 H := n.ag.le
theorem NewK.rd {H0 H : Hp} {u : Cu} {c : Ck} (n : NewK H0 H u c) : RdK H u c := ⟨n.f.rdD, n.cl.rdD, n.ag.rd, n.due.rdD⟩
theorem refKTwin {H : Hp} {u : Cu} {c : Ck} (r : RdK H u c) (fk : fitK c) :
    Go.Eng.Fn Tryz.prog F.pelotonref09_Twin #[ckV u c] H fun v H' => ∃ w : Cu, v = ckV w c ∧ NewK H H' w c := by
  have f1 := fk.f; have f2 := fk.ct; have f3 := fk.due
  refine pelotonref09_Twin_vc ((refFTwin r.f (by omega)).mono fun v H2 ⟨w1, hv, l2, m1⟩ => ⟨l2, w1, hv, ?_⟩)
  refine (rTwinC (c := c.ct) (r.cl.le l2) (by omega)).mono fun v H5 ⟨w2, hv, n2⟩ => ⟨n2.le, _, w2, hv, ?_⟩
  refine (refATwin ((r.ag.le l2).le n2.le) fk.ag).mono fun v H9 ⟨v1, v2, v3, v4, v5, hv, n3⟩ => ⟨n3.le, v1, v2, v3, v4, v5, hv, fun b H16 hb hH => ?_⟩
  refine (copy_ok (k := 3) (f := fD) (bytes := 24) (e := T.api_Due) (by kernel_rfl) (by decide) (fun _ => rfl) (fun x v hv => by simp [fD] at hv; rcases hv with rfl | rfl | rfl <;> rfl) hb hH (((r.due.le l2).le n2.le).le n3.le) (by omega) (by omega)).mono
    fun v H18 ⟨w3, hv, l18, m3⟩ => ⟨w3, hv, ⟨w1, w2, v1, v2, v3, v4, v5, w3⟩, rfl, ?_⟩
  exact ⟨((m1.le n2.le).le n3.le).le l18, ((n2.list.low l2).le n3.le).le l18, ((n3.low n2.le).low l2).up l18, ((m3.low n3.le).low n2.le).low l2, Sep.of ((m1.isOld.le n2.le).le n3.le) m3.isNew⟩

def greatG (a : Ag) : Bool := decide (a.tb.uses.length > 210) || decide (a.tb.used.length > 210) || decide (a.tb.free.length > 210) || decide (a.heap.length > 210) || decide (a.wh.length > 210)
def greatF (f : List Pt) : Bool := decide ((16 < f.length ∧ f.length < 64) ∨ 70 < f.length)
def greatK (c : Ck) : Bool := decide ((c.ct.list.length : Int) > 40) || decide ((c.due.length : Int) > 40) || greatF c.f || greatG c.ag
theorem refKGreat {H : Hp} {u : Cu} {c : Ck} (r : RdK H u c) : Qf Tryz.prog F.pelotonref09_Great #[ckV u c] H (.bool (greatK c)) := by
  have a := r.cl.len; have b := r.due.len
  refine pelotonref09_Great_vc ⟨_, fun _ => refFGreat r.f, _, fun _ => refAGreat r.ag, ?_, Hp.le_refl _⟩
  rw [a, b]; rfl


theorem RdK.zero {H : Hp} : RdK H zu .zero := ⟨(Rd.nil : Rd 3 fD H ⟨none, 0, 0⟩ []), (Rd.nil : Rd 3 fD H ⟨none, 0, 0⟩ []), (NewA.zero (Hp.le_refl _)).rd, (Rd.nil : Rd 3 fD H ⟨none, 0, 0⟩ [])⟩
theorem fD_one (x : Int × Int × Int) : ∀ v ∈ fD x, v.oneCell' = true := fun v hv => by simp [fD] at hv; rcases hv with rfl | rfl | rfl <;> rfl
theorem RdA.chg {H H' : Hp} {u1 u2 u3 u4 u5 d : Slc} {a : Ag} (r : RdA H u1 u2 u3 u4 u5 a) (c : Chg H H' d) (s1 : Sep u1 d) (s2 : Sep u2 d) (s3 : Sep u3 d) (s4 : Sep u4 d) (s5 : Sep u5 d) : RdA H' u1 u2 u3 u4 u5 a :=
  ⟨⟨r.tb.uses.chg c s1, r.tb.used.chg c s2, r.tb.free.chg c s3⟩, r.heap.chg c s4, r.wh.chg c s5⟩
theorem RdA.chgN {H0 H H' : Hp} {u1 u2 u3 u4 u5 d : Slc} {a : Ag} (n : NewA H0 H u1 u2 u3 u4 u5 a) (c : Chg H H' d) (o : Old H0 d) : RdA H' u1 u2 u3 u4 u5 a :=
  RdA.chg n.rd c (Sep.of o n.tb.uses.isNew).symm (Sep.of o n.tb.used.isNew).symm (Sep.of o n.tb.free.isNew).symm (Sep.of o n.heap.isNew).symm (Sep.of o n.wh.isNew).symm

theorem okK.push {c : Ck} (ok : okK c) {t : Int × Int} (ht : okR t) : pushA c.ag t c.ct.next = if c.ag.tb.canTake = true then (pushedA c.ag t c.ct.next, nextH c.ag, 0) else (.zero, (0, 0), 18) := by
  obtain ⟨ps, e⟩ := ok.evs
  have hn : hasA c.ag c.ct.next = false := by
    unfold hasA
    rw [List.any_eq_false]
    intro y hy
    obtain ⟨h, hm, he, _⟩ := e.cert (e.heap.mem_iff.1 hy)
    have := (ok.ct.ok.each h hm).2.2
    simp; omega
  have := ok.ct.n0; have := ok.ct.n1
  unfold pushA
  rw [if_pos ⟨ok.ag, ht⟩, if_neg (by omega), hn, if_neg (by simp)]

end Go.Proofs.YtkemdpobjaiolaaGreat
end
