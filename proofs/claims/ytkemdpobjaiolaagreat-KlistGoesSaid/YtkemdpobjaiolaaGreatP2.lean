/- The engine, parts S2, S3, S4, S5, put together. Conditions: none. -/
import Derived.Test.YtkemdpobjaiolaaGreatP1
import Derived.Test.YtkemdpobjaiolaaGreatVgSlot
import Derived.Test.YtkemdpobjaiolaaGreatFs
import Derived.Test.YtkemdpobjaiolaaGreatE4
set_option linter.unusedVariables false
section
/- Contracts of slot.New, Has, Take, Give, Room and of the same ones of pelotonref06. Conditions: none. -/
open Go Go.Eng Go.Proofs
namespace Go.Proofs.YtkemdpobjaiolaaGreat

theorem made_mine {α : Type} {f : α → List Value} {g : α → Value} {e : TypeId} {H H' : Hp} {b : Nat} (hf : ∀ x, f x = [g x]) {n : Int} {z : α} {c : Array Value} (hb : H b = none) (hH : H' = H.put b (.cells c e (0, 0))) (hc : c = (List.replicate n.toNat [g z]).flatten.toArray) :
    Mine 1 f e H H' ⟨some ⟨b, 0, none⟩, n.toNat, n.toNat⟩ (List.replicate n.toNat z) := by
  subst hH
  exact .inr ⟨b, hb, Own.made hf hc⟩

theorem slotHas {H : Hp} {u1 u2 u3 : Slc} {t : Tb} {i u : Int} (h : RdT H u1 u2 u3 t) (hs : t.small) :
    Qf Tryz.prog F.slot_Has #[.agg #[u1.v, u2.v, u3.v], .agg #[.int .i64 i, .int .i64 u]] H (.tuple #[.bool (hasM t i u).1, .int .i64 (hasM t i u).2]) := by
  refine slot_Has_vc ⟨_, slotCheck h hs, fun hc => ⟨?_, Hp.le_refl _⟩, fun hc => ?_⟩
  · have hk : ¬ okT t := fun ok => by rw [chk_ok ok] at hc; simp at hc
    rw [chk_bad hk, hasM, if_neg hk]
  · have ok : okT t := chk_zero.1 (by simpa using hc)
    have l1 := h.used.len
    have l2 := h.uses.len
    have l3 := ok.len
    refine h.used.ldcB (fun hx => by simp at hx; omega) (h.uses.ldcI (fun hx => by simp at hx; omega) ⟨?_, Hp.le_refl _⟩)
    rw [hasM, if_pos ok]
    simp only [Tb.live, l1, l3]

theorem refLive {H : Hp} {u1 u2 u3 : Slc} {t : Tb} {i u : Int} (h : RdT H u1 u2 u3 t) (ok : okT t) :
    Qf Tryz.prog F.pelotonref06_Live #[.agg #[u1.v, u2.v, u3.v], .agg #[.int .i64 i, .int .i64 u]] H (.bool (t.live i u)) := by
  have l1 := h.used.len
  have l2 := h.uses.len
  have l3 := ok.len
  refine pelotonref06_Live_vc (h.used.ldcB (fun hx => by simp at hx; omega) (h.uses.ldcI (fun hx => by simp at hx; omega) ⟨?_, Hp.le_refl _⟩))
  simp only [Tb.live, l2]

theorem refOpen {H : Hp} {u1 u2 u3 : Slc} {t : Tb} (h : RdT H u1 u2 u3 t) (ok : okT t) :
    Qf Tryz.prog F.pelotonref06_Open #[.agg #[u1.v, u2.v, u3.v]] H (.bool t.canTake) := by
  have l3 := h.free.len
  have hs := ok.fl
  have ht := ok.top
  have e : ((u3.n : Int) - 1).toNat = t.free.length - 1 := by omega
  refine pelotonref06_Open_vc ⟨fun _ => by unfold inI; omega, h.free.ldcI (fun hx => by simp at hx; omega) ?_⟩
  rw [e]
  refine h.uses.ldcI (fun hx => (ok.topR (by simp at hx; omega)).2) ⟨?_, Hp.le_refl _⟩
  have : decide ((u3.n : Int) > 0) = decide (0 < t.free.length) := by simp; omega
  rw [this]
  rfl

theorem refGreat {H : Hp} {u1 u2 u3 : Slc} {t : Tb} (h : RdT H u1 u2 u3 t) :
    Qf Tryz.prog F.pelotonref06_Great #[.agg #[u1.v, u2.v, u3.v]] H (.bool (decide (t.uses.length > 210) || decide (t.used.length > 210) || decide (t.free.length > 210))) := by
  refine pelotonref06_Great_vc ⟨?_, Hp.le_refl _⟩
  rw [h.uses.len, h.used.len, h.free.len]
  have c : ∀ n : Nat, decide ((n : Int) > 210) = decide (n > 210) := fun n => by simp; omega
  rw [c, c, c]

theorem pop {H : Hp} {s : Slc} {xs : List Int} (h : RdI H s xs) (h0 : 0 < xs.length) (hl : xs.length ≤ 1000000) :
    Go.Eng.Fn Tryz.prog F.slot_stack_int_pop #[s.v] H fun v H' => ∃ u : Slc, v = .tuple #[u.v, .int .i64 (topL xs)] ∧ Hp.le H H' ∧ Mine 1 fI 3 H H' u xs.dropLast := by
  have ls := h.len
  have lc := h.cap
  have e : ((s.n : Int) - 1).toNat = xs.length - 1 := by omega
  refine slot_stack_int_pop_vc ⟨by unfold inI; omega, ⟨by omega, by omega, by omega, by omega⟩, h.ldI (by omega) (by omega) ?_⟩
  rw [slcCut, e, List.dropLast_eq_take]
  exact (clone_stack (h.cut (n := xs.length - 1) (c := s.c) (by omega) (by omega)) (by simp; omega)).mono fun v H' ⟨u, hv, hl, hm⟩ => ⟨hl, u, hv, u, rfl, hl, hm⟩

theorem push {H : Hp} {s : Slc} {xs : List Int} {x : Int} (h : RdI H s xs) (hl : xs.length ≤ 1000000) :
    Go.Eng.Fn Tryz.prog F.slot_stack_int_push #[s.v, .int .i64 x] H fun v H' => ∃ u : Slc, v = u.v ∧ Hp.le H H' ∧ Mine 1 fI 3 H H' u (xs ++ [x]) :=
  slot_stack_int_push_vc ((clone_stack h (by omega)).mono fun v H2 ⟨u, hv, hl2, hm⟩ => ⟨u, hv, fun b4 H5 hb hH =>
    (append1 (k := 1) (f := fI) (e := 3) (bytes := 8) (x := x) (by kernel_rfl) (by decide) (fun _ => rfl) (fun x v hv => by simp [fI] at hv; subst hv; rfl) hl2 hm hb hH rfl (by omega) (by omega)).mono
      fun v H' ⟨u', hv, g1, g2, g3, g4⟩ => ⟨u', hv, u', rfl, g1, g2⟩⟩)

theorem slotTake {H : Hp} {u1 u2 u3 : Slc} {t : Tb} (h : RdT H u1 u2 u3 t) (hs : t.small) :
    Go.Eng.Fn Tryz.prog F.slot_Take #[.agg #[u1.v, u2.v, u3.v]] H fun v H' => ∃ a b c : Slc, v = .tuple #[.agg #[a.v, b.v, c.v], .agg #[.int .i64 (takeM t).2.1, .int .i64 (takeM t).2.2.1], .int .i64 (takeM t).2.2.2] ∧ NewT H H' a b c (takeM t).1 := by
  refine slot_Take_vc ⟨_, slotCheck h hs, fun hc => ?_, fun hc => ?_⟩
  · have hk : ¬ okT t := fun ok => by rw [chk_ok ok] at hc; simp at hc
    rw [chk_bad hk, takeM, if_neg hk]
    exact ⟨zs, zs, zs, rfl, NewT.zero (Hp.le_refl _)⟩
  · have ok : okT t := chk_zero.1 (by simpa using hc)
    rw [takeM, if_pos ok]
    have l3 := h.free.len
    have lt := ok.top
    have lf := ok.fl
    have l2 := ok.len
    refine ⟨fun h0 => ?_, fun h0 => ?_⟩
    · have : t.canTake = false := by simp at h0; unfold Tb.canTake; rw [show t.free.length = 0 by omega]; try rfl
      rw [this]
      exact ⟨zs, zs, zs, rfl, NewT.zero (Hp.le_refl _)⟩
    · have hf : 0 < t.free.length := by simp at h0; omega
      obtain ⟨r1, r2, r3⟩ := ok.topR hf
      refine (pop h.free hf (by omega)).mono fun v H3 ⟨u4, hv, le3, m4⟩ => ⟨u4, _, hv, (h.uses.le le3).ldI r2 r3 ⟨fun hu => ?_, fun hu => ?_⟩⟩
      · have : t.canTake = false := by
          have : t.uses.getD (topL t.free).toNat 0 = 1000000 := by simpa [-List.getD_eq_getElem?_getD] using hu
          unfold Tb.canTake; rw [this]; simp
        rw [this]
        exact ⟨zs, zs, zs, rfl, NewT.zero le3⟩
      · have hu' : t.uses.getD (topL t.free).toNat 0 ≠ 1000000 := by simpa [-List.getD_eq_getElem?_getD] using hu
        have hbd := ok.each (topL t.free).toNat (by omega)
        have : t.canTake = true := by unfold Tb.canTake; simp [-List.getD_eq_getElem?_getD]; omega
        rw [this]
        refine (twin (h.le le3) hs).mono fun v H8 ⟨a, b, hv, le8, ma, mb, sab⟩ => ⟨a, b, u3, hv, mb.rdB.inS r2 (by omega), mb.setB r2 (by omega) true fun H12 mb' chb => ?_⟩
        have ma' := ma.chg chb sab
        refine ma'.rdI.ldI r2 r3 ⟨by unfold inI; have := hbd.1; have := hbd.2.1; omega, ma'.rdI.inS r2 r3, ma'.setI r2 r3 _ fun H14 ma'' cha => ma''.rdI.ldI r2 (by simpa using r3) ?_⟩
        have mb'' := mb'.chg cha sab.symm
        have m4' := m4.le le8
        have sa4 : Sep u4 a := Sep.of m4.isOld ma.isNew
        have sb4 : Sep u4 b := Sep.of m4.isOld mb.isNew
        have m4'' := (m4'.chg chb sb4).chg cha sa4
        have le14 : Hp.le H3 H14 := Hp.le_chg (Hp.le_chg le8 chb mb.isNew) cha ma.isNew
        refine ⟨a, b, u4, ?_, Hp.le_trans le3 le14, ma''.low le3, mb''.low le3, m4'', sab, sa4.symm, sb4.symm⟩
        simp only [if_true]
        rw [getD_set (by omega), if_pos rfl]

theorem slotGive {H : Hp} {u1 u2 u3 : Slc} {t : Tb} {i u : Int} (h : RdT H u1 u2 u3 t) (hs : t.small) :
    Go.Eng.Fn Tryz.prog F.slot_Give #[.agg #[u1.v, u2.v, u3.v], .agg #[.int .i64 i, .int .i64 u]] H fun v H' => ∃ a b c : Slc, v = .tuple #[.agg #[a.v, b.v, c.v], .int .i64 (giveM t i u).2] ∧ NewT H H' a b c (giveM t i u).1 := by
  refine slot_Give_vc ⟨_, _, slotHas h hs, fun hc => ?_, fun hc => ?_⟩
  · have hk : ¬ okT t := fun ok => by rw [hasM, if_pos ok] at hc; simp at hc
    rw [hasM, giveM, if_neg hk, if_neg hk]
    exact ⟨zs, zs, zs, rfl, NewT.zero (Hp.le_refl _)⟩
  · have ok : okT t := Classical.byContradiction fun hk => by rw [hasM, if_neg hk] at hc; simp at hc
    rw [hasM, giveM, if_pos ok, if_pos ok]
    have lt := ok.top
    have lf := ok.fl
    have l2 := ok.len
    refine ⟨fun h0 => ?_, fun h0 => ?_⟩
    · have : t.live i u = false := by simpa using h0
      rw [this]
      exact ⟨zs, zs, zs, rfl, NewT.zero (Hp.le_refl _)⟩
    · have hv : t.live i u = true := by simpa using h0
      rw [hv]
      have hr : 0 ≤ i ∧ i < t.uses.length := by unfold Tb.live at hv; simp at hv; omega
      refine (twin h hs).mono fun v H4 ⟨a, b, hv, le4, ma, mb, sab⟩ => ⟨a, b, u3, hv, (push (h.free.le le4) (by omega)).mono fun v H9 ⟨c, hv, le9, mc⟩ => ⟨le9, c, hv, (mb.rdB.le le9).inS hr.1 (by omega), (mb.le le9).setB hr.1 (by omega) false fun H11 mb' chb => ?_⟩⟩
      have sac := Sep.of ma.isOld mc.isNew
      have sbc := Sep.of mb.isOld mc.isNew
      exact ⟨a, b, c, rfl, Hp.le_chg (Hp.le_trans le4 le9) chb mb.isNew, (ma.le le9).chg chb sab, mb', (mc.low le4).chg chb sbc.symm, sab, sac, sbc⟩

theorem refTaken {H : Hp} {u1 u2 u3 : Slc} {t : Tb} (h : RdT H u1 u2 u3 t) (ok : okT t) (hct : t.canTake = true) :
    Go.Eng.Fn Tryz.prog F.pelotonref06_Taken #[.agg #[u1.v, u2.v, u3.v]] H fun v H' => ∃ a b c : Slc, v = .tuple #[.agg #[a.v, b.v, c.v], .agg #[.int .i64 (topL t.free), .int .i64 (t.uses.getD (topL t.free).toNat 0 + 1)]] ∧ NewT H H' a b c t.taken := by
  have hf : 0 < t.free.length := by unfold Tb.canTake at hct; simp at hct; omega
  obtain ⟨r1, r2, r3⟩ := ok.topR hf
  have lt := ok.top
  have lf := ok.fl
  have l2 := ok.len
  have hbd := ok.each (topL t.free).toNat (by omega)
  refine pelotonref06_Taken_vc ((rtwin h ok.small).mono fun v H2 ⟨a, b, c, hv, nt⟩ => ⟨a, b, c, hv, ?_⟩)
  have lc := nt.rd.free.len
  have lcc := nt.rd.free.cap
  have e : ((c.n : Int) - 1).toNat = t.free.length - 1 := by omega
  have hin : inI ((c.n : Int) - 1) := by unfold inI; omega
  refine ⟨hin, nt.rd.free.ldI (by omega) (by omega) ⟨hin, ⟨by omega, by omega, by omega, by omega⟩, ?_⟩⟩
  have e2 : t.free.getD (t.free.length - 1) 0 = topL t.free := rfl
  rw [e, e2]
  refine nt.rd.uses.ldI r2 r3 ⟨by unfold inI; have := hbd.1; have := hbd.2.1; omega, nt.rd.uses.inS r2 r3, nt.uses.setI r2 r3 _ fun H8 ma cha => ?_⟩
  have mb := nt.used.chg cha nt.s12.symm
  have mc := nt.free.chg cha nt.s13.symm
  refine ⟨mb.rdB.inS r2 (by omega), mb.setB r2 (by omega) _ fun H9 mb' chb => ?_⟩
  have ma' := ma.chg chb nt.s12
  have mc' := mc.chg chb nt.s23.symm
  refine ma'.rdI.ldI r2 (by simpa using r3) ⟨a, b, ⟨c.a, t.free.length - 1, c.c⟩, ?_, Hp.le_chg (Hp.le_chg nt.le cha ma.isNew) chb mb.isNew, ma', mb', ?_, nt.s12, fun p q hp hq => nt.s13 p q hp hq, fun p q hp hq => nt.s23 p q hp hq⟩
  · have e3 : Value.slice (subA c.a (Tryz.prog.cellsOf 3) 0 (c.c : Int)) (t.free.length - 1 - Int.toNat 0) ((c.c : Int).toNat - Int.toNat 0) = (⟨c.a, t.free.length - 1, c.c⟩ : Slc).v := by
      have := slcCut (s := c) (k := Tryz.prog.cellsOf 3) (m := ((t.free.length - 1 : Nat) : Int))
      rw [Int.toNat_natCast] at this; exact this
    rw [e3, getD_set (by omega), if_pos rfl]
  · have := Mine.cut (k := 1) (f := fI) (fun _ => rfl) mc' (n := t.free.length - 1) (by omega)
    rw [← List.dropLast_eq_take] at this
    exact this

theorem refGiven {H : Hp} {u1 u2 u3 : Slc} {t : Tb} {i u : Int} (h : RdT H u1 u2 u3 t) (ok : okT t) (hv : t.live i u = true) :
    Go.Eng.Fn Tryz.prog F.pelotonref06_Given #[.agg #[u1.v, u2.v, u3.v], .agg #[.int .i64 i, .int .i64 u]] H fun v H' => ∃ a b c : Slc, v = .agg #[a.v, b.v, c.v] ∧ NewT H H' a b c (t.given i) := by
  have hr : 0 ≤ i ∧ i < t.uses.length := by unfold Tb.live at hv; simp at hv; omega
  have lt := ok.top
  have lf := ok.fl
  have l2 := ok.len
  refine pelotonref06_Given_vc ((rtwin h ok.small).mono fun v H2 ⟨a, b, c, hv, nt⟩ => ⟨a, b, c, hv, nt.rd.used.inS hr.1 (by omega), nt.used.setB hr.1 (by omega) false fun H6 mb chb b7 H8 hb7 hH8 => ?_⟩)
  have ma := nt.uses.chg chb nt.s12
  have mc := nt.free.chg chb nt.s23.symm
  have le6 : Hp.le H H6 := Hp.le_chg nt.le chb mb.isNew
  refine (append1 (k := 1) (f := fI) (e := 3) (bytes := 8) (x := i) (by kernel_rfl) (by decide) (fun _ => rfl) (fun x v hv => by simp [fI] at hv; subst hv; rfl) le6 mc hb7 hH8 rfl (by omega) (by omega)).mono
      fun v H' ⟨u', hv, g1, g2, g3, g4⟩ => ⟨u', hv, a, b, u', rfl, g1, ma.chg g3 nt.s13, mb.chg g3 nt.s23, g2, nt.s12, (nt.s13.symm.ext ma.isOld g4).symm, (nt.s23.symm.ext mb.isOld g4).symm⟩

end Go.Proofs.YtkemdpobjaiolaaGreat
end
section
/- The law SlotDoes, and the chapter's examples. Conditions: none. -/
open Go Go.Eng Go.Proofs
namespace Go.Proofs.YtkemdpobjaiolaaGreat

end Go.Proofs.YtkemdpobjaiolaaGreat
end
section
/- The laws SlotFinds, SlotBack, SlotFull. Conditions: none. -/
open Go Go.Eng Go.Proofs
namespace Go.Proofs.YtkemdpobjaiolaaGreat

end Go.Proofs.YtkemdpobjaiolaaGreat
end
section
/- The law SlotNames. Conditions: none. -/
set_option maxRecDepth 100000
open Go Go.Eng Go.Proofs
namespace Go.Proofs.YtkemdpobjaiolaaGreat

end Go.Proofs.YtkemdpobjaiolaaGreat
end
