/- The engine, parts S2, S3, S4, S5, put together. Conditions: none. -/
import Derived.Test.YtkemdpobjaiolaaGreatP1
import Derived.Test.YtkemdpobjaiolaaGreatVgSlot
import Derived.Test.YtkemdpobjaiolaaGreatFs
import Derived.Test.YtkemdpobjaiolaaGreatE4
set_option linter.unusedVariables false
section
/- Contracts of slot.New, Has, Take, Give, Room and of the same ones of pelotonref06. Conditions: none. -/
open Go Go.Eng Go.Proofs
namespace Go.Proofs.YtkemdpobjaiolaaGreat

theorem beginT_free {n : Nat} {ys : List Int} (hl : ys.length = n) (h : ∀ i : Nat, i < n → ys[i]? = some ((n : Int) - 1 - i)) : ys = (beginT n).free := by
  apply List.ext_getElem?
  intro i
  simp only [beginT, List.getElem?_map]
  by_cases hi : i < n
  · rw [h i hi]; simp [hi]
  · rw [List.getElem?_eq_none (by omega), List.getElem?_eq_none (by simpa using hi)]; try rfl

theorem made_mine {α : Type} {f : α → List Value} {g : α → Value} {e : TypeId} {H H' : Hp} {b : Nat} (hf : ∀ x, f x = [g x]) {n : Int} {z : α} {c : Array Value} (hb : H b = none) (hH : H' = H.put b (.cells c e (0, 0))) (hc : c = (List.replicate n.toNat [g z]).flatten.toArray) :
    Mine 1 f e H H' ⟨some ⟨b, 0, none⟩, n.toNat, n.toNat⟩ (List.replicate n.toNat z) := by
  subst hH
  exact .inr ⟨b, hb, Own.made hf hc⟩

theorem refBegin {H : Hp} {N : Nat} (h1 : 1 ≤ N) (h2 : N ≤ 200) :
    Go.Eng.Fn Tryz.prog F.pelotonref06_Begin #[.int .i64 N] H fun v H' => ∃ a b c : Slc, v = .agg #[a.v, b.v, c.v] ∧ NewT H H' a b c (beginT N) := by
  refine pelotonref06_Begin_vc ⟨⟨rfl, by omega, by omega⟩, fun b1 H2 hb1 hH2 => ⟨⟨rfl, by omega, by omega⟩, fun b3 H4 hb3 hH4 => ⟨by unfold inI; omega, ?_⟩⟩⟩
  have m1 := made_mine (g := fun x => Value.int .i64 x) (e := 3) hfI (n := (N : Int)) (z := 0) hb1 hH2 rfl
  have m2 := made_mine (g := fun x => Value.bool x) (e := 4) hfB (n := (N : Int)) (z := false) hb3 hH4 rfl
  simp only [Int.toNat_natCast] at m1 m2 ⊢
  have l1 : Hp.le H H2 := Hp.le_new (Hp.le_refl _) hb1 hH2
  have l2 : Hp.le H2 H4 := Hp.le_new (Hp.le_refl _) hb3 hH4
  have s12 := Sep.of m1.isOld m2.isNew
  refine ⟨fun m u8 u9 u10 H11 => u8 = ⟨some ⟨b1, 0, none⟩, N, N⟩ ∧ u9 = ⟨some ⟨b3, 0, none⟩, N, N⟩ ∧ -1 ≤ m ∧ m < N ∧ Hp.le H H11 ∧ Mine 1 fI 3 H H11 u8 (List.replicate N 0) ∧ Mine 1 fB 4 H H11 u9 (List.replicate N false) ∧ Sep u10 u8 ∧ Sep u10 u9 ∧
      ∃ ys : List Int, Mine 1 fI 3 H H11 u10 ys ∧ (ys.length : Int) = N - 1 - m ∧ ∀ i : Nat, i < ys.length → ys[i]? = some ((N : Int) - 1 - i), fun m _ _ _ _ => (m + 1).toNat,
    ⟨rfl, rfl, by omega, by omega, Hp.le_trans l1 l2, m1.le l2, m2.low l1, Sep.symm Sep.nil, Sep.symm Sep.nil, [], .inl ⟨rfl, rfl⟩, by simp, fun i hi => by simp at hi⟩,
    fun m u8 u9 u10 H11 ⟨e8, e9, j0, j1, j2, j3, j4, j5, j6, ys, j7, j8, j9⟩ => ⟨fun hm b12 H13 hb12 hH13 => ?_, fun hm => ?_⟩⟩
  · have hm : m ≥ 0 := by simpa using hm
    refine (append1 (k := 1) (f := fI) (e := 3) (bytes := 8) (x := m) (by kernel_rfl) (by decide) (fun _ => rfl) (fun x v hv => by simp [fI] at hv; subst hv; rfl) j2 j7 hb12 hH13 rfl (by omega) (by omega)).mono
      fun v H' ⟨u', hv, g1, g2, g3, g4⟩ => ⟨u', hv, by unfold inI; omega, ⟨e8, e9, by omega, by omega, g1, j3.chg g3 j5.symm, j4.chg g3 j6.symm, j5.ext j3.isOld g4, j6.ext j4.isOld g4, _, g2, by simp; omega, fun i hi => ?_⟩, by show (m - 1 + 1).toNat < (m + 1).toNat; omega⟩
    rw [List.getElem?_append]
    split
    · rename_i h; exact j9 i h
    · rename_i h
      have : i = ys.length := by simp at hi; omega
      subst this
      simp; omega
  · have hm : m = -1 := by have : ¬ m ≥ 0 := by simpa using hm
                           omega
    subst hm
    have hl : ys.length = N := by omega
    have e := beginT_free hl fun i hi => j9 i (by omega)
    subst e
    subst e8; subst e9
    exact ⟨_, _, _, rfl, j2, j3, j4, j7, s12, j5.symm, j6.symm⟩

theorem refLive {H : Hp} {u1 u2 u3 : Slc} {t : Tb} {i u : Int} (h : RdT H u1 u2 u3 t) (ok : okT t) :
    Qf Tryz.prog F.pelotonref06_Live #[.agg #[u1.v, u2.v, u3.v], .agg #[.int .i64 i, .int .i64 u]] H (.bool (t.live i u)) := by
  have l1 := h.used.len
  have l2 := h.uses.len
  have l3 := ok.len
  refine pelotonref06_Live_vc (h.used.ldcB (fun hx => by simp at hx; omega) (h.uses.ldcI (fun hx => by simp at hx; omega) ⟨?_, Hp.le_refl _⟩))
  simp only [Tb.live, l2]

theorem refOpen {H : Hp} {u1 u2 u3 : Slc} {t : Tb} (h : RdT H u1 u2 u3 t) (ok : okT t) :
    Qf Tryz.prog F.pelotonref06_Open #[.agg #[u1.v, u2.v, u3.v]] H (.bool t.canTake) := by
  have l3 := h.free.len
  have hs := ok.fl
  have ht := ok.top
  have e : ((u3.n : Int) - 1).toNat = t.free.length - 1 := by omega
  refine pelotonref06_Open_vc ⟨fun _ => by unfold inI; omega, h.free.ldcI (fun hx => by simp at hx; omega) ?_⟩
  rw [e]
  refine h.uses.ldcI (fun hx => (ok.topR (by simp at hx; omega)).2) ⟨?_, Hp.le_refl _⟩
  have : decide ((u3.n : Int) > 0) = decide (0 < t.free.length) := by simp; omega
  rw [this]
  rfl

theorem refGreat {H : Hp} {u1 u2 u3 : Slc} {t : Tb} (h : RdT H u1 u2 u3 t) :
    Qf Tryz.prog F.pelotonref06_Great #[.agg #[u1.v, u2.v, u3.v]] H (.bool (decide (t.uses.length > 210) || decide (t.used.length > 210) || decide (t.free.length > 210))) := by
  refine pelotonref06_Great_vc ⟨?_, Hp.le_refl _⟩
  rw [h.uses.len, h.used.len, h.free.len]
  have c : ∀ n : Nat, decide ((n : Int) > 210) = decide (n > 210) := fun n => by simp; omega
  rw [c, c, c]

theorem push {H : Hp} {s : Slc} {xs : List Int} {x : Int} (h : RdI H s xs) (hl : xs.length ≤ 1000000) :
    Go.Eng.Fn Tryz.prog F.slot_stack_int_push #[s.v, .int .i64 x] H fun v H' => ∃ u : Slc, v = u.v ∧ Hp.le H H' ∧ Mine 1 fI 3 H H' u (xs ++ [x]) :=
  slot_stack_int_push_vc ((clone_stack h (by omega)).mono fun v H2 ⟨u, hv, hl2, hm⟩ => ⟨u, hv, fun b4 H5 hb hH =>
    (append1 (k := 1) (f := fI) (e := 3) (bytes := 8) (x := x) (by kernel_rfl) (by decide) (fun _ => rfl) (fun x v hv => by simp [fI] at hv; subst hv; rfl) hl2 hm hb hH rfl (by omega) (by omega)).mono
      fun v H' ⟨u', hv, g1, g2, g3, g4⟩ => ⟨u', hv, u', rfl, g1, g2⟩⟩)

theorem refTaken {H : Hp} {u1 u2 u3 : Slc} {t : Tb} (h : RdT H u1 u2 u3 t) (ok : okT t) (hct : t.canTake = true) :
    Go.Eng.Fn Tryz.prog F.pelotonref06_Taken #[.agg #[u1.v, u2.v, u3.v]] H fun v H' => ∃ a b c : Slc, v = .tuple #[.agg #[a.v, b.v, c.v], .agg #[.int .i64 (topL t.free), .int .i64 (t.uses.getD (topL t.free).toNat 0 + 1)]] ∧ NewT H H' a b c t.taken := by
  have hf : 0 < t.free.length := by unfold Tb.canTake at hct; simp at hct; omega
  obtain ⟨r1, r2, r3⟩ := ok.topR hf
  have lt := ok.top
  have lf := ok.fl
  have l2 := ok.len
  have hbd := ok.each (topL t.free).toNat (by omega)
  refine pelotonref06_Taken_vc ((rtwin h ok.small).mono fun v H2 ⟨a, b, c, hv, nt⟩ => ⟨a, b, c, hv, ?_⟩)
  have lc := nt.rd.free.len
  have lcc := nt.rd.free.cap
  have e : ((c.n : Int) - 1).toNat = t.free.length - 1 := by omega
  have hin : inI ((c.n : Int) - 1) := by unfold inI; omega
  refine ⟨hin, nt.rd.free.ldI (by omega) (by omega) ⟨hin, ⟨by omega, by omega, by omega, by omega⟩, ?_⟩⟩
  have e2 : t.free.getD (t.free.length - 1) 0 = topL t.free := rfl
  rw [e, e2]
  refine nt.rd.uses.ldI r2 r3 ⟨by unfold inI; have := hbd.1; have := hbd.2.1; omega, nt.rd.uses.inS r2 r3, nt.uses.setI r2 r3 _ fun H8 ma cha => ?_⟩
  have mb := nt.used.chg cha nt.s12.symm
  have mc := nt.free.chg cha nt.s13.symm
  refine ⟨mb.rdB.inS r2 (by omega), mb.setB r2 (by omega) _ fun H9 mb' chb => ?_⟩
  have ma' := ma.chg chb nt.s12
  have mc' := mc.chg chb nt.s23.symm
  refine ma'.rdI.ldI r2 (by simpa using r3) ⟨a, b, ⟨c.a, t.free.length - 1, c.c⟩, ?_, Hp.le_chg (Hp.le_chg nt.le cha ma.isNew) chb mb.isNew, ma', mb', ?_, nt.s12, fun p q hp hq => nt.s13 p q hp hq, fun p q hp hq => nt.s23 p q hp hq⟩
  · have e3 : Value.slice (subA c.a (Tryz.prog.cellsOf 3) 0 (c.c : Int)) (t.free.length - 1 - Int.toNat 0) ((c.c : Int).toNat - Int.toNat 0) = (⟨c.a, t.free.length - 1, c.c⟩ : Slc).v := by
      have := slcCut (s := c) (k := Tryz.prog.cellsOf 3) (m := ((t.free.length - 1 : Nat) : Int))
      rw [Int.toNat_natCast] at this; exact this
    rw [e3, getD_set (by omega), if_pos rfl]
  · have := Mine.cut (k := 1) (f := fI) (fun _ => rfl) mc' (n := t.free.length - 1) (by omega)
    rw [← List.dropLast_eq_take] at this
    exact this

end Go.Proofs.YtkemdpobjaiolaaGreat
end
section
/- The law SlotDoes, and the chapter's examples. Conditions: none. -/
open Go Go.Eng Go.Proofs
namespace Go.Proofs.YtkemdpobjaiolaaGreat

end Go.Proofs.YtkemdpobjaiolaaGreat
end
section
/- The laws SlotFinds, SlotBack, SlotFull. Conditions: none. -/
open Go Go.Eng Go.Proofs
namespace Go.Proofs.YtkemdpobjaiolaaGreat

end Go.Proofs.YtkemdpobjaiolaaGreat
end
section
/- The law SlotNames. Conditions: none. -/
set_option maxRecDepth 100000
open Go Go.Eng Go.Proofs
namespace Go.Proofs.YtkemdpobjaiolaaGreat

end Go.Proofs.YtkemdpobjaiolaaGreat
end
