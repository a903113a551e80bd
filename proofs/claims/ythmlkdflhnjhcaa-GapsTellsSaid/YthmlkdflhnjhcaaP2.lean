/- The engine, parts S2, S3, S4, S5, put together. Conditions: none. -/
import Derived.Test.YthmlkdflhnjhcaaP1
import Derived.Test.YthmlkdflhnjhcaaVgSlot
import Derived.Test.YthmlkdflhnjhcaaFs
import Derived.Test.YthmlkdflhnjhcaaE4
set_option linter.unusedVariables false
section
/- Contracts of slot.New, Has, Take, Give, Room and of the same ones of pelotonref06. Conditions: none. -/
open Go Go.Eng Go.Proofs
namespace Go.Proofs.Ythmlkdflhnjhcaa

theorem beginT_free {n : Nat} {ys : List Int} (hl : ys.length = n) (h : ∀ i : Nat, i < n → ys[i]? = some ((n : Int) - 1 - i)) : ys = (beginT n).free := by
  apply List.ext_getElem?
  intro i
  simp only [beginT, List.getElem?_map]
  by_cases hi : i < n
  · rw [h i hi]; simp [hi]
  · rw [List.getElem?_eq_none (by omega), List.getElem?_eq_none (by simpa using hi)]; rfl

theorem made_mine {α : Type} {f : α → List Value} {g : α → Value} {e : TypeId} {H H' : Hp} {b : Nat} (hf : ∀ x, f x = [g x]) {n : Int} {z : α} {c : Array Value} (hb : H b = none) (hH : H' = H.put b (.cells c e (0, 0))) (hc : c = (List.replicate n.toNat [g z]).flatten.toArray) :
    Mine 1 f e H H' ⟨some ⟨b, 0, none⟩, n.toNat, n.toNat⟩ (List.replicate n.toNat z) := by
  subst hH
  exact .inr ⟨b, hb, Own.made hf hc⟩

theorem slotNew {H : Hp} {n : Int} :
    Go.Eng.Fn Try.prog F.slot_New #[.int .i64 n] H fun v H' => ∃ a b c : Slc, v = .tuple #[.agg #[a.v, b.v, c.v], .int .i64 (newM n).2] ∧ NewT H H' a b c (newM n).1 := by
  refine slot_New_vc ⟨fun hc => ⟨zs, zs, zs, ?_, ?_⟩, fun hc => ?_⟩
  · have : n < 1 ∨ n > 200 := by simpa using hc
    rw [newM, if_pos this]; rfl
  · have : n < 1 ∨ n > 200 := by simpa using hc
    rw [newM, if_pos this]; exact NewT.zero (Hp.le_refl _)
  · simp at hc
    have hm : ¬ (n < 1 ∨ n > 200) := by omega
    rw [newM, if_neg hm]
    obtain ⟨N, rfl⟩ : ∃ N : Nat, n = N := ⟨n.toNat, by omega⟩
    simp only [Int.toNat_natCast]
    have ok1 : okMk (N : Int) N 8 := ⟨rfl, by omega, by omega⟩
    refine ⟨ok1, fun b1 H2 hb1 hH2 => ⟨⟨rfl, by omega, by omega⟩, fun b3 H4 hb3 hH4 => ⟨ok1, fun b5 H6 hb5 hH6 => ?_⟩⟩⟩
    have m1 := made_mine (g := fun x => Value.int .i64 x) (e := 3) hfI (n := (N : Int)) (z := 0) hb1 hH2 rfl
    have m2 := made_mine (g := fun x => Value.bool x) (e := 4) hfB (n := (N : Int)) (z := false) hb3 hH4 rfl
    have m3 := made_mine (g := fun x => Value.int .i64 x) (e := 3) hfI (n := (N : Int)) (z := 0) hb5 hH6 rfl
    simp only [Int.toNat_natCast] at m1 m2 m3
    have l1 : Hp.le H H2 := Hp.le_new (Hp.le_refl _) hb1 hH2
    have l2 : Hp.le H2 H4 := Hp.le_new (Hp.le_refl _) hb3 hH4
    have l3 : Hp.le H4 H6 := Hp.le_new (Hp.le_refl _) hb5 hH6
    have s12 := Sep.of m1.isOld m2.isNew
    have s13 := Sep.of (m1.isOld.le l2) m3.isNew
    have s23 := Sep.of m2.isOld m3.isNew
    refine uptoH (N := (N : Int)) (J := fun m H10 => Hp.le H H10 ∧ Mine 1 fI 3 H H10 ⟨some ⟨b1, 0, none⟩, N, N⟩ (List.replicate N 0) ∧ Mine 1 fB 4 H H10 ⟨some ⟨b3, 0, none⟩, N, N⟩ (List.replicate N false) ∧
      ∃ ys : List Int, Mine 1 fI 3 H H10 ⟨some ⟨b5, 0, none⟩, N, N⟩ ys ∧ ys.length = N ∧ ∀ i : Nat, i < m → ys[i]? = some ((N : Int) - 1 - i)) (by omega)
      ⟨Hp.le_trans l1 (Hp.le_trans l2 l3), (m1.le l2).le l3, (m2.low l1).le l3, _, (m3.low l2).low l1, by simp, fun i hi => by omega⟩ fun m H10 h0 h1 ⟨j1, j2, j3, ys, j4, j5, j6⟩ => ⟨fun hm => ?_, fun hm => ?_⟩
    · have hm : m < N := by simpa using hm
      refine ⟨by unfold inI; omega, by unfold inI; omega, ⟨h0, by omega, rfl⟩, j4.setI h0 (by omega) _ fun H' m' ch => uptoH.nx h0 hm (by omega) ⟨Hp.le_chg j1 ch m'.isNew, j2.chg ch s13, j3.chg ch s23, _, m', by simpa using j5, fun i hi => ?_⟩⟩
      rw [List.getElem?_set]
      by_cases e : m.toNat = i
      · rw [if_pos e, if_pos (by omega)]; congr 1; omega
      · rw [if_neg e]; exact j6 i (by omega)
    · have hm : m = N := by have : ¬ m < N := by simpa using hm
                            omega
      subst hm
      have e := beginT_free j5 fun i hi => j6 i (by omega)
      subst e
      exact ⟨_, _, _, rfl, j1, j2, j3, j4, s12, s13, s23⟩

theorem live_eq {t : Tb} {i u : Int} {n m : Nat} (h1 : n = t.uses.length) (c : Bool) (x : Int) (hc : c = t.used.getD i.toNat false) (hx : x = t.uses.getD i.toNat 0) :
    (decide (i ≥ 0) && decide (i < (n : Int)) && c && x == u) = t.live i u := by
  subst h1; subst hc; subst hx; rfl

theorem slotHas {H : Hp} {u1 u2 u3 : Slc} {t : Tb} {i u : Int} (h : RdT H u1 u2 u3 t) (hs : t.small) :
    Qf Try.prog F.slot_Has #[.agg #[u1.v, u2.v, u3.v], .agg #[.int .i64 i, .int .i64 u]] H (.tuple #[.bool (hasM t i u).1, .int .i64 (hasM t i u).2]) := by
  refine slot_Has_vc ⟨_, slotCheck h hs, fun hc => ⟨?_, Hp.le_refl _⟩, fun hc => ?_⟩
  · have hk : ¬ okT t := fun ok => by rw [chk_ok ok] at hc; simp at hc
    rw [chk_bad hk, hasM, if_neg hk]
  · have ok : okT t := chk_zero.1 (by simpa using hc)
    have l1 := h.used.len
    have l2 := h.uses.len
    have l3 := ok.len
    refine h.used.ldcB (fun hx => by simp at hx; omega) (h.uses.ldcI (fun hx => by simp at hx; omega) ⟨?_, Hp.le_refl _⟩)
    rw [hasM, if_pos ok]
    simp only [Tb.live, l1, l3]

theorem refLive {H : Hp} {u1 u2 u3 : Slc} {t : Tb} {i u : Int} (h : RdT H u1 u2 u3 t) (ok : okT t) :
    Qf Try.prog F.pelotonref06_Live #[.agg #[u1.v, u2.v, u3.v], .agg #[.int .i64 i, .int .i64 u]] H (.bool (t.live i u)) := by
  have l1 := h.used.len
  have l2 := h.uses.len
  have l3 := ok.len
  refine pelotonref06_Live_vc (h.used.ldcB (fun hx => by simp at hx; omega) (h.uses.ldcI (fun hx => by simp at hx; omega) ⟨?_, Hp.le_refl _⟩))
  simp only [Tb.live, l2]

theorem refGreat {H : Hp} {u1 u2 u3 : Slc} {t : Tb} (h : RdT H u1 u2 u3 t) :
    Qf Try.prog F.pelotonref06_Great #[.agg #[u1.v, u2.v, u3.v]] H (.bool (decide (t.uses.length > 210) || decide (t.used.length > 210) || decide (t.free.length > 210))) := by
  refine pelotonref06_Great_vc ⟨?_, Hp.le_refl _⟩
  rw [h.uses.len, h.used.len, h.free.len]
  have c : ∀ n : Nat, decide ((n : Int) > 210) = decide (n > 210) := fun n => by simp; omega
  rw [c, c, c]

theorem pop {H : Hp} {s : Slc} {xs : List Int} (h : RdI H s xs) (h0 : 0 < xs.length) (hl : xs.length ≤ 1000000) :
    Go.Eng.Fn Try.prog F.slot_stack_int_pop #[s.v] H fun v H' => ∃ u : Slc, v = .tuple #[u.v, .int .i64 (topL xs)] ∧ Hp.le H H' ∧ Mine 1 fI 3 H H' u xs.dropLast := by
  have ls := h.len
  have lc := h.cap
  have e : ((s.n : Int) - 1).toNat = xs.length - 1 := by omega
  refine slot_stack_int_pop_vc ⟨by unfold inI; omega, ⟨by omega, by omega, by omega, by omega⟩, h.ldI (by omega) (by omega) ?_⟩
  rw [slcCut, e, List.dropLast_eq_take]
  exact (clone_stack (h.cut (n := xs.length - 1) (c := s.c) (by omega) (by omega)) (by simp; omega)).mono fun v H' ⟨u, hv, hl, hm⟩ => ⟨hl, u, hv, u, rfl, hl, hm⟩

theorem push {H : Hp} {s : Slc} {xs : List Int} {x : Int} (h : RdI H s xs) (hl : xs.length ≤ 1000000) :
    Go.Eng.Fn Try.prog F.slot_stack_int_push #[s.v, .int .i64 x] H fun v H' => ∃ u : Slc, v = u.v ∧ Hp.le H H' ∧ Mine 1 fI 3 H H' u (xs ++ [x]) :=
  slot_stack_int_push_vc ((clone_stack h (by omega)).mono fun v H2 ⟨u, hv, hl2, hm⟩ => ⟨u, hv, fun b4 H5 hb hH =>
    (append1 (k := 1) (f := fI) (e := 3) (bytes := 8) (x := x) (by kernel_rfl) (by decide) (fun _ => rfl) (fun x v hv => by simp [fI] at hv; subst hv; rfl) hl2 hm hb hH rfl (by omega) (by omega)).mono
      fun v H' ⟨u', hv, g1, g2, g3, g4⟩ => ⟨u', hv, u', rfl, g1, g2⟩⟩)

theorem slotTake {H : Hp} {u1 u2 u3 : Slc} {t : Tb} (h : RdT H u1 u2 u3 t) (hs : t.small) :
    Go.Eng.Fn Try.prog F.slot_Take #[.agg #[u1.v, u2.v, u3.v]] H fun v H' => ∃ a b c : Slc, v = .tuple #[.agg #[a.v, b.v, c.v], .agg #[.int .i64 (takeM t).2.1, .int .i64 (takeM t).2.2.1], .int .i64 (takeM t).2.2.2] ∧ NewT H H' a b c (takeM t).1 := by
  refine slot_Take_vc ⟨_, slotCheck h hs, fun hc => ?_, fun hc => ?_⟩
  · have hk : ¬ okT t := fun ok => by rw [chk_ok ok] at hc; simp at hc
    rw [chk_bad hk, takeM, if_neg hk]
    exact ⟨zs, zs, zs, rfl, NewT.zero (Hp.le_refl _)⟩
  · have ok : okT t := chk_zero.1 (by simpa using hc)
    rw [takeM, if_pos ok]
    have l3 := h.free.len
    have lt := ok.top
    have lf := ok.fl
    have l2 := ok.len
    refine ⟨fun h0 => ?_, fun h0 => ?_⟩
    · have : t.canTake = false := by simp at h0; unfold Tb.canTake; rw [show t.free.length = 0 by omega]; rfl
      rw [this]
      exact ⟨zs, zs, zs, rfl, NewT.zero (Hp.le_refl _)⟩
    · have hf : 0 < t.free.length := by simp at h0; omega
      obtain ⟨r1, r2, r3⟩ := ok.topR hf
      refine (pop h.free hf (by omega)).mono fun v H3 ⟨u4, hv, le3, m4⟩ => ⟨u4, _, hv, (h.uses.le le3).ldI r2 r3 ⟨fun hu => ?_, fun hu => ?_⟩⟩
      · have : t.canTake = false := by
          have : t.uses.getD (topL t.free).toNat 0 = 1000000 := by simpa [-List.getD_eq_getElem?_getD] using hu
          unfold Tb.canTake; rw [this]; simp
        rw [this]
        exact ⟨zs, zs, zs, rfl, NewT.zero le3⟩
      · have hu' : t.uses.getD (topL t.free).toNat 0 ≠ 1000000 := by simpa [-List.getD_eq_getElem?_getD] using hu
        have hbd := ok.each (topL t.free).toNat (by omega)
        have : t.canTake = true := by unfold Tb.canTake; simp [-List.getD_eq_getElem?_getD]; omega
        rw [this]
        refine (twin (h.le le3) hs).mono fun v H8 ⟨a, b, hv, le8, ma, mb, sab⟩ => ⟨a, b, u3, hv, mb.rdB.inS r2 (by omega), mb.setB r2 (by omega) true fun H12 mb' chb => ?_⟩
        have ma' := ma.chg chb sab
        refine ma'.rdI.ldI r2 r3 ⟨by unfold inI; have := hbd.1; have := hbd.2.1; omega, ma'.rdI.inS r2 r3, ma'.setI r2 r3 _ fun H14 ma'' cha => ma''.rdI.ldI r2 (by simpa using r3) ?_⟩
        have mb'' := mb'.chg cha sab.symm
        have m4' := m4.le le8
        have sa4 : Sep u4 a := Sep.of m4.isOld ma.isNew
        have sb4 : Sep u4 b := Sep.of m4.isOld mb.isNew
        have m4'' := (m4'.chg chb sb4).chg cha sa4
        have le14 : Hp.le H3 H14 := Hp.le_chg (Hp.le_chg le8 chb mb.isNew) cha ma.isNew
        refine ⟨a, b, u4, ?_, Hp.le_trans le3 le14, ma''.low le3, mb''.low le3, m4'', sab, sa4.symm, sb4.symm⟩
        simp only [if_true]
        rw [getD_set (by omega), if_pos rfl]

theorem slotGive {H : Hp} {u1 u2 u3 : Slc} {t : Tb} {i u : Int} (h : RdT H u1 u2 u3 t) (hs : t.small) :
    Go.Eng.Fn Try.prog F.slot_Give #[.agg #[u1.v, u2.v, u3.v], .agg #[.int .i64 i, .int .i64 u]] H fun v H' => ∃ a b c : Slc, v = .tuple #[.agg #[a.v, b.v, c.v], .int .i64 (giveM t i u).2] ∧ NewT H H' a b c (giveM t i u).1 := by
  refine slot_Give_vc ⟨_, _, slotHas h hs, fun hc => ?_, fun hc => ?_⟩
  · have hk : ¬ okT t := fun ok => by rw [hasM, if_pos ok] at hc; simp at hc
    rw [hasM, giveM, if_neg hk, if_neg hk]
    exact ⟨zs, zs, zs, rfl, NewT.zero (Hp.le_refl _)⟩
  · have ok : okT t := Classical.byContradiction fun hk => by rw [hasM, if_neg hk] at hc; simp at hc
    rw [hasM, giveM, if_pos ok, if_pos ok]
    have lt := ok.top
    have lf := ok.fl
    have l2 := ok.len
    refine ⟨fun h0 => ?_, fun h0 => ?_⟩
    · have : t.live i u = false := by simpa using h0
      rw [this]
      exact ⟨zs, zs, zs, rfl, NewT.zero (Hp.le_refl _)⟩
    · have hv : t.live i u = true := by simpa using h0
      rw [hv]
      have hr : 0 ≤ i ∧ i < t.uses.length := by unfold Tb.live at hv; simp at hv; omega
      refine (twin h hs).mono fun v H4 ⟨a, b, hv, le4, ma, mb, sab⟩ => ⟨a, b, u3, hv, (push (h.free.le le4) (by omega)).mono fun v H9 ⟨c, hv, le9, mc⟩ => ⟨le9, c, hv, (mb.rdB.le le9).inS hr.1 (by omega), (mb.le le9).setB hr.1 (by omega) false fun H11 mb' chb => ?_⟩⟩
      have sac := Sep.of ma.isOld mc.isNew
      have sbc := Sep.of mb.isOld mc.isNew
      exact ⟨a, b, c, rfl, Hp.le_chg (Hp.le_trans le4 le9) chb mb.isNew, (ma.le le9).chg chb sab, mb', (mc.low le4).chg chb sbc.symm, sab, sac, sbc⟩

end Go.Proofs.Ythmlkdflhnjhcaa
end
section
/- The law SlotDoes, and the chapter's examples. Conditions: none. -/
open Go Go.Eng Go.Proofs
namespace Go.Proofs.Ythmlkdflhnjhcaa

end Go.Proofs.Ythmlkdflhnjhcaa
end
section
/- The laws SlotFinds, SlotBack, SlotFull. Conditions: none. -/
open Go Go.Eng Go.Proofs
namespace Go.Proofs.Ythmlkdflhnjhcaa

/-- What holds in the loop of SlotFinds. -/
structure FI (n : Int) (H H' : Hp) (ua ul a b c : Slc) (used k : Int) (t : Tb) (hs : List (Int × Int)) (ls : List Bool) : Prop where
  le : Hp.le H H'
  rd : RdT H' a b c t
  old : OldT H' a b c
  all : Mine 2 fH 67 H H' ua hs
  live : Mine 1 fB 4 H H' ul ls
  sep : Sep ua ul
  sa : SepT a b c ua
  sl : SepT a b c ul
  fin : FinT n t hs ls used k

end Go.Proofs.Ythmlkdflhnjhcaa
end
section
/- The law SlotNames. Conditions: none. -/
set_option maxRecDepth 100000
open Go Go.Eng Go.Proofs
namespace Go.Proofs.Ythmlkdflhnjhcaa

/-- The tables that are not valid. -/
def badT : List Tb := [
 ⟨[], [], []⟩,
  ⟨List.replicate 201 0, List.replicate 201 false, []⟩,
  ⟨[0], [false], []⟩,
  ⟨[0], [false], [1]⟩,
  ⟨[0], [false], [-1]⟩,
  ⟨[0], [false], [0, 0]⟩,
  ⟨[0], [true], []⟩,
  ⟨[1], [true], [0]⟩,
  ⟨[1000001], [true], []⟩,
  ⟨[-1], [false], [0]⟩,
  ⟨[0, 0], [false], [0, 1]⟩]
theorem badT_all : (badT.all fun t => decide (chk t = 8) && decide (t.uses.length ≤ 1000) && decide (t.used.length ≤ 1000) && decide (t.free.length ≤ 1000)) = true := by decide +kernel
theorem badT_at {i : Nat} {t : Tb} (h : badT[i]? = some t) : ¬ okT t ∧ t.small := by
  have := List.all_eq_true.1 badT_all t (List.mem_of_getElem? h)
  simp only [Bool.and_eq_true, decide_eq_true_eq] at this
  obtain ⟨⟨⟨h1, h2⟩, h3⟩, h4⟩ := this
  exact ⟨fun ok => (by rw [chk_ok ok] at h1; cases h1), by omega, by omega, by omega⟩

end Go.Proofs.Ythmlkdflhnjhcaa
end
