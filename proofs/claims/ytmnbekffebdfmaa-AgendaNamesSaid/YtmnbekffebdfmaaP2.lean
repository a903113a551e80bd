/- The engine, parts S2, S3, S4, S5, put together. Conditions: none. -/
import Derived.Test.YtmnbekffebdfmaaP1
import Derived.Test.YtmnbekffebdfmaaVgH06
import Derived.Test.YtmnbekffebdfmaaVgSlot
import Derived.Test.YtmnbekffebdfmaaFs
import Derived.Test.YtmnbekffebdfmaaE4
import Derived.Test.YtmnbekffebdfmaaVgLSlotDoes
import Derived.Test.YtmnbekffebdfmaaVgLSlotBack
import Derived.Test.YtmnbekffebdfmaaVgLSlotFinds
import Derived.Test.YtmnbekffebdfmaaVgLSlotFull
import Derived.Test.YtmnbekffebdfmaaVgLSlotNames
set_option linter.unusedVariables false
section
/- Contracts of slot.New, Has, Take, Give, Room and of the same ones of pelotonref06. Conditions: none. -/
open Go Go.Eng Go.Proofs
namespace Go.Proofs.Ytmnbekffebdfmaa

theorem beginT_free {n : Nat} {ys : List Int} (hl : ys.length = n) (h : ∀ i : Nat, i < n → ys[i]? = some ((n : Int) - 1 - i)) : ys = (beginT n).free := by
  apply List.ext_getElem?
  intro i
  simp only [beginT, List.getElem?_map]
  by_cases hi : i < n
  · rw [h i hi]; simp [hi]
  · rw [List.getElem?_eq_none (by omega), List.getElem?_eq_none (by simpa using hi)]; rfl

theorem made_mine {α : Type} {f : α → List Value} {g : α → Value} {e : TypeId} {H H' : Hp} {b : Nat} (hf : ∀ x, f x = [g x]) {n : Int} {z : α} {c : Array Value} (hb : H b = none) (hH : H' = H.put b (.cells c e (0, 0))) (hc : c = (List.replicate n.toNat [g z]).flatten.toArray) :
    Mine 1 f e H H' ⟨some ⟨b, 0, none⟩, n.toNat, n.toNat⟩ (List.replicate n.toNat z) := by
  subst hH
  exact .inr ⟨b, hb, Own.made hf hc⟩

theorem slotNew {H : Hp} {n : Int} :
    Go.Eng.Fn Try.prog F.slot_New #[.int .i64 n] H fun v H' => ∃ a b c : Slc, v = .tuple #[.agg #[a.v, b.v, c.v], .int .i64 (newM n).2] ∧ NewT H H' a b c (newM n).1 := by
  refine slot_New_vc ⟨fun hc => ⟨zs, zs, zs, ?_, ?_⟩, fun hc => ?_⟩
  · have : n < 1 ∨ n > 200 := by simpa using hc
    rw [newM, if_pos this]; rfl
  · have : n < 1 ∨ n > 200 := by simpa using hc
    rw [newM, if_pos this]; exact NewT.zero (Hp.le_refl _)
  · simp at hc
    have hm : ¬ (n < 1 ∨ n > 200) := by omega
    rw [newM, if_neg hm]
    obtain ⟨N, rfl⟩ : ∃ N : Nat, n = N := ⟨n.toNat, by omega⟩
    simp only [Int.toNat_natCast]
    have ok1 : okMk (N : Int) N 8 := ⟨rfl, by omega, by omega⟩
    refine ⟨ok1, fun b1 H2 hb1 hH2 => ⟨⟨rfl, by omega, by omega⟩, fun b3 H4 hb3 hH4 => ⟨ok1, fun b5 H6 hb5 hH6 => ?_⟩⟩⟩
    have m1 := made_mine (g := fun x => Value.int .i64 x) (e := 3) hfI (n := (N : Int)) (z := 0) hb1 hH2 rfl
    have m2 := made_mine (g := fun x => Value.bool x) (e := 4) hfB (n := (N : Int)) (z := false) hb3 hH4 rfl
    have m3 := made_mine (g := fun x => Value.int .i64 x) (e := 3) hfI (n := (N : Int)) (z := 0) hb5 hH6 rfl
    simp only [Int.toNat_natCast] at m1 m2 m3
    have l1 : Hp.le H H2 := Hp.le_new (Hp.le_refl _) hb1 hH2
    have l2 : Hp.le H2 H4 := Hp.le_new (Hp.le_refl _) hb3 hH4
    have l3 : Hp.le H4 H6 := Hp.le_new (Hp.le_refl _) hb5 hH6
    have s12 := Sep.of m1.isOld m2.isNew
    have s13 := Sep.of (m1.isOld.le l2) m3.isNew
    have s23 := Sep.of m2.isOld m3.isNew
    refine uptoH (N := (N : Int)) (J := fun m H10 => Hp.le H H10 ∧ Mine 1 fI 3 H H10 ⟨some ⟨b1, 0, none⟩, N, N⟩ (List.replicate N 0) ∧ Mine 1 fB 4 H H10 ⟨some ⟨b3, 0, none⟩, N, N⟩ (List.replicate N false) ∧
      ∃ ys : List Int, Mine 1 fI 3 H H10 ⟨some ⟨b5, 0, none⟩, N, N⟩ ys ∧ ys.length = N ∧ ∀ i : Nat, i < m → ys[i]? = some ((N : Int) - 1 - i)) (by omega)
      ⟨Hp.le_trans l1 (Hp.le_trans l2 l3), (m1.le l2).le l3, (m2.low l1).le l3, _, (m3.low l2).low l1, by simp, fun i hi => by omega⟩ fun m H10 h0 h1 ⟨j1, j2, j3, ys, j4, j5, j6⟩ => ⟨fun hm => ?_, fun hm => ?_⟩
    · have hm : m < N := by simpa using hm
      refine ⟨by unfold inI; omega, by unfold inI; omega, ⟨h0, by omega, rfl⟩, j4.setI h0 (by omega) _ fun H' m' ch => uptoH.nx h0 hm (by omega) ⟨Hp.le_chg j1 ch m'.isNew, j2.chg ch s13, j3.chg ch s23, _, m', by simpa using j5, fun i hi => ?_⟩⟩
      rw [List.getElem?_set]
      by_cases e : m.toNat = i
      · rw [if_pos e, if_pos (by omega)]; congr 1; omega
      · rw [if_neg e]; exact j6 i (by omega)
    · have hm : m = N := by have : ¬ m < N := by simpa using hm
                            omega
      subst hm
      have e := beginT_free j5 fun i hi => j6 i (by omega)
      subst e
      exact ⟨_, _, _, rfl, j1, j2, j3, j4, s12, s13, s23⟩

theorem refBegin {H : Hp} {N : Nat} (h1 : 1 ≤ N) (h2 : N ≤ 200) :
    Go.Eng.Fn Try.prog F.pelotonref06_Begin #[.int .i64 N] H fun v H' => ∃ a b c : Slc, v = .agg #[a.v, b.v, c.v] ∧ NewT H H' a b c (beginT N) := by
  refine pelotonref06_Begin_vc ⟨⟨rfl, by omega, by omega⟩, fun b1 H2 hb1 hH2 => ⟨⟨rfl, by omega, by omega⟩, fun b3 H4 hb3 hH4 => ⟨by unfold inI; omega, ?_⟩⟩⟩
  have m1 := made_mine (g := fun x => Value.int .i64 x) (e := 3) hfI (n := (N : Int)) (z := 0) hb1 hH2 rfl
  have m2 := made_mine (g := fun x => Value.bool x) (e := 4) hfB (n := (N : Int)) (z := false) hb3 hH4 rfl
  simp only [Int.toNat_natCast] at m1 m2 ⊢
  have l1 : Hp.le H H2 := Hp.le_new (Hp.le_refl _) hb1 hH2
  have l2 : Hp.le H2 H4 := Hp.le_new (Hp.le_refl _) hb3 hH4
  have s12 := Sep.of m1.isOld m2.isNew
  refine ⟨fun m u8 u9 u10 H11 => u8 = ⟨some ⟨b1, 0, none⟩, N, N⟩ ∧ u9 = ⟨some ⟨b3, 0, none⟩, N, N⟩ ∧ -1 ≤ m ∧ m < N ∧ Hp.le H H11 ∧ Mine 1 fI 3 H H11 u8 (List.replicate N 0) ∧ Mine 1 fB 4 H H11 u9 (List.replicate N false) ∧ Sep u10 u8 ∧ Sep u10 u9 ∧
      ∃ ys : List Int, Mine 1 fI 3 H H11 u10 ys ∧ (ys.length : Int) = N - 1 - m ∧ ∀ i : Nat, i < ys.length → ys[i]? = some ((N : Int) - 1 - i), fun m _ _ _ _ => (m + 1).toNat,
    ⟨rfl, rfl, by omega, by omega, Hp.le_trans l1 l2, m1.le l2, m2.low l1, Sep.symm Sep.nil, Sep.symm Sep.nil, [], .inl ⟨rfl, rfl⟩, by simp, fun i hi => by simp at hi⟩,
    fun m u8 u9 u10 H11 ⟨e8, e9, j0, j1, j2, j3, j4, j5, j6, ys, j7, j8, j9⟩ => ⟨fun hm b12 H13 hb12 hH13 => ?_, fun hm => ?_⟩⟩
  · have hm : m ≥ 0 := by simpa using hm
    refine (append1 (k := 1) (f := fI) (e := 3) (bytes := 8) (x := m) (by kernel_rfl) (by decide) (fun _ => rfl) (fun x v hv => by simp [fI] at hv; subst hv; rfl) j2 j7 hb12 hH13 rfl (by omega) (by omega)).mono
      fun v H' ⟨u', hv, g1, g2, g3, g4⟩ => ⟨u', hv, by unfold inI; omega, ⟨e8, e9, by omega, by omega, g1, j3.chg g3 j5.symm, j4.chg g3 j6.symm, j5.ext j3.isOld g4, j6.ext j4.isOld g4, _, g2, by simp; omega, fun i hi => ?_⟩, by show (m - 1 + 1).toNat < (m + 1).toNat; omega⟩
    rw [List.getElem?_append]
    split
    · rename_i h; exact j9 i h
    · rename_i h
      have : i = ys.length := by simp at hi; omega
      subst this
      simp; omega
  · have hm : m = -1 := by have : ¬ m ≥ 0 := by simpa using hm
                           omega
    subst hm
    have hl : ys.length = N := by omega
    have e := beginT_free hl fun i hi => j9 i (by omega)
    subst e
    subst e8; subst e9
    exact ⟨_, _, _, rfl, j2, j3, j4, j7, s12, j5.symm, j6.symm⟩

theorem refNew {H : Hp} {n : Int} :
    Go.Eng.Fn Try.prog F.pelotonref06_New #[.int .i64 n] H fun v H' => ∃ a b c : Slc, v = .tuple #[.agg #[a.v, b.v, c.v], .int .i64 (newM n).2] ∧ NewT H H' a b c (newM n).1 := by
  refine pelotonref06_New_vc ⟨fun hc => ⟨zs, zs, zs, ?_, ?_⟩, fun hc => ?_⟩
  · have : n < 1 ∨ n > 200 := by simpa using hc
    rw [newM, if_pos this]; rfl
  · have : n < 1 ∨ n > 200 := by simpa using hc
    rw [newM, if_pos this]; exact NewT.zero (Hp.le_refl _)
  · simp at hc
    have hm : ¬ (n < 1 ∨ n > 200) := by omega
    rw [newM, if_neg hm]
    obtain ⟨N, rfl⟩ : ∃ N : Nat, n = N := ⟨n.toNat, by omega⟩
    simp only [Int.toNat_natCast]
    exact (refBegin (by omega) (by omega)).mono fun v H' ⟨a, b, c, hv, hn⟩ => ⟨a, b, c, hv, a, b, c, rfl, hn⟩

theorem live_eq {t : Tb} {i u : Int} {n m : Nat} (h1 : n = t.uses.length) (c : Bool) (x : Int) (hc : c = t.used.getD i.toNat false) (hx : x = t.uses.getD i.toNat 0) :
    (decide (i ≥ 0) && decide (i < (n : Int)) && c && x == u) = t.live i u := by
  subst h1; subst hc; subst hx; rfl

theorem slotHas {H : Hp} {u1 u2 u3 : Slc} {t : Tb} {i u : Int} (h : RdT H u1 u2 u3 t) (hs : t.small) :
    Qf Try.prog F.slot_Has #[.agg #[u1.v, u2.v, u3.v], .agg #[.int .i64 i, .int .i64 u]] H (.tuple #[.bool (hasM t i u).1, .int .i64 (hasM t i u).2]) := by
  refine slot_Has_vc ⟨_, slotCheck h hs, fun hc => ⟨?_, Hp.le_refl _⟩, fun hc => ?_⟩
  · have hk : ¬ okT t := fun ok => by rw [chk_ok ok] at hc; simp at hc
    rw [chk_bad hk, hasM, if_neg hk]
  · have ok : okT t := chk_zero.1 (by simpa using hc)
    have l1 := h.used.len
    have l2 := h.uses.len
    have l3 := ok.len
    refine h.used.ldcB (fun hx => by simp at hx; omega) (h.uses.ldcI (fun hx => by simp at hx; omega) ⟨?_, Hp.le_refl _⟩)
    rw [hasM, if_pos ok]
    simp only [Tb.live, l1, l3]

theorem refLive {H : Hp} {u1 u2 u3 : Slc} {t : Tb} {i u : Int} (h : RdT H u1 u2 u3 t) (ok : okT t) :
    Qf Try.prog F.pelotonref06_Live #[.agg #[u1.v, u2.v, u3.v], .agg #[.int .i64 i, .int .i64 u]] H (.bool (t.live i u)) := by
  have l1 := h.used.len
  have l2 := h.uses.len
  have l3 := ok.len
  refine pelotonref06_Live_vc (h.used.ldcB (fun hx => by simp at hx; omega) (h.uses.ldcI (fun hx => by simp at hx; omega) ⟨?_, Hp.le_refl _⟩))
  simp only [Tb.live, l2]

theorem refHas {H : Hp} {u1 u2 u3 : Slc} {t : Tb} {i u : Int} (h : RdT H u1 u2 u3 t) (hs : t.small) :
    Qf Try.prog F.pelotonref06_Has #[.agg #[u1.v, u2.v, u3.v], .agg #[.int .i64 i, .int .i64 u]] H (.tuple #[.bool (hasM t i u).1, .int .i64 (hasM t i u).2]) := by
  refine pelotonref06_Has_vc ⟨_, rcheck h hs, fun hc => ⟨?_, Hp.le_refl _⟩, fun hc => ?_⟩
  · have hk : ¬ okT t := fun ok => by rw [chk_ok ok] at hc; simp at hc
    rw [hasM, if_neg hk]
  · have ok : okT t := chk_zero.1 (by simpa using hc)
    exact ⟨_, refLive h ok, by rw [hasM, if_pos ok], Hp.le_refl _⟩

theorem slotRoom {H : Hp} {u1 u2 u3 : Slc} {t : Tb} (h : RdT H u1 u2 u3 t) (hs : t.small) :
    Qf Try.prog F.slot_Room #[.agg #[u1.v, u2.v, u3.v]] H (.tuple #[.int .i64 (roomM t).1, .int .i64 (roomM t).2]) := by
  refine slot_Room_vc ⟨_, slotCheck h hs, fun hc => ⟨?_, Hp.le_refl _⟩, fun hc => ⟨?_, Hp.le_refl _⟩⟩
  · have hk : ¬ okT t := fun ok => by rw [chk_ok ok] at hc; simp at hc
    rw [chk_bad hk, roomM, if_neg hk]
  · have ok : okT t := chk_zero.1 (by simpa using hc)
    rw [roomM, if_pos ok, h.free.len]

theorem refRoom {H : Hp} {u1 u2 u3 : Slc} {t : Tb} (h : RdT H u1 u2 u3 t) (hs : t.small) :
    Qf Try.prog F.pelotonref06_Room #[.agg #[u1.v, u2.v, u3.v]] H (.tuple #[.int .i64 (roomM t).1, .int .i64 (roomM t).2]) := by
  refine pelotonref06_Room_vc ⟨_, rcheck h hs, fun hc => ⟨?_, Hp.le_refl _⟩, fun hc => ⟨?_, Hp.le_refl _⟩⟩
  · have hk : ¬ okT t := fun ok => by rw [chk_ok ok] at hc; simp at hc
    rw [roomM, if_neg hk]
  · have ok : okT t := chk_zero.1 (by simpa using hc)
    rw [roomM, if_pos ok, h.free.len]

theorem refOpen {H : Hp} {u1 u2 u3 : Slc} {t : Tb} (h : RdT H u1 u2 u3 t) (ok : okT t) :
    Qf Try.prog F.pelotonref06_Open #[.agg #[u1.v, u2.v, u3.v]] H (.bool t.canTake) := by
  have l3 := h.free.len
  have hs := ok.fl
  have ht := ok.top
  have e : ((u3.n : Int) - 1).toNat = t.free.length - 1 := by omega
  refine pelotonref06_Open_vc ⟨fun _ => by unfold inI; omega, h.free.ldcI (fun hx => by simp at hx; omega) ?_⟩
  rw [e]
  refine h.uses.ldcI (fun hx => (ok.topR (by simp at hx; omega)).2) ⟨?_, Hp.le_refl _⟩
  have : decide ((u3.n : Int) > 0) = decide (0 < t.free.length) := by simp; omega
  rw [this]
  rfl

theorem refGreat {H : Hp} {u1 u2 u3 : Slc} {t : Tb} (h : RdT H u1 u2 u3 t) :
    Qf Try.prog F.pelotonref06_Great #[.agg #[u1.v, u2.v, u3.v]] H (.bool (decide (t.uses.length > 210) || decide (t.used.length > 210) || decide (t.free.length > 210))) := by
  refine pelotonref06_Great_vc ⟨?_, Hp.le_refl _⟩
  rw [h.uses.len, h.used.len, h.free.len]
  have c : ∀ n : Nat, decide ((n : Int) > 210) = decide (n > 210) := fun n => by simp; omega
  rw [c, c, c]

theorem pop {H : Hp} {s : Slc} {xs : List Int} (h : RdI H s xs) (h0 : 0 < xs.length) (hl : xs.length ≤ 1000000) :
    Go.Eng.Fn Try.prog F.slot_stack_int_pop #[s.v] H fun v H' => ∃ u : Slc, v = .tuple #[u.v, .int .i64 (topL xs)] ∧ Hp.le H H' ∧ Mine 1 fI 3 H H' u xs.dropLast := by
  have ls := h.len
  have lc := h.cap
  have e : ((s.n : Int) - 1).toNat = xs.length - 1 := by omega
  refine slot_stack_int_pop_vc ⟨by unfold inI; omega, ⟨by omega, by omega, by omega, by omega⟩, h.ldI (by omega) (by omega) ?_⟩
  rw [slcCut, e, List.dropLast_eq_take]
  exact (clone_stack (h.cut (n := xs.length - 1) (c := s.c) (by omega) (by omega)) (by simp; omega)).mono fun v H' ⟨u, hv, hl, hm⟩ => ⟨hl, u, hv, u, rfl, hl, hm⟩

theorem push {H : Hp} {s : Slc} {xs : List Int} {x : Int} (h : RdI H s xs) (hl : xs.length ≤ 1000000) :
    Go.Eng.Fn Try.prog F.slot_stack_int_push #[s.v, .int .i64 x] H fun v H' => ∃ u : Slc, v = u.v ∧ Hp.le H H' ∧ Mine 1 fI 3 H H' u (xs ++ [x]) :=
  slot_stack_int_push_vc ((clone_stack h (by omega)).mono fun v H2 ⟨u, hv, hl2, hm⟩ => ⟨u, hv, fun b4 H5 hb hH =>
    (append1 (k := 1) (f := fI) (e := 3) (bytes := 8) (x := x) (by kernel_rfl) (by decide) (fun _ => rfl) (fun x v hv => by simp [fI] at hv; subst hv; rfl) hl2 hm hb hH rfl (by omega) (by omega)).mono
      fun v H' ⟨u', hv, g1, g2, g3, g4⟩ => ⟨u', hv, u', rfl, g1, g2⟩⟩)

theorem slotTake {H : Hp} {u1 u2 u3 : Slc} {t : Tb} (h : RdT H u1 u2 u3 t) (hs : t.small) :
    Go.Eng.Fn Try.prog F.slot_Take #[.agg #[u1.v, u2.v, u3.v]] H fun v H' => ∃ a b c : Slc, v = .tuple #[.agg #[a.v, b.v, c.v], .agg #[.int .i64 (takeM t).2.1, .int .i64 (takeM t).2.2.1], .int .i64 (takeM t).2.2.2] ∧ NewT H H' a b c (takeM t).1 := by
  refine slot_Take_vc ⟨_, slotCheck h hs, fun hc => ?_, fun hc => ?_⟩
  · have hk : ¬ okT t := fun ok => by rw [chk_ok ok] at hc; simp at hc
    rw [chk_bad hk, takeM, if_neg hk]
    exact ⟨zs, zs, zs, rfl, NewT.zero (Hp.le_refl _)⟩
  · have ok : okT t := chk_zero.1 (by simpa using hc)
    rw [takeM, if_pos ok]
    have l3 := h.free.len
    have lt := ok.top
    have lf := ok.fl
    have l2 := ok.len
    refine ⟨fun h0 => ?_, fun h0 => ?_⟩
    · have : t.canTake = false := by simp at h0; unfold Tb.canTake; rw [show t.free.length = 0 by omega]; rfl
      rw [this]
      exact ⟨zs, zs, zs, rfl, NewT.zero (Hp.le_refl _)⟩
    · have hf : 0 < t.free.length := by simp at h0; omega
      obtain ⟨r1, r2, r3⟩ := ok.topR hf
      refine (pop h.free hf (by omega)).mono fun v H3 ⟨u4, hv, le3, m4⟩ => ⟨u4, _, hv, (h.uses.le le3).ldI r2 r3 ⟨fun hu => ?_, fun hu => ?_⟩⟩
      · have : t.canTake = false := by
          have : t.uses.getD (topL t.free).toNat 0 = 1000000 := by simpa [-List.getD_eq_getElem?_getD] using hu
          unfold Tb.canTake; rw [this]; simp
        rw [this]
        exact ⟨zs, zs, zs, rfl, NewT.zero le3⟩
      · have hu' : t.uses.getD (topL t.free).toNat 0 ≠ 1000000 := by simpa [-List.getD_eq_getElem?_getD] using hu
        have hbd := ok.each (topL t.free).toNat (by omega)
        have : t.canTake = true := by unfold Tb.canTake; simp [-List.getD_eq_getElem?_getD]; omega
        rw [this]
        refine (twin (h.le le3) hs).mono fun v H8 ⟨a, b, hv, le8, ma, mb, sab⟩ => ⟨a, b, u3, hv, mb.rdB.inS r2 (by omega), mb.setB r2 (by omega) true fun H12 mb' chb => ?_⟩
        have ma' := ma.chg chb sab
        refine ma'.rdI.ldI r2 r3 ⟨by unfold inI; have := hbd.1; have := hbd.2.1; omega, ma'.rdI.inS r2 r3, ma'.setI r2 r3 _ fun H14 ma'' cha => ma''.rdI.ldI r2 (by simpa using r3) ?_⟩
        have mb'' := mb'.chg cha sab.symm
        have m4' := m4.le le8
        have sa4 : Sep u4 a := Sep.of m4.isOld ma.isNew
        have sb4 : Sep u4 b := Sep.of m4.isOld mb.isNew
        have m4'' := (m4'.chg chb sb4).chg cha sa4
        have le14 : Hp.le H3 H14 := Hp.le_chg (Hp.le_chg le8 chb mb.isNew) cha ma.isNew
        refine ⟨a, b, u4, ?_, Hp.le_trans le3 le14, ma''.low le3, mb''.low le3, m4'', sab, sa4.symm, sb4.symm⟩
        simp only [if_true]
        rw [getD_set (by omega), if_pos rfl]

theorem slotGive {H : Hp} {u1 u2 u3 : Slc} {t : Tb} {i u : Int} (h : RdT H u1 u2 u3 t) (hs : t.small) :
    Go.Eng.Fn Try.prog F.slot_Give #[.agg #[u1.v, u2.v, u3.v], .agg #[.int .i64 i, .int .i64 u]] H fun v H' => ∃ a b c : Slc, v = .tuple #[.agg #[a.v, b.v, c.v], .int .i64 (giveM t i u).2] ∧ NewT H H' a b c (giveM t i u).1 := by
  refine slot_Give_vc ⟨_, _, slotHas h hs, fun hc => ?_, fun hc => ?_⟩
  · have hk : ¬ okT t := fun ok => by rw [hasM, if_pos ok] at hc; simp at hc
    rw [hasM, giveM, if_neg hk, if_neg hk]
    exact ⟨zs, zs, zs, rfl, NewT.zero (Hp.le_refl _)⟩
  · have ok : okT t := Classical.byContradiction fun hk => by rw [hasM, if_neg hk] at hc; simp at hc
    rw [hasM, giveM, if_pos ok, if_pos ok]
    have lt := ok.top
    have lf := ok.fl
    have l2 := ok.len
    refine ⟨fun h0 => ?_, fun h0 => ?_⟩
    · have : t.live i u = false := by simpa using h0
      rw [this]
      exact ⟨zs, zs, zs, rfl, NewT.zero (Hp.le_refl _)⟩
    · have hv : t.live i u = true := by simpa using h0
      rw [hv]
      have hr : 0 ≤ i ∧ i < t.uses.length := by unfold Tb.live at hv; simp at hv; omega
      refine (twin h hs).mono fun v H4 ⟨a, b, hv, le4, ma, mb, sab⟩ => ⟨a, b, u3, hv, (push (h.free.le le4) (by omega)).mono fun v H9 ⟨c, hv, le9, mc⟩ => ⟨le9, c, hv, (mb.rdB.le le9).inS hr.1 (by omega), (mb.le le9).setB hr.1 (by omega) false fun H11 mb' chb => ?_⟩⟩
      have sac := Sep.of ma.isOld mc.isNew
      have sbc := Sep.of mb.isOld mc.isNew
      exact ⟨a, b, c, rfl, Hp.le_chg (Hp.le_trans le4 le9) chb mb.isNew, (ma.le le9).chg chb sab, mb', (mc.low le4).chg chb sbc.symm, sab, sac, sbc⟩

theorem refTaken {H : Hp} {u1 u2 u3 : Slc} {t : Tb} (h : RdT H u1 u2 u3 t) (ok : okT t) (hct : t.canTake = true) :
    Go.Eng.Fn Try.prog F.pelotonref06_Taken #[.agg #[u1.v, u2.v, u3.v]] H fun v H' => ∃ a b c : Slc, v = .tuple #[.agg #[a.v, b.v, c.v], .agg #[.int .i64 (topL t.free), .int .i64 (t.uses.getD (topL t.free).toNat 0 + 1)]] ∧ NewT H H' a b c t.taken := by
  have hf : 0 < t.free.length := by unfold Tb.canTake at hct; simp at hct; omega
  obtain ⟨r1, r2, r3⟩ := ok.topR hf
  have lt := ok.top
  have lf := ok.fl
  have l2 := ok.len
  have hbd := ok.each (topL t.free).toNat (by omega)
  refine pelotonref06_Taken_vc ((rtwin h ok.small).mono fun v H2 ⟨a, b, c, hv, nt⟩ => ⟨a, b, c, hv, ?_⟩)
  have lc := nt.rd.free.len
  have lcc := nt.rd.free.cap
  have e : ((c.n : Int) - 1).toNat = t.free.length - 1 := by omega
  have hin : inI ((c.n : Int) - 1) := by unfold inI; omega
  refine ⟨hin, nt.rd.free.ldI (by omega) (by omega) ⟨hin, ⟨by omega, by omega, by omega, by omega⟩, ?_⟩⟩
  have e2 : t.free.getD (t.free.length - 1) 0 = topL t.free := rfl
  rw [e, e2]
  refine nt.rd.uses.ldI r2 r3 ⟨by unfold inI; have := hbd.1; have := hbd.2.1; omega, nt.rd.uses.inS r2 r3, nt.uses.setI r2 r3 _ fun H8 ma cha => ?_⟩
  have mb := nt.used.chg cha nt.s12.symm
  have mc := nt.free.chg cha nt.s13.symm
  refine ⟨mb.rdB.inS r2 (by omega), mb.setB r2 (by omega) _ fun H9 mb' chb => ?_⟩
  have ma' := ma.chg chb nt.s12
  have mc' := mc.chg chb nt.s23.symm
  refine ma'.rdI.ldI r2 (by simpa using r3) ⟨a, b, ⟨c.a, t.free.length - 1, c.c⟩, ?_, Hp.le_chg (Hp.le_chg nt.le cha ma.isNew) chb mb.isNew, ma', mb', ?_, nt.s12, fun p q hp hq => nt.s13 p q hp hq, fun p q hp hq => nt.s23 p q hp hq⟩
  · have e3 : Value.slice (subA c.a (Try.prog.cellsOf 3) 0 (c.c : Int)) (t.free.length - 1 - Int.toNat 0) ((c.c : Int).toNat - Int.toNat 0) = (⟨c.a, t.free.length - 1, c.c⟩ : Slc).v := by
      have := slcCut (s := c) (k := Try.prog.cellsOf 3) (m := ((t.free.length - 1 : Nat) : Int))
      rw [Int.toNat_natCast] at this; exact this
    rw [e3, getD_set (by omega), if_pos rfl]
  · have := Mine.cut (k := 1) (f := fI) (fun _ => rfl) mc' (n := t.free.length - 1) (by omega)
    rw [← List.dropLast_eq_take] at this
    exact this

theorem refTake {H : Hp} {u1 u2 u3 : Slc} {t : Tb} (h : RdT H u1 u2 u3 t) (hs : t.small) :
    Go.Eng.Fn Try.prog F.pelotonref06_Take #[.agg #[u1.v, u2.v, u3.v]] H fun v H' => ∃ a b c : Slc, v = .tuple #[.agg #[a.v, b.v, c.v], .agg #[.int .i64 (takeM t).2.1, .int .i64 (takeM t).2.2.1], .int .i64 (takeM t).2.2.2] ∧ NewT H H' a b c (takeM t).1 := by
  refine pelotonref06_Take_vc ⟨_, rcheck h hs, fun hc => ?_, fun hc => ?_⟩
  · have hk : ¬ okT t := fun ok => by rw [chk_ok ok] at hc; simp at hc
    rw [takeM, if_neg hk]
    exact ⟨zs, zs, zs, rfl, NewT.zero (Hp.le_refl _)⟩
  · have ok : okT t := chk_zero.1 (by simpa using hc)
    rw [takeM, if_pos ok]
    refine ⟨_, refOpen h ok, fun ho => ?_, fun ho => ?_⟩
    · have : t.canTake = false := by simpa using ho
      rw [this]
      exact ⟨zs, zs, zs, rfl, NewT.zero (Hp.le_refl _)⟩
    · have : t.canTake = true := by simpa using ho
      rw [this]
      exact (refTaken h ok this).mono fun v H4 ⟨a, b, c, hv, nt⟩ => ⟨a, b, c, _, _, hv, a, b, c, rfl, nt⟩

theorem refGiven {H : Hp} {u1 u2 u3 : Slc} {t : Tb} {i u : Int} (h : RdT H u1 u2 u3 t) (ok : okT t) (hv : t.live i u = true) :
    Go.Eng.Fn Try.prog F.pelotonref06_Given #[.agg #[u1.v, u2.v, u3.v], .agg #[.int .i64 i, .int .i64 u]] H fun v H' => ∃ a b c : Slc, v = .agg #[a.v, b.v, c.v] ∧ NewT H H' a b c (t.given i) := by
  have hr : 0 ≤ i ∧ i < t.uses.length := by unfold Tb.live at hv; simp at hv; omega
  have lt := ok.top
  have lf := ok.fl
  have l2 := ok.len
  refine pelotonref06_Given_vc ((rtwin h ok.small).mono fun v H2 ⟨a, b, c, hv, nt⟩ => ⟨a, b, c, hv, nt.rd.used.inS hr.1 (by omega), nt.used.setB hr.1 (by omega) false fun H6 mb chb b7 H8 hb7 hH8 => ?_⟩)
  have ma := nt.uses.chg chb nt.s12
  have mc := nt.free.chg chb nt.s23.symm
  have le6 : Hp.le H H6 := Hp.le_chg nt.le chb mb.isNew
  refine (append1 (k := 1) (f := fI) (e := 3) (bytes := 8) (x := i) (by kernel_rfl) (by decide) (fun _ => rfl) (fun x v hv => by simp [fI] at hv; subst hv; rfl) le6 mc hb7 hH8 rfl (by omega) (by omega)).mono
      fun v H' ⟨u', hv, g1, g2, g3, g4⟩ => ⟨u', hv, a, b, u', rfl, g1, ma.chg g3 nt.s13, mb.chg g3 nt.s23, g2, nt.s12, (nt.s13.symm.ext ma.isOld g4).symm, (nt.s23.symm.ext mb.isOld g4).symm⟩

theorem refGive {H : Hp} {u1 u2 u3 : Slc} {t : Tb} {i u : Int} (h : RdT H u1 u2 u3 t) (hs : t.small) :
    Go.Eng.Fn Try.prog F.pelotonref06_Give #[.agg #[u1.v, u2.v, u3.v], .agg #[.int .i64 i, .int .i64 u]] H fun v H' => ∃ a b c : Slc, v = .tuple #[.agg #[a.v, b.v, c.v], .int .i64 (giveM t i u).2] ∧ NewT H H' a b c (giveM t i u).1 := by
  refine pelotonref06_Give_vc ⟨_, rcheck h hs, fun hc => ?_, fun hc => ?_⟩
  · have hk : ¬ okT t := fun ok => by rw [chk_ok ok] at hc; simp at hc
    rw [giveM, if_neg hk]
    exact ⟨zs, zs, zs, rfl, NewT.zero (Hp.le_refl _)⟩
  · have ok : okT t := chk_zero.1 (by simpa using hc)
    rw [giveM, if_pos ok]
    refine ⟨_, refLive h ok, fun ho => ?_, fun ho => ?_⟩
    · have : t.live i u = false := by simpa using ho
      rw [this]
      exact ⟨zs, zs, zs, rfl, NewT.zero (Hp.le_refl _)⟩
    · have : t.live i u = true := by simpa using ho
      rw [this]
      exact (refGiven h ok this).mono fun v H4 ⟨a, b, c, hv, nt⟩ => ⟨a, b, c, hv, a, b, c, rfl, nt⟩

theorem lawHas {H : Hp} {u1 u2 u3 : Slc} {t : Tb} {i u : Int} {want : Bool} (h : RdT H u1 u2 u3 t) (hs : t.small) :
    Qf Try.prog F.pelotonlaw06_has #[.agg #[u1.v, u2.v, u3.v], .agg #[.int .i64 i, .int .i64 u], .bool want] H (.bool ((hasM t i u).2 == 0 && (hasM t i u).1 == want)) :=
  pelotonlaw06_has_vc ⟨_, _, slotHas h hs, rfl, Hp.le_refl _⟩

end Go.Proofs.Ytmnbekffebdfmaa
end
section
/- The law SlotDoes, and the chapter's examples. Conditions: none. -/
open Go Go.Eng Go.Proofs
namespace Go.Proofs.Ytmnbekffebdfmaa

theorem lawAlive {H : Hp} : Qf Try.prog F.pelotonlaw06_alive #[] H (.bool true) := by
  have s0 := newM_small 3
  refine pelotonlaw06_alive_vc (slotNew.mono fun v H2 ⟨a1, b1, c1, hv, n1⟩ => ⟨a1, b1, c1, _, hv, ?_⟩)
  refine (slotTake n1.rd s0).mono fun v H3 ⟨a2, b2, c2, hv, n2⟩ => ⟨a2, b2, c2, _, _, _, hv, ?_⟩
  have s1 := takeM_small s0
  refine (slotTake n2.rd s1).mono fun v H4 ⟨a3, b3, c3, hv, n3⟩ => ⟨a3, b3, c3, _, _, _, hv, ?_⟩
  have s2 := takeM_small s1
  refine (slotTake n3.rd s2).mono fun v H5 ⟨a4, b4, c4, hv, n4⟩ => ⟨a4, b4, c4, _, _, _, hv, ?_⟩
  have s3 := takeM_small s2
  refine (slotTake n4.rd s3).mono fun v H6 ⟨a5, b5, c5, hv, n5⟩ => ⟨a5, b5, c5, _, _, _, hv, ?_⟩
  refine (slotGive (n4.rd.le n5.le) s3).mono fun v H7 ⟨a6, b6, c6, hv, n6⟩ => ⟨a6, b6, c6, _, hv, ?_⟩
  have s5 := giveM_small (t := (takeM (takeM (takeM (newM 3).1).1).1).1) (takeM (takeM (newM 3).1).1).2.1 (takeM (takeM (newM 3).1).1).2.2.1
  refine (slotTake n6.rd s5).mono fun v H8 ⟨a7, b7, c7, hv, n7⟩ => ⟨a7, b7, c7, _, _, _, hv, ?_⟩
  have s6 := takeM_small s5
  have le : Hp.le H H8 := Hp.le_trans n1.le (Hp.le_trans n2.le (Hp.le_trans n3.le (Hp.le_trans n4.le (Hp.le_trans n5.le (Hp.le_trans n6.le n7.le)))))
  exact ⟨_, fun _ => lawHas n7.rd s6, _, fun _ => lawHas n7.rd s6, _, fun _ => lawHas (n6.rd.le n7.le) s5, by kernel_rfl, le⟩

theorem slotDoes {H : Hp} {n i u : Int} {u1 u2 u3 : Slc} {t : Tb} (h : RdT H u1 u2 u3 t) :
    Qf Try.prog F.pelotonlaw06_SlotDoes #[.int .i64 n, .agg #[u1.v, u2.v, u3.v], .agg #[.int .i64 i, .int .i64 u]] H (.bool true) := by
  refine pelotonlaw06_SlotDoes_vc ⟨_, refGreat h, fun _ => ⟨rfl, Hp.le_refl _⟩, fun hg => ?_⟩
  have hs : t.small := by simp at hg; unfold Tb.small; omega
  refine (rtwin h hs).mono fun v H3 ⟨u4, u5, u6, hv, no⟩ => ⟨u4, u5, u6, hv, ?_⟩
  refine slotNew.mono fun v H8 ⟨a1, b1, c1, hv, n1⟩ => ⟨a1, b1, c1, _, hv, ?_⟩
  refine refNew.mono fun v H14 ⟨a2, b2, c2, hv, n2⟩ => ⟨a2, b2, c2, _, hv, ?_⟩
  have l14 := Hp.le_trans n1.le n2.le
  refine (slotTake (no.rd.le l14) hs).mono fun v H20 ⟨a3, b3, c3, hv, n3⟩ => ⟨a3, b3, c3, _, _, _, hv, ?_⟩
  have l20 := Hp.le_trans l14 n3.le
  refine (refTake (h.le (Hp.le_trans no.le l20)) hs).mono fun v H28 ⟨a4, b4, c4, hv, n4⟩ => ⟨a4, b4, c4, _, _, _, hv, ?_⟩
  have l28 := Hp.le_trans l20 n4.le
  refine (slotGive (no.rd.le l28) hs).mono fun v H36 ⟨a5, b5, c5, hv, n5⟩ => ⟨a5, b5, c5, _, hv, ?_⟩
  have l36 := Hp.le_trans l28 n5.le
  refine (refGive (h.le (Hp.le_trans no.le l36)) hs).mono fun v H42 ⟨a6, b6, c6, hv, n6⟩ => ⟨a6, b6, c6, _, hv, ?_⟩
  have l42 := Hp.le_trans l36 n6.le
  have ho := no.rd.le l42
  have hh := h.le (Hp.le_trans no.le l42)
  have q3 := n3.rd.le (Hp.le_trans n4.le (Hp.le_trans n5.le n6.le))
  have q4 := n4.rd.le (Hp.le_trans n5.le n6.le)
  have q5 := n5.rd.le n6.le
  have q6 := n6.rd
  have h2 := n2.rd.le (Hp.le_trans n3.le (Hp.le_trans n4.le (Hp.le_trans n5.le n6.le)))
  have h1 := n1.rd.le (Hp.le_trans n2.le (Hp.le_trans n3.le (Hp.le_trans n4.le (Hp.le_trans n5.le n6.le))))
  refine ⟨_, _, slotHas ho hs, _, _, refHas hh hs, _, _, slotRoom ho hs, _, _, refRoom hh hs, _, same h1 h2 (newM_small n), _, fun _ => slotCheck ho hs, _, fun _ => rcheck hh hs, _, fun _ => same ho hh hs, fun hb => ?_, fun _ => ?_⟩
  · exfalso; simp at hb
  -- the changes of one's own table
  have o4 := no.uses.isOld
  have o5 := no.used.isOld
  have o6 := no.free.isOld
  let P4 : Hp → Prop := fun H' => RdT H' a3 b3 c3 (takeM t).1 ∧ RdT H' a4 b4 c4 (takeM t).1 ∧ RdT H' a5 b5 c5 (giveM t i u).1 ∧ RdT H' a6 b6 c6 (giveM t i u).1
  have hP : ∀ (w : Slc) (H' H'' : Hp), Old H3 w → P4 H' → Chg H' H'' w → P4 H'' := fun w H' H'' hw ⟨p3, p4, p5, p6⟩ hc =>
    ⟨p3.chg hc (n3.sep (hw.le l14)), p4.chg hc (n4.sep (hw.le l20)), p5.chg hc (n5.sep (hw.le l28)), p6.chg hc (n6.sep (hw.le l36))⟩
  obtain ⟨s1, s2, s3⟩ := hs
  have k4 := no.rd.uses.len
  have k5 := no.rd.used.len
  have k6 := no.rd.free.len
  have wr : ∀ z : Int, 0 ≤ z → z < 1000000 → IntKind.i64.wrap (z + 1) = z + 1 := fun z z0 z1 => wrap_i64 (by unfold inI; omega)
  refine uptoH (N := u4.n) (J := fun _ H' => Hp.le H H' ∧ P4 H' ∧ Mine 1 fB 4 H H' u5 t.used ∧ Mine 1 fI 3 H H' u6 t.free ∧ ∃ xs : List Int, xs.length = t.uses.length ∧ Mine 1 fI 3 H H' u4 xs) (by omega) ⟨Hp.le_trans no.le l42, ⟨q3, q4, q5, q6⟩, no.used.le l42, no.free.le l42, _, rfl, no.uses.le l42⟩
    fun m H62 j0 j1 ⟨jl0, jp, j5, j6, xs, jl, j4⟩ => ⟨fun hm => ?_, fun hm => ?_⟩
  · have hm : m < u4.n := by simpa using hm
    rw [wr m j0 (by omega)]
    refine j4.rdI.ldI j0 (by omega) ⟨j4.rdI.inS j0 (by omega), j4.setI j0 (by omega) _ fun H' m' ch => (uptoH.nx j0 hm (by omega) ?_).2⟩
    exact ⟨Hp.le_chg jl0 ch m'.isNew, hP u4 _ _ o4 jp ch, j5.chg ch no.s12.symm, j6.chg ch no.s13.symm, _, by simpa using jl, m'⟩
  · refine uptoH (N := u5.n) (J := fun _ H' => Hp.le H H' ∧ P4 H' ∧ Mine 1 fI 3 H H' u6 t.free ∧ ∃ xs : List Bool, xs.length = t.used.length ∧ Mine 1 fB 4 H H' u5 xs) (by omega) ⟨jl0, jp, j6, _, rfl, j5⟩
      fun m H62 j0 j1 ⟨jl0, jp, j6, xs, jl, j4⟩ => ⟨fun hm => ?_, fun hm => ?_⟩
    · have hm : m < u5.n := by simpa using hm
      rw [wr m j0 (by omega)]
      refine j4.rdB.ldB j0 (by omega) ⟨j4.rdB.inS j0 (by omega), j4.setB j0 (by omega) _ fun H' m' ch => (uptoH.nx j0 hm (by omega) ?_).2⟩
      exact ⟨Hp.le_chg jl0 ch m'.isNew, hP u5 _ _ o5 jp ch, j6.chg ch no.s23.symm, _, by simpa using jl, m'⟩
    · refine uptoH (N := u6.n) (J := fun _ H' => Hp.le H H' ∧ P4 H' ∧ ∃ xs : List Int, xs.length = t.free.length ∧ Mine 1 fI 3 H H' u6 xs) (by omega) ⟨jl0, jp, _, rfl, j6⟩
        fun m H62 j0 j1 ⟨jl0, jp, xs, jl, j4⟩ => ⟨fun hm => ?_, fun hm => ?_⟩
      · have hm : m < u6.n := by simpa using hm
        rw [wr m j0 (by omega)]
        refine j4.rdI.ldI j0 (by omega) ⟨j4.rdI.inS j0 (by omega), j4.setI j0 (by omega) _ fun H' m' ch => (uptoH.nx j0 hm (by omega) ?_).2⟩
        exact ⟨Hp.le_chg jl0 ch m'.isNew, hP u6 _ _ o6 jp ch, _, by simpa using jl, m'⟩
      · obtain ⟨p3, p4, p5, p6⟩ := jp
        refine ⟨_, same p3 p4 (takeM_small ⟨s1, s2, s3⟩), _, fun _ => same p5 p6 (giveM_small i u), ?_⟩
        exact ⟨by simp, jl0⟩
end Go.Proofs.Ytmnbekffebdfmaa
end
section
/- The laws SlotFinds, SlotBack, SlotFull. Conditions: none. -/
open Go Go.Eng Go.Proofs
namespace Go.Proofs.Ytmnbekffebdfmaa

theorem lawHasOk {H : Hp} {u1 u2 u3 : Slc} {t : Tb} {i u : Int} {want : Bool} (h : RdT H u1 u2 u3 t) (ok : okT t) (hw : t.live i u = want) :
    Qf Try.prog F.pelotonlaw06_has #[.agg #[u1.v, u2.v, u3.v], .agg #[.int .i64 i, .int .i64 u], .bool want] H (.bool true) := by
  have := lawHas (i := i) (u := u) (want := want) h ok.small
  rw [hasM_ok ok, hw] at this
  simpa using this

theorem agrees {H : Hp} {u1 u2 u3 ua ul : Slc} {t : Tb} {hs : List (Int × Int)} {ls : List Bool} {n used k : Int} (h : RdT H u1 u2 u3 t) (ha : Rd 2 fH H ua hs) (hl : RdB H ul ls) (f : FinT n t hs ls used k) (hk : k ≤ 1000000) :
    Qf Try.prog F.pelotonlaw06_agrees #[.agg #[u1.v, u2.v, u3.v], ua.v, ul.v] H (.bool true) := by
  have l1 := ha.len
  have l2 := hl.len
  have l3 := f.ll
  have l4 := f.lk
  refine pelotonlaw06_agrees_vc (upto (N := hs.length) (J := fun _ => True) (by omega) trivial fun i i0 i1 _ => ⟨fun hi => ?_, fun hi => ⟨rfl, Hp.le_refl _⟩⟩)
  have hi : i < hs.length := by have : i < ua.n := by simpa using hi
                                omega
  have gi := getX (d := ((0 : Int), (0 : Int))) i0 hi
  generalize hx : hs.getD i.toNat (0, 0) = x at gi
  obtain ⟨k1, k2, k3, k4⟩ := f.each _ _ gi
  have gH := ha.gH i0 hi
  rw [hx] at gH
  refine ⟨ha.inS i0 hi, _, _, gH, hl.ldB i0 (by omega) ⟨_, lawHasOk h f.ok k4.symm, fun hb => (by cases hb), fun _ => ?_⟩⟩
  refine upto (N := i) (J := fun _ => True) i0 trivial fun j j0 j1 _ => ⟨fun hj => ?_, fun hj => upto.nx i0 hi (by omega) trivial⟩
  have hj : j < i := by simpa using hj
  have gj := getX (d := ((0 : Int), (0 : Int))) j0 (by omega : j < hs.length)
  generalize hy : hs.getD j.toNat (0, 0) = y at gj
  have gH2 := ha.gH j0 (by omega)
  rw [hy] at gH2
  obtain ⟨a1, a2⟩ := f.apart gi gj (by omega)
  have in1 := ha.inS i0 hi
  have in2 := ha.inS j0 (by omega : j < hs.length)
  refine ⟨in2, _, _, gH2, in1, _, _, gH, hl.ldcB (fun _ => ⟨i0, by omega⟩) (hl.ldcB (fun _ => ⟨j0, by omega⟩) ⟨fun _ => in2, _, fun _ => gH2.1, fun _ => in1, _, fun _ => gH.1, fun hb => ?_, fun _ => upto.nx j0 hj (by omega) trivial⟩)⟩
  exfalso
  simp only [Bool.or_eq_true, Bool.and_eq_true, beq_iff_eq] at hb
  rcases hb with ⟨e1, e2⟩ | ⟨⟨e1, e2⟩, e3⟩
  · exact a1 (Prod.ext e1.symm e2.symm)
  · exact a2 ⟨e1, e2, e3⟩

/-- What holds in the loop of SlotFinds. -/
structure FI (n : Int) (H H' : Hp) (ua ul a b c : Slc) (used k : Int) (t : Tb) (hs : List (Int × Int)) (ls : List Bool) : Prop where
  le : Hp.le H H'
  rd : RdT H' a b c t
  old : OldT H' a b c
  all : Mine 2 fH 31 H H' ua hs
  live : Mine 1 fB 4 H H' ul ls
  sep : Sep ua ul
  sa : SepT a b c ua
  sl : SepT a b c ul
  fin : FinT n t hs ls used k

theorem slotFinds {H : Hp} {n : Int} {ul : Slc} {l : List Int} (h : RdI H ul l) (hl : l.length ≤ 9223372036854775807) :
    Qf Try.prog F.pelotonlaw06_SlotFinds #[.int .i64 n, ul.v] H (.bool true) := by
  have ll := h.len
  refine pelotonlaw06_SlotFinds_vc ⟨fun _ => ⟨_, lawAlive, rfl, Hp.le_refl _⟩, fun hc => ?_⟩
  simp only [Bool.or_eq_false_iff, decide_eq_false_iff_not] at hc
  obtain ⟨⟨c1, c2⟩, c3⟩ := hc
  obtain ⟨N, rfl⟩ : ∃ N : Nat, n = N := ⟨n.toNat, by omega⟩
  refine slotNew.mono fun v H3 ⟨a, b, c, hv, nt⟩ => ⟨a, b, c, _, hv, ?_⟩
  have hm : newM (N : Int) = (beginT N, 0) := by unfold newM; rw [if_neg (by omega), Int.toNat_natCast]
  rw [hm] at nt ⊢
  refine ⟨fun hb => (by cases hb), fun _ => ?_⟩
  refine ⟨fun ua ul' used k a b c H' => 0 ≤ k ∧ k ≤ l.length ∧ ∃ t hs ls, FI N H H' ua ul' a b c used k t hs ls, fun _ _ _ k _ _ _ _ => (l.length - k).toNat,
    ⟨by omega, by omega, _, [], [], nt.le, nt.rd, nt.old, .inl ⟨rfl, rfl⟩, .inl ⟨rfl, rfl⟩, Sep.nil, ⟨Sep.nil, Sep.nil, Sep.nil⟩, ⟨Sep.nil, Sep.nil, Sep.nil⟩, FinT.start (by omega) (by omega)⟩, ?_⟩
  intro ua ul' used k a b c H' ⟨k0, k1, t, hs, ls, f⟩
  have h' := h.le f.le
  have ok := f.fin.ok
  have top := ok.top
  have fl := ok.fl
  have fln := f.fin.len
  have fu := f.fin.used
  have flk := f.fin.lk
  have fll := f.fin.ll
  have rm : Qf Try.prog F.slot_Room #[.agg #[a.v, b.v, c.v]] H' (.tuple #[.int .i64 t.free.length, .int .i64 0]) := by
    have := slotRoom f.rd ok.small; rwa [roomM_ok ok] at this
  have e0 : (t.free.length : Int) = N - used := by omega
  rw [e0] at rm
  refine ⟨fun hk => ?_, fun _ => ⟨_, lawAlive, rfl, f.le⟩⟩
  have hk : k < l.length := by have : k < ul.n := by simpa using hk
                               omega
  have hus : 0 ≤ used ∧ used ≤ N := by omega
  have i1 : inI ((N : Int) - used) := by unfold inI; omega
  have i2 : inI (k + 1) := by unfold inI; omega
  have i3 : inI (used + 1) := by unfold inI; omega
  have i4 : inI (used - 1) := by unfold inI; omega
  have me : (l.length - (k + 1)).toNat < ((l.length : Int) - k).toNat := by omega
  refine h'.ldI k0 hk ⟨fun hneg => ?_, fun hneg => h'.ldI k0 hk ⟨fun hin => h'.ldI k0 hk ?_, fun hout => ?_⟩⟩
  · -- a slot is taken
    refine (slotTake f.rd ok.small).mono fun v H20 ⟨a', b', c', hv, nt'⟩ => ⟨a', b', c', _, _, _, hv, ?_⟩
    have hcan := f.fin.can (by omega)
    cases hct : t.canTake with
    | false =>
      rw [takeM_no ok hct] at nt' ⊢
      have hlt : ¬ used < N := fun h => by rw [hcan.2 h] at hct; cases hct
      refine ⟨fun hb => ?_, fun _ => ⟨fun hb => (by cases hb), fun _ => ?_⟩⟩
      · exfalso; simp at hb; omega
      have rd := f.rd.le nt'.le
      have hl20 : Hp.le H H20 := Hp.le_trans f.le nt'.le
      refine ⟨_, _, rm.up nt'.le, fun _ => i1, _, fun _ => agrees rd (f.all.rdH.le nt'.le) (f.live.rdB.le nt'.le) f.fin (by omega), fun hb => ?_, fun _ => ⟨i2, ⟨by omega, by omega, t, hs, ls, hl20, rd, f.old.le nt'.le, f.all.le nt'.le, f.live.le nt'.le, f.sep, f.sa, f.sl, f.fin.skip⟩, me⟩⟩
      exfalso; simp at hb
    | true =>
      rw [takeM_ok ok hct] at nt' ⊢
      have hlt : used < N := hcan.1 hct
      refine ⟨fun hb => ?_, fun _ => ⟨fun _ => ⟨i3, fun b27 H28 hb27 hH28 => ?_⟩, fun hb => (by simp at hb)⟩⟩
      · exfalso; simp at hb; omega
      have hl20 : Hp.le H H20 := Hp.le_trans f.le nt'.le
      refine (append1 (k := 2) (f := fH) (e := 31) (bytes := 16) (x := (topL t.free, t.uses.getD (topL t.free).toNat 0 + 1)) (by kernel_rfl) (by decide) (fun _ => rfl) (fun x v hv => by
        simp [fH] at hv; rcases hv with rfl | rfl <;> rfl) hl20 (f.all.le nt'.le) hb27 hH28 rfl (by omega) (by omega)).mono fun v H30 ⟨ua', hv, g1, g2, g3, g4⟩ => ⟨ua', hv, fun b32 H33 hb32 hH33 => ?_⟩
      have s1 : SepT a' b' c' ua := nt'.sep f.all.isOld
      have s2 : SepT a' b' c' ul' := nt'.sep f.live.isOld
      have rd1 := nt'.rd.chg g3 s1
      have old1 := nt'.old.chg g3 s1
      have s1' := s1.ext nt'.old g4
      have lv1 := (f.live.le nt'.le).chg g3 f.sep.symm
      have sp1 : Sep ua' ul' := f.sep.ext (f.live.le nt'.le).isOld g4
      refine (append1 (k := 1) (f := fB) (e := 4) (bytes := 1) (x := true) (by kernel_rfl) (by decide) (fun _ => rfl) (fun x v hv => by simp [fB] at hv; subst hv; rfl) g1 lv1 hb32 hH33 rfl (by omega) (by omega)).mono
        fun v H35 ⟨ul2, hv, j1, j2, j3, j4⟩ => ⟨ul2, hv, ?_⟩
      have rd2 := rd1.chg j3 s2
      have old2 := old1.chg j3 s2
      have s2' := s2.ext old1 j4
      have al2 := g2.chg j3 sp1
      have sp2 : Sep ua' ul2 := (sp1.symm.ext g2.isOld j4).symm
      have fin2 := f.fin.take hct
      have rm2 : Qf Try.prog F.slot_Room #[.agg #[a'.v, b'.v, c'.v]] H35 (.tuple #[.int .i64 (N - (used + 1)), .int .i64 0]) := by
        have := slotRoom rd2 fin2.ok.small
        rw [roomM_ok fin2.ok] at this
        have e : (t.taken.free.length : Int) = N - (used + 1) := by have := fin2.used; omega
        rwa [e] at this
      refine ⟨_, _, rm2, fun _ => by unfold inI; omega, _, fun _ => agrees rd2 al2.rdH j2.rdB fin2 (by omega), fun hb => ?_, fun _ => ⟨i2, ⟨by omega, by omega, _, _, _, j1, rd2, old2, al2, j2, sp2, s1', s2', fin2⟩, me⟩⟩
      exfalso; simp at hb
  · -- a handle is given back
    have hneg : ¬ l.getD k.toNat 0 < 0 := by simpa [-List.getD_eq_getElem?_getD] using hneg
    have hla := f.all.rdH.len
    have hin : l.getD k.toNat 0 < hs.length := by have : l.getD k.toNat 0 < ua.n := by simpa [-List.getD_eq_getElem?_getD] using hin
                                                  omega
    have gj := getX (d := ((0 : Int), (0 : Int))) (by omega : 0 ≤ l.getD k.toNat 0) hin
    have gH := f.all.rdH.gH (by omega : 0 ≤ l.getD k.toNat 0) hin
    generalize hx : hs.getD (l.getD k.toNat 0).toNat (0, 0) = x at gj gH
    obtain ⟨q1, q2, q3, q4⟩ := f.fin.each _ _ gj
    refine ⟨f.all.rdH.inS (by omega) hin, _, _, gH, ?_⟩
    refine (slotGive f.rd ok.small).mono fun v H48 ⟨a', b', c', hv, nt'⟩ => ⟨nt'.le, a', b', c', _, hv, (h'.le nt'.le).ldI k0 hk ((f.live.rdB.le nt'.le).ldB (by omega) (by omega) ?_)⟩
    rw [q4]
    cases hlv : t.live x.1 x.2 with
    | false =>
      rw [giveM_no ok hlv] at nt' ⊢
      refine ⟨fun hb => (by simp at hb), fun _ => ⟨fun hb => (by cases hb), fun _ => ?_⟩⟩
      have rd := f.rd.le nt'.le
      have hl20 : Hp.le H H48 := Hp.le_trans f.le nt'.le
      refine ⟨_, _, rm.up nt'.le, fun _ => i1, _, fun _ => agrees rd (f.all.rdH.le nt'.le) (f.live.rdB.le nt'.le) f.fin (by omega), fun hb => ?_, fun _ => ⟨i2, ⟨by omega, by omega, t, hs, ls, hl20, rd, f.old.le nt'.le, f.all.le nt'.le, f.live.le nt'.le, f.sep, f.sa, f.sl, f.fin.skip⟩, me⟩⟩
      exfalso; simp at hb
    | true =>
      rw [giveM_ok ok hlv] at nt' ⊢
      refine ⟨fun hb => (by simp at hb), fun _ => ⟨fun _ => (h'.le nt'.le).ldI k0 hk ⟨i4, (f.live.rdB.le nt'.le).inS (by omega) (by omega), (f.live.le nt'.le).setB (by omega) (by omega) false fun H56 m ch => ?_⟩, fun hb => (by simp at hb)⟩⟩
      have s1 : SepT a' b' c' ua := nt'.sep f.all.isOld
      have s2 : SepT a' b' c' ul' := nt'.sep f.live.isOld
      have rd2 := nt'.rd.chg ch s2
      have old2 := nt'.old.chg ch s2
      have al2 := (f.all.le nt'.le).chg ch f.sep
      have fin2 := f.fin.give gj hlv
      have le2 : Hp.le H H56 := Hp.le_chg (Hp.le_trans f.le nt'.le) ch m.isNew
      have rm2 : Qf Try.prog F.slot_Room #[.agg #[a'.v, b'.v, c'.v]] H56 (.tuple #[.int .i64 (N - (used - 1)), .int .i64 0]) := by
        have := slotRoom rd2 fin2.ok.small
        rw [roomM_ok fin2.ok] at this
        have e : ((t.given x.1).free.length : Int) = N - (used - 1) := by have := fin2.used; omega
        rwa [e] at this
      refine ⟨_, _, rm2, fun _ => by unfold inI; omega, _, fun _ => agrees rd2 al2.rdH m.rdB fin2 (by omega), fun hb => ?_, fun _ => ⟨i2, ⟨by omega, by omega, _, _, _, le2, rd2, old2, al2, m, f.sep, s1, s2, fin2⟩, me⟩⟩
      exfalso; simp at hb
  · -- nothing is done
    refine ⟨_, _, rm, fun _ => i1, _, fun _ => agrees f.rd f.all.rdH f.live.rdB f.fin (by omega), fun hb => ?_, fun _ => ⟨i2, ⟨by omega, by omega, t, hs, ls, f.le, f.rd, f.old, f.all, f.live, f.sep, f.sa, f.sl, f.fin.skip⟩, me⟩⟩
    exfalso; simp at hb

theorem slotBack {H : Hp} {u1 u2 u3 : Slc} {t : Tb} {i u j w : Int} (h : RdT H u1 u2 u3 t) (hu : inI u) :
    Qf Try.prog F.pelotonlaw06_SlotBack #[.agg #[u1.v, u2.v, u3.v], .agg #[.int .i64 i, .int .i64 u], .agg #[.int .i64 j, .int .i64 w]] H (.bool true) := by
  refine pelotonlaw06_SlotBack_vc ⟨_, refGreat h, _, fun hg => rcheck h ?_, fun _ => ⟨_, lawAlive, rfl, Hp.le_refl _⟩, fun hc => ?_⟩
  · simp at hg; unfold Tb.small; omega
  simp only [Bool.or_eq_false_iff] at hc
  have ok : okT t := chk_zero.1 (by simpa using hc.2)
  have hs := ok.small
  have hlen := ok.len
  refine ⟨_, _, slotHas h hs, _, _, slotHas h hs, (slotGive h hs).mono fun v H9 ⟨a, b, c, hv, nt⟩ => ⟨a, b, c, _, hv, ?_⟩⟩
  rw [hasM_ok ok, hasM_ok ok]
  cases hl : t.live i u with
  | false =>
    rw [giveM_no ok hl] at nt ⊢
    exact ⟨fun hb => (by simp at hb), fun _ => ⟨fun _ => ⟨_, fun _ => lawAlive, rfl, nt.le⟩, fun hb => (by simp at hb)⟩⟩
  | true =>
    rw [giveM_ok ok hl] at nt ⊢
    obtain ⟨r1, r2, hd, huse⟩ := live_iff.1 hl
    have okg := ok.given hl
    have hbd := ok.each i.toNat (by omega)
    refine ⟨fun hb => (by simp at hb), fun _ => ⟨fun hb => (by simp at hb), fun _ => ⟨_, _, slotRoom (h.le nt.le) hs, _, _, slotRoom nt.rd okg.small, (slotTake nt.rd okg.small).mono fun v H20 ⟨a', b', c', hv, nt'⟩ => ⟨a', b', c', _, _, _, hv, ?_⟩⟩⟩⟩
    rw [roomM_ok ok, roomM_ok okg]
    have hfl := ok.fl
    have htop := ok.top
    have hw : (t.given i).live j w = (t.live j w && !(j == i && w == u)) := by
      rw [live_given ok r1 r2, Bool.eq_iff_iff]
      simp only [Bool.and_eq_true, Bool.not_eq_true', beq_eq_false_iff_ne, Bool.and_eq_false_imp, beq_iff_eq]
      refine ⟨fun ⟨x, y⟩ => ⟨x, fun e => absurd e y⟩, fun ⟨x, y⟩ => ⟨x, fun e => ?_⟩⟩
      have := y e
      obtain ⟨_, _, _, hx⟩ := live_iff.1 x
      subst e
      exact this (by rw [← hx, huse])
    have e1 : ((t.given i).free.length : Int) = t.free.length + 1 := by simp [Tb.given]
    rw [e1]
    have htl : topL (t.given i).free = i := by simp [Tb.given, topL]
    have hgu : (t.given i).uses.getD i.toNat 0 = u := huse
    refine ⟨fun _ => by unfold inI; omega, _, fun _ => lawHasOk (nt.rd.le nt'.le) okg hw, fun hb => (by simp at hb), fun _ => ?_⟩
    cases hct : (t.given i).canTake with
    | false =>
      rw [takeM_no okg hct] at nt' ⊢
      have hmax : u = 1000000 := by
        have hn : ¬ (0 < (t.given i).free.length ∧ (t.given i).uses.getD (topL (t.given i).free).toNat 0 < 1000000) := fun hx => by rw [canTake_iff.2 hx] at hct; cases hct
        rw [htl, hgu] at hn
        omega
      subst hmax
      exact ⟨fun _ => ⟨_, fun _ => lawAlive, rfl, Hp.le_trans nt.le nt'.le⟩, fun hb => (by simp at hb)⟩
    | true =>
      have okt := okg.taken hct
      have hlt := (canTake_iff.1 hct)
      rw [takeM_ok okg hct] at nt' ⊢
      rw [htl, hgu] at hlt ⊢
      refine ⟨fun hb => (by simp at hb), fun _ => ⟨by unfold inI; omega, _, fun _ => lawHasOk nt'.rd okt ?_, _, fun _ => lawHasOk nt'.rd okt ?_, _, fun hne => lawHasOk nt'.rd okt ?_, _, fun _ => lawAlive, by simp, Hp.le_trans nt.le nt'.le⟩⟩
      · rw [live_taken okg hlt.1, htl, if_pos rfl, hgu]; simp
      · rw [live_taken okg hlt.1, htl, if_pos rfl, hgu, beq_eq_false_iff_ne]; omega
      · rw [live_taken okg hlt.1, htl, hgu, hw]
        simp only [Bool.and_eq_true, Bool.not_eq_true', beq_iff_eq, true_and, Bool.and_eq_false_imp, beq_eq_false_iff_ne] at hne
        by_cases e : j = i
        · rw [if_pos e]
          have h1 : (u + 1 == w) = false := by rw [beq_eq_false_iff_ne]; intro x; exact hne e (by rw [x])
          rw [h1]
          symm
          rw [Bool.and_eq_false_imp]
          intro hx
          obtain ⟨_, _, _, hy⟩ := live_iff.1 hx
          subst e
          simp; omega
        · rw [if_neg e]

theorem slotFull {H : Hp} {u1 u2 u3 : Slc} {t : Tb} (h : RdT H u1 u2 u3 t) :
    Qf Try.prog F.pelotonlaw06_SlotFull #[.agg #[u1.v, u2.v, u3.v]] H (.bool true) := by
  have hl1 := h.uses.len
  refine pelotonlaw06_SlotFull_vc ⟨_, fun _ => refGreat h, _, fun hg => rcheck h ?_, fun _ => ⟨_, lawAlive, rfl, Hp.le_refl _⟩, fun hc => ?_⟩
  · simp at hg; unfold Tb.small; omega
  simp only [Bool.or_eq_false_iff] at hc
  have ok : okT t := chk_zero.1 (by simpa using hc.2)
  have hs := ok.small
  refine ⟨_, _, slotRoom h hs, ?_⟩
  rw [roomM_ok ok]
  refine ⟨fun hb => (by simp at hb), fun _ => ?_⟩
  have hfl := ok.fl
  have htop := ok.top
  refine ⟨fun u8 k a b c H' => 0 ≤ k ∧ k ≤ t.free.length ∧ Hp.le H H' ∧ RdT H' a b c (tk t k.toNat) ∧ (∀ j, j ≤ k.toNat → okT (tk t j)) ∧ ((RdT H a b c (tk t k.toNat)) ∨ (OldT H' a b c ∧ SepT a b c u8)) ∧
      ∃ hs : List (Int × Int), Mine 2 fH 31 H H' u8 hs ∧ hs.length = k ∧ ∀ j : Nat, j < k → hs[j]? = some (tkH t j), fun _ k _ _ _ _ => (t.free.length - k).toNat,
    ⟨by omega, by omega, Hp.le_refl _, h, fun j hj => (by have e0 : j = 0 := (by simpa using hj); rw [e0]; exact ok), .inl h, [], .inl ⟨rfl, rfl⟩, rfl, fun j hj => by omega⟩,
    fun u8 k a b c H' ⟨k0, k1, le, rd, oks, st, hs, m8, hl, hh⟩ => ⟨fun hk => ?_, fun hk => ?_⟩⟩
  · have hk : k < t.free.length := by simpa using hk
    have okk := oks k.toNat (Nat.le_refl _)
    refine (slotTake rd okk.small).mono fun v H15 ⟨a', b', c', hv, nt⟩ => ⟨a', b', c', _, _, _, hv, ?_⟩
    cases hct : (tk t k.toNat).canTake with
    | false =>
      rw [takeM_no okk hct] at nt ⊢
      have ro := refOpen (rd.le nt.le) okk
      rw [hct] at ro
      refine ⟨fun _ => ⟨_, fun _ => rcheck (rd.le nt.le) okk.small, _, fun _ => ro, _, fun _ => lawAlive, ?_, Hp.le_trans le nt.le⟩, fun hb => (by simp at hb)⟩
      rw [chk_ok okk]; rfl
    | true =>
      rw [takeM_ok okk hct] at nt ⊢
      refine ⟨fun hb => (by simp at hb), fun _ b25 H26 hb25 hH26 => ?_⟩
      refine (append1 (k := 2) (f := fH) (e := 31) (bytes := 16) (x := tkH t k.toNat) (by kernel_rfl) (by decide) (fun _ => rfl) (fun x v hv => by
        simp [fH] at hv; rcases hv with rfl | rfl <;> rfl) (Hp.le_trans le nt.le) (m8.le nt.le) hb25 hH26 rfl (by omega) (by omega)).mono fun v H28 ⟨u8', hv, g1, g2, g3, g4⟩ => ⟨u8', hv, by unfold inI; omega, ?_, ?_⟩
      · have s1 : SepT a' b' c' u8 := nt.sep m8.isOld
        have e1 : (k + 1).toNat = k.toNat + 1 := by omega
        simp only [e1]
        refine ⟨by omega, by omega, g1, nt.rd.chg g3 s1, fun j hj => ?_, .inr ⟨nt.old.chg g3 s1, s1.ext nt.old g4⟩, _, g2, by simp; omega, fun j hj => ?_⟩
        · rcases Nat.lt_or_ge j (k.toNat + 1) with hlt | hge
          · exact oks j (by omega)
          · have : j = k.toNat + 1 := by omega
            subst this; exact okk.taken hct
        · rw [List.getElem?_append]
          split
          · exact hh j (by omega)
          · have : j = hs.length := by omega
            subst this
            have : hs.length = k.toNat := by omega
            rw [this]; simp
      · show ((t.free.length : Int) - (k + 1)).toNat < ((t.free.length : Int) - k).toNat
        omega
  · have hk : k = t.free.length := by have : ¬ k < t.free.length := by simpa using hk
                                      omega
    subst hk
    rw [Int.toNat_natCast] at rd oks st
    have okm := oks t.free.length (Nat.le_refl _)
    have hfe : (tk t t.free.length).free.length = 0 := by rw [tk_free]; omega
    have hct : (tk t t.free.length).canTake = false := by
      cases hx : (tk t t.free.length).canTake with
      | false => rfl
      | true => have := (canTake_iff.1 hx).1; omega
    refine (slotTake rd okm.small).mono fun v H31 ⟨a', b', c', hv, nt⟩ => ⟨a', b', c', _, _, _, hv, _, _, slotRoom (rd.le nt.le) okm.small, ?_⟩
    rw [takeM_no okm hct, roomM_ok okm, hfe]
    have l8 := m8.rdH.len
    refine ⟨fun hb => (by simp at hb), fun _ => ⟨by unfold inI; omega, ?_⟩⟩
    refine ⟨fun k a b c H' => -1 ≤ k ∧ k < t.free.length ∧ Hp.le H31 H' ∧ RdT H' a b c (back t t.free.length (k + 1).toNat) ∧ okT (back t t.free.length (k + 1).toNat), fun k _ _ _ _ => (k + 1).toNat,
      ⟨by omega, by omega, Hp.le_refl _, ?_, ?_⟩, fun k a b c H' ⟨k0, k1, le', rd', ok'⟩ => ⟨fun hk => ?_, fun hk => ?_⟩⟩
    · have e : ((u8.n : Int) - 1 + 1).toNat = t.free.length := by omega
      rw [e]; exact rd.le nt.le
    · have e : ((u8.n : Int) - 1 + 1).toNat = t.free.length := by omega
      rw [e]; exact okm
    · have hk : k ≥ 0 := by simpa using hk
      have e1 : (k + 1).toNat = k.toNat + 1 := by omega
      have e2 : (k - 1 + 1).toNat = k.toNat := by omega
      rw [e1] at rd' ok'
      have hg := hh k.toNat (by omega)
      have hgH := ((m8.rdH.le nt.le).le le').gH (by omega) (by omega : k < hs.length)
      have hgd : hs.getD k.toNat (0, 0) = tkH t k.toNat := by rw [List.getD_eq_getElem?_getD, hg]; rfl
      rw [hgd] at hgH
      obtain ⟨b1, b2⟩ := back_step oks (Nat.le_refl _) (by omega : k.toNat < t.free.length) ok'
      refine ⟨m8.rdH.inS (by omega) (by omega), _, _, hgH, (slotGive rd' ok'.small).mono fun v H50 ⟨x, y, z, hv, nt'⟩ => ⟨nt'.le, x, y, z, _, hv, ?_⟩⟩
      rw [b1] at nt' ⊢
      refine ⟨fun hb => (by simp at hb), fun _ => ⟨by unfold inI; omega, ⟨by omega, by omega, Hp.le_trans le' nt'.le, by rw [e2]; exact nt'.rd, by rw [e2]; exact b2⟩, ?_⟩⟩
      show (k - 1 + 1).toNat < (k + 1).toNat
      omega
    · have hk : k = -1 := by have : ¬ k ≥ 0 := by simpa using hk
                             omega
      subst hk
      have leA := Hp.le_trans le (Hp.le_trans nt.le le')
      have hh' := h.le leA
      refine ⟨_, sameInts rd'.free hh'.free (by have := ok'.fl; have := ok'.top; omega), _, fun _ => sameBools rd'.used hh'.used (by have := ok'.len; have := ok'.top; omega), _, fun _ => lawAlive, ?_, leA⟩
      simp [back, tk]
end Go.Proofs.Ytmnbekffebdfmaa
end
section
/- The law SlotNames. Conditions: none. -/
set_option maxRecDepth 100000
open Go Go.Eng Go.Proofs
namespace Go.Proofs.Ytmnbekffebdfmaa

/-- The tables that are not valid. -/
def badT : List Tb := [
 ⟨[], [], []⟩,
  ⟨List.replicate 201 0, List.replicate 201 false, []⟩,
  ⟨[0], [false], []⟩,
  ⟨[0], [false], [1]⟩,
  ⟨[0], [false], [-1]⟩,
  ⟨[0], [false], [0, 0]⟩,
  ⟨[0], [true], []⟩,
  ⟨[1], [true], [0]⟩,
  ⟨[1000001], [true], []⟩,
  ⟨[-1], [false], [0]⟩,
  ⟨[0, 0], [false], [0, 1]⟩]
theorem badT_all : (badT.all fun t => decide (chk t = 8) && decide (t.uses.length ≤ 1000) && decide (t.used.length ≤ 1000) && decide (t.free.length ≤ 1000)) = true := by decide +kernel
theorem badT_at {i : Nat} {t : Tb} (h : badT[i]? = some t) : ¬ okT t ∧ t.small := by
  have := List.all_eq_true.1 badT_all t (List.mem_of_getElem? h)
  simp only [Bool.and_eq_true, decide_eq_true_eq] at this
  obtain ⟨⟨⟨h1, h2⟩, h3⟩, h4⟩ := this
  exact ⟨fun ok => (by rw [chk_ok ok] at h1; cases h1), by omega, by omega, by omega⟩

theorem slotNames {H : Hp} : Qf Try.prog F.pelotonlaw06_SlotNames #[] H (.bool true) := by
  refine pelotonlaw06_SlotNames_vc (slotNew.mono fun v H2 ⟨a0, d0, c0, hv, n0⟩ => ⟨a0, d0, c0, _, hv, slotNew.mono fun v H8 ⟨a1, d1, c1, hv, n1⟩ => ⟨a1, d1, c1, _, hv, slotNew.mono fun v H14 ⟨a2, d2, c2, hv, n2⟩ => ⟨a2, d2, c2, _, hv, ?_⟩⟩⟩)
  have le14 : Hp.le H H14 := Hp.le_trans n0.le (Hp.le_trans n1.le n2.le)
  have e200 : newM 200 = (beginT 200, 0) := by kernel_rfl
  rw [e200] at n2 ⊢
  have ok200 : okT (beginT 200) := okT.begin (by omega) (by omega)
  have rdf : RdI H14 c2 (beginT 200).free := n2.rd.free
  have lf := rdf.len
  have lfr : (beginT 200).free.length = 200 := by kernel_rfl
  have f0 : (beginT 200).free.getD 0 0 = 199 := by kernel_rfl
  have f199 : (beginT 200).free.getD 199 0 = 0 := by kernel_rfl
  refine rdf.ldcI (fun _ => ⟨by omega, by omega⟩) (rdf.ldcI (fun _ => ⟨by omega, by omega⟩) ⟨fun hb => ?_, fun _ => ?_⟩)
  · exfalso
    have e0 : (0 : Int).toNat = 0 := rfl
    have e1 : (199 : Int).toNat = 199 := rfl
    rw [e0, e1, f0, f199, lf, lfr] at hb
    simp at hb
  intro b21 H22 hb21 eb21
  intro b23 H24 hb23 eb23
  refine ⟨⟨rfl, by omega, by omega⟩, ?_⟩
  intro b25 H26 hb25 eb25
  refine ⟨⟨rfl, by omega, by omega⟩, ?_⟩
  intro b27 H28 hb27 eb27
  intro b29 H30 hb29 eb29
  intro b31 H32 hb31 eb31
  intro b33 H34 hb33 eb33
  intro b35 H36 hb35 eb35
  intro b37 H38 hb37 eb37
  intro b39 H40 hb39 eb39
  intro b41 H42 hb41 eb41
  intro b43 H44 hb43 eb43
  intro b45 H46 hb45 eb45
  intro b47 H48 hb47 eb47
  intro b49 H50 hb49 eb49
  intro b51 H52 hb51 eb51
  intro b53 H54 hb53 eb53
  intro b55 H56 hb55 eb55
  intro b57 H58 hb57 eb57
  intro b59 H60 hb59 eb59
  have m58 : Hp.le H58 H60 := Hp.le_new (Hp.le_refl _) hb59 eb59
  have m56 : Hp.le H56 H60 := Hp.le_trans (Hp.le_new (Hp.le_refl _) hb57 eb57) m58
  have m54 : Hp.le H54 H60 := Hp.le_trans (Hp.le_new (Hp.le_refl _) hb55 eb55) m56
  have m52 : Hp.le H52 H60 := Hp.le_trans (Hp.le_new (Hp.le_refl _) hb53 eb53) m54
  have m50 : Hp.le H50 H60 := Hp.le_trans (Hp.le_new (Hp.le_refl _) hb51 eb51) m52
  have m48 : Hp.le H48 H60 := Hp.le_trans (Hp.le_new (Hp.le_refl _) hb49 eb49) m50
  have m46 : Hp.le H46 H60 := Hp.le_trans (Hp.le_new (Hp.le_refl _) hb47 eb47) m48
  have m44 : Hp.le H44 H60 := Hp.le_trans (Hp.le_new (Hp.le_refl _) hb45 eb45) m46
  have m42 : Hp.le H42 H60 := Hp.le_trans (Hp.le_new (Hp.le_refl _) hb43 eb43) m44
  have m40 : Hp.le H40 H60 := Hp.le_trans (Hp.le_new (Hp.le_refl _) hb41 eb41) m42
  have m38 : Hp.le H38 H60 := Hp.le_trans (Hp.le_new (Hp.le_refl _) hb39 eb39) m40
  have m36 : Hp.le H36 H60 := Hp.le_trans (Hp.le_new (Hp.le_refl _) hb37 eb37) m38
  have m34 : Hp.le H34 H60 := Hp.le_trans (Hp.le_new (Hp.le_refl _) hb35 eb35) m36
  have m32 : Hp.le H32 H60 := Hp.le_trans (Hp.le_new (Hp.le_refl _) hb33 eb33) m34
  have m30 : Hp.le H30 H60 := Hp.le_trans (Hp.le_new (Hp.le_refl _) hb31 eb31) m32
  have m28 : Hp.le H28 H60 := Hp.le_trans (Hp.le_new (Hp.le_refl _) hb29 eb29) m30
  have m26 : Hp.le H26 H60 := Hp.le_trans (Hp.le_new (Hp.le_refl _) hb27 eb27) m28
  have m24 : Hp.le H24 H60 := Hp.le_trans (Hp.le_new (Hp.le_refl _) hb25 eb25) m26
  have m22 : Hp.le H22 H60 := Hp.le_trans (Hp.le_new (Hp.le_refl _) hb23 eb23) m24
  have m14 : Hp.le H14 H60 := Hp.le_trans (Hp.le_new (Hp.le_refl _) hb21 eb21) m22
  have rb21 : Rd 1 fB H60 ⟨some ⟨b21, 0, none⟩, 1, 1⟩ ([false]) := (rdConst (k := 1) (f := fB) (fun _ => rfl) eb21 (by kernel_rfl) (by kernel_rfl)).le m22
  have rb23 : Rd 1 fB H60 ⟨some ⟨b23, 0, none⟩, 1, 1⟩ ([true]) := (rdConst (k := 1) (f := fB) (fun _ => rfl) eb23 (by kernel_rfl) (by kernel_rfl)).le m24
  have rb25 : Rd 1 fI H60 ⟨some ⟨b25, 0, none⟩, 201, 201⟩ (List.replicate 201 0) := (rdConst (k := 1) (f := fI) (fun _ => rfl) eb25 (by kernel_rfl) (by kernel_rfl)).le m26
  have rb27 : Rd 1 fB H60 ⟨some ⟨b27, 0, none⟩, 201, 201⟩ (List.replicate 201 false) := (rdConst (k := 1) (f := fB) (fun _ => rfl) eb27 (by kernel_rfl) (by kernel_rfl)).le m28
  have rb29 : Rd 1 fI H60 ⟨some ⟨b29, 0, none⟩, 1, 1⟩ ([0]) := (rdConst (k := 1) (f := fI) (fun _ => rfl) eb29 (by kernel_rfl) (by kernel_rfl)).le m30
  have rb31 : Rd 1 fI H60 ⟨some ⟨b31, 0, none⟩, 1, 1⟩ ([0]) := (rdConst (k := 1) (f := fI) (fun _ => rfl) eb31 (by kernel_rfl) (by kernel_rfl)).le m32
  have rb33 : Rd 1 fI H60 ⟨some ⟨b33, 0, none⟩, 1, 1⟩ ([1]) := (rdConst (k := 1) (f := fI) (fun _ => rfl) eb33 (by kernel_rfl) (by kernel_rfl)).le m34
  have rb35 : Rd 1 fI H60 ⟨some ⟨b35, 0, none⟩, 1, 1⟩ ([0]) := (rdConst (k := 1) (f := fI) (fun _ => rfl) eb35 (by kernel_rfl) (by kernel_rfl)).le m36
  have rb37 : Rd 1 fI H60 ⟨some ⟨b37, 0, none⟩, 1, 1⟩ ([-1]) := (rdConst (k := 1) (f := fI) (fun _ => rfl) eb37 (by kernel_rfl) (by kernel_rfl)).le m38
  have rb39 : Rd 1 fI H60 ⟨some ⟨b39, 0, none⟩, 1, 1⟩ ([0]) := (rdConst (k := 1) (f := fI) (fun _ => rfl) eb39 (by kernel_rfl) (by kernel_rfl)).le m40
  have rb41 : Rd 1 fI H60 ⟨some ⟨b41, 0, none⟩, 2, 2⟩ ([0, 0]) := (rdConst (k := 1) (f := fI) (fun _ => rfl) eb41 (by kernel_rfl) (by kernel_rfl)).le m42
  have rb43 : Rd 1 fI H60 ⟨some ⟨b43, 0, none⟩, 1, 1⟩ ([0]) := (rdConst (k := 1) (f := fI) (fun _ => rfl) eb43 (by kernel_rfl) (by kernel_rfl)).le m44
  have rb45 : Rd 1 fI H60 ⟨some ⟨b45, 0, none⟩, 1, 1⟩ ([1]) := (rdConst (k := 1) (f := fI) (fun _ => rfl) eb45 (by kernel_rfl) (by kernel_rfl)).le m46
  have rb47 : Rd 1 fI H60 ⟨some ⟨b47, 0, none⟩, 1, 1⟩ ([0]) := (rdConst (k := 1) (f := fI) (fun _ => rfl) eb47 (by kernel_rfl) (by kernel_rfl)).le m48
  have rb49 : Rd 1 fI H60 ⟨some ⟨b49, 0, none⟩, 1, 1⟩ ([1000001]) := (rdConst (k := 1) (f := fI) (fun _ => rfl) eb49 (by kernel_rfl) (by kernel_rfl)).le m50
  have rb51 : Rd 1 fI H60 ⟨some ⟨b51, 0, none⟩, 1, 1⟩ ([-1]) := (rdConst (k := 1) (f := fI) (fun _ => rfl) eb51 (by kernel_rfl) (by kernel_rfl)).le m52
  have rb53 : Rd 1 fI H60 ⟨some ⟨b53, 0, none⟩, 1, 1⟩ ([0]) := (rdConst (k := 1) (f := fI) (fun _ => rfl) eb53 (by kernel_rfl) (by kernel_rfl)).le m54
  have rb55 : Rd 1 fI H60 ⟨some ⟨b55, 0, none⟩, 2, 2⟩ ([0, 0]) := (rdConst (k := 1) (f := fI) (fun _ => rfl) eb55 (by kernel_rfl) (by kernel_rfl)).le m56
  have rb57 : Rd 1 fI H60 ⟨some ⟨b57, 0, none⟩, 2, 2⟩ ([0, 1]) := (rdConst (k := 1) (f := fI) (fun _ => rfl) eb57 (by kernel_rfl) (by kernel_rfl)).le m58
  have rus : Rd 3 fS H60 ⟨some ⟨b59, 0, none⟩, 11, 11⟩ [(⟨none, 0, 0⟩, ⟨none, 0, 0⟩, ⟨none, 0, 0⟩), (⟨some ⟨b25, 0, none⟩, 201, 201⟩, ⟨some ⟨b27, 0, none⟩, 201, 201⟩, ⟨none, 0, 0⟩), (⟨some ⟨b29, 0, none⟩, 1, 1⟩, ⟨some ⟨b21, 0, none⟩, 1, 1⟩, ⟨none, 0, 0⟩), (⟨some ⟨b31, 0, none⟩, 1, 1⟩, ⟨some ⟨b21, 0, none⟩, 1, 1⟩, ⟨some ⟨b33, 0, none⟩, 1, 1⟩), (⟨some ⟨b35, 0, none⟩, 1, 1⟩, ⟨some ⟨b21, 0, none⟩, 1, 1⟩, ⟨some ⟨b37, 0, none⟩, 1, 1⟩), (⟨some ⟨b39, 0, none⟩, 1, 1⟩, ⟨some ⟨b21, 0, none⟩, 1, 1⟩, ⟨some ⟨b41, 0, none⟩, 2, 2⟩), (⟨some ⟨b43, 0, none⟩, 1, 1⟩, ⟨some ⟨b23, 0, none⟩, 1, 1⟩, ⟨none, 0, 0⟩), (⟨some ⟨b45, 0, none⟩, 1, 1⟩, ⟨some ⟨b23, 0, none⟩, 1, 1⟩, ⟨some ⟨b47, 0, none⟩, 1, 1⟩), (⟨some ⟨b49, 0, none⟩, 1, 1⟩, ⟨some ⟨b23, 0, none⟩, 1, 1⟩, ⟨none, 0, 0⟩), (⟨some ⟨b51, 0, none⟩, 1, 1⟩, ⟨some ⟨b21, 0, none⟩, 1, 1⟩, ⟨some ⟨b53, 0, none⟩, 1, 1⟩), (⟨some ⟨b55, 0, none⟩, 2, 2⟩, ⟨some ⟨b21, 0, none⟩, 1, 1⟩, ⟨some ⟨b57, 0, none⟩, 2, 2⟩)] := rdConst (k := 3) (f := fS) (fun _ => rfl) eb59 rfl rfl
  have hall : ∀ (i : Nat), i < 11 → ∃ x t, ([(⟨none, 0, 0⟩, ⟨none, 0, 0⟩, ⟨none, 0, 0⟩), (⟨some ⟨b25, 0, none⟩, 201, 201⟩, ⟨some ⟨b27, 0, none⟩, 201, 201⟩, ⟨none, 0, 0⟩), (⟨some ⟨b29, 0, none⟩, 1, 1⟩, ⟨some ⟨b21, 0, none⟩, 1, 1⟩, ⟨none, 0, 0⟩), (⟨some ⟨b31, 0, none⟩, 1, 1⟩, ⟨some ⟨b21, 0, none⟩, 1, 1⟩, ⟨some ⟨b33, 0, none⟩, 1, 1⟩), (⟨some ⟨b35, 0, none⟩, 1, 1⟩, ⟨some ⟨b21, 0, none⟩, 1, 1⟩, ⟨some ⟨b37, 0, none⟩, 1, 1⟩), (⟨some ⟨b39, 0, none⟩, 1, 1⟩, ⟨some ⟨b21, 0, none⟩, 1, 1⟩, ⟨some ⟨b41, 0, none⟩, 2, 2⟩), (⟨some ⟨b43, 0, none⟩, 1, 1⟩, ⟨some ⟨b23, 0, none⟩, 1, 1⟩, ⟨none, 0, 0⟩), (⟨some ⟨b45, 0, none⟩, 1, 1⟩, ⟨some ⟨b23, 0, none⟩, 1, 1⟩, ⟨some ⟨b47, 0, none⟩, 1, 1⟩), (⟨some ⟨b49, 0, none⟩, 1, 1⟩, ⟨some ⟨b23, 0, none⟩, 1, 1⟩, ⟨none, 0, 0⟩), (⟨some ⟨b51, 0, none⟩, 1, 1⟩, ⟨some ⟨b21, 0, none⟩, 1, 1⟩, ⟨some ⟨b53, 0, none⟩, 1, 1⟩), (⟨some ⟨b55, 0, none⟩, 2, 2⟩, ⟨some ⟨b21, 0, none⟩, 1, 1⟩, ⟨some ⟨b57, 0, none⟩, 2, 2⟩)] : List (Slc × Slc × Slc))[i]? = some x ∧ badT[i]? = some t ∧ RdT H60 x.1 x.2.1 x.2.2 t := by
    intro i hi
    match i, hi with
    | 0, _ => exact ⟨_, _, rfl, rfl, RdI.none, RdB.none, RdI.none⟩
    | 1, _ => exact ⟨_, _, rfl, rfl, rb25, rb27, RdI.none⟩
    | 2, _ => exact ⟨_, _, rfl, rfl, rb29, rb21, RdI.none⟩
    | 3, _ => exact ⟨_, _, rfl, rfl, rb31, rb21, rb33⟩
    | 4, _ => exact ⟨_, _, rfl, rfl, rb35, rb21, rb37⟩
    | 5, _ => exact ⟨_, _, rfl, rfl, rb39, rb21, rb41⟩
    | 6, _ => exact ⟨_, _, rfl, rfl, rb43, rb23, RdI.none⟩
    | 7, _ => exact ⟨_, _, rfl, rfl, rb45, rb23, rb47⟩
    | 8, _ => exact ⟨_, _, rfl, rfl, rb49, rb23, RdI.none⟩
    | 9, _ => exact ⟨_, _, rfl, rfl, rb51, rb21, rb53⟩
    | 10, _ => exact ⟨_, _, rfl, rfl, rb55, rb21, rb57⟩
  refine uptoH (N := 11) (J := fun _ H' => Hp.le H60 H') (by omega) (Hp.le_refl _) fun k H64 k0 k1 le64 => ⟨fun hk => ?_, fun hk => ?_⟩
  · have hk : k < 11 := by simpa using hk
    obtain ⟨x, t, hx, ht, rd⟩ := hall k.toNat (by omega)
    obtain ⟨nok, sm⟩ := badT_at ht
    have g64 := (rus.le le64).gS k0 hx
    have hin : inSl (some (Addr.mk b59 0 none)) 11 k := ⟨k0, hk, rfl⟩
    have et : takeM t = (.zero, 0, 0, 8) := by rw [takeM, if_neg nok]
    have eg : giveM t 9 0 = (.zero, 8) := by rw [giveM, if_neg nok]
    refine ⟨hin, x.1, x.2.1, x.2.2, g64, (slotTake (rd.le le64) sm).mono fun v H69 ⟨p1, p2, p3, hv, q1⟩ => ⟨p1, p2, p3, _, _, _, hv, hin, x.1, x.2.1, x.2.2, (rus.le (Hp.le_trans le64 q1.le)).gS k0 hx, (slotGive (rd.le (Hp.le_trans le64 q1.le)) sm).mono fun v H80 ⟨p4, p5, p6, hv, q2⟩ => ⟨p4, p5, p6, _, hv, ?_⟩⟩⟩
    have le80 := Hp.le_trans le64 (Hp.le_trans q1.le q2.le)
    have g80 := (rus.le le80).gS k0 hx
    have rd80 := rd.le le80
    refine ⟨hin, x.1, x.2.1, x.2.2, g80, _, _, slotHas rd80 sm, hin, x.1, x.2.1, x.2.2, g80, _, _, slotRoom rd80 sm, hin, x.1, x.2.1, x.2.2, g80, _, slotCheck rd80 sm, fun hb => ?_, fun _ => uptoH.nx k0 hk (by omega) le80⟩
    exfalso
    rw [et, eg, hasM, roomM, if_neg nok, if_neg nok, chk_bad nok] at hb
    simp at hb
  · intro b99 H100 hb99 e99 b101 H102 hb101 e101 b103 H104 hb103 e103
    have l102 : Hp.le H102 H104 := Hp.le_new (Hp.le_refl _) hb103 e103
    have l100 : Hp.le H100 H104 := Hp.le_trans (Hp.le_new (Hp.le_refl _) hb101 e101) l102
    have l64 : Hp.le H64 H104 := Hp.le_trans (Hp.le_new (Hp.le_refl _) hb99 e99) l100
    have w1 : Rd 1 fI H104 ⟨some ⟨b99, 0, none⟩, 2, 2⟩ [0, 1000000] := (rdConst (xs := [0, 1000000]) (k := 1) (f := fI) (fun _ => rfl) e99 rfl rfl).le l100
    have w2 : Rd 1 fB H104 ⟨some ⟨b101, 0, none⟩, 2, 2⟩ [false, false] := (rdConst (xs := [false, false]) (k := 1) (f := fB) (fun _ => rfl) e101 rfl rfl).le l102
    have w3 : Rd 1 fI H104 ⟨some ⟨b103, 0, none⟩, 2, 2⟩ [0, 1] := rdConst (k := 1) (f := fI) (fun _ => rfl) e103 rfl rfl
    have wr : RdT H104 ⟨some ⟨b99, 0, none⟩, 2, 2⟩ ⟨some ⟨b101, 0, none⟩, 2, 2⟩ ⟨some ⟨b103, 0, none⟩, 2, 2⟩ ⟨[0, 1000000], [false, false], [0, 1]⟩ := ⟨w1, w2, w3⟩
    have wok : okT ⟨[0, 1000000], [false, false], [0, 1]⟩ := by decide +kernel
    refine (slotTake wr wok.small).mono fun v H106 ⟨p1, p2, p3, hv, q1⟩ => ⟨p1, p2, p3, _, _, _, hv, fun b113 H114 hb113 e113 b115 H116 hb115 e115 => ?_⟩
    have l114 : Hp.le H114 H116 := Hp.le_new (Hp.le_refl _) hb115 e115
    have l106 : Hp.le H106 H116 := Hp.le_trans (Hp.le_new (Hp.le_refl _) hb113 e113) l114
    have l60 : Hp.le H60 H116 := Hp.le_trans le64 (Hp.le_trans l64 (Hp.le_trans q1.le l106))
    have y1 : Rd 1 fI H116 ⟨some ⟨b113, 0, none⟩, 1, 1⟩ [999999] := (rdConst (xs := [999999]) (k := 1) (f := fI) (fun _ => rfl) e113 rfl rfl).le l114
    have y3 : Rd 1 fI H116 ⟨some ⟨b115, 0, none⟩, 1, 1⟩ [0] := rdConst (k := 1) (f := fI) (fun _ => rfl) e115 rfl rfl
    have yr : RdT H116 ⟨some ⟨b113, 0, none⟩, 1, 1⟩ ⟨some ⟨b21, 0, none⟩, 1, 1⟩ ⟨some ⟨b115, 0, none⟩, 1, 1⟩ ⟨[999999], [false], [0]⟩ := ⟨y1, rb21.le l60, y3⟩
    have yok : okT ⟨[999999], [false], [0]⟩ := by decide +kernel
    have et : takeM ⟨[999999], [false], [0]⟩ = (⟨[1000000], [true], []⟩, 0, 1000000, 0) := by kernel_rfl
    have ew : takeM ⟨[0, 1000000], [false, false], [0, 1]⟩ = (.zero, 0, 0, 18) := by kernel_rfl
    have yok2 : okT ⟨[1000000], [true], []⟩ := by decide +kernel
    have g1 : giveM ⟨[1000000], [true], []⟩ 0 999999 = (.zero, 6) := by kernel_rfl
    have g2 : giveM ⟨[1000000], [true], []⟩ 1 1 = (.zero, 6) := by kernel_rfl
    have g3 : giveM ⟨[1000000], [true], []⟩ (-1) 1 = (.zero, 6) := by kernel_rfl
    have hst := slotTake yr yok.small
    rw [et] at hst
    refine hst.mono fun v H118 ⟨x1, x2, x3, hv, q2⟩ => ⟨x1, x2, x3, _, _, _, hv, ?_⟩
    have hg1 := slotGive (i := 0) (u := 999999) q2.rd yok2.small
    rw [g1] at hg1
    refine hg1.mono fun v H126 ⟨x4, x5, x6, hv, q3⟩ => ⟨x4, x5, x6, _, hv, ?_⟩
    have hg2 := slotGive (i := 1) (u := 1) (q2.rd.le q3.le) yok2.small
    rw [g2] at hg2
    refine hg2.mono fun v H132 ⟨x7, x8, x9, hv, q4⟩ => ⟨x7, x8, x9, _, hv, ?_⟩
    have hg3 := slotGive (i := -1) (u := 1) (q2.rd.le (Hp.le_trans q3.le q4.le)) yok2.small
    rw [g3] at hg3
    refine hg3.mono fun v H138 ⟨y7, y8, y9, hv, q5⟩ => ⟨y7, y8, y9, _, hv, ?_⟩
    have l118 := Hp.le_trans q3.le (Hp.le_trans q4.le q5.le)
    have l116 := Hp.le_trans q2.le l118
    have lw : Hp.le H104 H138 := Hp.le_trans q1.le (Hp.le_trans l106 l116)
    have lall : Hp.le H14 H138 := Hp.le_trans m14 (Hp.le_trans l60 l116)
    have hr := slotRoom (q2.rd.le l118) yok2.small
    rw [roomM_ok yok2] at hr
    rw [ew]
    have n0e : (newM 0).2 = 2 := by kernel_rfl
    have n1e : (newM 201).2 = 2 := by kernel_rfl
    rw [n0e, n1e]
    have hn2 : RdT H138 a2 d2 c2 (beginT 200) := n2.rd.le lall
    have v1 : (beginT 200).live 0 0 = false := by kernel_rfl
    have v2 : (⟨[0, 1000000], [false, false], [0, 1]⟩ : Tb).live 1 1000000 = false := by kernel_rfl
    have x1 := lawHasOk hn2 ok200 v1
    have x2 := lawHasOk (wr.le lw) wok v2
    refine ⟨_, _, hr, true, fun _ => x2, true, fun _ => x1, true, fun _ => lawAlive, ?_, Hp.le_trans le14 lall⟩
    rfl
end Go.Proofs.Ytmnbekffebdfmaa
end
