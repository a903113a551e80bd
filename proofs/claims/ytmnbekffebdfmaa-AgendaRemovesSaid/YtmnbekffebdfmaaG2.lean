/- Contracts of what moves events. Conditions: none. -/
import Derived.Test.YtmnbekffebdfmaaG1
import Derived.Test.YtmnbekffebdfmaaVgAgenda
import Derived.Test.YtmnbekffebdfmaaFs
set_option linter.unusedVariables false
set_option maxRecDepth 100000
open Go Go.Eng Go.Proofs
namespace Go.Proofs.Ytmnbekffebdfmaa

/-- At most the blocks of two slices have changed. -/
def Chg2 (H H' : Hp) (u v : Slc) : Prop := ∀ b, H b ≠ none → (∀ p, u.a = some p → p.block ≠ b) → (∀ p, v.a = some p → p.block ≠ b) → H' b = H b
theorem Chg2.refl {H : Hp} {u v : Slc} : Chg2 H H u v := fun _ _ _ _ => rfl
theorem Chg2.of {H H1 H2 : Hp} {u v : Slc} (a : Chg H H1 u) (b : Chg H1 H2 v) : Chg2 H H2 u v := fun c hc hu hv => by
  have := a c hc hu
  rw [b c (by rw [this]; exact hc) hv, this]
theorem Chg2.trans {H H1 H2 : Hp} {u v : Slc} (a : Chg2 H H1 u v) (b : Chg2 H1 H2 u v) : Chg2 H H2 u v := fun c hc hu hv => by
  have := a c hc hu hv
  rw [b c (by rw [this]; exact hc) hu hv, this]
theorem Chg2.mine {α : Type} {k : Nat} {f : α → List Value} {e : TypeId} {H0 H H' : Hp} {u v w : Slc} {xs : List α} (c : Chg2 H H' v w) (h : Mine k f e H0 H u xs) (h1 : Sep u v) (h2 : Sep u w) : Mine k f e H0 H' u xs := by
  rcases h with h | ⟨b, hb, h⟩
  · exact .inl h
  · obtain ⟨g1, g2, g3, cs, g4, g5⟩ := h
    exact .inr ⟨b, hb, g1, g2, g3, cs, by rw [c b (by rw [g4]; simp) (fun p hp e => h1 _ p g3 hp e.symm) fun p hp e => h2 _ p g3 hp e.symm]; exact g4, g5⟩
theorem Chg2.le {H0 H H' : Hp} {u v : Slc} (c : Chg2 H H' u v) (hl : Hp.le H0 H) (hu : New H0 u) (hv : New H0 v) : Hp.le H0 H' := fun b o hb => by
  rw [c b (by rw [hl b o hb]; simp) (fun p hp e => by have := hu p hp; rw [e, hb] at this; cases this) fun p hp e => by have := hv p hp; rw [e, hb] at this; cases this]
  exact hl b o hb

/-- Heap and Where that are nobody else's. -/
structure MyA (H0 H : Hp) (u4 u5 : Slc) (s : Hw) : Prop where
  le : Hp.le H0 H
  heap : Mine 5 fE T.api_Event H0 H u4 s.1
  wh : Mine 1 fI T.int H0 H u5 s.2
  sep : Sep u4 u5

abbrev agV (u1 u2 u3 u4 u5 : Slc) : Value := .agg #[u1.v, u2.v, u3.v, u4.v, u5.v]

theorem agendaSet {H0 H : Hp} {u1 u2 u3 u4 u5 : Slc} {s : Hw} {i : Nat} {x : Ev} (m : MyA H0 H u4 u5 s) (hi : i < s.1.length) (x0 : 0 ≤ x.h.1) (x1 : x.h.1 < s.2.length) :
    Go.Eng.Fn Try.prog F.agenda_set #[agV u1 u2 u3 u4 u5, .int .i64 (i : Int), evV x] H fun v H' => v = .tuple #[] ∧ MyA H0 H' u4 u5 (s.1.set i x, s.2.set x.h.1.toNat i) ∧ Chg2 H H' u4 u5 := by
  obtain ⟨m1, m2, m3, m4⟩ := m
  refine agenda_set_vc ⟨m2.rdE.inS (by omega) (by omega), ?_⟩
  refine Mine.setE (k := 5) (f := fE) (vs := fE x) (y := x) (fun _ => rfl) m2 (i := (i : Int)) (by omega) (by rw [Int.toNat_natCast]; exact hp_get hi) (by simp [fE]) (by simp [fE]) fun H1 n1 c1 => ?_
  rw [Int.toNat_natCast] at n1
  have w1 := m3.chg c1 m4.symm
  refine ⟨w1.rdI.inS x0 x1, Mine.setI w1 x0 x1 i fun H2 n2 c2 => ⟨rfl, ⟨?_, n1.chg c2 m4, n2, m4⟩, Chg2.of c1 c2⟩⟩
  exact Hp.le_chg (Hp.le_chg m1 c1 m2.isNew) c2 m3.isNew

theorem refSwap {H0 H : Hp} {u1 u2 u3 u4 u5 : Slc} {s : Hw} {i k : Nat} (m : MyA H0 H u4 u5 s) (pl : plA s) (hi : i < s.1.length) (hk : k < s.1.length) :
    Go.Eng.Fn Try.prog F.pelotonref07_swap #[agV u1 u2 u3 u4 u5, .int .i64 (i : Int), .int .i64 (k : Int)] H fun v H' => v = .tuple #[] ∧ MyA H0 H' u4 u5 (swapE s i k) ∧ Chg2 H H' u4 u5 := by
  obtain ⟨m1, m2, m3, m4⟩ := m
  have r := m2.rdE
  obtain ⟨i1, i2, i3⟩ := pl i hi
  obtain ⟨k1, k2, k3⟩ := pl k hk
  have gk := Rd.gE r (i := (k : Int)) (by omega) (by omega)
  have gi := Rd.gE r (i := (i : Int)) (by omega) (by omega)
  rw [Int.toNat_natCast] at gk gi
  refine pelotonref07_swap_vc ⟨r.inS (by omega) (by omega), _, _, _, _, _, gk, r.inS (by omega) (by omega), _, _, _, _, _, gi, r.inS (by omega) (by omega), ?_⟩
  refine Mine.setE (k := 5) (f := fE) (vs := fE (hp s.1 k)) (y := hp s.1 k) (fun _ => rfl) m2 (i := (i : Int)) (by omega) (by rw [Int.toNat_natCast]; exact hp_get hi) (by simp [fE]) (by simp [fE]) fun H1 n1 c1 => ?_
  rw [Int.toNat_natCast] at n1
  refine ⟨r.inS (by omega) (by omega), ?_⟩
  have hk' : k < (s.1.set i (hp s.1 k)).length := by simpa using hk
  refine Mine.setE (k := 5) (f := fE) (vs := fE (hp s.1 i)) (y := hp s.1 i) (fun _ => rfl) n1 (i := (k : Int)) (by omega) (by rw [Int.toNat_natCast]; exact hp_get hk') (by simp [fE]) (by simp [fE]) fun H2 n2 c2 => ?_
  rw [Int.toNat_natCast] at n2
  have r2 := n2.rdE
  have l2 : ((s.1.set i (hp s.1 k)).set k (hp s.1 i)).length = s.1.length := by simp
  have hi2 : hp ((s.1.set i (hp s.1 k)).set k (hp s.1 i)) i = hp s.1 k := by
    rw [hp_set hk', hp_set hi, if_pos rfl]
    split
    · rename_i e; rw [e]
    · rfl
  have hk2 : hp ((s.1.set i (hp s.1 k)).set k (hp s.1 i)) k = hp s.1 i := by
    rw [hp_set hk', if_pos rfl]
  have g2i := (Rd.gEh r2 (i := (i : Int)) (by omega) (by omega)).1
  have g2k := (Rd.gEh r2 (i := (k : Int)) (by omega) (by omega)).1
  rw [Int.toNat_natCast, hi2] at g2i
  rw [Int.toNat_natCast, hk2] at g2k
  refine ⟨r2.inS (by omega) (by omega), _, by rw [add_zero']; exact g2i, r2.inS (by omega) (by omega), _, by rw [add_zero']; exact g2k, ?_⟩
  have w2 := (m3.chg c1 m4.symm).chg c2 m4.symm
  refine ⟨w2.rdI.inS k1 k2, Mine.setI w2 k1 k2 i fun H3 n3 c3 => ⟨n3.rdI.inS i1 (by simpa using i2), Mine.setI n3 i1 (by simpa using i2) k fun H4 n4 c4 => ⟨rfl, ⟨?_, (n2.chg c3 m4).chg c4 m4, n4, m4⟩, ?_⟩⟩⟩
  · exact Hp.le_chg (Hp.le_chg (Hp.le_chg (Hp.le_chg m1 c1 m2.isNew) c2 m2.isNew) c3 m3.isNew) c4 m3.isNew
  · intro b hb h4 h5
    have e1 := c1 b hb h4
    have e2 := c2 b (by rw [e1]; exact hb) h4
    have e3 := c3 b (by rw [e2, e1]; exact hb) h5
    rw [c4 b (by rw [e3, e2, e1]; exact hb) h5, e3, e2, e1]

/-- All times are valid. -/
def timeH (h : List Ev) : Prop := ∀ x ∈ h, okR x.at_
theorem timeH.at {h : List Ev} (t : timeH h) {i : Nat} (hi : i < h.length) : okR (hp h i).at_ := t _ (hp_mem hi)
theorem timeH.perm {h h' : List Ev} (t : timeH h) (e : h'.Perm h) : timeH h' := fun x hx => t x (e.mem_iff.1 hx)

theorem refUp {H0 H : Hp} {u1 u2 u3 u4 u5 : Slc} {s : Hw} {i : Nat} (m : MyA H0 H u4 u5 s) (pl : plA s) (ht : timeH s.1) (hi : i < s.1.length) (hl : s.1.length ≤ 1000000) :
    Go.Eng.Fn Try.prog F.pelotonref07_up #[agV u1 u2 u3 u4 u5, .int .i64 (i : Int)] H fun v H' => v = .int .i64 ((upA i s i).2 : Int) ∧ MyA H0 H' u4 u5 (upA i s i).1 ∧ Chg2 H H' u4 u5 := by
  refine pelotonref07_up_vc ⟨fun n H' => ∃ (t : Hw) (j : Nat), n = j ∧ MyA H0 H' u4 u5 t ∧ Kept s t ∧ j < s.1.length ∧ upA j t j = upA i s i ∧ Chg2 H H' u4 u5, fun n _ => n.toNat, ⟨s, i, rfl, m, Kept.refl pl, hi, rfl, Chg2.refl⟩, fun n H' ⟨t, j, hn, mt, kt, hj, he, hc⟩ => ?_⟩
  subst hn
  have r := mt.heap.rdE
  have htl := kt.len
  have tt := ht.perm kt.perm
  have hjt : j < t.1.length := by omega
  have gj := Rd.gE r (i := (j : Int)) (by omega) (by omega)
  rw [Int.toNat_natCast] at gj
  have hpar : decide ((j : Int) > 0) = true → ((j : Int) - 1).tdiv 2 = (par j : Nat) ∧ par j < j ∧ 0 < j := fun hh => by
    have : 0 < j := by simpa using hh
    have e := parI (n := (j : Int)) (by omega)
    rw [Int.toNat_natCast] at e
    exact ⟨e, par_lt this, this⟩
  refine ⟨fun _ => r.inS (by omega) (by omega), _, _, _, _, _, fun _ => gj, fun _ => by unfold inI; omega, fun hh => ⟨by unfold nz; omega, by rw [(hpar hh).1]; have := (hpar hh).2.1; unfold inI; omega⟩, fun hh => by rw [(hpar hh).1]; have := (hpar hh).2.1; exact r.inS (by omega) (by omega), _, _, _, _, _, fun hh => by
    rw [(hpar hh).1]; have := (hpar hh).2.1; exact Rd.gE r (i := (par j : Nat)) (by omega) (by omega), lessE (hp t.1 j) (hp t.1 (par j)), fun hh => by
    have := (hpar hh).2.1
    exact refELess (y := hp t.1 ((par j : Nat) : Int).toNat) (tt.at hjt) (tt.at (by rw [Int.toNat_natCast]; omega)), fun hb => ?_, fun hb => ?_⟩
  · simp only [Bool.and_eq_true] at hb
    obtain ⟨e, q1, q2⟩ := hpar hb.1
    rw [e]
    refine ⟨by unfold inI; omega, ⟨by unfold nz; omega, by unfold inI; omega⟩, (refSwap mt kt.pl hjt (by omega)).mono fun v H17 ⟨hv, m17, c17⟩ => ⟨hv, by unfold inI; omega, ⟨by unfold nz; omega, by unfold inI; omega⟩, ⟨_, par j, rfl, m17, kt.trans (Kept.swap kt.pl hjt (by omega)), by omega, ?_, hc.trans c17⟩, ?_⟩⟩
    · rw [← he, upA_step (f := j) (Nat.le_refl _) q2 hb.2]
      exact upA_fuel _ _ _ _ (Nat.le_refl _) (by omega)
    · show ((par j : Nat) : Int).toNat < (j : Int).toNat; omega
  · have : ¬ (0 < j ∧ lessE (hp t.1 j) (hp t.1 (par j)) = true) := fun ⟨a, b⟩ => by
      rw [b] at hb; simp at hb; omega
    rw [upA_stop this] at he
    rw [← he]
    exact ⟨rfl, mt, hc⟩

theorem kid_a {h : List Ev} {j : Nat} (h1 : 2 * j + 2 < h.length) (h2 : lessE (hp h (2 * j + 2)) (hp h (2 * j + 1)) = true) : kid h j = 2 * j + 2 := by unfold kid; rw [if_pos ⟨h1, h2⟩]
theorem kid_b {h : List Ev} {j : Nat} (h1 : ¬ (2 * j + 2 < h.length ∧ lessE (hp h (2 * j + 2)) (hp h (2 * j + 1)) = true)) : kid h j = 2 * j + 1 := by unfold kid; rw [if_neg h1]

theorem refDown {H0 H : Hp} {u1 u2 u3 u4 u5 : Slc} {s : Hw} {i : Nat} (m : MyA H0 H u4 u5 s) (pl : plA s) (ht : timeH s.1) (hi : i < s.1.length) (hl : s.1.length ≤ 1000000) :
    Go.Eng.Fn Try.prog F.pelotonref07_down #[agV u1 u2 u3 u4 u5, .int .i64 (i : Int)] H fun v H' => v = .tuple #[] ∧ MyA H0 H' u4 u5 (downA s.1.length s i) ∧ Chg2 H H' u4 u5 := by
  refine pelotonref07_down_vc ⟨fun n H' => ∃ (t : Hw) (j : Nat), n = j ∧ MyA H0 H' u4 u5 t ∧ Kept s t ∧ j < s.1.length ∧ downA s.1.length t j = downA s.1.length s i ∧ Chg2 H H' u4 u5, fun n _ => (s.1.length - n).toNat, ⟨s, i, rfl, m, Kept.refl pl, hi, rfl, Chg2.refl⟩, fun n H' ⟨t, j, hn, mt, kt, hj, he, hc⟩ => ?_⟩
  subst hn
  have r := mt.heap.rdE
  have htl := kt.len
  have tt := ht.perm kt.perm
  have hjt : j < t.1.length := by omega
  have lu := r.len
  have e2 : (2 * (j : Int) + 1 + 1) = ((2 * j + 2 : Nat) : Int) := by omega
  have e1 : (2 * (j : Int) + 1) = ((2 * j + 1 : Nat) : Int) := by omega
  refine ⟨by unfold inI; omega, by unfold inI; omega, fun hb => ?_, fun hb => ?_⟩
  · have : ¬ (2 * j + 1 < t.1.length ∧ lessE (hp t.1 (kid t.1 j)) (hp t.1 j) = true) := fun ⟨a, _⟩ => by simp at hb; omega
    rw [downA_stop this] at he
    rw [← he]; exact ⟨rfl, mt, hc⟩
  have hk1 : 2 * j + 1 < t.1.length := by simp at hb; omega
  have gk : ∀ k : Nat, k < t.1.length → H'.at (eaddr u4.a 5 (k : Int)) = some (.int .i64 (hp t.1 k).at_.1) ∧ H'.at ((eaddr u4.a 5 (k : Int)).add 1) = some (.int .i64 (hp t.1 k).at_.2) ∧ H'.at ((eaddr u4.a 5 (k : Int)).add 2) = some (.int .i64 (hp t.1 k).no) ∧ H'.at ((eaddr u4.a 5 (k : Int)).add 3) = some (.int .i64 (hp t.1 k).h.1) ∧ H'.at ((eaddr u4.a 5 (k : Int)).add 4) = some (.int .i64 (hp t.1 k).h.2) := fun k hk => by
    have := Rd.gE r (i := (k : Int)) (by omega) (by omega)
    rw [Int.toNat_natCast] at this; exact this
  have ins : ∀ k : Nat, k < t.1.length → inSl u4.a u4.n (k : Int) := fun k hk => r.inS (by omega) (by omega)
  rw [e2, e1]
  have hlt : decide (((2 * j + 2 : Nat) : Int) < (u4.n : Int)) = true → 2 * j + 2 < t.1.length := fun hh => by simp at hh; omega
  -- what is done with the child that is chosen
  have go : ∀ k : Nat, k = kid t.1 j → k < t.1.length → (lessE (hp t.1 k) (hp t.1 j) = false → (Value.tuple #[] = .tuple #[] ∧ MyA H0 H' u4 u5 (downA s.1.length s i) ∧ Chg2 H H' u4 u5)) ∧
      (lessE (hp t.1 k) (hp t.1 j) = true → Go.Eng.Fn Try.prog F.pelotonref07_swap #[agV u1 u2 u3 u4 u5, .int .i64 (j : Int), .int .i64 (k : Int)] H' fun v H'' => v = .tuple #[] ∧ (∃ (t : Hw) (j : Nat), (k : Int) = j ∧ MyA H0 H'' u4 u5 t ∧ Kept s t ∧ j < s.1.length ∧ downA s.1.length t j = downA s.1.length s i ∧ Chg2 H H'' u4 u5) ∧ (s.1.length - (k : Int)).toNat < (s.1.length - (j : Int)).toNat) := fun k hk hkl => by
    have hgt := (kid_gt t.1 j).1
    refine ⟨fun hb => ?_, fun hb => (refSwap mt kt.pl hjt hkl).mono fun v H17 ⟨hv, m17, c17⟩ => ⟨hv, ⟨_, k, rfl, m17, kt.trans (Kept.swap kt.pl hjt hkl), by omega, ?_, hc.trans c17⟩, ?_⟩⟩
    · have : ¬ (2 * j + 1 < t.1.length ∧ lessE (hp t.1 (kid t.1 j)) (hp t.1 j) = true) := fun ⟨_, b⟩ => by rw [← hk, hb] at b; cases b
      rw [downA_stop this] at he
      rw [← he]; exact ⟨rfl, mt, hc⟩
    · rw [← he, downA_step (f := s.1.length) (by omega) hk1 (by rw [← hk]; exact hb), hk]
    · omega
  refine ⟨by unfold inI; omega, fun _ => by unfold inI; omega, fun hh => ins _ (hlt hh), _, _, _, _, _, fun hh => gk _ (hlt hh), fun hh => ins _ hk1, _, _, _, _, _, fun hh => gk _ hk1, lessE (hp t.1 (2 * j + 2)) (hp t.1 (2 * j + 1)), fun hh => refELess (tt.at (hlt hh)) (tt.at hk1), fun hb => ?_, fun hb => ?_⟩
  · simp only [Bool.and_eq_true] at hb
    have h2 := hlt hb.1
    have hk := kid_a h2 hb.2
    obtain ⟨g1, g2⟩ := go (2 * j + 2) hk.symm h2
    refine ⟨by unfold inI; omega, ins _ h2, _, _, _, _, _, gk _ h2, ins _ hjt, _, _, _, _, _, gk _ hjt, _, refELess (tt.at h2) (tt.at hjt), fun hx => g1 (by simpa using hx), fun hx => g2 (by simpa using hx)⟩
  · have hk : kid t.1 j = 2 * j + 1 := kid_b fun ⟨a, b⟩ => by
      rw [b] at hb; simp at hb; omega
    obtain ⟨g1, g2⟩ := go (2 * j + 1) hk.symm hk1
    refine ⟨ins _ hk1, _, _, _, _, _, gk _ hk1, ins _ hjt, _, _, _, _, _, gk _ hjt, _, refELess (tt.at hk1) (tt.at hjt), fun hx => g1 (by simpa using hx), fun hx => g2 (by simpa using hx)⟩
end Go.Proofs.Ytmnbekffebdfmaa
