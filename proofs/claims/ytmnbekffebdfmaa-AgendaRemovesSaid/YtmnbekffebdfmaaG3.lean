/- The contract of settle; copies of agendas. Conditions: none. -/
import Derived.Test.YtmnbekffebdfmaaG2
import Derived.Test.YtmnbekffebdfmaaVgAgenda
import Derived.Test.YtmnbekffebdfmaaVgStd
import Derived.Test.YtmnbekffebdfmaaFs
set_option linter.unusedVariables false
set_option maxRecDepth 100000
open Go Go.Eng Go.Proofs
namespace Go.Proofs.Ytmnbekffebdfmaa

theorem set3 {w : List Int} {a b : Nat} {x y z : Int} : ((w.set a x).set b y).set a z = (w.set b y).set a z := by
  by_cases h : a = b
  · subst h; simp
  · rw [List.set_comm _ _ h]; simp

/-- Putting an event into the hole one place on. -/
theorem hole_step {s : Hw} {j k : Nat} {x : Ev} (hj : j < s.1.length) (hk : k < s.1.length) (hne : k ≠ j) :
    ((s.1.set j (hp s.1 k)).set k x, (s.2.set (hp s.1 k).h.1.toNat j).set x.h.1.toNat k) = swapE (s.1.set j x, s.2.set x.h.1.toNat j) j k := by
  have e1 : hp (s.1.set j x) k = hp s.1 k := by rw [hp_set hj, if_neg (fun e => hne e.symm)]
  have e2 : hp (s.1.set j x) j = x := by rw [hp_set hj, if_pos rfl]
  unfold swapE
  simp only [e1, e2]
  rw [List.set_set, set3]

theorem agendaSettle {H0 H : Hp} {u1 u2 u3 u4 u5 : Slc} {s : Hw} {i : Nat} {x : Ev} (m : MyA H0 H u4 u5 s) (hi : i < s.1.length) (hx1 : x.h.1 < s.2.length) (hx0 : 0 ≤ x.h.1) (pl : plA (s.1.set i x, s.2.set x.h.1.toNat i)) (ht : timeH (s.1.set i x)) (hl : s.1.length ≤ 1000000) :
    Go.Eng.Fn Try.prog F.agenda_settle #[agV u1 u2 u3 u4 u5, .int .i64 (i : Int), evV x] H fun v H' => v = .tuple #[] ∧ MyA H0 H' u4 u5 (moveA (s.1.set i x, s.2.set x.h.1.toNat i) i) ∧ Chg2 H H' u4 u5 := by
  generalize hs0 : (s.1.set i x, s.2.set x.h.1.toNat i) = s0 at *
  have l0 : s0.1.length = s.1.length := by rw [← hs0]; simp
  have ht0 : timeH s0.1 := by rw [← hs0]; exact ht
  have w0 : s0.2.length = s.2.length := by rw [← hs0]; simp
  have htx : okR x.at_ := by
    have : hp s0.1 i = x := by rw [← hs0]; exact (hp_set hi).trans (if_pos rfl)
    rw [← this]; exact ht0.at (by omega)
  -- what is known in the hole at j of t, filled
  let Fl : Hw → Nat → Hw := fun t j => (t.1.set j x, t.2.set x.h.1.toNat j)
  have flx : ∀ (t : Hw) (j : Nat), j < t.1.length → hp (Fl t j).1 j = x := fun t j hj => (hp_set hj).trans (if_pos rfl)
  have flo : ∀ (t : Hw) (j k : Nat), j < t.1.length → k ≠ j → hp (Fl t j).1 k = hp t.1 k := fun t j k hj hk => (hp_set hj).trans (if_neg fun e => hk e.symm)
  refine agenda_settle_vc ⟨fun n H' => ∃ (t : Hw) (j : Nat), n = j ∧ MyA H0 H' u4 u5 t ∧ Kept s0 (Fl t j) ∧ j < t.1.length ∧ t.1.length = s.1.length ∧ t.2.length = s.2.length ∧ upA j (Fl t j) j = upA i s0 i ∧ Chg2 H H' u4 u5, fun n _ => n.toNat,
    ⟨s, i, rfl, m, by show Kept s0 (s.1.set i x, s.2.set x.h.1.toNat i); rw [hs0]; exact Kept.refl pl, hi, rfl, rfl, by show upA i (s.1.set i x, s.2.set x.h.1.toNat i) i = _; rw [hs0], Chg2.refl⟩, fun n H' ⟨t, j, hn, mt, kt, hj, tl, tw, he, hc⟩ => ?_⟩
  subst hn
  have r := mt.heap.rdE
  have tt := ht0.perm kt.perm
  have fll : (Fl t j).1.length = t.1.length := List.length_set ..
  have gk : ∀ k : Nat, k < t.1.length → H'.at (eaddr u4.a 5 (k : Int)) = some (.int .i64 (hp t.1 k).at_.1) ∧ H'.at ((eaddr u4.a 5 (k : Int)).add 1) = some (.int .i64 (hp t.1 k).at_.2) ∧ H'.at ((eaddr u4.a 5 (k : Int)).add 2) = some (.int .i64 (hp t.1 k).no) ∧ H'.at ((eaddr u4.a 5 (k : Int)).add 3) = some (.int .i64 (hp t.1 k).h.1) ∧ H'.at ((eaddr u4.a 5 (k : Int)).add 4) = some (.int .i64 (hp t.1 k).h.2) := fun k hk => by
    have := Rd.gE r (i := (k : Int)) (by omega) (by omega)
    rw [Int.toNat_natCast] at this; exact this
  have hpar : decide ((j : Int) > 0) = true → ((j : Int) - 1).tdiv 2 = (par j : Nat) ∧ par j < j ∧ 0 < j := fun hh => by
    have : 0 < j := by simpa using hh
    have e := parI (n := (j : Int)) (by omega)
    rw [Int.toNat_natCast] at e
    exact ⟨e, par_lt this, this⟩
  have okp : ∀ k : Nat, k < t.1.length → k ≠ j → okR (hp t.1 k).at_ := fun k hk hne => by
    rw [← flo t j k hj hne]; exact tt.at (by rw [fll]; exact hk)
  refine ⟨fun _ => by unfold inI; omega, fun hh => ⟨by unfold nz; omega, by rw [(hpar hh).1]; have := (hpar hh).2.1; unfold inI; omega⟩, fun hh => by rw [(hpar hh).1]; have := (hpar hh).2.1; exact r.inS (by omega) (by omega), _, _, _, _, _, fun hh => by
    rw [(hpar hh).1]; have := (hpar hh).2.1; exact gk (par j) (by omega), cmpE x (hp t.1 (par j)), fun hh => by
    have := (hpar hh).2.1
    exact agendaCompare htx.fit (okp (par j) (by omega) (by omega)).fit, fun hb => ?_, fun hb => ?_⟩
  · simp only [Bool.and_eq_true] at hb
    obtain ⟨e, q1, q2⟩ := hpar hb.1
    have hb2 := hb.2
    rw [cmpE_less htx (okp (par j) (by omega) (by omega))] at hb2
    rw [e]
    have pl' := kt.pl
    have hpj := pl' (par j) (by rw [fll]; omega)
    rw [flo t j (par j) hj (by omega)] at hpj
    have hst := hole_step (s := t) (j := j) (k := par j) (x := x) hj (by omega) (by omega)
    refine ⟨by unfold inI; omega, ⟨by unfold nz; omega, by unfold inI; omega⟩, r.inS (by omega) (by omega), _, _, _, _, _, gk (par j) (by omega), (agendaSet mt hj hpj.1 (by have := hpj.2.1; rw [show (Fl t j).2.length = t.2.length from List.length_set ..] at this; exact this)).mono fun v H17 ⟨hv, m17, c17⟩ => ⟨hv, by unfold inI; omega, ⟨by unfold nz; omega, by unfold inI; omega⟩, ⟨_, par j, rfl, m17, ?_, by simp; omega, by simpa using tl, by simpa using tw, ?_, hc.trans c17⟩, ?_⟩⟩
    · show Kept s0 ((t.1.set j (hp t.1 (par j))).set (par j) x, (t.2.set (hp t.1 (par j)).h.1.toNat j).set x.h.1.toNat (par j))
      rw [hst]; exact kt.trans (Kept.swap kt.pl (by rw [fll]; exact hj) (by rw [fll]; omega))
    · show upA (par j) ((t.1.set j (hp t.1 (par j))).set (par j) x, (t.2.set (hp t.1 (par j)).h.1.toNat j).set x.h.1.toNat (par j)) (par j) = _
      rw [hst, ← he, upA_step (f := j) (s := Fl t j) (Nat.le_refl _) q2 (by rw [flx t j hj, flo t j (par j) hj (by omega)]; exact hb2)]
      exact upA_fuel _ _ _ _ (Nat.le_refl _) (by omega)
    · show ((par j : Nat) : Int).toNat < (j : Int).toNat; omega
  · have hstop : upA j (Fl t j) j = (Fl t j, j) := upA_stop fun ⟨a, b⟩ => by
      have := par_lt (i := j) a
      rw [flx t j hj, flo t j (par j) hj (by omega), ← cmpE_less htx (okp (par j) (by omega) (by omega))] at b
      rw [b] at hb; simp at hb; omega
    rw [hstop] at he
    -- moving down
    have hmv : moveA s0 i = downA s0.1.length (Fl t j) j := by
      unfold moveA
      simp only [← he]
    rw [hmv]
    refine ⟨by unfold inI; omega, by unfold inI; omega, ?_⟩
    refine ⟨fun n k H'' => ∃ (t' : Hw) (j' : Nat), n = j' ∧ k = 2 * (j' : Int) + 1 ∧ MyA H0 H'' u4 u5 t' ∧ Kept s0 (Fl t' j') ∧ j' < t'.1.length ∧ t'.1.length = s.1.length ∧ t'.2.length = s.2.length ∧ downA s0.1.length (Fl t' j') j' = downA s0.1.length (Fl t j) j ∧ Chg2 H H'' u4 u5, fun n _ _ => (s.1.length - n).toNat,
      ⟨t, j, rfl, rfl, mt, kt, hj, tl, tw, rfl, hc⟩, fun n k H'' ⟨t', j', hn, hk, mt', kt', hj', tl', tw', he', hc'⟩ => ?_⟩
    subst hn; subst hk
    clear r tt gk hpar okp hb hstop he hmv fll
    have r := mt'.heap.rdE
    have lu := r.len
    have tt := ht0.perm kt'.perm
    have fll : (Fl t' j').1.length = t'.1.length := List.length_set ..
    have gk : ∀ k : Nat, k < t'.1.length → H''.at (eaddr u4.a 5 (k : Int)) = some (.int .i64 (hp t'.1 k).at_.1) ∧ H''.at ((eaddr u4.a 5 (k : Int)).add 1) = some (.int .i64 (hp t'.1 k).at_.2) ∧ H''.at ((eaddr u4.a 5 (k : Int)).add 2) = some (.int .i64 (hp t'.1 k).no) ∧ H''.at ((eaddr u4.a 5 (k : Int)).add 3) = some (.int .i64 (hp t'.1 k).h.1) ∧ H''.at ((eaddr u4.a 5 (k : Int)).add 4) = some (.int .i64 (hp t'.1 k).h.2) := fun k hk => by
      have := Rd.gE r (i := (k : Int)) (by omega) (by omega)
      rw [Int.toNat_natCast] at this; exact this
    have ins : ∀ k : Nat, k < t'.1.length → inSl u4.a u4.n (k : Int) := fun k hk => r.inS (by omega) (by omega)
    have okp : ∀ k : Nat, k < t'.1.length → k ≠ j' → okR (hp t'.1 k).at_ := fun k hk hne => by
      rw [← flo t' j' k hj' hne]; exact tt.at (by rw [fll]; exact hk)
    have e2 : (2 * (j' : Int) + 1 + 1) = ((2 * j' + 2 : Nat) : Int) := by omega
    have e1 : (2 * (j' : Int) + 1) = ((2 * j' + 1 : Nat) : Int) := by omega
    -- the end: the event comes into the hole
    have fin : downA s0.1.length (Fl t' j') j' = Fl t' j' → Go.Eng.Fn Try.prog F.agenda_set #[agV u1 u2 u3 u4 u5, .int .i64 (j' : Int), evV x] H'' fun v H3 => v = .tuple #[] ∧ (Value.tuple #[] = .tuple #[] ∧ MyA H0 H3 u4 u5 (downA s0.1.length (Fl t j) j) ∧ Chg2 H H3 u4 u5) := fun hd => by
      refine (agendaSet mt' hj' hx0 (by omega)).mono fun v H3 ⟨hv, m3, c3⟩ => ⟨hv, rfl, ?_, hc'.trans c3⟩
      rw [← he', hd]; exact m3
    have hlast : ¬ 2 * j' + 1 < t'.1.length → downA s0.1.length (Fl t' j') j' = Fl t' j' := fun hh => downA_stop fun ⟨a, _⟩ => by rw [fll] at a; exact hh a
    refine ⟨fun hb => ?_, fun hb => fin (hlast (by simp at hb; omega))⟩
    have hk1 : 2 * j' + 1 < t'.1.length := by simp at hb; omega
    have hlt : decide (((2 * j' + 2 : Nat) : Int) < (u4.n : Int)) = true → 2 * j' + 2 < t'.1.length := fun hh => by simp at hh; omega
    -- what is done with the child that is chosen
    have go : ∀ k : Nat, k = kid (Fl t' j').1 j' → k < t'.1.length → (cmpE (hp t'.1 k) x ≥ 0 → downA s0.1.length (Fl t' j') j' = Fl t' j') ∧
        (¬ cmpE (hp t'.1 k) x ≥ 0 → Go.Eng.Fn Try.prog F.agenda_set #[agV u1 u2 u3 u4 u5, .int .i64 (j' : Int), evV (hp t'.1 k)] H'' fun v H3 => v = .tuple #[] ∧ inI (2 * (k : Int)) ∧ inI (2 * (k : Int) + 1) ∧ (∃ (t'' : Hw) (j'' : Nat), (k : Int) = j'' ∧ 2 * (k : Int) + 1 = 2 * (j'' : Int) + 1 ∧ MyA H0 H3 u4 u5 t'' ∧ Kept s0 (Fl t'' j'') ∧ j'' < t''.1.length ∧ t''.1.length = s.1.length ∧ t''.2.length = s.2.length ∧ downA s0.1.length (Fl t'' j'') j'' = downA s0.1.length (Fl t j) j ∧ Chg2 H H3 u4 u5) ∧ (s.1.length - (k : Int)).toNat < (s.1.length - (j' : Int)).toNat) := fun k hk hkl => by
      have hgt := (kid_gt (Fl t' j').1 j').1
      rw [← hk] at hgt
      have hokk := okp k hkl (by omega)
      have hle := cmpE_less hokk htx
      refine ⟨fun hb => ?_, fun hb => ?_⟩
      · refine downA_stop fun ⟨_, b⟩ => ?_
        rw [← hk, flx t' j' hj', flo t' j' k hj' (by omega), ← hle] at b
        simp at b; omega
      · have hless : lessE (hp t'.1 k) x = true := by rw [← hle]; simp; omega
        have hpk := kt'.pl k (by rw [fll]; exact hkl)
        rw [flo t' j' k hj' (by omega)] at hpk
        have hst := hole_step (s := t') (j := j') (k := k) (x := x) hj' hkl (by omega)
        refine (agendaSet mt' hj' hpk.1 (by have := hpk.2.1; rw [show (Fl t' j').2.length = t'.2.length from List.length_set ..] at this; exact this)).mono fun v H3 ⟨hv, m3, c3⟩ => ⟨hv, by unfold inI; omega, by unfold inI; omega, ⟨_, k, rfl, rfl, m3, ?_, by simpa using hkl, by simpa using tl', by simpa using tw', ?_, hc'.trans c3⟩, by omega⟩
        · show Kept s0 ((t'.1.set j' (hp t'.1 k)).set k x, (t'.2.set (hp t'.1 k).h.1.toNat j').set x.h.1.toNat k)
          rw [hst]; exact kt'.trans (Kept.swap kt'.pl (by rw [fll]; exact hj') (by rw [fll]; exact hkl))
        · show downA s0.1.length ((t'.1.set j' (hp t'.1 k)).set k x, (t'.2.set (hp t'.1 k).h.1.toNat j').set x.h.1.toNat k) k = _
          rw [hst, ← he', downA_step (f := s0.1.length) (s := Fl t' j') (by rw [fll]; omega) (by rw [fll]; exact hk1) (by rw [← hk, flx t' j' hj', flo t' j' k hj' (by omega)]; exact hless), ← hk]
    rw [e2, e1]
    have k2 : kid (Fl t' j').1 j' = if 2 * j' + 2 < t'.1.length ∧ lessE (hp t'.1 (2 * j' + 2)) (hp t'.1 (2 * j' + 1)) = true then 2 * j' + 2 else 2 * j' + 1 := by
      unfold kid; rw [fll, flo t' j' _ hj' (by omega), flo t' j' _ hj' (by omega)]
    refine ⟨by unfold inI; omega, fun _ => by unfold inI; omega, fun hh => ins _ (hlt hh), _, _, _, _, _, fun hh => gk _ (hlt hh), fun hh => ins _ hk1, _, _, _, _, _, fun hh => gk _ hk1, cmpE (hp t'.1 (2 * j' + 2)) (hp t'.1 (2 * j' + 1)), fun hh => agendaCompare (okp _ (hlt hh) (by omega)).fit (okp _ hk1 (by omega)).fit, fun hb => ?_, fun hb => ?_⟩
    · simp only [Bool.and_eq_true] at hb
      have h2 := hlt hb.1
      have hb2 := hb.2
      rw [cmpE_less (okp _ h2 (by omega)) (okp _ hk1 (by omega))] at hb2
      rw [if_pos ⟨h2, hb2⟩] at k2
      obtain ⟨g1, g2⟩ := go (2 * j' + 2) k2.symm h2
      exact ⟨by unfold inI; omega, ins _ h2, _, _, _, _, _, gk _ h2, _, agendaCompare (okp _ h2 (by omega)).fit htx.fit, fun hx => fin (g1 (by simpa using hx)), fun hx => ⟨ins _ h2, _, _, _, _, _, gk _ h2, g2 (by simpa using hx)⟩⟩
    · have hb2 : ¬ (2 * j' + 2 < t'.1.length ∧ lessE (hp t'.1 (2 * j' + 2)) (hp t'.1 (2 * j' + 1)) = true) := fun ⟨a, b⟩ => by
        rw [← cmpE_less (okp _ a (by omega)) (okp _ hk1 (by omega))] at b
        rw [b] at hb; simp at hb; omega
      rw [if_neg hb2] at k2
      obtain ⟨g1, g2⟩ := go (2 * j' + 1) k2.symm hk1
      exact ⟨ins _ hk1, _, _, _, _, _, gk _ hk1, _, agendaCompare (okp _ hk1 (by omega)).fit htx.fit, fun hx => fin (g1 (by simpa using hx)), fun hx => ⟨ins _ hk1, _, _, _, _, _, gk _ hk1, g2 (by simpa using hx)⟩⟩

/-- A fresh agenda. -/
structure NewA (H0 H : Hp) (u1 u2 u3 u4 u5 : Slc) (a : Ag) : Prop where
  tb : NewT H0 H u1 u2 u3 a.tb
  heap : Mine 5 fE T.api_Event H0 H u4 a.heap
  wh : Mine 1 fI T.int H0 H u5 a.wh
  s45 : Sep u4 u5
  s4 : SepT u1 u2 u3 u4
  s5 : SepT u1 u2 u3 u5
theorem NewA.le {H0 H : Hp} {u1 u2 u3 u4 u5 : Slc} {a : Ag} (h : NewA H0 H u1 u2 u3 u4 u5 a) : Hp.le H0 H := h.tb.le
theorem NewA.rd {H0 H : Hp} {u1 u2 u3 u4 u5 : Slc} {a : Ag} (h : NewA H0 H u1 u2 u3 u4 u5 a) : RdA H u1 u2 u3 u4 u5 a := ⟨h.tb.rd, h.heap.rdE, h.wh.rdI⟩
theorem NewA.up {H0 H H' : Hp} {u1 u2 u3 u4 u5 : Slc} {a : Ag} (h : NewA H0 H u1 u2 u3 u4 u5 a) (hl : Hp.le H H') : NewA H0 H' u1 u2 u3 u4 u5 a := ⟨h.tb.up hl, h.heap.le hl, h.wh.le hl, h.s45, h.s4, h.s5⟩
theorem NewA.low {H0 H1 H : Hp} {u1 u2 u3 u4 u5 : Slc} {a : Ag} (h : NewA H1 H u1 u2 u3 u4 u5 a) (hl : Hp.le H0 H1) : NewA H0 H u1 u2 u3 u4 u5 a := ⟨h.tb.low hl, h.heap.low hl, h.wh.low hl, h.s45, h.s4, h.s5⟩
theorem NewA.zero {H H' : Hp} (h : Hp.le H H') : NewA H H' zs zs zs zs zs .zero := ⟨NewT.zero h, .inl ⟨rfl, rfl⟩, .inl ⟨rfl, rfl⟩, Sep.nil, ⟨Sep.nil, Sep.nil, Sep.nil⟩, ⟨Sep.nil, Sep.nil, Sep.nil⟩⟩
theorem NewA.my {H0 H : Hp} {u1 u2 u3 u4 u5 : Slc} {a : Ag} (h : NewA H0 H u1 u2 u3 u4 u5 a) : MyA H0 H u4 u5 (a.heap, a.wh) := ⟨h.le, h.heap, h.wh, h.s45⟩
/-- A table that stands apart stays. -/
theorem NewT.chg2 {H0 H H' : Hp} {a b c u v : Slc} {t : Tb} (h : NewT H0 H a b c t) (hc : Chg2 H H' u v) (h1 : SepT a b c u) (h2 : SepT a b c v) (hu : New H0 u) (hv : New H0 v) : NewT H0 H' a b c t :=
  ⟨hc.le h.le hu hv, hc.mine h.uses h1.1 h2.1, hc.mine h.used h1.2.1 h2.2.1, hc.mine h.free h1.2.2 h2.2.2, h.s12, h.s13, h.s23⟩

theorem clone_event {H : Hp} {s : Slc} {xs : List Ev} (hs : Rd 5 fE H s xs) (hl : xs.length ≤ 1000000000) :
    Go.Eng.Fn Try.prog F.slices_Clone_api_Event_api_Event #[s.v] H fun v H' => ∃ u : Slc, v = u.v ∧ Hp.le H H' ∧ Mine 5 fE T.api_Event H H' u xs :=
  slices_Clone_api_Event_api_Event_vc (clone_vc (k := 5) (f := fE) (bytes := 40) (by kernel_rfl) (by decide) (fun _ => rfl) hs (by omega) (by omega))

theorem agendaTwin {H : Hp} {u1 u2 u3 u4 u5 : Slc} {a : Ag} (h : RdA H u1 u2 u3 u4 u5 a) (hl : a.heap.length ≤ 1000000) (hw : a.wh.length ≤ 1000000) :
    Go.Eng.Fn Try.prog F.agenda_twin #[agV u1 u2 u3 u4 u5] H fun v H' => ∃ b c : Slc, v = agV u1 u2 u3 b c ∧ MyA H H' b c (a.heap, a.wh) := by
  refine agenda_twin_vc ((clone_event h.heap (by omega)).mono fun v H2 ⟨b, hv, l2, m2⟩ => ⟨l2, b, hv, (clone_int (h.wh.le l2) (by omega)).mono fun v H5 ⟨c, hv, l5, m5⟩ => ⟨l5, c, hv, b, c, rfl, ?_⟩⟩)
  exact ⟨Hp.le_trans l2 l5, m2.le l5, m5.low l2, Sep.of m2.isOld m5.isNew⟩

theorem refATwin {H : Hp} {u1 u2 u3 u4 u5 : Slc} {a : Ag} (h : RdA H u1 u2 u3 u4 u5 a) (f : fitG a) :
    Go.Eng.Fn Try.prog F.pelotonref07_Twin #[agV u1 u2 u3 u4 u5] H fun v H' => ∃ v1 v2 v3 v4 v5 : Slc, v = agV v1 v2 v3 v4 v5 ∧ NewA H H' v1 v2 v3 v4 v5 a := by
  have := f.hl; have := f.wl
  refine pelotonref07_Twin_vc ((rtwin h.tb f.tb).mono fun v H2 ⟨v1, v2, v3, hv, n⟩ => ⟨n.le, v1, v2, v3, hv, fun b6 H7 hb6 hH7 => ?_⟩)
  refine (copy_ok (k := 5) (f := fE) (bytes := 40) (e := T.api_Event) (by kernel_rfl) (by decide) (fun _ => rfl) (fun x v hv => by simp [fE] at hv; rcases hv with rfl | rfl | rfl | rfl | rfl <;> rfl) hb6 hH7 (h.heap.le n.le) (by omega) (by omega)).mono fun v H9 ⟨v4, hv, l9, m9⟩ => ⟨v4, hv, fun b11 H12 hb11 hH12 => ?_⟩
  refine (copy_ok (k := 1) (f := fI) (bytes := 8) (e := T.int) (by kernel_rfl) (by decide) (fun _ => rfl) (fun x v hv => by simp [fI] at hv; subst hv; rfl) hb11 hH12 ((h.wh.le n.le).le l9) (by omega) (by omega)).mono fun v H14 ⟨v5, hv, l14, m14⟩ => ⟨v5, hv, v1, v2, v3, v4, v5, rfl, ?_⟩
  have o := n.old
  have l29 : Hp.le H2 H9 := l9
  refine ⟨(n.up l9).up l14, (m9.low n.le).le l14, (m14.low l9).low n.le, Sep.of m9.isOld m14.isNew, ⟨Sep.of o.1 m9.isNew, Sep.of o.2.1 m9.isNew, Sep.of o.2.2 m9.isNew⟩, ?_⟩
  have o9 := o.le l9
  exact ⟨Sep.of o9.1 m14.isNew, Sep.of o9.2.1 m14.isNew, Sep.of o9.2.2 m14.isNew⟩

theorem indexFunc_event {H : Hp} {s : Slc} {xs : List Ev} {fv : Value} {p : Ev → Bool} (h : Rd 5 fE H s xs) (hl : xs.length ≤ 1000000000)
    (hf : ∀ x : Ev, QfV Try.prog fv [evV x] H (.bool (p x))) : Qf Try.prog F.slices_IndexFunc_api_Event_api_Event #[s.v, fv] H (.int .i64 (idx p xs)) := by
  have ls := h.len
  refine slices_IndexFunc_api_Event_api_Event_vc (upto (N := xs.length) (J := fun n => ∀ y ∈ xs.take n.toNat, p y = false) (by omega) (by simp) fun n h0 h1 hJ => ⟨fun hn => ?_, fun hn => ⟨?_, Hp.le_refl _⟩⟩)
  · have hn : n < xs.length := by have : n < s.n := by simpa using hn
                                  omega
    have hg := hp_get (h := xs) (i := n.toNat) (by omega)
    refine ⟨h.inS h0 hn, _, _, _, _, _, Rd.gE h h0 hn, _, hf (hp xs n.toNat), fun hb => ⟨?_, Hp.le_refl _⟩, fun hb => upto.nx h0 hn (by omega) ?_⟩
    · rw [idx_hit hg hb hJ, Int.toNat_of_nonneg h0]
    · rw [show (n + 1).toNat = n.toNat + 1 by omega, take_succ hg]
      intro y hy
      rcases List.mem_append.1 hy with hy | hy
      · exact hJ y hy
      · simp only [List.mem_singleton] at hy; subst hy; exact hb
  · have : n = xs.length := by have : ¬ n < s.n := by simpa using hn
                               omega
    subst this
    rw [Int.toNat_natCast, List.take_length] at hJ
    rw [idx_miss hJ]
theorem containsFunc_event {H : Hp} {s : Slc} {xs : List Ev} {fv : Value} {p : Ev → Bool} (h : Rd 5 fE H s xs) (hl : xs.length ≤ 1000000000)
    (hf : ∀ x : Ev, QfV Try.prog fv [evV x] H (.bool (p x))) : Qf Try.prog F.slices_ContainsFunc_api_Event_api_Event #[s.v, fv] H (.bool (xs.any p)) :=
  slices_ContainsFunc_api_Event_api_Event_vc ⟨_, indexFunc_event h hl hf, by rw [← idx_ge], Hp.le_refl _⟩

theorem refAHas {H : Hp} {u1 u2 u3 u4 u5 : Slc} {a : Ag} {n : Int} (h : Rd 5 fE H u4 a.heap) (hl : a.heap.length ≤ 1000000000) : Qf Try.prog F.pelotonref07_Has #[agV u1 u2 u3 u4 u5, .int .i64 n] H (.bool (hasA a n)) := by
  have lu := h.len
  refine pelotonref07_Has_vc (upto (N := a.heap.length) (J := fun i => ∀ y ∈ a.heap.take i.toNat, (y.no == n) = false) (by omega) (by simp) fun i i0 i1 i2 => ⟨fun hn => ?_, fun hn => ⟨?_, Hp.le_refl _⟩⟩)
  · have hn : i < a.heap.length := by have : i < u4.n := by simpa using hn
                                      omega
    have hg := hp_get (h := a.heap) (i := i.toNat) (by omega)
    refine ⟨h.inS i0 hn, _, Rd.gEn h i0 hn, fun hb => ⟨?_, Hp.le_refl _⟩, fun hb => upto.nx i0 hn (by omega) ?_⟩
    · have : hasA a n = true := List.any_eq_true.2 ⟨_, List.mem_of_getElem? hg, hb⟩
      rw [this]
    · rw [show (i + 1).toNat = i.toNat + 1 by omega, take_succ hg]
      intro z hz
      rcases List.mem_append.1 hz with hz | hz
      · exact i2 z hz
      · simp only [List.mem_singleton] at hz; subst hz; exact hb
  · have : i = a.heap.length := by have : ¬ i < u4.n := by simpa using hn
                                   omega
    subst this
    rw [Int.toNat_natCast, List.take_length] at i2
    have : hasA a n = false := by
      unfold hasA; rw [List.any_eq_false]; intro y hy; rw [i2 y hy]; simp
    rw [this]
end Go.Proofs.Ytmnbekffebdfmaa
