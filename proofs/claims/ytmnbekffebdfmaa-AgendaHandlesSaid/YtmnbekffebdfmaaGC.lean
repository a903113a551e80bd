/- The law AgendaHandles. Conditions: none. -/
import Derived.Test.YtmnbekffebdfmaaGA
import Derived.Test.YtmnbekffebdfmaaFs
set_option linter.unusedVariables false
set_option maxRecDepth 100000
open Go Go.Eng Go.Proofs
namespace Go.Proofs.Ytmnbekffebdfmaa

/-- What is known of an agenda, of what lives in it and with which times. -/
structure PlH (hs : List (Int × Int)) (a : Ag) (lv : List Bool) (ts : List (Int × Int)) : Prop where
  ok : okA a
  ll : lv.length = hs.length
  lt : ts.length = hs.length
  okT : ∀ x ∈ ts, okR x
  mem : ∀ k : Nat, k < hs.length → lv.getD k false = true → Ev.mk (ts.getD k (0, 0)) k (hs.getD k (0, 0)) ∈ a.heap
  dead : ∀ k : Nat, k < hs.length → lv.getD k false = false → a.tb.live (hs.getD k (0, 0)).1 (hs.getD k (0, 0)).2 = false
section
variable {hs ts : List (Int × Int)} {a : Ag} {lv : List Bool} {k : Nat}
theorem PlH.live (p : PlH hs a lv ts) (hk : k < hs.length) : a.tb.live (hs.getD k (0, 0)).1 (hs.getD k (0, 0)).2 = lv.getD k false := by
  cases h : lv.getD k false with
  | true => exact (p.ok.slot (p.mem k hk h)).2.2.2.2
  | false => exact p.dead k hk h
theorem PlH.find (p : PlH hs a lv ts) (hk : k < hs.length) : findA a (hs.getD k (0, 0)) = if lv.getD k false = true then (Ev.mk (ts.getD k (0, 0)) k (hs.getD k (0, 0)), 0) else (e0, 6) := by
  cases h : lv.getD k false with
  | true => rw [if_pos rfl]; exact (find_eq p.ok (p.mem k hk h)).1
  | false => rw [if_neg (by simp), findA, if_pos p.ok, if_neg (by rw [p.dead k hk h]; simp)]
theorem PlH.at_ (p : PlH hs a lv ts) (hk : k < hs.length) (h : lv.getD k false = true) : hp a.heap (atA a (hs.getD k (0, 0))) = Ev.mk (ts.getD k (0, 0)) k (hs.getD k (0, 0)) := (find_eq p.ok (p.mem k hk h)).2
theorem getD_setB {l : List Bool} {i j : Nat} {x : Bool} (h : i < l.length) : (l.set i x).getD j false = if i = j then x else l.getD j false := getD_set h
theorem getD_setP {l : List (Int × Int)} {i j : Nat} {x : Int × Int} (h : i < l.length) : (l.set i x).getD j (0, 0) = if i = j then x else l.getD j (0, 0) := getD_set h

theorem PlH.rem (p : PlH hs a lv ts) (hk : k < hs.length) (h : lv.getD k false = true) : PlH hs (removedA a (hs.getD k (0, 0))) (lv.set k false) ts := by
  have hl : a.tb.live (hs.getD k (0, 0)).1 (hs.getD k (0, 0)).2 = true := by rw [p.live hk, h]
  have r := p.ok.removed hl
  rw [p.at_ hk h] at r
  have kl : k < lv.length := by rw [p.ll]; exact hk
  have g := live_iff.1 hl
  have lus : a.tb.used.length = a.tb.uses.length := p.ok.tb.len
  refine ⟨r.ok, by rw [List.length_set]; exact p.ll, p.lt, p.okT, fun j hj h' => ?_, fun j hj h' => ?_⟩
  · rw [getD_setB kl] at h'
    by_cases e : k = j
    · rw [if_pos e] at h'; cases h'
    · rw [if_neg e] at h'
      have := r.perm.mem_iff.2 (p.mem j hj h')
      rcases List.mem_cons.1 this with e' | h2
      · exfalso
        have := congrArg Ev.no e'
        simp at this; omega
      · exact h2
  · rw [r.tb]
    rw [getD_setB kl] at h'
    rw [Bool.eq_false_iff]
    intro hc
    obtain ⟨c1, c2, c3, c4⟩ := live_iff.1 hc
    have c3 : (a.tb.used.set (hs.getD k (0, 0)).1.toNat false).getD (hs.getD j (0, 0)).1.toNat false = true := c3
    rw [getD_setB (by omega)] at c3
    by_cases e1 : (hs.getD k (0, 0)).1.toNat = (hs.getD j (0, 0)).1.toNat
    · rw [if_pos e1] at c3; cases c3
    · rw [if_neg e1] at c3
      have hjl : a.tb.live (hs.getD j (0, 0)).1 (hs.getD j (0, 0)).2 = true := live_iff.2 ⟨c1, c2, c3, c4⟩
      by_cases e : k = j
      · subst e; exact e1 rfl
      · rw [if_neg e] at h'
        rw [p.dead j hj h'] at hjl; cases hjl

theorem PlH.rek (p : PlH hs a lv ts) (hk : k < hs.length) (h : lv.getD k false = true) {t : Int × Int} (ht : okR t) : PlH hs (rekeyedA a (hs.getD k (0, 0)) t) lv (ts.set k t) := by
  have hl : a.tb.live (hs.getD k (0, 0)).1 (hs.getD k (0, 0)).2 = true := by rw [p.live hk, h]
  have r := p.ok.rekeyed hl ht
  rw [p.at_ hk h] at r
  have kl : k < ts.length := by rw [p.lt]; exact hk
  refine ⟨r.ok, p.ll, by rw [List.length_set]; exact p.lt, fun x hx => ?_, fun j hj h' => ?_, fun j hj h' => by rw [r.tb]; exact p.dead j hj h'⟩
  · rcases List.mem_or_eq_of_mem_set hx with hx | rfl
    · exact p.okT x hx
    · exact ht
  · rw [getD_setP kl]
    by_cases e : k = j
    · subst e
      rw [if_pos rfl]
      have hm : (Ev.mk t k (hs.getD k (0, 0))) ∈ (Ev.mk (ts.getD k (0, 0)) k (hs.getD k (0, 0))) :: (rekeyedA a (hs.getD k (0, 0)) t).heap := r.perm.mem_iff.2 (List.mem_cons_self ..)
      rcases List.mem_cons.1 hm with e' | h2
      · have et : t = ts.getD k (0, 0) := congrArg Ev.at_ e'
        have pm := r.perm
        have : ((Ev.mk (ts.getD k (0, 0)) k (hs.getD k (0, 0))) :: (rekeyedA a (hs.getD k (0, 0)) t).heap).Perm ((Ev.mk (ts.getD k (0, 0)) k (hs.getD k (0, 0))) :: a.heap) := by
          have e2 : ({ (Ev.mk (ts.getD k (0, 0)) k (hs.getD k (0, 0))) with at_ := t } : Ev) = Ev.mk (ts.getD k (0, 0)) k (hs.getD k (0, 0)) := by
            show Ev.mk t k (hs.getD k (0, 0)) = _
            exact e'
          rw [e2] at pm; exact pm
        rw [e']
        exact (List.Perm.cons_inv this).mem_iff.2 (p.mem k hk h)
      · exact h2
    · rw [if_neg e]
      have hm : (Ev.mk (ts.getD j (0, 0)) j (hs.getD j (0, 0))) ∈ (Ev.mk (ts.getD k (0, 0)) k (hs.getD k (0, 0))) :: (rekeyedA a (hs.getD k (0, 0)) t).heap := r.perm.mem_iff.2 (List.mem_cons_of_mem _ (p.mem j hj h'))
      rcases List.mem_cons.1 hm with e' | h2
      · exfalso
        have := congrArg Ev.no e'
        simp at this; omega
      · exact h2
end

/-- An agenda that stands apart from a slice. -/
def SepA (w1 w2 w3 w4 w5 x : Slc) : Prop := SepT w1 w2 w3 x ∧ Sep w4 x ∧ Sep w5 x
theorem NewA.sepA {H0 H : Hp} {w1 w2 w3 w4 w5 x : Slc} {a : Ag} (n : NewA H0 H w1 w2 w3 w4 w5 a) (o : Old H0 x) : SepA w1 w2 w3 w4 w5 x :=
  ⟨n.tb.sep o, (Sep.of o n.heap.isNew).symm, (Sep.of o n.wh.isNew).symm⟩
theorem ReA.sepA {H0 H : Hp} {u1 u2 u3 u4 u5 w1 w2 w3 w4 w5 x : Slc} {a : Ag} (n : ReA H0 H u1 u2 u3 w1 w2 w3 w4 w5 a) (o : Old H0 x) (s : SepA u1 u2 u3 u4 u5 x) : SepA w1 w2 w3 w4 w5 x := by
  refine ⟨?_, (Sep.of o n.my.heap.isNew).symm, (Sep.of o n.my.wh.isNew).symm⟩
  rcases n.or with ⟨e1, e2, e3⟩ | ⟨e1, e2, e3⟩
  · rw [e1, e2, e3]; exact s.1
  · rw [e1, e2, e3]; exact ⟨Sep.nil.symm, Sep.nil.symm, Sep.nil.symm⟩
theorem RdA.chg {H H' : Hp} {w1 w2 w3 w4 w5 x : Slc} {a : Ag} (r : RdA H w1 w2 w3 w4 w5 a) (c : Chg H H' x) (s : SepA w1 w2 w3 w4 w5 x) : RdA H' w1 w2 w3 w4 w5 a :=
  ⟨⟨r.tb.uses.chg c s.1.1, r.tb.used.chg c s.1.2.1, r.tb.free.chg c s.1.2.2⟩, r.heap.chg c s.2.1, r.wh.chg c s.2.2⟩

structure StH (H0 H : Hp) (L T : Slc) (w1 w2 w3 w4 w5 : Slc) (hs : List (Int × Int)) (a : Ag) (lv : List Bool) (ts : List (Int × Int)) : Prop where
  le : Hp.le H0 H
  rd : RdA H w1 w2 w3 w4 w5 a
  mL : Mine 1 fB 4 H0 H L lv
  mT : Mine 2 fH 96 H0 H T ts
  sLT : Sep L T
  apL : SepA w1 w2 w3 w4 w5 L
  apT : SepA w1 w2 w3 w4 w5 T

theorem rekPart {H0 H : Hp} {b24 : Nat} {u23 w1 w2 w3 w4 w5 u17 turned l : Slc} {hs ts ls : List (Int × Int)} {a : Ag} {lv : List Bool} {tn : List Int} {i : Int} {C : Slc → Slc → Slc → Slc → Slc → Hp → Prop} {bad : Hp → Prop}
    (st : StH H0 H ⟨some ⟨b24, 0, none⟩, (l.n : Int).toNat, (l.n : Int).toNat⟩ u23 w1 w2 w3 w4 w5 hs a lv ts) (p : PlH hs a lv ts) (rl : Rd 2 fH H0 l ls) (rh : Rd 2 fH H0 u17 hs) (rt : RdI H0 turned tn) (hl : hs.length = ls.length) (hsm : ls.length ≤ 1000) (okl : ∀ x ∈ ls, okR x) (i0 : 0 ≤ i)
    (hC : ∀ w1 w2 w3 w4 w5 H' a ts, StH H0 H' ⟨some ⟨b24, 0, none⟩, (l.n : Int).toNat, (l.n : Int).toNat⟩ u23 w1 w2 w3 w4 w5 hs a lv ts → PlH hs a lv ts → C w1 w2 w3 w4 w5 H') :
    (((!decide (i ≥ (↑turned.n : Int))) = true → inSl turned.a turned.n i) ∧ ∃ (n94 : Int), ((!decide (i ≥ (↑turned.n : Int))) = true → H.at (eaddr turned.a 1 i) = some (Value.int IntKind.i64 n94)) ∧ ((!(decide (i ≥ (↑turned.n : Int)) || decide (n94 < 0))) = true → inSl turned.a turned.n i) ∧ ∃ (n95 : Int), ((!(decide (i ≥ (↑turned.n : Int)) || decide (n94 < 0))) = true → H.at (eaddr turned.a 1 i) = some (Value.int IntKind.i64 n95)) ∧ ((decide (i ≥ (↑turned.n : Int)) || decide (n94 < 0) || decide (n95 ≥ (↑l.n : Int))) = true → C w1 w2 w3 w4 w5 H) ∧ ((decide (i ≥ (↑turned.n : Int)) || decide (n94 < 0) || decide (n95 ≥ (↑l.n : Int))) = false → inSl turned.a turned.n i ∧ ∃ (n96 : Int), H.at (eaddr turned.a 1 i) = some (Value.int IntKind.i64 n96) ∧ inI (n96 + 1) ∧ nz (↑l.n : Int) ∧ inSl l.a l.n ((n96 + 1).tmod (↑l.n : Int)) ∧ ∃ (n97 : Int), ∃ (n98 : Int), (H.at (eaddr l.a 2 ((n96 + 1).tmod (↑l.n : Int))) = some (Value.int IntKind.i64 n97) ∧ H.at ((eaddr l.a 2 ((n96 + 1).tmod (↑l.n : Int))).add 1) = some (Value.int IntKind.i64 n98)) ∧ inSl u17.a u17.n n96 ∧ ∃ (n99 : Int), ∃ (n100 : Int), (H.at (eaddr u17.a 2 n96) = some (Value.int IntKind.i64 n99) ∧ H.at ((eaddr u17.a 2 n96).add 1) = some (Value.int IntKind.i64 n100)) ∧ Go.Eng.Fn Try.prog F.agenda_Rekey #[Value.agg #[w1.v, w2.v, w3.v, w4.v, w5.v], Value.agg #[Value.int IntKind.i64 n99, Value.int IntKind.i64 n100], Value.agg #[Value.int IntKind.i64 n97, Value.int IntKind.i64 n98]] H fun (v101 : Go.Value) (H102 : Hp) => H.le H102 ∧ ∃ (u103 : Slc), ∃ (u104 : Slc), ∃ (u105 : Slc), ∃ (u106 : Slc), ∃ (u107 : Slc), ∃ (n108 : Int), v101 = Value.tuple #[Value.agg #[u103.v, u104.v, u105.v, u106.v, u107.v], Value.int IntKind.i64 n108] ∧ inSl (some (Addr.mk b24 0 none)) (↑l.n : Int).toNat n96 ∧ ∃ (c109 : Bool), H102.at (eaddr (some (Addr.mk b24 0 none)) 1 n96) = some (Value.bool c109) ∧ ((!(n108 == 0) == c109) = true → bad H102) ∧ ((!(n108 == 0) == c109) = false → ((n108 == 0) = true → inSl u23.a u23.n n96 ∧ H102.canStore (eaddr u23.a 2 n96) 0 [Value.int IntKind.i64 n97, Value.int IntKind.i64 n98] ∧ ∀ (H110 : Hp), H110 = H102.store (eaddr u23.a 2 n96) 0 [Value.int IntKind.i64 n97, Value.int IntKind.i64 n98] → C u103 u104 u105 u106 u107 H110) ∧ ((n108 == 0) = false → C w1 w2 w3 w4 w5 H102)))) := by
  have ll := rl.len
  have lt := rt.len
  have rl' := rl.le st.le
  have rh' := rh.le st.le
  have rt' := rt.le st.le
  have hin : ∀ {b : Bool}, (!(decide (i ≥ (turned.n : Int)) || b)) = true → i < tn.length := fun hh => by simp at hh; omega
  refine ⟨fun hh => rt'.inS i0 (by simp at hh; omega), _, fun hh => rt'.gI i0 (by simp at hh; omega), fun hh => rt'.inS i0 (hin hh), _, fun hh => rt'.gI i0 (hin hh), fun _ => hC _ _ _ _ _ _ _ _ st p, fun hc => ?_⟩
  simp only [Bool.or_eq_false_iff, decide_eq_false_iff_not] at hc
  obtain ⟨⟨hc1, hc2⟩, hc3⟩ := hc
  refine ⟨rt'.inS i0 (by omega), _, rt'.gI i0 (by omega), ?_⟩
  generalize tn.getD i.toNat 0 = n at *
  have em : (n + 1).tmod (l.n : Int) = (n + 1) % (l.n : Int) := Int.tmod_eq_emod_of_nonneg (by omega)
  have m0 : 0 ≤ (n + 1) % (l.n : Int) := Int.emod_nonneg _ (by omega)
  have m1 : (n + 1) % (l.n : Int) < l.n := Int.emod_lt_of_pos _ (by omega)
  rw [em]
  generalize (n + 1) % (l.n : Int) = q at *
  have gl := rl'.gH (i := q) m0 (by omega)
  have gh := rh'.gH (i := n) (by omega) (by omega)
  have okt : okR (ls.getD q.toNat (0, 0)) := okl _ (List.mem_of_getElem? (getX m0 (by omega)))
  generalize ls.getD q.toNat (0, 0) = t at *
  refine ⟨by unfold inI; omega, by unfold nz; omega, rl'.inS m0 (by omega), _, _, gl, rh'.inS (by omega) (by omega), _, _, gh, ?_⟩
  have hk : n.toNat < hs.length := by omega
  have kll : n.toNat < lv.length := by rw [p.ll]; exact hk
  have klt : n.toNat < ts.length := by rw [p.lt]; exact hk
  refine (agendaRekey (h := hs.getD n.toNat (0, 0)) (t := t) st.rd (okA.fitG p.ok) okt.fit).mono fun v H102 ⟨v1, v2, v3, v4, v5, hv, nk⟩ => ⟨nk.le, v1, v2, v3, v4, v5, _, hv, ?_⟩
  have mL := st.mL.le nk.le
  have mT := st.mT.le nk.le
  have live := p.live hk
  refine ⟨mL.rdB.inS (by omega) (by omega), _, mL.rdB.gB (by omega) (by omega), ?_⟩
  cases h : lv.getD n.toNat false with
  | false =>
    rw [h] at live
    have er : rekeyA a (hs.getD n.toNat (0, 0)) t = (.zero, 6) := by
      unfold rekeyA; rw [if_pos ⟨p.ok, okt⟩, if_neg (by rw [live]; simp)]
    rw [er]
    exact ⟨fun hh => by simp at hh, fun _ => ⟨fun hh => by simp at hh, fun _ => hC _ _ _ _ _ _ _ _ ⟨Hp.le_trans st.le nk.le, st.rd.le nk.le, mL, mT, st.sLT, st.apL, st.apT⟩ p⟩⟩
  | true =>
    rw [h] at live
    have er : rekeyA a (hs.getD n.toNat (0, 0)) t = (rekeyedA a (hs.getD n.toNat (0, 0)) t, 0) := by
      unfold rekeyA; rw [if_pos ⟨p.ok, okt⟩, if_pos live]
    rw [er] at nk ⊢
    refine ⟨fun hh => by simp at hh, fun _ => ⟨fun _ => ⟨mT.rdH.inS (by omega) (by omega), ?_⟩, fun hh => by simp at hh⟩⟩
    have sL := nk.sepA st.mL.isOld st.apL
    have sT := nk.sepA st.mT.isOld st.apT
    exact Mine.setE (k := 2) (f := fH) (vs := fH t) (y := t) (fun _ => rfl) mT (i := n) (by omega) (getX (d := (0, 0)) (by omega) (by omega)) (by simp [fH]) (by simp [fH]) fun H1 n1 c1 =>
      hC _ _ _ _ _ _ _ _ ⟨Hp.le_chg (Hp.le_trans st.le nk.le) c1 mT.isNew, RdA.chg nk.rd c1 sT, mL.chg c1 st.sLT, n1, st.sLT, sL, sT⟩ (p.rek hk h okt)
end Go.Proofs.Ytmnbekffebdfmaa
