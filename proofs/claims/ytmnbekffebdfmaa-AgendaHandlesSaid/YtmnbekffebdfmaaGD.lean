/- The law AgendaHandles, put together. Conditions: none. -/
import Derived.Test.YtmnbekffebdfmaaGC
import Derived.Test.YtmnbekffebdfmaaVgLAgendaHandles
import Derived.Test.YtmnbekffebdfmaaFs
set_option linter.unusedVariables false
set_option maxRecDepth 100000
open Go Go.Eng Go.Proofs
namespace Go.Proofs.Ytmnbekffebdfmaa

theorem agendaHandles {H : Hp} {ul uo ut : Slc} {ls : List (Int × Int)} {os tn : List Int} (rl : Rd 2 fH H ul ls) (ro : RdI H uo os) (rt : RdI H ut tn) (hf : ∀ x ∈ ls, fitR x) :
    Qf Try.prog F.pelotonlaw07_AgendaHandles #[ul.v, uo.v, ut.v] H (.bool true) := by
  have lul := rl.len
  have luo := ro.len
  have lut := rt.len
  refine pelotonlaw07_AgendaHandles_vc ⟨fun _ => ⟨_, lawAlive7, rfl, Hp.le_refl _⟩, fun hc => ?_⟩
  simp only [Bool.or_eq_false_iff, decide_eq_false_iff_not] at hc
  obtain ⟨⟨hc1, hc2⟩, hc3⟩ := hc
  refine upto (N := ls.length) (J := fun n => ∀ x ∈ ls.take n.toNat, okR x) (by omega) (by simp) fun n h0 h1 hJ => ⟨fun hn => ?_, fun hn => ?_⟩
  · have hn : n < ls.length := by have : n < ul.n := by simpa using hn
                                  omega
    have hg := getX (d := ((0, 0) : Int × Int)) h0 hn
    refine ⟨rl.inS h0 hn, _, _, rl.gH h0 hn, _, refRCheck (hf _ (List.mem_of_getElem? hg)), fun _ => ⟨_, lawAlive7, rfl, Hp.le_refl _⟩, fun hb => upto.nx h0 hn (by omega) ?_⟩
    rw [show (n + 1).toNat = n.toNat + 1 by omega, take_succ hg]
    intro y hy
    rcases List.mem_append.1 hy with hy | hy
    · exact hJ y hy
    · simp only [List.mem_singleton] at hy; subst hy; exact chkR_zero.1 (by simpa using hb)
  have : n = ls.length := by have : ¬ n < ul.n := by simpa using hn
                             omega
  subst this
  rw [Int.toNat_natCast, List.take_length] at hJ
  have F0 := fill_ok hJ (by omega) ls.length (Nat.le_refl _)
  rw [List.take_length] at F0
  refine (lawFilled rl hJ (by omega)).mono fun v H11 ⟨v1, v2, v3, v4, v5, w, hv, l11, ra, mw, oT, o4, o5⟩ => ⟨v1, v2, v3, v4, v5, w, _, hv, fun h => by simp at h, fun _ b19 H20 hb19 hH20 => ?_⟩
  generalize fillA ls = fa at *
  obtain ⟨a0, hs⟩ := fa
  have lhs : hs.length = ls.length := F0.n
  have rh : Rd 2 fH H11 w hs := mw.rdH
  refine (copy_ok (k := 2) (f := fH) (bytes := 16) (e := 96) (by kernel_rfl) (by decide) (fun _ => rfl) (fun x v hv => by simp [fH] at hv; rcases hv with rfl | rfl <;> rfl) hb19 hH20 (rl.le l11) (by omega) (by omega)).mono fun v H22 ⟨tS, hv, l22, mT⟩ => ⟨tS, hv, ⟨rfl, by omega, by omega⟩, fun b24 H25 hb24 hH25 => ?_⟩
  have mL0 := made_mine (g := fun x => Value.bool x) (e := 4) hfB (n := (ul.n : Int)) (z := false) hb24 hH25 rfl
  have l25 : Hp.le H22 H25 := Hp.le_new (Hp.le_refl _) hb24 hH25
  refine uptoH (N := ls.length) (J := fun n H' => ∃ lv : List Bool, Mine 1 fB 4 H22 H' ⟨some ⟨b24, 0, none⟩, (ul.n : Int).toNat, (ul.n : Int).toNat⟩ lv ∧ lv.length = ls.length ∧ (∀ k : Nat, (k : Int) < n → lv.getD k false = true) ∧ Hp.le H22 H') (by omega)
    ⟨_, mL0, by rw [List.length_replicate]; omega, fun k hk => by omega, l25⟩ fun n H29 n0 n1 ⟨lv, mL, ll, lt, l29⟩ => ⟨fun hn => ?_, fun hn => ?_⟩
  · have hn : n < ls.length := by have : n < ul.n := by simpa using hn
                                  omega
    refine ⟨mL.rdB.inS n0 (by omega), mL.setB n0 (by omega) true fun H30 m30 c30 => uptoH.nx n0 hn (by omega) ⟨_, m30, by simpa using ll, fun k hk => ?_, Hp.le_chg l29 c30 mL.isNew⟩⟩
    rw [getD_setB (by omega)]
    split
    · rfl
    · exact lt k (by omega)
  have : n = ls.length := by have : ¬ n < ul.n := by simpa using hn
                             omega
  subst this
  have pl : PlH hs a0 lv ls := ⟨F0.ok, by omega, lhs.symm, hJ, fun k hk _ => F0.mem k (by omega), fun k hk h => by rw [lt k (by omega)] at h; cases h⟩
  have nL := mL.isNew
  have st : StH H11 H29 ⟨some ⟨b24, 0, none⟩, (ul.n : Int).toNat, (ul.n : Int).toNat⟩ tS v1 v2 v3 v4 v5 hs a0 lv ls :=
    ⟨Hp.le_trans l22 l29, ra.le (Hp.le_trans l22 l29), mL.low l22, mT.le l29, (Sep.of mT.isOld nL).symm,
      ⟨⟨Sep.of (oT.1.le l22) nL, Sep.of (oT.2.1.le l22) nL, Sep.of (oT.2.2.le l22) nL⟩, Sep.of (o4.le l22) nL, Sep.of (o5.le l22) nL⟩,
      ⟨⟨Sep.of oT.1 mT.isNew, Sep.of oT.2.1 mT.isNew, Sep.of oT.2.2 mT.isNew⟩, Sep.of o4 mT.isNew, Sep.of o5 mT.isNew⟩⟩
  have rl11 := rl.le l11
  have ro11 := ro.le l11
  have rt11 := rt.le l11
  refine ⟨fun i w1 w2 w3 w4 w5 H' => ∃ (a : Ag) (lv : List Bool) (ts : List (Int × Int)), StH H11 H' ⟨some ⟨b24, 0, none⟩, (ul.n : Int).toNat, (ul.n : Int).toNat⟩ tS w1 w2 w3 w4 w5 hs a lv ts ∧ PlH hs a lv ts ∧ 0 ≤ i ∧ i ≤ os.length, fun i _ _ _ _ _ _ => (os.length - i).toNat, ⟨a0, lv, ls, st, pl, Int.le_refl _, by omega⟩, fun i w1 w2 w3 w4 w5 H39 ⟨a, lv, ts, st, p, i0, i1⟩ => ?_⟩
  have hC : ∀ (lv : List Bool) (w1 w2 w3 w4 w5 : Slc) (H' : Hp) (a : Ag) (ts : List (Int × Int)), i < os.length → StH H11 H' ⟨some ⟨b24, 0, none⟩, (ul.n : Int).toNat, (ul.n : Int).toNat⟩ tS w1 w2 w3 w4 w5 hs a lv ts → PlH hs a lv ts →
      inI (i + 1) ∧ (∃ (a : Ag) (lv : List Bool) (ts : List (Int × Int)), StH H11 H' ⟨some ⟨b24, 0, none⟩, (ul.n : Int).toNat, (ul.n : Int).toNat⟩ tS w1 w2 w3 w4 w5 hs a lv ts ∧ PlH hs a lv ts ∧ 0 ≤ i + 1 ∧ i + 1 ≤ os.length) ∧ ((os.length : Int) - (i + 1)).toNat < ((os.length : Int) - i).toNat :=
    fun lv w1 w2 w3 w4 w5 H' a ts hi st p => ⟨by unfold inI; omega, ⟨a, lv, ts, st, p, by omega, by omega⟩, by omega⟩
  have ll := p.ll
  have lt' := p.lt
  refine ⟨fun hi => ?_, fun hi => ?_⟩
  · have hi : i < os.length := by have : i < uo.n := by simpa using hi
                                  omega
    have rek : ∀ {lv ts a w1 w2 w3 w4 w5 K}, StH H11 K ⟨some ⟨b24, 0, none⟩, (ul.n : Int).toNat, (ul.n : Int).toNat⟩ tS w1 w2 w3 w4 w5 hs a lv ts → PlH hs a lv ts → _ := fun {lv ts a w1 w2 w3 w4 w5 K} st p =>
      rekPart (H0 := H11) (H := K) (b24 := b24) (u23 := tS) (w1 := w1) (w2 := w2) (w3 := w3) (w4 := w4) (w5 := w5) (u17 := w) (turned := ut) (l := ul) (i := i) (bad := fun H' => Value.bool false = .bool true ∧ Hp.le H H')
        (C := fun w1 w2 w3 w4 w5 H' => inI (i + 1) ∧ (∃ (a : Ag) (lv : List Bool) (ts : List (Int × Int)), StH H11 H' ⟨some ⟨b24, 0, none⟩, (ul.n : Int).toNat, (ul.n : Int).toNat⟩ tS w1 w2 w3 w4 w5 hs a lv ts ∧ PlH hs a lv ts ∧ 0 ≤ i + 1 ∧ i + 1 ≤ os.length) ∧ ((os.length : Int) - (i + 1)).toNat < ((os.length : Int) - i).toNat)
        st p rl11 rh rt11 lhs (by omega) hJ i0 (fun w1 w2 w3 w4 w5 H' a ts st p => hC lv w1 w2 w3 w4 w5 H' a ts hi st p)
    refine (ro11.le st.le).ldI i0 hi ⟨fun hk => ?_, fun _ => ?_⟩
    · generalize os.getD i.toNat 0 = n at *
      rw [Bool.and_eq_true] at hk
      have k0 : 0 ≤ n := by simpa using hk.1
      have k1 : n < hs.length := by have : n < ul.n := by simpa using hk.2
                                    omega
      have hkn : n.toNat < hs.length := by omega
      have rh' := rh.le st.le
      refine ⟨rh'.inS k0 k1, _, _, rh'.gH k0 k1, (agendaRemove (h := hs.getD n.toNat (0, 0)) st.rd (okA.fitG p.ok)).mono fun v H44 ⟨z1, z2, z3, z4, z5, hv, nn⟩ => ⟨nn.le, z1, z2, z3, z4, z5, _, _, _, _, _, _, hv, ?_⟩⟩
      have mL4 := st.mL.le nn.le
      have mT4 := st.mT.le nn.le
      have gt := mT4.rdH.gH k0 (by omega)
      refine ⟨mL4.rdB.inS k0 (by omega), _, mL4.rdB.gB k0 (by omega), fun _ => mT4.rdH.inS k0 (by omega), _, _, fun _ => gt, ?_⟩
      have st44 : StH H11 H44 ⟨some ⟨b24, 0, none⟩, (ul.n : Int).toNat, (ul.n : Int).toNat⟩ tS w1 w2 w3 w4 w5 hs a lv ts := ⟨Hp.le_trans st.le nn.le, st.rd.le nn.le, mL4, mT4, st.sLT, st.apL, st.apT⟩
      have hfind := p.find hkn
      cases h : lv.getD n.toNat false with
      | false =>
        rw [h, if_neg (by simp)] at hfind
        have er : removeA a (hs.getD n.toNat (0, 0)) = (.zero, e0, 6) := by unfold removeA; rw [hfind]; rfl
        rw [er]
        exact ⟨fun hh => by simp at hh, fun _ => ⟨fun hh => by simp at hh, fun _ => rek st44 p⟩⟩
      | true =>
        rw [h, if_pos rfl] at hfind
        have er : removeA a (hs.getD n.toNat (0, 0)) = (removedA a (hs.getD n.toNat (0, 0)), Ev.mk (ts.getD n.toNat (0, 0)) (n.toNat : Int) (hs.getD n.toNat (0, 0)), 0) := by unfold removeA; rw [hfind]; rfl
        rw [er] at nn ⊢
        refine ⟨fun hh => ?_, fun _ => ⟨fun _ => ⟨mL4.rdB.inS k0 (by omega), ?_⟩, fun hh => by simp at hh⟩⟩
        · exfalso
          simp at hh
          omega
        · exact mL4.setB k0 (by omega) false fun H59 m59 c59 =>
            rek ⟨Hp.le_chg st44.le c59 mL4.isNew, RdA.chg nn.rd c59 (nn.sepA st.mL.isOld), m59, mT4.chg c59 st.sLT.symm, st.sLT, nn.sepA st.mL.isOld, nn.sepA st.mT.isOld⟩ (p.rem hkn h)
    · exact rek st p
  · have rh' := rh.le st.le
    refine upto (N := ls.length) (J := fun _ => True) (by omega) trivial fun n n0 n1 _ => ⟨fun hn => ?_, fun hn => ⟨_, refACheck st.rd (okA.fitG p.ok), _, fun _ => lawAlive7, by rw [chkA_ok p.ok]; rfl, Hp.le_trans l11 st.le⟩⟩
    have hn : n < ls.length := by have : n < ul.n := by simpa using hn
                                  omega
    have hkn : n.toNat < hs.length := by omega
    have gh := rh'.gH n0 (by omega)
    have gt := st.mT.rdH.gH n0 (by omega)
    refine ⟨rh'.inS n0 (by omega), _, _, gh, _, _, _, _, _, _, agendaFind (h := hs.getD n.toNat (0, 0)) st.rd (okA.fitG p.ok), st.mL.rdB.inS n0 (by omega), _, st.mL.rdB.gB n0 (by omega), fun _ => st.mT.rdH.inS n0 (by omega), _, _, fun _ => gt, fun _ => rh'.inS n0 (by omega), _, _, fun _ => gh, fun hh => ?_, fun _ => upto.nx n0 hn (by omega) trivial⟩
    exfalso
    rw [p.find hkn] at hh
    cases h : lv.getD n.toNat false with
    | false => rw [h, if_neg (by simp)] at hh; simp at hh
    | true =>
      rw [h, if_pos rfl] at hh
      simp at hh
      omega
end Go.Proofs.Ytmnbekffebdfmaa
