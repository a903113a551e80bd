/- The laws AgendaPushes and AgendaRemoves. Conditions: none. -/
import Derived.Test.YtmnbekffebdfmaaP7
import Derived.Test.YtmnbekffebdfmaaVgLAgendaPushes
import Derived.Test.YtmnbekffebdfmaaVgLAgendaRemoves
import Derived.Test.YtmnbekffebdfmaaFs
set_option linter.unusedVariables false
set_option maxRecDepth 100000
open Go Go.Eng Go.Proofs
namespace Go.Proofs.Ytmnbekffebdfmaa
theorem newA_fit (n : Int) : fitG (newA n).1 := by
  unfold newA
  split
  · exact fitG.zero
  · exact okA.fitG (okA.begin (by omega) (by omega))
theorem pushA_fit {a : Ag} {t : Int × Int} {n : Int} : fitG (pushA a t n).1 := by
  unfold pushA
  split
  · rename_i h
    split
    · exact fitG.zero
    · rename_i h1
      split
      · exact fitG.zero
      · rename_i h2
        split
        · rename_i h3
          exact okA.fitG (okA.pushed h.1 h.2 (by omega) (by omega) (by simpa using h2) h3)
        · exact fitG.zero
  · exact fitG.zero
theorem findA_ok {a : Ag} {h : Int × Int} (hk : (findA a h).2 = 0) : okA a ∧ a.tb.live h.1 h.2 = true := by
  unfold findA at hk
  split at hk
  · rename_i ok
    split at hk
    · rename_i hl; exact ⟨ok, hl⟩
    · cases hk
  · cases hk
theorem removeA_fit {a : Ag} {h : Int × Int} : fitG (removeA a h).1 := by
  unfold removeA
  split
  · rename_i hk
    exact okA.fitG (okA.removed (findA_ok hk).1 (findA_ok hk).2).ok
  · exact fitG.zero
theorem popA_fit {a : Ag} : fitG (popA a).1 := by
  unfold popA
  split
  · rename_i hk
    obtain ⟨ok, h0, e⟩ := topA_ok hk
    rw [e]
    exact okA.fitG (okA.removed ok (top_at ok h0).2).ok
  · exact fitG.zero
theorem rekeyA_fit {a : Ag} {h t : Int × Int} : fitG (rekeyA a h t).1 := by
  unfold rekeyA
  split
  · rename_i hk
    split
    · rename_i hl
      exact okA.fitG (okA.rekeyed hk.1 hl hk.2).ok
    · exact fitG.zero
  · exact fitG.zero
theorem _root_.Go.Eng.Rd.chg2 {α : Type} {k : Nat} {f : α → List Value} {H H' : Hp} {u v v' : Slc} {xs : List α} (h : Rd k f H u xs) (hc : Chg2 H H' v v') (h1 : Sep u v) (h2 : Sep u v') : Rd k f H' u xs := by
  refine ⟨h.len, h.cap, h.isS, fun i x hx j w hw => ?_⟩
  have hi : u.a.isSome = true := h.isS fun e => by subst e; simp at hx
  cases ha : u.a with
  | none => simp [ha] at hi
  | some p =>
    have hcl := h.cell i x hx j w hw
    rw [ha] at hcl
    rw [Hp.at_eq (H := H)]
    · exact hcl
    · refine hc _ (fun hn => ?_) (fun q hq e => h1 p q ha hq (by rw [e]; exact (eaddr_block rfl).symm)) fun q hq e => h2 p q ha hq (by rw [e]; exact (eaddr_block rfl).symm)
      unfold Hp.at at hcl; rw [hn] at hcl; cases hcl

/-- What is new behind a view stays as it is, when two lists of that view change. -/
theorem NewA.keep {H0 H H' : Hp} {v1 v2 v3 v4 v5 u w : Slc} {a : Ag} (n : NewA H0 H v1 v2 v3 v4 v5 a) (c : Chg2 H H' u w) (hu : Old H0 u) (hw : Old H0 w) : RdA H' v1 v2 v3 v4 v5 a := by
  have r := n.rd
  have s : ∀ {x : Slc}, New H0 x → Sep x u ∧ Sep x w := fun hx => ⟨(Sep.of hu hx).symm, (Sep.of hw hx).symm⟩
  have s1 := s n.tb.uses.isNew
  have s2 := s n.tb.used.isNew
  have s3 := s n.tb.free.isNew
  have s4 := s n.heap.isNew
  have s5 := s n.wh.isNew
  exact ⟨⟨Rd.chg2 r.tb.uses c s1.1 s1.2, Rd.chg2 r.tb.used c s2.1 s2.2, Rd.chg2 r.tb.free c s3.1 s3.2⟩, Rd.chg2 r.heap c s4.1 s4.2, Rd.chg2 r.wh c s5.1 s5.2⟩

theorem fit_of {a : Ag} (hf : ∀ x ∈ a.heap, fitR x.at_) (hg : (decide (a.tb.uses.length > 210) || decide (a.tb.used.length > 210) || decide (a.tb.free.length > 210) || decide (a.heap.length > 210) || decide (a.wh.length > 210)) = false) :
    fitG a ∧ a.heap.length ≤ 210 ∧ a.wh.length ≤ 210 := by
  simp only [Bool.or_eq_false_iff, decide_eq_false_iff_not] at hg
  obtain ⟨⟨⟨⟨h1, h2⟩, h3⟩, h4⟩, h5⟩ := hg
  exact ⟨⟨⟨by omega, by omega, by omega⟩, by omega, by omega, hf⟩, by omega, by omega⟩

theorem agendaPushes {H : Hp} {n number : Int} {u1 u2 u3 u4 u5 : Slc} {a : Ag} {t h : Int × Int} (r : RdA H u1 u2 u3 u4 u5 a) (hf : ∀ x ∈ a.heap, fitR x.at_) (ft : fitR t) :
    Qf Try.prog F.pelotonlaw07_AgendaPushes #[.int .i64 n, agV u1 u2 u3 u4 u5, .agg #[.int .i64 t.1, .int .i64 t.2], .int .i64 number, .agg #[.int .i64 h.1, .int .i64 h.2]] H (.bool true) := by
  refine pelotonlaw07_AgendaPushes_vc ⟨_, refAGreat r, fun _ => ⟨rfl, Hp.le_refl _⟩, fun hg => ?_⟩
  obtain ⟨f, _, _⟩ := fit_of hf hg
  refine (refATwin r f).mono fun v H3 ⟨o1, o2, o3, o4, o5, hv, own⟩ => ⟨o1, o2, o3, o4, o5, hv, ?_⟩
  refine agendaNew.mono fun v H10 ⟨b1, b2, b3, b4, b5, hv, nb⟩ => ⟨b1, b2, b3, b4, b5, _, hv, ?_⟩
  refine refANew.mono fun v H18 ⟨c1, c2, c3, c4, c5, hv, nc⟩ => ⟨c1, c2, c3, c4, c5, _, hv, ?_⟩
  have le18 := Hp.le_trans nb.le nc.le
  refine (agendaPush (own.rd.le le18) f ft).mono fun v H26 ⟨d1, d2, d3, d4, d5, hv, nd⟩ => ⟨d1, d2, d3, d4, d5, _, _, _, hv, ?_⟩
  have le26 := Hp.le_trans le18 nd.le
  refine (refAPush (r.le (Hp.le_trans own.le le26)) f ft).mono fun v H36 ⟨i1, i2, i3, i4, i5, hv, ni⟩ => ⟨i1, i2, i3, i4, i5, _, _, _, hv, ?_⟩
  have le36 := Hp.le_trans le26 ni.le
  have leH := Hp.le_trans own.le le36
  have ro := own.rd.le le36
  have ra := r.le leH
  refine ⟨_, _, _, _, _, _, agendaTop ro f, _, _, _, _, _, _, refATop ra f, _, _, _, _, _, _, agendaFind ro f, _, _, _, _, _, _, refAFind ra f, _, refASame (nb.rd.le (Hp.le_trans nc.le (Hp.le_trans nd.le ni.le))) (nc.rd.le (Hp.le_trans nd.le ni.le)) (newA_fit n),
    _, fun _ => agendaCheck ro f, _, fun _ => refACheck ra f, _, fun _ => refASame (nd.rd.le ni.le) ni.rd pushA_fit, _, fun _ => refASame ro ra f, ?_, leH⟩
  simp

theorem agendaRemoves {H : Hp} {u1 u2 u3 u4 u5 : Slc} {a : Ag} {t h : Int × Int} (r : RdA H u1 u2 u3 u4 u5 a) (hf : ∀ x ∈ a.heap, fitR x.at_) (ft : fitR t) :
    Qf Try.prog F.pelotonlaw07_AgendaRemoves #[agV u1 u2 u3 u4 u5, .agg #[.int .i64 h.1, .int .i64 h.2], .agg #[.int .i64 t.1, .int .i64 t.2]] H (.bool true) := by
  refine pelotonlaw07_AgendaRemoves_vc ⟨_, refAGreat r, fun _ => ⟨rfl, Hp.le_refl _⟩, fun hg => ?_⟩
  obtain ⟨f, g4, g5⟩ := fit_of hf hg
  refine (refATwin r f).mono fun v H3 ⟨o1, o2, o3, o4, o5, hv, own⟩ => ⟨o1, o2, o3, o4, o5, hv, ?_⟩
  refine (agendaPop own.rd f).mono fun v H10 ⟨b1, b2, b3, b4, b5, hv, nb⟩ => ⟨b1, b2, b3, b4, b5, _, _, _, _, _, _, hv, ?_⟩
  have le10 := nb.le
  refine (refAPop (r.le (Hp.le_trans own.le le10)) f).mono fun v H23 ⟨c1, c2, c3, c4, c5, hv, nc⟩ => ⟨c1, c2, c3, c4, c5, _, _, _, _, _, _, hv, ?_⟩
  have le23 := Hp.le_trans le10 nc.le
  refine (agendaRemove (h := h) (own.rd.le le23) f).mono fun v H36 ⟨d1, d2, d3, d4, d5, hv, nd⟩ => ⟨d1, d2, d3, d4, d5, _, _, _, _, _, _, hv, ?_⟩
  have le36 := Hp.le_trans le23 nd.le
  refine (refARemove (h := h) (r.le (Hp.le_trans own.le le36)) f).mono fun v H49 ⟨i1, i2, i3, i4, i5, hv, ni⟩ => ⟨i1, i2, i3, i4, i5, _, _, _, _, _, _, hv, ?_⟩
  have le49 := Hp.le_trans le36 ni.le
  refine (agendaRekey (h := h) (own.rd.le le49) f ft).mono fun v H62 ⟨k1, k2, k3, k4, k5, hv, nk⟩ => ⟨k1, k2, k3, k4, k5, _, hv, ?_⟩
  have le62 := Hp.le_trans le49 nk.le
  refine (refARekey (h := h) (r.le (Hp.le_trans own.le le62)) f ft).mono fun v H70 ⟨m1, m2, m3, m4, m5, hv, nm⟩ => ⟨m1, m2, m3, m4, m5, _, hv, ?_⟩
  have le70 := Hp.le_trans le62 nm.le
  have own70 := own.up le70
  refine ⟨_, refASame own70.rd (r.le (Hp.le_trans own.le le70)) f, fun hb => by simp at hb, fun _ => ?_⟩
  -- the two lists change
  have l4 : o4.n = a.heap.length := own.heap.rdE.len
  have l5 : o5.n = a.wh.length := own.wh.rdI.len
  refine ⟨fun n H' => ∃ s : Hw, MyA H H' o4 o5 s ∧ s.1.length = a.heap.length ∧ s.2.length = a.wh.length ∧ Chg2 H70 H' o4 o5 ∧ 0 ≤ n ∧ n ≤ a.heap.length, fun n _ => (a.heap.length - n).toNat, ⟨_, own70.my, rfl, rfl, Chg2.refl, Int.le_refl _, by omega⟩, fun n H81 ⟨s, ms, s1, s2, cs, n0, n1⟩ => ?_⟩
  refine ⟨fun hn => ?_, fun hn => ?_⟩
  · have hn : n < a.heap.length := by have : n < o4.n := by simpa using hn
                                      omega
    have ew : IntKind.i64.wrap (n + 1) = n + 1 := by rw [i64w]; omega
    rw [ew]
    refine ⟨ms.heap.rdE.inS n0 (by omega), _, Rd.gEn ms.heap.rdE n0 (by omega), ms.heap.rdE.inS n0 (by omega), ?_⟩
    refine Mine.setP (k := 5) (f := fE) (j := 2) (x := hp s.1 n.toNat) (vs := [.int .i64 (IntKind.i64.wrap ((hp s.1 n.toNat).no + 1))]) (y := { hp s.1 n.toNat with no := IntKind.i64.wrap ((hp s.1 n.toNat).no + 1) }) (fun _ => rfl) ms.heap n0 (hp_get (by omega)) (by simp [fE]) (by simp) fun H83 m83 c83 => ⟨⟨(s.1.set n.toNat _, s.2), ⟨Hp.le_chg ms.le c83 ms.heap.isNew, m83, ms.wh.chg c83 ms.sep.symm, ms.sep⟩, by simpa using s1, s2, cs.trans (c83.two (v := o5)), by omega, by omega⟩, by show ((a.heap.length : Int) - (n + 1)).toNat < ((a.heap.length : Int) - n).toNat; omega⟩
  refine ⟨fun n H' => ∃ s : Hw, MyA H H' o4 o5 s ∧ s.1.length = a.heap.length ∧ s.2.length = a.wh.length ∧ Chg2 H70 H' o4 o5 ∧ 0 ≤ n ∧ n ≤ a.wh.length, fun n _ => (a.wh.length - n).toNat, ⟨s, ms, s1, s2, cs, Int.le_refl _, by omega⟩, fun n H87 ⟨s, ms, s1, s2, cs, n0, n1⟩ => ?_⟩
  refine ⟨fun hn => ?_, fun hn => ?_⟩
  · have hn : n < a.wh.length := by have : n < o5.n := by simpa using hn
                                    omega
    have ew : IntKind.i64.wrap (n + 1) = n + 1 := by rw [i64w]; omega
    rw [ew]
    refine ms.wh.rdI.ldI n0 (by omega) ⟨ms.wh.rdI.inS n0 (by omega), ?_⟩
    exact ms.put n0 (by omega) fun H89 m89 c89 => ⟨⟨_, m89, s1, by simpa using s2, cs.trans c89, by omega, by omega⟩, by show ((a.wh.length : Int) - (n + 1)).toNat < ((a.wh.length : Int) - n).toNat; omega⟩
  have leH : Hp.le H H87 := ms.le
  have o34 := own.heap.isOld
  have o35 := own.wh.isOld
  have rb := (nb.up (Hp.le_trans nc.le (Hp.le_trans nd.le (Hp.le_trans ni.le (Hp.le_trans nk.le nm.le))))).keep cs o34 o35
  have rc := (nc.up (Hp.le_trans nd.le (Hp.le_trans ni.le (Hp.le_trans nk.le nm.le)))).keep cs (o34.le le10) (o35.le le10)
  have rd := (nd.up (Hp.le_trans ni.le (Hp.le_trans nk.le nm.le))).keep cs (o34.le le23) (o35.le le23)
  have ri := (ni.up (Hp.le_trans nk.le nm.le)).keep cs (o34.le le36) (o35.le le36)
  have rm := nm.keep cs (o34.le le62) (o35.le le62)
  have rk : RdA H87 k1 k2 k3 k4 k5 (rekeyA a h t).1 := by
    have q := nk.rd.le nm.le
    have s4 : Sep k4 o4 ∧ Sep k4 o5 := ⟨(Sep.of (o34.le le49) nk.my.heap.isNew).symm, (Sep.of (o35.le le49) nk.my.heap.isNew).symm⟩
    have s5 : Sep k5 o4 ∧ Sep k5 o5 := ⟨(Sep.of (o34.le le49) nk.my.wh.isNew).symm, (Sep.of (o35.le le49) nk.my.wh.isNew).symm⟩
    have st : SepT k1 k2 k3 o4 ∧ SepT k1 k2 k3 o5 := by
      rcases nk.or with ⟨e1, e2, e3⟩ | ⟨e1, e2, e3⟩
      · rw [e1, e2, e3]; exact ⟨own.s4, own.s5⟩
      · rw [e1, e2, e3]; exact ⟨⟨Sep.nil.symm, Sep.nil.symm, Sep.nil.symm⟩, ⟨Sep.nil.symm, Sep.nil.symm, Sep.nil.symm⟩⟩
    exact ⟨⟨Rd.chg2 q.tb.uses cs st.1.1 st.2.1, Rd.chg2 q.tb.used cs st.1.2.1 st.2.2.1, Rd.chg2 q.tb.free cs st.1.2.2 st.2.2.2⟩, Rd.chg2 q.heap cs s4.1 s4.2, Rd.chg2 q.wh cs s5.1 s5.2⟩
  refine ⟨_, refASame rb rc popA_fit, _, fun _ => refASame rd ri removeA_fit, _, fun _ => refASame rk rm rekeyA_fit, ?_, leH⟩
  simp
end Go.Proofs.Ytmnbekffebdfmaa
