/- Agendas: the rest of the functions. Conditions: none. -/
import Derived.Test.YtmnbekffebdfmaaG6
import Derived.Test.YtmnbekffebdfmaaVgAgenda
import Derived.Test.YtmnbekffebdfmaaFs
set_option linter.unusedVariables false
set_option maxRecDepth 100000
open Go Go.Eng Go.Proofs
namespace Go.Proofs.Ytmnbekffebdfmaa

theorem agendaRemove {H : Hp} {u1 u2 u3 u4 u5 : Slc} {a : Ag} {h : Int × Int} (r : RdA H u1 u2 u3 u4 u5 a) (f : fitG a) :
    Go.Eng.Fn Try.prog F.agenda_Remove #[agV u1 u2 u3 u4 u5, .agg #[.int .i64 h.1, .int .i64 h.2]] H fun v H' => ∃ v1 v2 v3 v4 v5 : Slc,
      v = .tuple #[agV v1 v2 v3 v4 v5, evV (removeA a h).2.1, .int .i64 (removeA a h).2.2] ∧ NewA H H' v1 v2 v3 v4 v5 (removeA a h).1 := by
  refine agenda_Remove_vc ⟨_, _, agendaPlace r f, fun hc => ?_, fun hc => ?_⟩
  · have hk : (findA a h).2 ≠ 0 := by simpa using hc
    rw [removeA, if_neg hk]
    exact ⟨zs, zs, zs, zs, zs, rfl, NewA.zero (Hp.le_refl _)⟩
  · have hk : (findA a h).2 = 0 := by simpa using hc
    rw [removeA, if_pos hk, if_pos hk]
    have hh : okA a ∧ a.tb.live h.1 h.2 = true := by
      unfold findA at hk
      split at hk
      · rename_i ok
        split at hk
        · rename_i hl; exact ⟨ok, hl⟩
        · cases hk
      · cases hk
    refine (agendaRemove0 r hh.1 hh.2).mono fun v H4 ⟨v1, v2, v3, v4, v5, hv, n⟩ => ⟨v1, v2, v3, v4, v5, _, _, _, _, _, _, hv, v1, v2, v3, v4, v5, ?_, n⟩
    rw [findA, if_pos hh.1, if_pos hh.2]
theorem refARemove {H : Hp} {u1 u2 u3 u4 u5 : Slc} {a : Ag} {h : Int × Int} (r : RdA H u1 u2 u3 u4 u5 a) (f : fitG a) :
    Go.Eng.Fn Try.prog F.pelotonref07_Remove #[agV u1 u2 u3 u4 u5, .agg #[.int .i64 h.1, .int .i64 h.2]] H fun v H' => ∃ v1 v2 v3 v4 v5 : Slc,
      v = .tuple #[agV v1 v2 v3 v4 v5, evV (removeA a h).2.1, .int .i64 (removeA a h).2.2] ∧ NewA H H' v1 v2 v3 v4 v5 (removeA a h).1 := by
  refine pelotonref07_Remove_vc ⟨_, _, _, _, _, _, refAFind r f, fun hc => ?_, fun hc => ?_⟩
  · have hk : (findA a h).2 ≠ 0 := by simpa using hc
    rw [removeA, if_neg hk]
    exact ⟨zs, zs, zs, zs, zs, rfl, NewA.zero (Hp.le_refl _)⟩
  · have hk : (findA a h).2 = 0 := by simpa using hc
    rw [removeA, if_pos hk]
    have hh : okA a ∧ a.tb.live h.1 h.2 = true := by
      unfold findA at hk
      split at hk
      · rename_i ok
        split at hk
        · rename_i hl; exact ⟨ok, hl⟩
        · cases hk
      · cases hk
    exact (refRemoved r hh.1 hh.2).mono fun v H4 ⟨v1, v2, v3, v4, v5, hv, n⟩ => ⟨n.le, v1, v2, v3, v4, v5, hv, v1, v2, v3, v4, v5, rfl, n⟩

/-- The first event stands at 0. -/
theorem top_at {a : Ag} (ok : okA a) (h0 : 0 < a.heap.length) : atA a (hp a.heap 0).h = 0 ∧ a.tb.live (hp a.heap 0).h.1 (hp a.heap 0).h.2 = true := by
  have p := (ok.pl 0 h0).2.2
  have p : a.wh.getD (hp a.heap 0).h.1.toNat 0 = ((0 : Nat) : Int) := p
  refine ⟨?_, (ok.slot (hp_mem h0)).2.2.2.2⟩
  unfold atA; rw [p]; rfl
theorem topA_ok {a : Ag} (hk : (topA a).2 = 0) : okA a ∧ 0 < a.heap.length ∧ topA a = (hp a.heap 0, 0) := by
  unfold topA at hk ⊢
  split at hk
  · rename_i ok
    split at hk
    · cases hk
    · rename_i h0
      rw [if_pos ok, if_neg h0]
      exact ⟨ok, by omega, rfl⟩
  · cases hk
theorem agendaPop {H : Hp} {u1 u2 u3 u4 u5 : Slc} {a : Ag} (r : RdA H u1 u2 u3 u4 u5 a) (f : fitG a) :
    Go.Eng.Fn Try.prog F.agenda_Pop #[agV u1 u2 u3 u4 u5] H fun v H' => ∃ v1 v2 v3 v4 v5 : Slc,
      v = .tuple #[agV v1 v2 v3 v4 v5, evV (popA a).2.1, .int .i64 (popA a).2.2] ∧ NewA H H' v1 v2 v3 v4 v5 (popA a).1 := by
  refine agenda_Pop_vc ⟨_, _, _, _, _, _, agendaTop r f, fun hc => ?_, fun hc => ?_⟩
  · have hk : (topA a).2 ≠ 0 := by simpa using hc
    rw [popA, if_neg hk]
    exact ⟨zs, zs, zs, zs, zs, rfl, NewA.zero (Hp.le_refl _)⟩
  · have hk : (topA a).2 = 0 := by simpa using hc
    rw [popA, if_pos hk]
    obtain ⟨ok, h0, e⟩ := topA_ok hk
    rw [e]
    obtain ⟨t1, t2⟩ := top_at ok h0
    have := agendaRemove0 r ok t2
    rw [t1] at this
    exact this.mono fun v H4 ⟨v1, v2, v3, v4, v5, hv, n⟩ => ⟨v1, v2, v3, v4, v5, _, _, _, _, _, _, hv, v1, v2, v3, v4, v5, rfl, n⟩
theorem refAPop {H : Hp} {u1 u2 u3 u4 u5 : Slc} {a : Ag} (r : RdA H u1 u2 u3 u4 u5 a) (f : fitG a) :
    Go.Eng.Fn Try.prog F.pelotonref07_Pop #[agV u1 u2 u3 u4 u5] H fun v H' => ∃ v1 v2 v3 v4 v5 : Slc,
      v = .tuple #[agV v1 v2 v3 v4 v5, evV (popA a).2.1, .int .i64 (popA a).2.2] ∧ NewA H H' v1 v2 v3 v4 v5 (popA a).1 := by
  refine pelotonref07_Pop_vc ⟨_, _, _, _, _, _, refATop r f, fun hc => ?_, fun hc => ?_⟩
  · have hk : (topA a).2 ≠ 0 := by simpa using hc
    rw [popA, if_neg hk]
    exact ⟨zs, zs, zs, zs, zs, rfl, NewA.zero (Hp.le_refl _)⟩
  · have hk : (topA a).2 = 0 := by simpa using hc
    rw [popA, if_pos hk]
    obtain ⟨ok, h0, e⟩ := topA_ok hk
    rw [e]
    obtain ⟨t1, t2⟩ := top_at ok h0
    exact (refRemoved (h := (hp a.heap 0).h) r ok t2).mono fun v H4 ⟨v1, v2, v3, v4, v5, hv, n⟩ => ⟨n.le, v1, v2, v3, v4, v5, hv, v1, v2, v3, v4, v5, rfl, n⟩

/-- What Rekey gives: own lists, and the table that was, or nothing. -/
structure ReA (H H' : Hp) (u1 u2 u3 v1 v2 v3 v4 v5 : Slc) (b : Ag) : Prop where
  or : (v1 = u1 ∧ v2 = u2 ∧ v3 = u3) ∨ (v1 = zs ∧ v2 = zs ∧ v3 = zs)
  tb : RdT H' v1 v2 v3 b.tb
  my : MyA H H' v4 v5 (b.heap, b.wh)
theorem ReA.zero {H H' : Hp} {u1 u2 u3 : Slc} (h : Hp.le H H') : ReA H H' u1 u2 u3 zs zs zs zs zs .zero := ⟨.inr ⟨rfl, rfl, rfl⟩, (NewT.zero h).rd, (NewA.zero h).my⟩
theorem ReA.le {H H' : Hp} {u1 u2 u3 v1 v2 v3 v4 v5 : Slc} {b : Ag} (r : ReA H H' u1 u2 u3 v1 v2 v3 v4 v5 b) : Hp.le H H' := r.my.le
theorem ReA.rd {H H' : Hp} {u1 u2 u3 v1 v2 v3 v4 v5 : Slc} {b : Ag} (r : ReA H H' u1 u2 u3 v1 v2 v3 v4 v5 b) : RdA H' v1 v2 v3 v4 v5 b := ⟨r.tb, r.my.heap.rdE, r.my.wh.rdI⟩

theorem reS_time {a : Ag} {h t : Int × Int} (ok : okA a) (ht : okR t) : timeH (reS a h t).1 := fun x hx => by
  rcases List.mem_or_eq_of_mem_set hx with hx | rfl
  · exact (ok.each x hx).1
  · exact ht

theorem agendaRekey {H : Hp} {u1 u2 u3 u4 u5 : Slc} {a : Ag} {h t : Int × Int} (r : RdA H u1 u2 u3 u4 u5 a) (f : fitG a) (ft : fitR t) :
    Go.Eng.Fn Try.prog F.agenda_Rekey #[agV u1 u2 u3 u4 u5, .agg #[.int .i64 h.1, .int .i64 h.2], .agg #[.int .i64 t.1, .int .i64 t.2]] H fun v H' => ∃ v1 v2 v3 v4 v5 : Slc,
      v = .tuple #[agV v1 v2 v3 v4 v5, .int .i64 (rekeyA a h t).2] ∧ ReA H H' u1 u2 u3 v1 v2 v3 v4 v5 (rekeyA a h t).1 := by
  have fh := f.hl; have fw := f.wl
  refine agenda_Rekey_vc ⟨_, agendaCheck r f, _, ratioCheck ft, fun hc => ?_, fun hc => ?_⟩
  · have hbad : ¬ (okA a ∧ okR t) := fun ⟨o1, o2⟩ => by rw [chkA_ok o1, chkR_ok o2] at hc; simp at hc
    rw [max8 hbad, rekeyA, if_neg hbad]
    exact ⟨zs, zs, zs, zs, zs, rfl, ReA.zero (Hp.le_refl _)⟩
  have ok : okA a ∧ okR t := by
    by_cases h : okA a ∧ okR t
    · exact h
    · rw [max8 h] at hc; simp at hc
  rw [rekeyA, if_pos ok]
  refine ⟨_, _, agendaPlace (h := h) r f, fun hb => ?_, fun hb => ?_⟩
  · have hk : (findA a h).2 ≠ 0 := by simpa using hb
    have : a.tb.live h.1 h.2 ≠ true := fun hl => by rw [findA, if_pos ok.1, if_pos hl] at hk; exact hk rfl
    rw [if_neg this, findA, if_pos ok.1, if_neg this]
    exact ⟨zs, zs, zs, zs, zs, rfl, ReA.zero (Hp.le_refl _)⟩
  · have hk : (findA a h).2 = 0 := by simpa using hb
    have hl : a.tb.live h.1 h.2 = true := by
      rw [findA, if_pos ok.1] at hk
      by_cases hl : a.tb.live h.1 h.2 = true
      · exact hl
      · rw [if_neg hl] at hk; cases hk
    rw [if_pos hl, if_pos hk]
    obtain ⟨m1, m2, m3⟩ := find_mem ok.1 hl
    obtain ⟨p1, p2, p3, p4⟩ := rekey_parts ok.1 hl ok.2
    refine (agendaTwin r fh fw).mono fun v H6 ⟨b, c, hv, m⟩ => ⟨_, _, _, b, c, hv, ?_⟩
    have g := Rd.gE m.heap.rdE (i := (atA a h : Int)) (by omega) (by show _ < (a.heap.length : Int); omega)
    rw [Int.toNat_natCast] at g
    refine ⟨m.heap.rdE.inS (by omega) (by show _ < (a.heap.length : Int); omega), _, _, _, _, _, g, ?_⟩
    have q := ok.1.pl (atA a h) m3
    have es : (a.heap.set (atA a h) { hp a.heap (atA a h) with at_ := t }, a.wh.set (hp a.heap (atA a h)).h.1.toNat (atA a h : Nat)) = reS a h t := by
      unfold reS
      refine Prod.ext rfl ?_
      show a.wh.set _ _ = a.wh
      have e : a.wh.getD (hp a.heap (atA a h)).h.1.toNat 0 = (atA a h : Nat) := q.2.2
      have q1 : 0 ≤ (hp a.heap (atA a h)).h.1 := q.1
      have q2 : (hp a.heap (atA a h)).h.1 < a.wh.length := q.2.1
      rw [← e]
      apply List.ext_getElem?
      intro j
      rw [List.getElem?_set]
      split
      · rename_i ej
        rw [← ej, if_pos (by omega)]
        exact (getX q1 q2).symm
      · rfl
    have hset := agendaSettle (u1 := u1) (u2 := u2) (u3 := u3) (i := atA a h) (x := { hp a.heap (atA a h) with at_ := t }) m m3 q.2.1 q.1
      (by show plA (a.heap.set (atA a h) { hp a.heap (atA a h) with at_ := t }, a.wh.set (hp a.heap (atA a h)).h.1.toNat (atA a h : Nat)); rw [es]; exact p1)
      (reS_time (h := h) ok.1 ok.2) fh
    refine hset.mono fun v H18 ⟨hv, m18, c18⟩ => ⟨hv, u1, u2, u3, b, c, rfl, .inl ⟨rfl, rfl, rfl⟩, r.tb.le m18.le, ?_⟩
    have m18 : MyA H H18 b c (moveA (reS a h t) (atA a h)) := by rw [← es]; exact m18
    exact m18

theorem refARekeyed {H : Hp} {u1 u2 u3 u4 u5 : Slc} {a : Ag} {h t : Int × Int} (r : RdA H u1 u2 u3 u4 u5 a) (ok : okA a) (hl : a.tb.live h.1 h.2 = true) (ht : okR t) :
    Go.Eng.Fn Try.prog F.pelotonref07_Rekeyed #[agV u1 u2 u3 u4 u5, .agg #[.int .i64 h.1, .int .i64 h.2], .agg #[.int .i64 t.1, .int .i64 t.2]] H fun v H' => ∃ v1 v2 v3 v4 v5 : Slc,
      v = agV v1 v2 v3 v4 v5 ∧ NewA H H' v1 v2 v3 v4 v5 (rekeyedA a h t) := by
  have f := okA.fitG ok
  have fh := f.hl; have fw := f.wl
  obtain ⟨m1, m2, m3⟩ := find_mem ok hl
  obtain ⟨l1, l2, l3, l4⟩ := live_iff.1 hl
  have hwl := ok.wl
  obtain ⟨p1, p2, p3, p4⟩ := rekey_parts ok hl ht
  refine pelotonref07_Rekeyed_vc ((refATwin r f).mono fun v H2 ⟨t1, t2, t3, b, c, hv, n⟩ => ⟨t1, t2, t3, b, c, hv, ?_⟩)
  have m := n.my
  refine m.wh.rdI.ldI l1 (by show _ < (a.wh.length : Int); omega) ?_
  rw [show (a.heap, a.wh).2.getD h.1.toNat 0 = (atA a h : Int) from atA_int ok hl]
  refine ⟨m.heap.rdE.inS (by omega) (by show _ < (a.heap.length : Int); omega), ?_⟩
  refine Mine.setE (k := 5) (f := fE) (x := hp a.heap (atA a h)) (vs := [.int .i64 t.1, .int .i64 t.2]) (y := { hp a.heap (atA a h) with at_ := t }) (fun _ => rfl) m.heap (i := (atA a h : Int)) (by omega) (by rw [Int.toNat_natCast]; exact hp_get m3) (by simp [fE]) (by simp) fun H9 m9 c9 => ?_
  rw [Int.toNat_natCast] at m9
  have my9 : MyA H H9 b c (reS a h t) := ⟨Hp.le_chg m.le c9 m.heap.isNew, m9, m.wh.chg c9 m.sep.symm, m.sep⟩
  exact refMove my9 p1 (reS_time ok ht) p4 (by rw [show (reS a h t).1.length = a.heap.length from by simp [reS]]; exact fh) fun H' m' c' => ⟨t1, t2, t3, b, c, rfl, MyA.new (H9 := H) (NewT.chg2 n.tb (c9.two (v := c)) n.s4 n.s5 n.heap.isNew n.wh.isNew) m' c' n.s4 n.s5⟩

theorem refARekey {H : Hp} {u1 u2 u3 u4 u5 : Slc} {a : Ag} {h t : Int × Int} (r : RdA H u1 u2 u3 u4 u5 a) (f : fitG a) (ft : fitR t) :
    Go.Eng.Fn Try.prog F.pelotonref07_Rekey #[agV u1 u2 u3 u4 u5, .agg #[.int .i64 h.1, .int .i64 h.2], .agg #[.int .i64 t.1, .int .i64 t.2]] H fun v H' => ∃ v1 v2 v3 v4 v5 : Slc,
      v = .tuple #[agV v1 v2 v3 v4 v5, .int .i64 (rekeyA a h t).2] ∧ NewA H H' v1 v2 v3 v4 v5 (rekeyA a h t).1 := by
  refine pelotonref07_Rekey_vc ⟨_, refACheck r f, _, fun _ => refRCheck ft, fun hc => ?_, fun hc => ?_⟩
  · have hbad : ¬ (okA a ∧ okR t) := fun ⟨o1, o2⟩ => by rw [chkA_ok o1, chkR_ok o2] at hc; simp at hc
    rw [rekeyA, if_neg hbad]
    exact ⟨zs, zs, zs, zs, zs, rfl, NewA.zero (Hp.le_refl _)⟩
  simp only [Bool.or_eq_false_iff, bne_eq_false_iff_eq] at hc
  have ok : okA a ∧ okR t := ⟨chkA_zero.1 hc.1, chkR_zero.1 hc.2⟩
  rw [rekeyA, if_pos ok]
  refine ⟨_, refLive r.tb ok.1.tb, fun hb => ?_, fun hb => ?_⟩
  · have hl : a.tb.live h.1 h.2 ≠ true := by simpa using hb
    rw [if_neg hl]
    exact ⟨zs, zs, zs, zs, zs, rfl, NewA.zero (Hp.le_refl _)⟩
  · have hl : a.tb.live h.1 h.2 = true := by simpa using hb
    rw [if_pos hl]
    exact (refARekeyed r ok.1 hl ok.2).mono fun v H4 ⟨v1, v2, v3, v4, v5, hv, n⟩ => ⟨v1, v2, v3, v4, v5, hv, v1, v2, v3, v4, v5, rfl, n⟩

theorem refAPushed {H : Hp} {u1 u2 u3 u4 u5 : Slc} {a : Ag} {t : Int × Int} {n : Int} (r : RdA H u1 u2 u3 u4 u5 a) (ok : okA a) (ht : okR t) (hct : a.tb.canTake = true) :
    Go.Eng.Fn Try.prog F.pelotonref07_Pushed #[agV u1 u2 u3 u4 u5, .agg #[.int .i64 t.1, .int .i64 t.2], .int .i64 n] H fun v H' => ∃ v1 v2 v3 v4 v5 : Slc,
      v = .tuple #[agV v1 v2 v3 v4 v5, .agg #[.int .i64 (nextH a).1, .int .i64 (nextH a).2]] ∧ NewA H H' v1 v2 v3 v4 v5 (pushedA a t n) := by
  have f := okA.fitG ok
  have fh := f.hl; have fw := f.wl
  obtain ⟨p1, p2, p3, p4⟩ := push_parts (n := n) ok ht hct
  obtain ⟨hf, hu⟩ := canTake_iff.1 hct
  obtain ⟨tm, k0, k1⟩ := ok.tb.topR hf
  have hwl := ok.wl
  refine pelotonref07_Pushed_vc ((refATwin r f).mono fun v H2 ⟨t1, t2, t3, b, c, hv, nn⟩ => ⟨t1, t2, t3, b, c, hv, ?_⟩)
  refine (refTaken nn.tb.rd ok.tb hct).mono fun v H9 ⟨s1, s2, s3, hv, nt⟩ => ⟨s1, s2, s3, _, _, hv, fun b15 H16 hb15 hH16 => ?_⟩
  have le9 := Hp.le_trans nn.le nt.le
  have hmb := nn.heap.le nt.le
  have hmc := nn.wh.le nt.le
  refine (append1 (k := 5) (f := fE) (bytes := 40) (x := ⟨t, n, nextH a⟩) (e := T.api_Event) (by kernel_rfl) (by decide) (fun _ => rfl) fE_one le9 hmb hb15 hH16 rfl (by omega) (by omega)).mono fun v H18 ⟨w, hw, l18, mw, cw, ew⟩ => ⟨w, hw, ?_⟩
  have lw := mw.rdE.len
  have lw : w.n = a.heap.length + 1 := by rw [lw]; simp
  have mc := hmc.chg cw nn.s45.symm
  have my : MyA H H18 w c (a.heap ++ [⟨t, n, nextH a⟩], a.wh) := ⟨l18, mw, mc, nn.s45.ext hmc.isOld ew⟩
  have en : ((w.n : Int) - 1) = (a.heap.length : Nat) := by omega
  have sb : SepT s1 s2 s3 b := nt.sep nn.heap.isOld
  have sc : SepT s1 s2 s3 c := nt.sep nn.wh.isOld
  have sw : SepT s1 s2 s3 w := sb.ext nt.old ew
  have nt18 := NewT.chg2 (nt.low nn.le) (cw.two (v := c)) sb sc hmb.isNew hmc.isNew
  rw [en]
  refine ⟨by unfold inI; omega, mc.rdI.inS k0 (by omega), my.put k0 (by show _ < (a.wh.length : Int); omega) fun H20 m20 c20 => ⟨by unfold inI; omega, ?_⟩⟩
  have m20 : MyA H H20 w c (pushS a t n) := m20
  have hk := pushed_kept (n := n) ok ht hct
  refine (refUp m20 p1 (fun x hx => ?_) (by show _ < (a.heap ++ _).length; simp) (by show (a.heap ++ _).length ≤ _; have := ok.hl; have := ok.tb.top; simp; omega)).mono fun v H22 ⟨hv, m22, c22⟩ => ⟨_, hv, s1, s2, s3, w, c, rfl, ?_⟩
  · rcases List.mem_append.1 hx with hx | hx
    · exact (ok.each x hx).1
    · simp only [List.mem_singleton] at hx; subst hx; exact ht
  · exact MyA.new (H9 := H) nt18 m22 (c20.trans c22) sw sc

theorem refAPush {H : Hp} {u1 u2 u3 u4 u5 : Slc} {a : Ag} {t : Int × Int} {n : Int} (r : RdA H u1 u2 u3 u4 u5 a) (f : fitG a) (ft : fitR t) :
    Go.Eng.Fn Try.prog F.pelotonref07_Push #[agV u1 u2 u3 u4 u5, .agg #[.int .i64 t.1, .int .i64 t.2], .int .i64 n] H fun v H' => ∃ v1 v2 v3 v4 v5 : Slc,
      v = .tuple #[agV v1 v2 v3 v4 v5, .agg #[.int .i64 (pushA a t n).2.1.1, .int .i64 (pushA a t n).2.1.2], .int .i64 (pushA a t n).2.2] ∧ NewA H H' v1 v2 v3 v4 v5 (pushA a t n).1 := by
  have fh := f.hl
  refine pelotonref07_Push_vc ⟨_, refACheck r f, _, fun _ => refRCheck ft, fun hc => ?_, fun hc => ?_⟩
  · have hbad : ¬ (okA a ∧ okR t) := fun ⟨o1, o2⟩ => by rw [chkA_ok o1, chkR_ok o2] at hc; simp at hc
    rw [pushA, if_neg hbad]
    exact ⟨zs, zs, zs, zs, zs, rfl, NewA.zero (Hp.le_refl _)⟩
  simp only [Bool.or_eq_false_iff, bne_eq_false_iff_eq] at hc
  have ok : okA a ∧ okR t := ⟨chkA_zero.1 hc.1, chkR_zero.1 hc.2⟩
  rw [pushA, if_pos ok]
  refine ⟨fun hb => ?_, fun hb => ?_⟩
  · rw [if_pos (by simpa using hb)]
    exact ⟨zs, zs, zs, zs, zs, rfl, NewA.zero (Hp.le_refl _)⟩
  rw [if_neg (show ¬ (n < 0 ∨ 1000000 < n) by simpa using hb)]
  refine ⟨_, refAHas r.heap (by omega), fun hb => ?_, fun hb => ?_⟩
  · rw [if_pos hb]
    exact ⟨zs, zs, zs, zs, zs, rfl, NewA.zero (Hp.le_refl _)⟩
  rw [if_neg (show ¬ hasA a n = true from by rw [hb]; simp)]
  refine ⟨_, refOpen r.tb ok.1.tb, fun ho => ?_, fun ho => ?_⟩
  · have hct : ¬ a.tb.canTake = true := by simpa using ho
    rw [if_neg hct]
    exact ⟨zs, zs, zs, zs, zs, rfl, NewA.zero (Hp.le_refl _)⟩
  · have hct : a.tb.canTake = true := by simpa using ho
    rw [if_pos hct]
    exact (refAPushed r ok.1 ok.2 hct).mono fun v H6 ⟨v1, v2, v3, v4, v5, hv, n⟩ => ⟨v1, v2, v3, v4, v5, _, _, hv, v1, v2, v3, v4, v5, rfl, n⟩

theorem refASame {H : Hp} {u1 u2 u3 u4 u5 v1 v2 v3 v4 v5 : Slc} {a : Ag} (r : RdA H u1 u2 u3 u4 u5 a) (s : RdA H v1 v2 v3 v4 v5 a) (f : fitG a) :
    Qf Try.prog F.pelotonref07_Same #[agV u1 u2 u3 u4 u5, agV v1 v2 v3 v4 v5] H (.bool true) := by
  have fh := f.hl; have fw := f.wl
  have l4 := r.heap.len
  have k4 := s.heap.len
  refine pelotonref07_Same_vc ⟨_, same r.tb s.tb f.tb, _, fun _ => sameInts r.wh s.wh (by omega), fun hc => ?_, fun hc => ?_⟩
  · simp at hc; omega
  · refine upto (N := a.heap.length) (J := fun _ => True) (by omega) trivial fun n h0 h1 _ => ⟨fun hn => ?_, fun hn => ⟨rfl, Hp.le_refl _⟩⟩
    have hn : n < a.heap.length := by have : n < u4.n := by simpa using hn
                                      omega
    exact ⟨r.heap.inS h0 hn, _, _, _, _, _, Rd.gE r.heap h0 hn, s.heap.inS h0 hn, _, _, _, _, _, Rd.gE s.heap h0 hn, fun hb => by simp at hb, fun _ => upto.nx h0 hn (by omega) trivial⟩
end Go.Proofs.Ytmnbekffebdfmaa
