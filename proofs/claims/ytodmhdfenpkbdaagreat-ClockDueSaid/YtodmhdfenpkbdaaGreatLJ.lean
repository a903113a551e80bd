/- The law ClockDue. Conditions: none. -/
import Derived.Test.YtodmhdfenpkbdaaGreatLI
import Derived.Test.YtodmhdfenpkbdaaGreatVgLClockDue
import Derived.Test.YtodmhdfenpkbdaaGreatFs
set_option linter.unusedVariables false
set_option maxRecDepth 100000
open Go Go.Eng Go.Proofs
namespace Go.Proofs.YtodmhdfenpkbdaaGreat

/-- Of the certificates looked at, the first one of those that are due that fails first. -/
structure BestI (c : Ck) (t : Int × Int) (i : Nat) (b : Int) (f : Int × Int) : Prop where
  no : b < 0 → ∀ j, j < i → ∀ x, c.ct.list[j]? = some x → ∀ s, whenM c.f x.2 c.now = some s → ¬ leR s t
  yes : 0 ≤ b → b < i ∧ ∃ x, c.ct.list[b.toNat]? = some x ∧ whenM c.f x.2 c.now = some f ∧ leR f t ∧
    ∀ j, j < i → ∀ y, c.ct.list[j]? = some y → ∀ s, whenM c.f y.2 c.now = some s → leR s t → leR f s ∧ (j < b.toNat → ¬ leR s f)
section
variable {c : Ck} {t f : Int × Int} {i : Nat} {b : Int} {x : Int × Int × Int}
theorem BestI.keep (ok : okK c) (h : BestI c t i b f) (hi : c.ct.list[i]? = some x) (hk : ∀ s, whenM c.f x.2 c.now = some s → leR s t → 0 ≤ b ∧ leR f s) : BestI c t (i + 1) b f := by
  refine ⟨fun hb j hj y hy s hs hl => ?_, fun hb => ?_⟩
  · by_cases e : j = i
    · subst e; rw [hi] at hy; cases hy
      have := (hk s hs hl).1; omega
    · exact h.no hb j (by omega) y hy s hs hl
  · obtain ⟨h1, z, h2, h3, h4, h5⟩ := h.yes hb
    refine ⟨by omega, z, h2, h3, h4, fun j hj y hy s hs hl => ?_⟩
    by_cases e : j = i
    · subst e; rw [hi] at hy; cases hy
      exact ⟨(hk s hs hl).2, fun hjb => by omega⟩
    · exact h5 j (by omega) y hy s hs hl
theorem BestI.take (ok : okK c) (h : BestI c t i b f) (hi : c.ct.list[i]? = some x) {s : Int × Int} (hs : whenM c.f x.2 c.now = some s) (hl : leR s t) (hk : b < 0 ∨ ¬ leR f s) : BestI c t (i + 1) i s := by
  refine ⟨fun hb => by omega, fun _ => ⟨by omega, x, by simpa using hi, hs, hl, fun j hj y hy s' hs' hl' => ?_⟩⟩
  have os : okR s := whenM_okR ok.f ok.known ok.now (List.mem_of_getElem? hi) hs
  have os' : okR s' := whenM_okR ok.f ok.known ok.now (List.mem_of_getElem? hy) hs'
  by_cases e : j = i
  · subst e; rw [hi] at hy; cases hy; rw [hs] at hs'; cases hs'
    exact ⟨leR_refl _, fun hjb => by omega⟩
  · by_cases hb : b < 0
    · exact absurd hl' (h.no hb j (by omega) y hy s' hs')
    · obtain ⟨_, z, h2, h3, h4, h5⟩ := h.yes (by omega)
      have of : okR f := whenM_okR ok.f ok.known ok.now (List.mem_of_getElem? h2) h3
      have hfs : ¬ leR f s := hk.resolve_left hb
      have k := (h5 j (by omega) y hy s' hs' hl').1
      have hsf : leR s f := (leR_total _ _).resolve_right hfs
      exact ⟨leR_trans os of os' hsf k, fun _ k2 => hfs (leR_trans of os' os k k2)⟩

/-- What is found is the first event. -/
theorem BestI.top (ok : okK c) (ot : okR t) (h : BestI c t c.ct.list.length b f) :
    (b < 0 → waitsK c t = false) ∧ (0 ≤ b → waitsK c t = true ∧ ∃ x, c.ct.list[b.toNat]? = some x ∧ (hp c.ag.heap 0).at_ = f ∧ (hp c.ag.heap 0).no = x.1 ∧ atC c.ct x.1 = b) := by
  obtain ⟨ps, e⟩ := ok.evs
  refine ⟨fun hb => ?_, fun hb => ?_⟩
  · cases hw : waitsK c t with
    | false => rfl
    | true =>
      have h0 := waitsK_len hw
      obtain ⟨y, hm, h1, h2⟩ := e.cert (e.heap.mem_iff.1 (hp_mem h0))
      obtain ⟨j, hj⟩ := List.mem_iff_getElem?.1 hm
      exact absurd ((waitsK_iff h0).1 hw) (h.no hb j (List.getElem?_eq_some_iff.1 hj).1 y hj _ h2)
  · obtain ⟨h1, x, h2, h3, h4, h5⟩ := h.yes hb
    have hxm := List.mem_of_getElem? h2
    obtain ⟨y, hy, hyn, hya⟩ := e.of_cert hxm h3
    have hyh := e.mem_heap hy
    have h0 : 0 < c.ag.heap.length := List.length_pos_of_mem hyh
    have o1 : okR (hp c.ag.heap 0).at_ := (ok.ag.each _ (hp_mem h0)).1
    have of : okR f := whenM_okR ok.f ok.known ok.now hxm h3
    have hless := ok.top hyh
    have k1 := leR_of_less hless
    rw [hya] at k1
    have hw := (waitsK_iff h0).2 (leR_trans o1 of ot k1 h4)
    obtain ⟨z, hm, hz1, hz2⟩ := e.cert (e.heap.mem_iff.1 (hp_mem h0))
    obtain ⟨j, hj⟩ := List.mem_iff_getElem?.1 hm
    obtain ⟨k2, k3⟩ := h5 j (List.getElem?_eq_some_iff.1 hj).1 z hj _ hz2 (leR_trans o1 of ot k1 h4)
    have et : (hp c.ag.heap 0).at_ = f := okR_eq o1 of k1 k2
    have hjb : ¬ j < b.toNat := fun hlt => k3 hlt k1
    have hno : (hp c.ag.heap 0).no ≤ y.no := by
      rcases lessE_not.1 hless with k | k
      · rw [et, hya] at k; omega
      · exact k.2
    have hjb2 : j = b.toNat := by
      rcases Nat.lt_or_ge b.toNat j with hlt | hge
      · have hp' := List.pairwise_iff_getElem.1 ok.incL
        obtain ⟨j1, j2⟩ := List.getElem?_eq_some_iff.1 hj
        obtain ⟨b1, b2⟩ := List.getElem?_eq_some_iff.1 h2
        have := hp' _ _ b1 j1 hlt
        rw [j2, b2] at this
        omega
      · omega
    subst hjb2
    rw [h2] at hj; cases hj
    have ha := (getC_at ok.ct h2).1
    exact ⟨hw, x, h2, et, hz1.symm, by rw [ha]; omega⟩
end

set_option maxHeartbeats 2000000 in
theorem clockDue {H : Hp} {u : Cu} {c : Ck} {t : Int × Int} (r : RdK H u c) (ht : fitR t) (hn : fitR c.now) (hh : ∀ y ∈ c.ag.heap, fitR y.at_) : Qf Tryz.prog F.pelotonlaw09_ClockDue #[ckV u c, raW t] H (.bool true) := by
  have lc := r.cl.len
  by_cases hg : (!greatK c && decide (okK c)) = true
  case neg =>
    refine pelotonlaw09_ClockDue_vc ⟨_, law9fit r hn hh, 0, fun h => ?_, fun _ => ⟨_, law9alive, rfl, Hp.le_refl _⟩, fun h => ?_⟩
    · simp at h hg; exact absurd h.2 (hg h.1)
    · simp at h hg; exact absurd h.2 (hg h.1)
  have ok : okK c := by simp at hg; exact hg.2
  have fk := ok.fit
  have f1 := fk.ct
  have ff := fk.f
  refine pelotonlaw09_ClockDue_vc ⟨_, law9fit r hn hh, _, fun _ => rUntil r fk ht, fun _ => ⟨_, law9alive, rfl, Hp.le_refl _⟩, fun h => ?_⟩
  have hu : untilK c t = 0 := by simp at h; exact h.2
  have ot := (untilK_zero.1 hu).2.1
  clear h hg
  refine ⟨fun b i n8 n9 H' => H' = H ∧ 0 ≤ i ∧ i ≤ c.ct.list.length ∧ BestI c t i.toNat b (n8, n9), fun _ i _ _ _ => (c.ct.list.length - i).toNat, ⟨rfl, Int.le_refl _, by omega, ⟨fun _ j hj => by omega, fun hb => by omega⟩⟩,
    fun b i n8 n9 H' ⟨e, i0, i1, bi⟩ => ?_⟩
  subst e
  refine ⟨fun hn => ?_, fun hn => ?_⟩
  · have hn : i < c.ct.list.length := by have : i < u.cl.n := by simpa using hn
                                         omega
    have hg := getX (d := ((0 : Int), (0 : Int), (0 : Int))) i0 hn
    have g2 := r.cl.gD2 i0 hn
    have gs := r.cl.inS i0 hn
    generalize c.ct.list.getD i.toNat (0, 0, 0) = x at hg g2
    obtain ⟨p1, p2⟩ := knownC_at ok.known (List.mem_of_getElem? hg)
    have hi1 : (i + 1).toNat = i.toNat + 1 := by omega
    have ms : (c.ct.list.length - (i + 1) : Int).toNat < (c.ct.list.length - i : Int).toNat := by omega
    refine ⟨gs, _, _, g2, _, _, _, refWhen (x := x.2) r.f ok.f ok.now p1 p2, ?_⟩
    cases hw : whenM c.f x.2 c.now with
    | none =>
      refine ⟨0, fun h => by simp at h, 0, fun h => by simp at h, fun h => by simp at h, fun _ => ⟨by unfold inI; omega, ⟨rfl, by omega, by omega, ?_⟩, ms⟩⟩
      rw [hi1]; exact bi.keep ok hg fun s hs => by rw [hw] at hs; cases hs
    | some s =>
      have os : okR s := whenM_okR ok.f ok.known ok.now (List.mem_of_getElem? hg) hw
      refine ⟨_, fun _ => refCompareR os ot, ?_⟩
      by_cases hb : b < 0
      · refine ⟨0, fun h => by simp [hb] at h, fun h => ?_, fun h => ?_⟩
        · have hl : leR s t := by
            simp only [o2, Option.getD_some, Option.isSome_some, Bool.true_and, decide_eq_true hb, Bool.true_or, Bool.and_true] at h; replace h := of_decide_eq_true h
            exact cmpR_le.1 h
          refine ⟨by unfold inI; omega, ⟨rfl, by omega, by omega, ?_⟩, ms⟩
          rw [hi1]
          have := bi.take ok hg hw hl (.inl hb)
          rw [Int.toNat_of_nonneg i0] at this
          exact this
        · have hl : ¬ leR s t := by
            simp only [o2, Option.getD_some, Option.isSome_some, Bool.true_and, decide_eq_true hb, Bool.true_or, Bool.and_true] at h; replace h := of_decide_eq_false h
            exact fun k => h (cmpR_le.2 k)
          refine ⟨by unfold inI; omega, ⟨rfl, by omega, by omega, ?_⟩, ms⟩
          rw [hi1]; exact bi.keep ok hg fun s' hs' hl' => by rw [hw] at hs'; cases hs'; exact absurd hl' hl
      · obtain ⟨_, z, z2, z3, z4, _⟩ := bi.yes (by omega)
        have of : okR (n8, n9) := whenM_okR ok.f ok.known ok.now (List.mem_of_getElem? z2) z3
        have rc := refCompareR (H := H') os of
        refine ⟨_, fun _ => rc, fun h => ?_, fun h => ?_⟩
        · simp only [o2, Option.getD_some, Option.isSome_some, Bool.true_and, decide_eq_false hb, Bool.false_or, Bool.and_eq_true] at h
          replace h := And.intro (of_decide_eq_true h.1) (of_decide_eq_true h.2)
          refine ⟨by unfold inI; omega, ⟨rfl, by omega, by omega, ?_⟩, ms⟩
          rw [hi1]
          have := bi.take ok hg hw (cmpR_le.1 h.1) (.inr (cmpR_lt.1 h.2))
          rw [Int.toNat_of_nonneg i0] at this
          exact this
        · simp only [o2, Option.getD_some, Option.isSome_some, Bool.true_and, decide_eq_false hb, Bool.false_or, Bool.and_eq_false_iff] at h
          replace h := h.imp of_decide_eq_false of_decide_eq_false
          refine ⟨by unfold inI; omega, ⟨rfl, by omega, by omega, ?_⟩, ms⟩
          rw [hi1]
          refine bi.keep ok hg fun s' hs' hl' => ?_
          rw [hw] at hs'; cases hs'
          refine ⟨by omega, ?_⟩
          have h2 := h.resolve_left fun k => k (cmpR_le.2 hl')
          rw [cmpR_lt] at h2
          simpa using h2
  · have hi : i = c.ct.list.length := by have : ¬ i < u.cl.n := by simpa using hn
                                         omega
    rw [hi, Int.toNat_natCast] at bi
    obtain ⟨t1, t2⟩ := bi.top ok ot
    refine (clockFail (t := t) r fk ht).mono fun v H19 ⟨w, hv, l19, r19⟩ => ⟨_, _, w.f, _, w.cl, w.u1, w.u2, w.u3, w.u4, w.u5, w.d, _, _, _, _, _, _, _, _, hv, ?_⟩
    refine (clockMove (t := t) (r.le l19) fk ht).mono fun v H40 ⟨z, hv, l40, r40⟩ => ⟨_, _, z.f, _, z.cl, z.u1, z.u2, z.u3, z.u4, z.u5, z.d, _, hv, fun hb => ?_, fun hb => ?_⟩
    · have hw := t1 (by simpa using hb)
      rw [failK_wait hu, moveK_wait hu, hw]
      refine ⟨_, fun _ => law9alive, ?_, Hp.le_trans l19 l40⟩
      simp
    · have hb : ¬ b < 0 := by simpa using hb
      obtain ⟨hw, x, hx, et, en, ea⟩ := t2 (by omega)
      obtain ⟨o1, o2, o3, o4, o5⟩ := untilK_failed ok ot hw
      have h0 := waitsK_len hw
      have ef : failK c t = (failedK c, hp c.ag.heap 0, (getD3 c.ct.list (atC c.ct (hp c.ag.heap 0).no)).2, 0) := by rw [failK_wait hu, if_pos hw]
      have em : moveK c t = (.zero, 36) := by rw [moveK_wait hu, if_pos hw]
      rw [ef] at r19 ⊢
      rw [em]
      have hlt : b < c.ct.list.length := by
        have := (List.getElem?_eq_some_iff.1 hx).1; omega
      have gx : c.ct.list.getD b.toNat (0, 0, 0) = x := by rw [List.getD, hx]; rfl
      have hD := r.cl.gD (by omega : 0 ≤ b) hlt
      rw [gx] at hD
      have r40' := r19.le l40
      have fl := failedK_len ok h0
      have lw : w.cl.n = (failedK c).ct.list.length := r19.cl.len
      have gf := (goneK_ct c (hp c.ag.heap 0).no)
      have ff2 : (failedK c).f = c.f := gf.2.1
      have fct : (failedK c).ct = withoutC c.ct (hp c.ag.heap 0).no := gf.1
      have hat : atC (failedK c).ct x.1 < 0 := by
        rw [fct, ← en]
        have : atC (withoutC c.ct (hp c.ag.heap 0).no) (hp c.ag.heap 0).no = -1 := idx_miss fun y hy => by
          have := (List.mem_filter.1 hy).2
          simpa using this
        omega
      refine ⟨r.cl.inS (by omega) hlt, _, _, _, ⟨Hp.at_le (Hp.le_trans l19 l40) hD.1, Hp.at_le (Hp.le_trans l19 l40) hD.2.1, Hp.at_le (Hp.le_trans l19 l40) hD.2.2⟩, _, fun _ => refKCheck r40' o1.fit, _, fun _ => rAtC (c := (failedK c).ct) r40'.cl (by omega), fun _ => by unfold inI; omega, _,
        fun _ => refFSame r40'.f (r.le (Hp.le_trans l19 l40)).f (by rw [ff2]; omega), _, fun _ => law9alive, ?_, Hp.le_trans l19 l40⟩
      have eg : getD3 c.ct.list (atC c.ct (hp c.ag.heap 0).no) = x := by rw [en, ea]; exact gx
      have nw : (failedK c).now = (n8, n9) := et
      rw [chkK_ok o1, eg, nw, et, en, ff2, lw]
      simp
      exact ⟨by omega, by omega⟩
end Go.Proofs.YtodmhdfenpkbdaaGreat
