/- Agendas: what only reads. Conditions: none. -/
import Derived.Test.YtmnbekffebdfmaaG3
import Derived.Test.YtmnbekffebdfmaaVgAgenda
import Derived.Test.YtmnbekffebdfmaaFs
set_option linter.unusedVariables false
set_option maxRecDepth 100000
open Go Go.Eng Go.Proofs
namespace Go.Proofs.Ytmnbekffebdfmaa

/-- The events are where the list of places says. -/
def plcA (a : Ag) : Prop := a.wh.length = a.tb.uses.length ∧ a.heap.length + a.tb.free.length = a.tb.uses.length ∧ (∀ i : Nat, i < a.tb.uses.length → a.tb.used.getD i false = false → a.wh.getD i 0 = -1) ∧
  ∀ i : Nat, i < a.tb.uses.length → a.tb.used.getD i false = true → 0 ≤ a.wh.getD i 0 ∧ a.wh.getD i 0 < a.heap.length ∧ (hp a.heap (a.wh.getD i 0).toNat).h = ((i : Int), a.tb.uses.getD i 0)

noncomputable instance (a : Ag) : Decidable (plcA a) := Classical.propDecidable _

theorem refPlaced {H : Hp} {u1 u2 u3 u4 u5 : Slc} {a : Ag} (h : RdA H u1 u2 u3 u4 u5 a) (f : fitG a) (tok : okT a.tb) :
    Qf Try.prog F.pelotonref07_placed #[agV u1 u2 u3 u4 u5] H (.bool (decide (plcA a))) := by
  have l1 := h.tb.uses.len
  have l2 := h.tb.used.len
  have l3 := h.tb.free.len
  have l4 := h.heap.len
  have l5 := h.wh.len
  obtain ⟨⟨f1, f2, f3⟩, f4, f5, f6⟩ := f
  have := tok.len; have := tok.top
  have no : ¬ plcA a → Value.bool false = .bool (decide (plcA a)) := fun hp => by rw [decide_eq_false hp]
  refine pelotonref07_placed_vc ⟨fun _ => by unfold inI; omega, fun hc => ⟨no fun p => ?_, Hp.le_refl _⟩, fun hc => ?_⟩
  · obtain ⟨p1, p2, _⟩ := p
    simp only [Bool.or_eq_true, bne_iff_ne, ne_eq] at hc
    omega
  simp only [Bool.or_eq_false_iff, bne_eq_false_iff_eq] at hc
  obtain ⟨hc1, hc2⟩ := hc
  refine upto (N := a.wh.length) (J := fun n => (∀ i : Nat, i < n → a.tb.used.getD i false = false → a.wh.getD i 0 = -1) ∧ ∀ i : Nat, i < n → a.tb.used.getD i false = true → 0 ≤ a.wh.getD i 0 ∧ a.wh.getD i 0 < a.heap.length ∧ (hp a.heap (a.wh.getD i 0).toNat).h = ((i : Int), a.tb.uses.getD i 0))
    (by omega) ⟨fun i hi => by omega, fun i hi => by omega⟩ fun n h0 h1 ⟨j1, j2⟩ => ⟨fun hn => ?_, fun hn => ?_⟩
  · have hn : n < a.wh.length := by have : n < u1.n := by simpa using hn
                                    omega
    have en : ((n.toNat : Nat) : Int) = n := Int.toNat_of_nonneg h0
    refine h.tb.used.ldB h0 (by omega) ⟨fun hu => h.wh.ldI h0 hn ⟨fun hw => ⟨no fun p => ?_, Hp.le_refl _⟩, fun hw => upto.nx h0 hn (by omega) ⟨fun i hi hu' => ?_, fun i hi hu' => ?_⟩⟩, fun hu => h.wh.ldI h0 hn ?_⟩
    · have hu : a.tb.used.getD n.toNat false = false := by simpa using hu
      have := p.2.2.1 n.toNat (by omega) hu
      rw [this] at hw; simp at hw
    · have hw : a.wh.getD n.toNat 0 = -1 := by simpa using hw
      rcases Int.lt_or_le i n with h' | h'
      · exact j1 i h' hu'
      · have : i = n.toNat := by omega
        subst this; exact hw
    · have hu : a.tb.used.getD n.toNat false = false := by simpa using hu
      rcases Int.lt_or_le i n with h' | h'
      · exact j2 i h' hu'
      · have : i = n.toNat := by omega
        subst this; rw [hu] at hu'; cases hu'
    · have hu : a.tb.used.getD n.toNat false = true := by simpa using hu
      generalize hw : a.wh.getD n.toNat 0 = w
      have hr : (!(decide (w < 0) || decide (w ≥ (u4.n : Int)))) = true → 0 ≤ w ∧ w < a.heap.length := fun hh => by
        simp at hh; omega
      have hr2 : ∀ {b : Bool}, (!(decide (w < 0) || decide (w ≥ (u4.n : Int)) || b)) = true → 0 ≤ w ∧ w < a.heap.length := fun hh => by
        simp at hh; omega
      refine ⟨fun hh => h.heap.inS (hr hh).1 (hr hh).2, _, fun hh => by rw [add_zero']; exact (Rd.gEh h.heap (hr hh).1 (hr hh).2).1, fun hh => h.heap.inS (hr2 hh).1 (hr2 hh).2, _, _, fun hh => Rd.gEh h.heap (hr2 hh).1 (hr2 hh).2, _, fun hh => refLive h.tb tok, fun hb => ⟨no fun p => ?_, Hp.le_refl _⟩, fun hb => upto.nx h0 hn (by omega) ⟨fun i hi hu' => ?_, fun i hi hu' => ?_⟩⟩
      · obtain ⟨k1, k2, k3⟩ := p.2.2.2 n.toNat (by omega) hu
        rw [hw] at k1 k2 k3
        have lv : a.tb.live (hp a.heap w.toNat).h.1 (hp a.heap w.toNat).h.2 = true := by
          rw [k3, live_iff]
          exact ⟨by show (0 : Int) ≤ (n.toNat : Int); omega, by show (n.toNat : Int) < _; omega, by show a.tb.used.getD ((n.toNat : Int)).toNat false = true; rw [Int.toNat_natCast]; exact hu, by show a.tb.uses.getD ((n.toNat : Int)).toNat 0 = _; rw [Int.toNat_natCast]⟩
        rw [lv, k3] at hb
        simp at hb
        omega
      · rcases Int.lt_or_le i n with h' | h'
        · exact j1 i h' hu'
        · have : i = n.toNat := by omega
          subst this; rw [hu] at hu'; cases hu'
      · rcases Int.lt_or_le i n with h' | h'
        · exact j2 i h' hu'
        · have e : i = n.toNat := by omega
          subst e
          simp only [Bool.or_eq_false_iff, decide_eq_false_iff_not, bne_eq_false_iff_eq, Bool.not_eq_false'] at hb
          obtain ⟨⟨⟨b1, b2⟩, b3⟩, b4⟩ := hb
          obtain ⟨v1, v2, v3, v4⟩ := live_iff.1 b4
          rw [hw]
          refine ⟨by omega, by omega, Prod.ext (by rw [b3]; exact en.symm) ?_⟩
          rw [b3] at v4
          exact v4.symm
  · have : n = a.wh.length := by have : ¬ n < u1.n := by simpa using hn
                                 omega
    subst this
    have hp' : plcA a := ⟨by omega, by omega, fun i hi hu => j1 i (by omega) hu, fun i hi hu => j2 i (by omega) hu⟩
    exact ⟨by rw [decide_eq_true hp'], Hp.le_refl _⟩
theorem okA_iff {a : Ag} : okA a ↔ okT a.tb ∧ plcA a ∧ (∀ x ∈ a.heap, okR x.at_ ∧ 0 ≤ x.no ∧ x.no ≤ 1000000) ∧ (a.heap.map (·.no)).Nodup ∧ (∀ i : Nat, 1 ≤ i → i < a.heap.length → lessE (hp a.heap i) (hp a.heap (par i)) = false) :=
  ⟨fun ok => ⟨ok.tb, ⟨ok.wl, ok.hl, ok.free, ok.used⟩, ok.each, ok.nos, ok.ord⟩, fun ⟨a1, ⟨a2, a3, a4, a5⟩, a6, a7, a8⟩ => ⟨a1, a2, a3, a4, a5, a6, a7, a8⟩⟩

theorem refACheck {H : Hp} {u1 u2 u3 u4 u5 : Slc} {a : Ag} (h : RdA H u1 u2 u3 u4 u5 a) (f : fitG a) :
    Qf Try.prog F.pelotonref07_Check #[agV u1 u2 u3 u4 u5] H (.int .i64 (chkA a)) := by
  have l4 := h.heap.len
  have f4 := f.hl
  have f6 := f.fit
  have bad : ¬ okA a → Value.int .i64 8 = .int .i64 (chkA a) := fun hk => by rw [chkA_bad hk]
  refine pelotonref07_Check_vc ⟨_, rcheck h.tb f.tb, decide (plcA a), fun hc => refPlaced h f (chk_zero.1 (by simpa using hc)), fun hc => ⟨bad fun ok => ?_, Hp.le_refl _⟩, fun hc => ?_⟩
  · have := okA_iff.1 ok
    rw [chk_ok this.1, decide_eq_true this.2.1] at hc
    simp at hc
  simp only [Bool.or_eq_false_iff, bne_eq_false_iff_eq, Bool.not_eq_false', decide_eq_true_eq] at hc
  have tok := chk_zero.1 hc.1
  have plc := hc.2
  refine upto (N := a.heap.length) (J := fun n => (∀ x ∈ a.heap.take n.toNat, okR x.at_ ∧ 0 ≤ x.no ∧ x.no ≤ 1000000) ∧ ((a.heap.take n.toNat).map (·.no)).Nodup) (by omega) ⟨by simp, by simp⟩ fun n h0 h1 ⟨je, jn⟩ => ⟨fun hn => ?_, fun hn => ?_⟩
  · have hn : n < a.heap.length := by have : n < u4.n := by simpa using hn
                                      omega
    have hg := hp_get (h := a.heap) (i := n.toNat) (by omega)
    have hmem := hp_mem (h := a.heap) (i := n.toNat) (by omega)
    have hts := take_succ hg
    have e1 : (n + 1).toNat = n.toNat + 1 := by omega
    refine ⟨h.heap.inS h0 hn, _, _, _, _, _, Rd.gE h.heap h0 hn, _, refRCheck (f6 _ hmem), fun hb => ⟨bad fun ok => ?_, Hp.le_refl _⟩, fun hb => ?_⟩
    · obtain ⟨k1, k2, k3⟩ := ok.each _ hmem
      rw [chkR_ok k1] at hb
      simp only [bne_self_eq_false, Bool.false_or, Bool.or_eq_true, decide_eq_true_eq] at hb
      omega
    simp only [Bool.or_eq_false_iff, bne_eq_false_iff_eq, decide_eq_false_iff_not] at hb
    obtain ⟨⟨b1, b2⟩, b3⟩ := hb
    have okn := chkR_zero.1 b1
    refine upto (N := n) (J := fun k => ∀ y ∈ a.heap.take k.toNat, y.no ≠ (hp a.heap n.toNat).no) h0 (by simp) fun k k0 k1 k2 => ⟨fun hk => ?_, fun hk => ?_⟩
    · have hk : k < n := by simpa using hk
      have hgk := hp_get (h := a.heap) (i := k.toNat) (by omega)
      refine ⟨h.heap.inS k0 (by omega), _, Rd.gEn h.heap k0 (by omega), fun hb => ⟨bad fun ok => ?_, Hp.le_refl _⟩, fun hb => upto.nx k0 hk (by omega) ?_⟩
      · have hb : (hp a.heap k.toNat).no = (hp a.heap n.toNat).no := by simpa using hb
        have := (ok.nos).sublist ((List.take_sublist (n.toNat + 1) a.heap).map (·.no))
        rw [hts, List.map_append] at this
        refine (nodup_take_snoc.1 this).2 ?_
        exact List.mem_map.2 ⟨_, List.mem_take_iff_getElem.2 ⟨k.toNat, by omega, (List.getElem?_eq_some_iff.1 hgk).2⟩, hb⟩
      · rw [show (k + 1).toNat = k.toNat + 1 by omega, take_succ hgk]
        intro y hy
        rcases List.mem_append.1 hy with hy | hy
        · exact k2 y hy
        · simp only [List.mem_singleton] at hy; subst hy; simpa using hb
    · have : k = n := by have : ¬ k < n := by simpa using hk
                         omega
      subst this
      refine upto.nx h0 hn (by omega) ⟨fun x hx => ?_, ?_⟩
      · rw [e1, hts] at hx
        rcases List.mem_append.1 hx with hx | hx
        · exact je x hx
        · simp only [List.mem_singleton] at hx; subst hx; exact ⟨okn, by omega, by omega⟩
      · rw [e1, hts, List.map_append]
        refine nodup_take_snoc.2 ⟨jn, fun hm => ?_⟩
        obtain ⟨y, hy, e⟩ := List.mem_map.1 hm
        exact k2 y hy e
  · have : n = a.heap.length := by have : ¬ n < u4.n := by simpa using hn
                                   omega
    subst this
    rw [Int.toNat_natCast, List.take_length] at je jn
    refine ⟨fun m H' => H' = H ∧ 1 ≤ m ∧ ∀ i : Nat, 1 ≤ i → (i : Int) < m → i < a.heap.length → lessE (hp a.heap i) (hp a.heap (par i)) = false, fun m _ => (a.heap.length - m).toNat, ⟨rfl, Int.le_refl _, fun i hi1 hi2 => by omega⟩, fun m H' ⟨e, m1, jo⟩ => ?_⟩
    subst e
    refine ⟨fun hm => ?_, fun hm => ?_⟩
    · have hm : m < a.heap.length := by have : m < u4.n := by simpa using hm
                                        omega
      have pl := par_lt (i := m.toNat) (by omega)
      have ep := parI (n := m) (by omega)
      have gp := Rd.gE h.heap (i := ((par m.toNat : Nat) : Int)) (by omega) (by omega)
      rw [Int.toNat_natCast] at gp
      rw [ep]
      refine ⟨h.heap.inS (by omega) hm, _, _, _, _, _, Rd.gE h.heap (by omega) hm, by unfold inI; omega, ⟨by unfold nz; omega, by unfold inI; omega⟩, h.heap.inS (by omega) (by omega), _, _, _, _, _, gp, _, refELess (je _ (hp_mem (by omega))).1 (je _ (hp_mem (by omega))).1, fun hb => ⟨bad fun ok => ?_, Hp.le_refl _⟩, fun hb => ⟨by unfold inI; omega, ⟨rfl, by omega, fun i i1 i2 i3 => ?_⟩, by show ((a.heap.length : Int) - (m + 1)).toNat < ((a.heap.length : Int) - m).toNat; omega⟩⟩
      · rw [ok.ord m.toNat (by omega) (by omega)] at hb; cases hb
      · rcases Int.lt_or_le i m with h' | h'
        · exact jo i i1 h' i3
        · have e : i = m.toNat := by omega
          subst e; exact hb
    · have hm : ¬ m < u4.n := by simpa using hm
      exact ⟨by rw [chkA_ok (okA_iff.2 ⟨tok, plc, je, jn, fun i i1 i2 => jo i i1 (by omega) i2⟩)], Hp.le_refl _⟩

theorem agendaPlace {H : Hp} {u1 u2 u3 u4 u5 : Slc} {a : Ag} {h : Int × Int} (r : RdA H u1 u2 u3 u4 u5 a) (f : fitG a) :
    Qf Try.prog F.agenda_place #[agV u1 u2 u3 u4 u5, .agg #[.int .i64 h.1, .int .i64 h.2]] H (.tuple #[.int .i64 (if (findA a h).2 = 0 then (atA a h : Int) else 0), .int .i64 (findA a h).2]) := by
  refine agenda_place_vc ⟨_, agendaCheck r f, fun hc => ?_, fun hc => ?_⟩
  · have hk : ¬ okA a := fun ok => by rw [chkA_ok ok] at hc; simp at hc
    rw [findA, if_neg hk, chkA_bad hk]
    exact ⟨rfl, Hp.le_refl _⟩
  · have ok : okA a := chkA_zero.1 (by simpa using hc)
    rw [findA, if_pos ok]
    refine ⟨_, _, slotHas r.tb f.tb, fun hb => ?_, fun hb => ?_⟩
    · rw [hasM, if_pos ok.tb] at hb
      have hl : a.tb.live h.1 h.2 ≠ true := by simpa using hb
      rw [if_neg hl]
      exact ⟨rfl, Hp.le_refl _⟩
    · rw [hasM, if_pos ok.tb] at hb
      have hl : a.tb.live h.1 h.2 = true := by simpa using hb
      rw [if_pos hl]
      obtain ⟨v1, v2, v3, v4⟩ := live_iff.1 hl
      have := ok.wl
      have so := ok.slotOf hl
      refine r.wh.ldI v1 (by omega) ⟨?_, Hp.le_refl _⟩
      rw [if_pos rfl]
      unfold atA
      rw [Int.toNat_of_nonneg so.1]

theorem agendaTop {H : Hp} {u1 u2 u3 u4 u5 : Slc} {a : Ag} (r : RdA H u1 u2 u3 u4 u5 a) (f : fitG a) :
    Qf Try.prog F.agenda_Top #[agV u1 u2 u3 u4 u5] H (.tuple #[evV (topA a).1, .int .i64 (topA a).2]) := by
  have l4 := r.heap.len
  refine agenda_Top_vc ⟨_, agendaCheck r f, fun hc => ?_, fun hc => ?_⟩
  · have hk : ¬ okA a := fun ok => by rw [chkA_ok ok] at hc; simp at hc
    rw [topA, if_neg hk, chkA_bad hk]
    exact ⟨rfl, Hp.le_refl _⟩
  · have ok : okA a := chkA_zero.1 (by simpa using hc)
    rw [topA, if_pos ok]
    refine ⟨fun hb => ?_, fun hb => ?_⟩
    · have hb : u4.n = 0 := by simpa using hb
      rw [if_pos (by omega)]; exact ⟨rfl, Hp.le_refl _⟩
    · have hb : ¬ u4.n = 0 := by simpa using hb
      rw [if_neg (by omega)]
      exact ⟨r.heap.inS (by omega) (by omega), _, _, _, _, _, Rd.gE r.heap (i := 0) (by omega) (by omega), rfl, Hp.le_refl _⟩
theorem refATop {H : Hp} {u1 u2 u3 u4 u5 : Slc} {a : Ag} (r : RdA H u1 u2 u3 u4 u5 a) (f : fitG a) :
    Qf Try.prog F.pelotonref07_Top #[agV u1 u2 u3 u4 u5] H (.tuple #[evV (topA a).1, .int .i64 (topA a).2]) := by
  have l4 := r.heap.len
  refine pelotonref07_Top_vc ⟨_, refACheck r f, fun hc => ?_, fun hc => ?_⟩
  · have hk : ¬ okA a := fun ok => by rw [chkA_ok ok] at hc; simp at hc
    rw [topA, if_neg hk]
    exact ⟨rfl, Hp.le_refl _⟩
  · have ok : okA a := chkA_zero.1 (by simpa using hc)
    rw [topA, if_pos ok]
    refine ⟨fun hb => ?_, fun hb => ?_⟩
    · have hb : u4.n = 0 := by simpa using hb
      rw [if_pos (by omega)]; exact ⟨rfl, Hp.le_refl _⟩
    · have hb : ¬ u4.n = 0 := by simpa using hb
      rw [if_neg (by omega)]
      exact ⟨r.heap.inS (by omega) (by omega), _, _, _, _, _, Rd.gE r.heap (i := 0) (by omega) (by omega), rfl, Hp.le_refl _⟩

theorem agendaFind {H : Hp} {u1 u2 u3 u4 u5 : Slc} {a : Ag} {h : Int × Int} (r : RdA H u1 u2 u3 u4 u5 a) (f : fitG a) :
    Qf Try.prog F.agenda_Find #[agV u1 u2 u3 u4 u5, .agg #[.int .i64 h.1, .int .i64 h.2]] H (.tuple #[evV (findA a h).1, .int .i64 (findA a h).2]) := by
  refine agenda_Find_vc ⟨_, _, agendaPlace r f, fun hc => ?_, fun hc => ?_⟩
  · have hk : (findA a h).2 ≠ 0 := by simpa using hc
    refine ⟨?_, Hp.le_refl _⟩
    have : (findA a h).1 = e0 := by
      unfold findA at hk ⊢
      split
      · rename_i ok
        rw [if_pos ok] at hk
        split
        · rename_i hl; rw [if_pos hl] at hk; exact absurd rfl hk
        · rfl
      · rfl
    rw [this]; rfl
  · have hk : (findA a h).2 = 0 := by simpa using hc
    rw [if_pos hk]
    have hh : okA a ∧ a.tb.live h.1 h.2 = true := by
      unfold findA at hk
      split at hk
      · rename_i ok
        split at hk
        · rename_i hl; exact ⟨ok, hl⟩
        · cases hk
      · cases hk
    obtain ⟨m1, m2, m3⟩ := find_mem hh.1 hh.2
    have g := Rd.gE r.heap (i := (atA a h : Int)) (by omega) (by omega)
    rw [Int.toNat_natCast] at g
    refine ⟨r.heap.inS (by omega) (by omega), _, _, _, _, _, g, ?_, Hp.le_refl _⟩
    rw [findA, if_pos hh.1, if_pos hh.2]
theorem refAFind {H : Hp} {u1 u2 u3 u4 u5 : Slc} {a : Ag} {h : Int × Int} (r : RdA H u1 u2 u3 u4 u5 a) (f : fitG a) :
    Qf Try.prog F.pelotonref07_Find #[agV u1 u2 u3 u4 u5, .agg #[.int .i64 h.1, .int .i64 h.2]] H (.tuple #[evV (findA a h).1, .int .i64 (findA a h).2]) := by
  refine pelotonref07_Find_vc ⟨_, refACheck r f, fun hc => ?_, fun hc => ?_⟩
  · have hk : ¬ okA a := fun ok => by rw [chkA_ok ok] at hc; simp at hc
    rw [findA, if_neg hk]
    exact ⟨rfl, Hp.le_refl _⟩
  · have ok : okA a := chkA_zero.1 (by simpa using hc)
    rw [findA, if_pos ok]
    refine ⟨_, refLive r.tb ok.tb, fun hb => ?_, fun hb => ?_⟩
    · have hl : a.tb.live h.1 h.2 ≠ true := by simpa using hb
      rw [if_neg hl]
      exact ⟨rfl, Hp.le_refl _⟩
    · have hl : a.tb.live h.1 h.2 = true := by simpa using hb
      rw [if_pos hl]
      obtain ⟨v1, v2, v3, v4⟩ := live_iff.1 hl
      have := ok.wl
      have so := ok.slotOf hl
      refine r.wh.ldI v1 (by omega) ?_
      have g := Rd.gE r.heap (i := a.wh.getD h.1.toNat 0) so.1 so.2.1
      exact ⟨r.heap.inS so.1 so.2.1, _, _, _, _, _, g, rfl, Hp.le_refl _⟩

theorem refAGreat {H : Hp} {u1 u2 u3 u4 u5 : Slc} {a : Ag} (h : RdA H u1 u2 u3 u4 u5 a) :
    Qf Try.prog F.pelotonref07_Great #[agV u1 u2 u3 u4 u5] H (.bool (decide (a.tb.uses.length > 210) || decide (a.tb.used.length > 210) || decide (a.tb.free.length > 210) || decide (a.heap.length > 210) || decide (a.wh.length > 210))) := by
  have l4 := h.heap.len
  have l5 := h.wh.len
  refine pelotonref07_Great_vc ⟨_, refGreat h.tb, ?_, Hp.le_refl _⟩
  have e4 : ((u4.n : Int) > 210) = (a.heap.length > 210) := by rw [eq_iff_iff]; omega
  have e5 : ((u5.n : Int) > 210) = (a.wh.length > 210) := by rw [eq_iff_iff]; omega
  simp only [e4, e5]
end Go.Proofs.Ytmnbekffebdfmaa
