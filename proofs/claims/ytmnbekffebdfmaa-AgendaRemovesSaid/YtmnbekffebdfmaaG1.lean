/- Contracts of agenda.Check and pelotonref07.Check. Conditions: none. -/
import Derived.Test.YtmnbekffebdfmaaR4
import Derived.Test.YtmnbekffebdfmaaAP
import Derived.Test.YtmnbekffebdfmaaVgAgenda
import Derived.Test.YtmnbekffebdfmaaFs
set_option linter.unusedVariables false
set_option maxRecDepth 100000
open Go Go.Eng Go.Proofs
namespace Go.Proofs.Ytmnbekffebdfmaa

structure RdA (H : Hp) (u1 u2 u3 u4 u5 : Slc) (a : Ag) : Prop where
  tb : RdT H u1 u2 u3 a.tb
  heap : Rd 5 fE H u4 a.heap
  wh : RdI H u5 a.wh
theorem RdA.le {H H' : Hp} {u1 u2 u3 u4 u5 : Slc} {a : Ag} (h : RdA H u1 u2 u3 u4 u5 a) (hl : Hp.le H H') : RdA H' u1 u2 u3 u4 u5 a := ⟨h.tb.le hl, h.heap.le hl, h.wh.le hl⟩
/-- The numbers are ints, and there are not too many. -/
structure fitG (a : Ag) : Prop where
  tb : a.tb.small
  hl : a.heap.length ≤ 1000000
  wl : a.wh.length ≤ 1000000
  fit : ∀ x ∈ a.heap, fitR x.at_
theorem okA.fitG {a : Ag} (ok : okA a) : fitG a := by
  have := ok.wl; have := ok.hl; have := ok.tb.top
  exact ⟨ok.tb.small, by omega, by omega, fun x hx => (ok.each x hx).1.fit⟩
theorem fitG.zero : fitG .zero := ⟨by simp [Ag.zero, Tb.zero, Tb.small], by simp [Ag.zero], by simp [Ag.zero], fun x hx => by simp [Ag.zero] at hx⟩

abbrev evV (x : Ev) : Value := .agg #[.int .i64 x.at_.1, .int .i64 x.at_.2, .int .i64 x.no, .int .i64 x.h.1, .int .i64 x.h.2]

section
variable {H : Hp} {u : Slc} {xs : List Ev} {i : Int}
theorem _root_.Go.Eng.Rd.gEx (h : Rd 5 fE H u xs) (h0 : 0 ≤ i) (h1 : i < xs.length) {j : Nat} {v : Value} (hv : (fE (hp xs i.toNat))[j]? = some v) : H.at ((eaddr u.a 5 i).add j) = some v :=
  h.atj h0 (hp_get (by omega)) hv
theorem _root_.Go.Eng.Rd.gE (h : Rd 5 fE H u xs) (h0 : 0 ≤ i) (h1 : i < xs.length) : H.at (eaddr u.a 5 i) = some (.int .i64 (hp xs i.toNat).at_.1) ∧ H.at ((eaddr u.a 5 i).add 1) = some (.int .i64 (hp xs i.toNat).at_.2) ∧ H.at ((eaddr u.a 5 i).add 2) = some (.int .i64 (hp xs i.toNat).no) ∧ H.at ((eaddr u.a 5 i).add 3) = some (.int .i64 (hp xs i.toNat).h.1) ∧ H.at ((eaddr u.a 5 i).add 4) = some (.int .i64 (hp xs i.toNat).h.2) :=
  ⟨h.at0 h0 (hp_get (by omega)) rfl, Rd.gEx h h0 h1 rfl, Rd.gEx h h0 h1 rfl, Rd.gEx h h0 h1 rfl, Rd.gEx h h0 h1 rfl⟩
theorem _root_.Go.Eng.Rd.gEh (h : Rd 5 fE H u xs) (h0 : 0 ≤ i) (h1 : i < xs.length) : H.at (((eaddr u.a 5 i).add 3).add 0) = some (.int .i64 (hp xs i.toNat).h.1) ∧ H.at (((eaddr u.a 5 i).add 3).add 1) = some (.int .i64 (hp xs i.toNat).h.2) := by
  obtain ⟨_, _, _, d, e⟩ := Rd.gE h h0 h1
  rw [add_zero', add_add]; exact ⟨d, e⟩
theorem _root_.Go.Eng.Rd.gEn (h : Rd 5 fE H u xs) (h0 : 0 ≤ i) (h1 : i < xs.length) : H.at (((eaddr u.a 5 i).add 2).add 0) = some (.int .i64 (hp xs i.toNat).no) := by
  rw [add_zero']; exact (Rd.gE h h0 h1).2.2.1
theorem _root_.Go.Eng.Mine.rdE {e : TypeId} {H0 : Hp} (h : Mine 5 fE e H0 H u xs) : Rd 5 fE H u xs := Mine.rd (k := 5) (f := fE) (fun _ => rfl) h
end

theorem parI {n : Int} (h : 0 < n) : (n - 1).tdiv 2 = (par n.toNat : Nat) := by
  rw [Int.tdiv_eq_ediv_of_nonneg (by omega)]
  unfold par; omega

def cmpE (x y : Ev) : Int := if (cmpM x.at_ y.at_).1 ≠ 0 then (cmpM x.at_ y.at_).1 else cmpI x.no y.no
theorem cmpE_less {x y : Ev} (hx : okR x.at_) (hy : okR y.at_) : decide (cmpE x y < 0) = lessE x y := by
  have e : (cmpM x.at_ y.at_).1 = cmpR x.at_ y.at_ := by unfold cmpM; rw [if_pos ⟨hx, hy⟩]
  unfold cmpE lessE
  rw [e, Bool.eq_iff_iff]
  simp only [decide_eq_true_eq, Bool.or_eq_true, Bool.and_eq_true, beq_iff_eq]
  split
  · omega
  · rename_i h
    rw [cmpI_lt]; omega
theorem agendaCompare {H : Hp} {x y : Ev} (hx : fitR x.at_) (hy : fitR y.at_) : Qf Try.prog F.agenda_compare #[evV x, evV y] H (.int .i64 (cmpE x y)) := by
  refine agenda_compare_vc ⟨_, _, ratioCmp hx hy, _, compare_int, fun b4 H5 hb4 hH5 => ⟨_, orInt (u := ⟨some ⟨b4, 0, none⟩, 2, 2⟩) (rdI2 hH5), ?_, Hp.le_new (Hp.le_refl _) hb4 hH5⟩⟩
  rfl
theorem refELess {H : Hp} {x y : Ev} (hx : okR x.at_) (hy : okR y.at_) : Qf Try.prog F.pelotonref07_Less #[evV x, evV y] H (.bool (lessE x y)) := by
  refine pelotonref07_Less_vc ⟨_, refCompareR hx hy, ?_, Hp.le_refl _⟩
  rfl

theorem getM_keys {α κ : Type} [DecidableEq κ] (k : α → κ) (v : Value) (x : κ) : ∀ l : List α, getM (l.map fun y => (k y, v)) x = if x ∈ l.map k then some v else none
  | [] => rfl
  | p :: l => by
    have ih := getM_keys k v x l
    unfold getM at ih ⊢
    rw [List.map_cons, List.find?_cons]
    by_cases e : k p = x
    · simp [e]
    · have e' : ¬ x = k p := fun h => e h.symm
      simp only [e, decide_false, List.map_cons, List.mem_cons, e', false_or]
      exact ih

theorem nodup_take_snoc {l : List Int} {x : Int} : (l ++ [x]).Nodup ↔ l.Nodup ∧ x ∉ l := by
  rw [List.nodup_append]
  constructor
  · intro ⟨a, _, c⟩; exact ⟨a, fun h => c x h x (by simp) rfl⟩
  · intro ⟨a, b⟩; exact ⟨a, by simp, fun y hy z hz e => by simp only [List.mem_singleton] at hz; subst hz; subst e; exact b hy⟩

theorem agendaCheck {H : Hp} {u1 u2 u3 u4 u5 : Slc} {a : Ag} (h : RdA H u1 u2 u3 u4 u5 a) (f : fitG a) :
    Qf Try.prog F.agenda_Check #[.agg #[u1.v, u2.v, u3.v, u4.v, u5.v]] H (.int .i64 (chkA a)) := by
  have l1 := h.tb.uses.len
  have l2 := h.tb.used.len
  have l3 := h.tb.free.len
  have l4 := h.heap.len
  have l5 := h.wh.len
  obtain ⟨⟨f1, f2, f3⟩, f4, f5, f6⟩ := f
  refine agenda_Check_vc ⟨_, slotCheck h.tb ⟨f1, f2, f3⟩, fun _ => by unfold inI; omega, fun hc => ⟨?_, Hp.le_refl _⟩, fun hc => ?_⟩
  · rw [chkA_bad]
    intro ok
    have := ok.wl; have := ok.hl; have := ok.tb.len
    rw [chk_ok ok.tb] at hc
    simp at hc
    omega
  simp only [Bool.or_eq_false_iff, bne_eq_false_iff_eq] at hc
  obtain ⟨⟨hc1, hc2⟩, hc3⟩ := hc
  have tok := chk_zero.1 hc1
  have := tok.len; have := tok.top
  refine upto (N := a.wh.length) (J := fun n => (∀ i : Nat, i < n → a.tb.used.getD i false = false → a.wh.getD i 0 = -1) ∧ ∀ i : Nat, i < n → a.tb.used.getD i false = true → 0 ≤ a.wh.getD i 0 ∧ a.wh.getD i 0 < a.heap.length ∧ (hp a.heap (a.wh.getD i 0).toNat).h = ((i : Int), a.tb.uses.getD i 0))
    (by omega) ⟨fun i hi => by omega, fun i hi => by omega⟩ fun n h0 h1 ⟨j1, j2⟩ => ⟨fun hn => ?_, fun hn => ?_⟩
  · have hn : n < a.wh.length := by have : n < u5.n := by simpa using hn
                                    omega
    have en : ((n.toNat : Nat) : Int) = n := Int.toNat_of_nonneg h0
    refine h.wh.ldI h0 hn (h.tb.used.ldB h0 (by omega) ⟨fun hu => ⟨fun hw => ⟨?_, Hp.le_refl _⟩, fun hw => upto.nx h0 hn (by omega) ⟨fun i hi hu' => ?_, fun i hi hu' => ?_⟩⟩, fun hu => ?_⟩)
    · have hu : a.tb.used.getD n.toNat false = false := by simpa using hu
      rw [chkA_bad]
      intro ok
      have := ok.free n.toNat (by omega) hu
      rw [this] at hw; simp at hw
    · have hw : a.wh.getD n.toNat 0 = -1 := by simpa using hw
      rcases Int.lt_or_le i n with h' | h'
      · exact j1 i h' hu'
      · have : i = n.toNat := by omega
        subst this; exact hw
    · have hu : a.tb.used.getD n.toNat false = false := by simpa using hu
      rcases Int.lt_or_le i n with h' | h'
      · exact j2 i h' hu'
      · have : i = n.toNat := by omega
        subst this; rw [hu] at hu'; cases hu'
    · have hu : a.tb.used.getD n.toNat false = true := by simpa using hu
      generalize hw : a.wh.getD n.toNat 0 = w
      have hr : (!(decide (w < 0) || decide (w ≥ (u4.n : Int)))) = true → 0 ≤ w ∧ w < a.heap.length := fun hh => by
        simp at hh; omega
      refine ⟨fun hh => h.heap.inS (hr hh).1 (hr hh).2, _, _, fun hh => Rd.gEh h.heap (hr hh).1 (hr hh).2, fun hh => h.tb.uses.inS h0 (by omega), _, fun hh => h.tb.uses.gI h0 (by omega), fun hb => ⟨?_, Hp.le_refl _⟩, fun hb => upto.nx h0 hn (by omega) ⟨fun i hi hu' => ?_, fun i hi hu' => ?_⟩⟩
      · rw [chkA_bad]
        intro ok
        obtain ⟨k1, k2, k3⟩ := ok.used n.toNat (by omega) hu
        rw [hw] at k1 k2 k3
        rw [k3] at hb
        simp at hb
        omega
      · rcases Int.lt_or_le i n with h' | h'
        · exact j1 i h' hu'
        · have : i = n.toNat := by omega
          subst this; rw [hu] at hu'; cases hu'
      · rcases Int.lt_or_le i n with h' | h'
        · exact j2 i h' hu'
        · have e : i = n.toNat := by omega
          subst e
          simp only [Bool.or_eq_false_iff, decide_eq_false_iff_not, Bool.not_eq_false', Bool.and_eq_true, beq_iff_eq] at hb
          obtain ⟨⟨b1, b2⟩, b3, b4⟩ := hb
          rw [hw]
          exact ⟨by omega, by omega, Prod.ext (by rw [b3]; exact en.symm) b4⟩
  have : n = a.wh.length := by have : ¬ n < u5.n := by simpa using hn
                               omega
  subst this
  intro b11 H12 hb11 hH12
  have le12 : Hp.le H H12 := Hp.le_new (Hp.le_refl _) hb11 hH12
  have K : KL Try.prog T.int (fun x : Int => Value.int .i64 x) := KL.int Try.underlying3
  refine uptoH (N := a.heap.length) (J := fun n H' => Hp.le H H' ∧ MapR (fun x : Int => Value.int .i64 x) H' b11 ((a.heap.take n.toNat).map fun y => (y.no, Value.bool true)) ∧ (∀ x ∈ a.heap.take n.toNat, okR x.at_ ∧ 0 ≤ x.no ∧ x.no ≤ 1000000) ∧ ((a.heap.take n.toNat).map (·.no)).Nodup ∧
      ∀ i : Nat, 1 ≤ i → (i : Int) < n → lessE (hp a.heap i) (hp a.heap (par i)) = false) (by omega) ⟨le12, MapR.new hH12, by simp, by simp, fun i _ hi => by omega⟩ fun n H' h0 h1 ⟨le', jm, je, jn, jo⟩ => ⟨fun hn => ?_, fun hn => ⟨?_, le'⟩⟩
  · have hn : n < a.heap.length := by have : n < u4.n := by simpa using hn
                                      omega
    have hg := hp_get (h := a.heap) (i := n.toNat) (by omega)
    have hmem := hp_mem (h := a.heap) (i := n.toNat) (by omega)
    have hrd := h.heap.le le'
    have hts := take_succ hg
    have e1 : (n + 1).toNat = n.toNat + 1 := by omega
    have hlook := K.look (t := T.map_int_bool) (e := T.bool) (x := (hp a.heap n.toNat).no) (z := .bool false) Try.underlying202 (by kernel_rfl) jm
    rw [getM_keys (fun y : Ev => y.no)] at hlook
    refine ⟨hrd.inS h0 hn, _, _, _, _, _, Rd.gE hrd h0 hn, _, ratioCheck (f6 _ hmem), decide ((hp a.heap n.toNat).no ∈ (a.heap.take n.toNat).map (·.no)), fun _ => ?_, fun hb => ⟨?_, le'⟩, fun hb => ?_⟩
    · by_cases e : (hp a.heap n.toNat).no ∈ (a.heap.take n.toNat).map (·.no)
      · rw [if_pos e] at hlook; rw [decide_eq_true e]; exact hlook
      · rw [if_neg e] at hlook; rw [decide_eq_false e]; exact hlook
    · rw [chkA_bad]
      intro ok
      obtain ⟨k1, k2, k3⟩ := ok.each _ hmem
      rw [chkR_ok k1] at hb
      simp only [bne_self_eq_false, Bool.false_or, Bool.or_eq_true, decide_eq_true_eq] at hb
      rcases hb with (hb | hb) | hb
      · omega
      · omega
      · have := (ok.nos).sublist ((List.take_sublist (n.toNat + 1) a.heap).map (·.no))
        rw [hts, List.map_append] at this
        exact (nodup_take_snoc.1 this).2 hb
    · simp only [Bool.or_eq_false_iff, bne_eq_false_iff_eq, decide_eq_false_iff_not] at hb
      obtain ⟨⟨⟨b1, b2⟩, b3⟩, b4⟩ := hb
      have okn := chkR_zero.1 b1
      refine (K.add (t := T.map_int_bool) (e := T.bool) (x := (hp a.heap n.toNat).no) (v := .bool true) Try.underlying202 jm (by rw [getM_keys (fun y : Ev => y.no), if_neg b4])).mono fun v H25 ⟨o, hH, hm⟩ => ⟨v, rfl, ?_⟩
      have le25 : Hp.le H H25 := by subst hH; exact Hp.le_put le' hb11
      have hrd25 := h.heap.le le25
      have hpar : (decide (n > 0)) = true → (n - 1).tdiv 2 = (par n.toNat : Nat) ∧ (par n.toNat) < a.heap.length ∧ par n.toNat < n.toNat ∧ 0 < n := fun hp' => by
        have hp' : 0 < n := by simpa using hp'
        have := par_lt (i := n.toNat) (by omega)
        exact ⟨parI hp', by omega, this, hp'⟩
      refine ⟨fun _ => by unfold inI; omega, fun hp' => ⟨by unfold nz; omega, by obtain ⟨e, _⟩ := hpar hp'; rw [e]; unfold inI; omega⟩, fun hp' => by obtain ⟨e, q, _⟩ := hpar hp'; rw [e]; exact hrd25.inS (by omega) (by omega), _, _, _, _, _, fun hp' => by
        obtain ⟨e, q, _⟩ := hpar hp'; rw [e]; exact Rd.gE hrd25 (i := (par n.toNat : Nat)) (by omega) (by omega), _, fun hp' => by
        obtain ⟨e, q, _⟩ := hpar hp'
        exact agendaCompare (x := hp a.heap n.toNat) (y := hp a.heap ((par n.toNat : Nat) : Int).toNat) (f6 _ hmem) (f6 _ (hp_mem (by omega))), fun hb => ⟨?_, le25⟩, fun hb => uptoH.nx h0 hn (by omega) ⟨le25, ?_, fun x hx => ?_, ?_, fun i hi1 hi2 => ?_⟩⟩
      · rw [chkA_bad]
        intro ok
        simp only [Bool.and_eq_true] at hb
        obtain ⟨e, q, q2, q3⟩ := hpar hb.1
        have := ok.ord n.toNat (by omega) (by omega)
        rw [Int.toNat_natCast, cmpE_less okn (ok.each _ (hp_mem q)).1, this] at hb
        exact absurd hb.2 (by simp)
      · rw [e1, hts, List.map_append]; exact hm
      · rw [e1, hts] at hx
        rcases List.mem_append.1 hx with hx | hx
        · exact je x hx
        · simp only [List.mem_singleton] at hx; subst hx; exact ⟨okn, by omega, by omega⟩
      · rw [e1, hts, List.map_append]; exact nodup_take_snoc.2 ⟨jn, b4⟩
      · rcases Int.lt_or_le i n with h' | h'
        · exact jo i hi1 h'
        · have e : i = n.toNat := by omega
          subst e
          have hp' : decide (n > 0) = true := by simp; omega
          obtain ⟨e, q, q2, q3⟩ := hpar hp'
          rw [hp', Bool.true_and, Int.toNat_natCast] at hb
          have hpm : hp a.heap (par n.toNat) ∈ a.heap.take n.toNat := List.mem_take_iff_getElem.2 ⟨par n.toNat, by omega, (List.getElem?_eq_some_iff.1 (hp_get q)).2⟩
          rw [cmpE_less okn (je _ hpm).1] at hb
          exact hb
  · have : n = a.heap.length := by have : ¬ n < u4.n := by simpa using hn
                                   omega
    subst this
    rw [Int.toNat_natCast, List.take_length] at je jn
    rw [chkA_ok ⟨tok, by omega, by omega, fun i hi hu => j1 i (by omega) hu, fun i hi hu => j2 i (by omega) hu, je, jn, fun i h1 h2 => jo i h1 (by omega)⟩]
end Go.Proofs.Ytmnbekffebdfmaa
