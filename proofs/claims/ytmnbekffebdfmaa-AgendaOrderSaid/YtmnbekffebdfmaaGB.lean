/- The law AgendaOrder. Conditions: none. -/
import Derived.Test.YtmnbekffebdfmaaGA
import Derived.Test.YtmnbekffebdfmaaVgLAgendaOrder
import Derived.Test.YtmnbekffebdfmaaFs
set_option linter.unusedVariables false
set_option maxRecDepth 100000
open Go Go.Eng Go.Proofs
namespace Go.Proofs.Ytmnbekffebdfmaa

theorem evEq {x y : Ev} : (x.at_.1 == y.at_.1 && x.at_.2 == y.at_.2 && x.no == y.no && x.h.1 == y.h.1 && x.h.2 == y.h.2) = true ↔ x = y := by
  obtain ⟨⟨a, b⟩, c, d, e⟩ := x
  obtain ⟨⟨a', b'⟩, c', d', e'⟩ := y
  simp
  constructor
  · rintro ⟨⟨⟨⟨rfl, rfl⟩, rfl⟩, rfl⟩, rfl⟩; exact ⟨⟨rfl, rfl⟩, rfl, rfl, rfl⟩
  · rintro ⟨⟨rfl, rfl⟩, rfl, rfl, rfl⟩; exact ⟨⟨⟨⟨rfl, rfl⟩, rfl⟩, rfl⟩, rfl⟩
theorem mem_hp {l : List Ev} {x : Ev} (h : x ∈ l) : ∃ k : Nat, k < l.length ∧ hp l k = x := by
  obtain ⟨p, hp'⟩ := List.mem_iff_getElem?.1 h
  have hlt := (List.getElem?_eq_some_iff.1 hp').1
  exact ⟨p, hlt, by unfold hp; rw [List.getD_eq_getElem?_getD, hp']; rfl⟩
theorem pair_hp {l : List Ev} (h : l.Pairwise fun x y => lessE x y = true) {i j : Nat} (hij : i < j) (hj : j < l.length) : lessE (hp l i) (hp l j) = true := by
  have := List.pairwise_iff_getElem.1 h i j (by omega) hj hij
  rw [(List.getElem?_eq_some_iff.1 (hp_get hj)).2, (List.getElem?_eq_some_iff.1 (hp_get (by omega : i < l.length))).2] at this
  exact this

theorem agendaOrder {H : Hp} {u1 u2 u3 u4 u5 : Slc} {a : Ag} (r : RdA H u1 u2 u3 u4 u5 a) (hf : ∀ x ∈ a.heap, fitR x.at_) :
    Qf Try.prog F.pelotonlaw07_AgendaOrder #[agV u1 u2 u3 u4 u5] H (.bool true) := by
  refine pelotonlaw07_AgendaOrder_vc ⟨_, lawFit r hf, fun _ => ⟨_, lawAlive7, rfl, Hp.le_refl _⟩, fun hc => ?_⟩
  have hc : (!(decide (a.tb.uses.length > 210) || decide (a.tb.used.length > 210) || decide (a.tb.free.length > 210) || decide (a.heap.length > 210) || decide (a.wh.length > 210)) && chkA a == 0) = true := by simpa using hc
  rw [Bool.and_eq_true] at hc
  obtain ⟨f, g4, g5⟩ := fit_of hf (by simpa using hc.1)
  have ok : okA a := chkA_zero.1 (by simpa using hc.2)
  have lu4 := r.heap.len
  refine ⟨_, _, _, _, _, _, agendaTop r f, (lawEmptied r ok g4).mono fun v H10 ⟨u, hv, l10, m⟩ => ⟨u, _, hv, ?_⟩⟩
  obtain ⟨pm, pw⟩ := popL_ok _ a ok rfl
  have hL := popL_len ok rfl
  have e0' : 0 < a.heap.length → hp (popL a.heap.length a) 0 = hp a.heap 0 := fun h => by
    obtain ⟨n, hn⟩ : ∃ n, a.heap.length = n + 1 := ⟨a.heap.length - 1, by omega⟩
    rw [hn]; rfl
  generalize popL a.heap.length a = L at *
  have mr := m.rdE
  have lu := mr.len
  have t0 : (topA a).2 = 0 → (0 < a.heap.length ∧ (topA a).1 = hp L 0) := fun h => by
    obtain ⟨_, h0, e⟩ := topA_ok h
    exact ⟨h0, by rw [e, e0' h0]⟩
  have t1 : ((topA a).2 == 0) = decide ((u.n : Int) > 0) := by
    unfold topA
    rw [if_pos ok]
    split
    · rw [decide_eq_false (by omega)]; rfl
    · rw [decide_eq_true (by omega)]; rfl
  refine ⟨fun hh => ?_, (hp L 0).at_.1, (hp L 0).at_.2, (hp L 0).no, (hp L 0).h.1, (hp L 0).h.2, fun hh => ?_, fun hh => ?_, fun _ => ?_⟩
  · rw [Bool.and_eq_true] at hh
    have := (t0 (by simpa using hh.2)).1
    exact mr.inS (by omega) (by omega)
  · rw [Bool.and_eq_true] at hh
    have := (t0 (by simpa using hh.2)).1
    exact Rd.gE mr (i := 0) (by omega) (by omega)
  · exfalso
    have e1 : ((u.n : Int) != u4.n) = false := by simp; omega
    rw [e1, t1] at hh
    simp only [Bool.not_true, Bool.false_or, beq_self_eq_true, Bool.and_eq_true, decide_eq_true_eq, Bool.not_eq_true'] at hh
    obtain ⟨h1, h2⟩ := hh
    have q := (t0 (by have : ((topA a).2 == 0) = true := (by rw [t1]; simpa using h1)
                      simpa using this)).2
    rw [q] at h2
    simp at h2
  refine upto (N := a.heap.length) (J := fun _ => True) (by omega) trivial fun n h0 h1 _ => ⟨fun hn => ?_, fun hn => ⟨_, lawAlive7, rfl, l10⟩⟩
  have hn : n < a.heap.length := by have : n < u.n := by simpa using hn
                                    omega
  have hm : hp L n.toNat ∈ a.heap := pm.mem_iff.1 (hp_mem (by omega))
  have ok1 := (ok.each _ hm).1
  have g := Rd.gE mr h0 (by omega)
  refine ⟨mr.inS h0 (by omega), _, _, ⟨g.1, g.2.1⟩, _, refRCheck ok1.fit, fun hh => ?_, fun hh => ?_, (hp L (n - 1).toNat).at_.1, (hp L (n - 1).toNat).at_.2, (hp L (n - 1).toNat).no, (hp L (n - 1).toNat).h.1, (hp L (n - 1).toNat).h.2, fun hh => ?_, fun hh => mr.inS h0 (by omega), _, _, _, _, _, fun _ => g, lessE (hp L (n - 1).toNat) (hp L n.toNat), fun hh => ?_, fun hh => ?_, fun _ => ?_⟩
  · unfold inI; omega
  · rw [Bool.and_eq_true] at hh
    have : 0 < n := by simpa using hh.2
    exact mr.inS (by omega) (by omega)
  · rw [Bool.and_eq_true] at hh
    have : 0 < n := by simpa using hh.2
    exact Rd.gE mr (i := n - 1) (by omega) (by omega)
  · rw [Bool.and_eq_true] at hh
    have : 0 < n := by simpa using hh.2
    exact refELess (x := hp L (n - 1).toNat) (y := hp L n.toNat) (ok.each _ (pm.mem_iff.1 (hp_mem (by omega)))).1 ok1
  · exfalso
    rw [chkR_ok ok1] at hh
    simp only [bne_self_eq_false, Bool.false_or, Bool.and_eq_true, decide_eq_true_eq, Bool.not_eq_true'] at hh
    have := pair_hp pw (i := (n - 1).toNat) (j := n.toNat) (by omega) (by omega)
    rw [this] at hh; exact absurd hh.2 (by simp)
  have ra := r.heap.le l10
  refine ⟨fun c k H' => H' = H10 ∧ 0 ≤ k ∧ k ≤ a.heap.length ∧ (c = true ↔ ∃ j : Nat, (j : Int) < k ∧ hp a.heap j = hp L n.toNat), fun _ k _ => (a.heap.length - k).toNat, ⟨rfl, Int.le_refl _, by omega, by simp; omega⟩, fun c k H' ⟨e, k0, k1, k2⟩ => ?_⟩
  subst e
  refine ⟨fun hk => ?_, fun hk => ⟨fun hcc => ?_, fun _ => upto.nx h0 hn (by omega) trivial⟩⟩
  · have hk : k < a.heap.length := by have : k < u4.n := by simpa using hk
                                      omega
    refine ⟨fun _ => ra.inS k0 hk, _, _, _, _, _, fun _ => Rd.gE ra k0 hk, fun _ => mr.inS h0 (by omega), _, _, _, _, _, fun _ => g, by unfold inI; omega, ⟨rfl, by omega, by omega, ?_⟩, by show ((a.heap.length : Int) - (k + 1)).toNat < ((a.heap.length : Int) - k).toNat; omega⟩
    rw [Bool.or_eq_true, evEq, k2]
    constructor
    · rintro (⟨j, j1, j2⟩ | e)
      · exact ⟨j, by omega, j2⟩
      · exact ⟨k.toNat, by omega, e⟩
    · rintro ⟨j, j1, j2⟩
      rcases Int.lt_or_le j k with h' | h'
      · exact .inl ⟨j, h', j2⟩
      · have : j = k.toNat := by omega
        subst this; exact .inr j2
  · exfalso
    have hk : ¬ k < u4.n := by simpa using hk
    obtain ⟨j, j1, j2⟩ := mem_hp hm
    have := k2.2 ⟨j, by omega, j2⟩
    rw [this] at hcc; cases hcc
end Go.Proofs.Ytmnbekffebdfmaa
