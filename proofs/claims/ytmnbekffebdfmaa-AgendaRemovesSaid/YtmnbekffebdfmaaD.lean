/- pelotonref06.Check. Conditions: none. -/
import Derived.Test.YtmnbekffebdfmaaC
import Derived.Test.YtmnbekffebdfmaaVgSlot
import Derived.Test.YtmnbekffebdfmaaFs
set_option linter.unusedVariables false
open Go Go.Eng Go.Proofs
namespace Go.Proofs.Ytmnbekffebdfmaa

/-- Marks that stand for the numbers of a list. -/
def Marks (mk : List Bool) (n : Nat) (l : List Int) : Prop := mk.length = n ∧ ∀ i : Nat, i < n → (mk.getD i false = true ↔ (i : Int) ∈ l)

theorem Marks.none (n : Nat) : Marks (List.replicate n false) n [] := ⟨by simp, fun i hi => by simp [List.getD, hi]⟩

theorem Marks.add {mk : List Bool} {n : Nat} {l : List Int} (h : Marks mk n l) {x : Int} (h0 : 0 ≤ x) (h1 : x < n) : Marks (mk.set x.toNat true) n (l ++ [x]) := by
  refine ⟨by simpa using h.1, fun i hi => ?_⟩
  rw [getD_set (by rw [h.1]; omega)]
  by_cases e : x.toNat = i
  · rw [if_pos e]; simp; right; omega
  · rw [if_neg e, h.2 i hi, List.mem_append, List.mem_singleton]
    exact ⟨.inl, fun h => h.resolve_right (by omega)⟩

theorem nodup_snoc {l : List Int} {x : Int} (h : l.Nodup) (hx : x ∉ l) : (l ++ [x]).Nodup := by
  rw [List.nodup_append]
  exact ⟨h, by simp, fun a ha b hb e => by simp at hb; subst hb; subst e; exact hx ha⟩

theorem not_nodup {l : List Int} {i : Nat} {x : Int} (hi : l[i]? = some x) (hx : x ∈ l.take i) : ¬ l.Nodup := fun h => by
  have h2 : (l.take (i + 1)).Nodup := h.sublist (List.take_sublist _ _)
  rw [take_succ hi, List.nodup_append] at h2
  exact h2.2.2 x hx x (by simp) rfl

theorem rcheck {H : Hp} {u1 u2 u3 : Slc} {t : Tb} (h : RdT H u1 u2 u3 t) (hs : t.small) :
    Qf Try.prog F.pelotonref06_Check #[.agg #[u1.v, u2.v, u3.v]] H (.int .i64 (chk t)) := by
  obtain ⟨s1, s2, s3⟩ := hs
  have l1 := h.uses.len
  have l2 := h.used.len
  have l3 := h.free.len
  refine pelotonref06_Check_vc ⟨fun hc => ?_, fun hc => ?_⟩
  · refine ⟨?_, Hp.le_refl _⟩
    rw [chk_bad]
    intro ok
    have := ok.pos; have := ok.top; have := ok.len; have := ok.fl
    simp at hc
    omega
  · simp at hc
    obtain ⟨⟨⟨c1, c2⟩, c3⟩, c4⟩ := hc
    have hn : 1 ≤ t.uses.length ∧ t.uses.length ≤ 200 ∧ t.used.length = t.uses.length ∧ t.free.length ≤ t.uses.length := by omega
    refine ⟨⟨rfl, by omega, by omega⟩, fun b1 H2 hb1 hH2 => ?_⟩
    have hle : Hp.le H H2 := by subst hH2; exact Hp.put_le _ _ hb1
    have own0 := Own.made (H := H) (b := b1) (e := 4) hfB (n := (u1.n : Int)) (z := false) rfl
    rw [← hH2] at own0
    refine ⟨fun n H6 => 0 ≤ n ∧ n ≤ t.free.length ∧ Hp.le H H6 ∧ (∀ x ∈ t.free.take n.toNat, 0 ≤ x ∧ x < t.uses.length) ∧ (t.free.take n.toNat).Nodup ∧ ∃ mk, Marks mk t.uses.length (t.free.take n.toNat) ∧ Own 1 fB 4 H6 b1 ⟨some ⟨b1, 0, none⟩, u1.n, u1.n⟩ mk,
      fun n _ => t.free.length - n.toNat, ⟨by omega, by omega, hle, by simp, by simp, List.replicate u1.n false, ?_, own0⟩, fun n H6 ⟨i0, i1, i2, i3, i4, mk, i5, i6⟩ => ⟨fun hn' => ?_, fun hn' => ?_⟩⟩
    · rw [l1]; exact Marks.none _
    · -- one number of the list
      have hn' : n < t.free.length := by have : n < u3.n := by simpa using hn'
                                         omega
      have hin : inSl u3.a u3.n n := h.free.inS i0 hn'
      have hg := getI i0 hn'
      have hat := (h.free.le i2).gI i0 hn'
      generalize hx : t.free.getD n.toNat 0 = x at hg hat
      have hmem : x ∈ t.free := List.mem_of_getElem? hg
      have hmk := i6.rdB
      refine ⟨hin, x, hat, fun _ => hin, x, fun _ => hat, fun _ => hin, x, fun _ => hat, ?_⟩
      by_cases hr : 0 ≤ x ∧ x < t.uses.length
      · have hin2 : inSl (some ⟨b1, 0, none⟩) (u1.n : Int).toNat x := hmk.inS hr.1 (by rw [i5.1]; exact hr.2)
        have hat2 := hmk.gB hr.1 (by rw [i5.1]; exact hr.2)
        refine ⟨fun _ => hin2, _, fun _ => hat2, fun hb => ?_, fun hb => ?_⟩
        · refine ⟨?_, i2⟩
          rw [chk_bad]
          intro ok
          have hm : mk.getD x.toNat false = true := by
            simp at hb
            rcases hb with hb | hb
            · omega
            · simpa using hb
          have := (i5.2 x.toNat (by omega)).1 hm
          rw [Int.toNat_of_nonneg hr.1] at this
          exact not_nodup hg this ok.nod
        · have hm : mk.getD x.toNat false = false := by
            simp at hb; simpa using hb.2
          have hnin : x ∉ t.free.take n.toNat := fun hm' => by
            have := (i5.2 x.toNat (by omega)).2 (by rw [Int.toNat_of_nonneg hr.1]; exact hm')
            rw [hm] at this; cases this
          refine ⟨hin, x, hat, hin2, i6.can hfB hr.1 (by rw [i5.1]; exact hr.2) _, fun H12 hH12 => ⟨by unfold inI; omega, ?_, ?_⟩⟩
          · obtain ⟨o, ho, hown⟩ := i6.store hfB hr.1 (by rw [i5.1]; exact hr.2) true
            have e : H12 = H6.put b1 o := hH12.trans ho
            subst e
            have e1 : (n + 1).toNat = n.toNat + 1 := by omega
            rw [e1, take_succ hg]
            refine ⟨by omega, by omega, Hp.le_put i2 hb1, fun y hy => ?_, nodup_snoc i4 hnin, _, i5.add hr.1 hr.2, hown⟩
            rcases List.mem_append.1 hy with hy | hy
            · exact i3 y hy
            · simp at hy; subst hy; exact hr
          · show t.free.length - (n + 1).toNat < t.free.length - n.toNat; omega
      · have hb : ∀ c : Bool, (decide (x < 0) || decide (x ≥ (u1.n : Int)) || c) = true := fun c => by
          by_cases h1 : x < 0
          · simp [h1]
          · have : x ≥ (u1.n : Int) := by omega
            simp [this]
        refine ⟨fun hc' => ?_, true, fun hc' => ?_, fun _ => ⟨?_, i2⟩, fun hc' => ?_⟩
        · have := hb false; simp at hc'; simp at this; omega
        · have := hb false; simp at hc'; simp at this; omega
        · rw [chk_bad]; intro ok; exact hr (ok.rng x hmem)
        · rw [hb] at hc'; cases hc'
    · -- behind the list
      have e : n = t.free.length := by
        have : ¬ n < u3.n := by simpa using hn'
        omega
      subst e
      rw [Int.toNat_natCast, List.take_length] at i3 i4 i5
      have hmk := i6.rdB
      refine ⟨fun m H16 => H16 = H6 ∧ 0 ≤ m ∧ m ≤ t.uses.length ∧ ∀ i : Nat, i < m → 0 ≤ t.uses.getD i 0 ∧ t.uses.getD i 0 ≤ 1000000 ∧ (t.used.getD i false = true ↔ (i : Int) ∉ t.free) ∧ (t.used.getD i false = true → 1 ≤ t.uses.getD i 0),
        fun m _ => t.uses.length - m.toNat, ⟨rfl, by omega, by omega, fun i hi => by omega⟩, fun m H16 ⟨j0, j1, j2, j3⟩ => ?_⟩
      subst j0
      refine ⟨fun hm => ?_, fun hm => ⟨?_, i2⟩⟩
      · have hm : m < t.uses.length := by have : m < u1.n := by simpa using hm
                                          omega
        have a1 := (h.uses.le i2).gI j1 hm
        have a2 := (h.used.le i2).gB j1 (by omega)
        have a3 := hmk.gB j1 (by rw [i5.1]; exact hm)
        have n1 : inSl u1.a u1.n m := h.uses.inS j1 hm
        have n2 : inSl u2.a u2.n m := h.used.inS j1 (by omega)
        have n3 : inSl (some ⟨b1, 0, none⟩) (u1.n : Int).toNat m := hmk.inS j1 (by rw [i5.1]; exact hm)
        have hmi := i5.2 m.toNat (by omega)
        rw [Int.toNat_of_nonneg j1] at hmi
        refine ⟨n1, _, a1, fun _ => n1, _, fun _ => a1, fun _ => n2, _, fun _ => a2, fun _ => n3, _, fun _ => a3, fun _ => n2, _, fun _ => a2, fun _ => n1, _, fun _ => a1, fun hb => ⟨?_, i2⟩, fun hb => ⟨by unfold inI; omega, ⟨rfl, by omega, by omega, fun i hi => ?_⟩, ?_⟩⟩
        · rw [chk_bad]
          intro ok
          obtain ⟨k1, k2, k3, k4⟩ := ok.each m.toNat (by omega)
          rw [Int.toNat_of_nonneg j1] at k3
          skip
          simp only [Bool.or_eq_true, decide_eq_true_eq, beq_iff_eq, Bool.and_eq_true] at hb
          rcases hb with ((hb | hb) | hb) | hb
          · omega
          · omega
          · by_cases hd : t.used.getD m.toNat false = true
            · exact (k3.1 hd) (hmi.1 (by rw [← hb]; exact hd))
            · have : (m : Int) ∈ t.free := Classical.byContradiction fun hh => hd (k3.2 hh)
              exact hd (by rw [hb]; exact hmi.2 this)
          · have := k4 hb.1; omega
        · rcases Nat.lt_or_ge i m.toNat with hlt | hge
          · exact j3 i (by omega)
          · have e : i = m.toNat := by omega
            subst e
            rw [Int.toNat_of_nonneg j1]
            simp only [Bool.or_eq_false_iff, decide_eq_false_iff_not, beq_eq_false_iff_ne, Bool.and_eq_false_imp] at hb
            obtain ⟨⟨⟨q1, q2⟩, q3⟩, q4⟩ := hb
            skip
            refine ⟨by omega, by omega, ⟨fun hd hf => q3 (by rw [hd]; exact (hmi.2 hf).symm), fun hf => ?_⟩, fun hd => by have := q4 hd; omega⟩
            have : mk.getD m.toNat false = false := by
              cases hx : mk.getD m.toNat false with
              | false => rfl
              | true => exact absurd (hmi.1 hx) hf
            rw [this] at q3
            cases hx : t.used.getD m.toNat false with
            | true => rfl
            | false => exact absurd hx q3
        · show t.uses.length - (m + 1).toNat < t.uses.length - m.toNat; omega
      · have hm : ¬ m < u1.n := by simpa using hm
        rw [chk_ok]
        exact ⟨hn.1, hn.2.1, hn.2.2.1, i3, i4, fun i hi => j3 i (by omega)⟩
end Go.Proofs.Ytmnbekffebdfmaa
