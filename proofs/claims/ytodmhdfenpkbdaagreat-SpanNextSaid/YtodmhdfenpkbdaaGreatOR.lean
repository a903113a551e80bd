/- The order of a field at a time, in plain words. Conditions: none. -/
import Derived.Test.YtodmhdfenpkbdaaGreatPL3
set_option linter.unusedVariables false
set_option maxRecDepth 100000
open Go Go.Eng Go.Proofs
namespace Go.Proofs.YtodmhdfenpkbdaaGreat

def valP (p : Pt) (t : Int × Int) : Int := p.2.1 * t.2 + p.2.2 * t.1
theorem farV_val (p q : Pt) (t : Int × Int) : farV p q t = valP p t - valP q t := by
  unfold farV valP
  rw [Int.sub_mul, Int.sub_mul]; omega
theorem leads_iff {p q : Pt} {t : Int × Int} : leads p q t = true ↔ valP q t < valP p t ∨ valP p t = valP q t ∧ (q.2.2 < p.2.2 ∨ p.2.2 = q.2.2 ∧ p.1 < q.1) := by
  unfold leads
  rw [farV_val]
  split
  · rw [decide_eq_true_eq]; omega
  · split
    · rw [decide_eq_true_eq]; omega
    · rw [decide_eq_true_eq]; omega
theorem leads_irrefl (p : Pt) (t : Int × Int) : leads p p t = false := by
  rw [Bool.eq_false_iff]; intro h; rw [leads_iff] at h; omega
theorem leads_trans {p q r : Pt} {t : Int × Int} (h1 : leads p q t = true) (h2 : leads q r t = true) : leads p r t = true := by
  rw [leads_iff] at *; omega
theorem leads_asymm {p q : Pt} {t : Int × Int} (h : leads p q t = true) : leads q p t = false := by
  rw [Bool.eq_false_iff]; intro h'; rw [leads_iff] at *; omega
theorem leads_total {p q : Pt} {t : Int × Int} (h : p.1 ≠ q.1) : leads p q t = true ∨ leads q p t = true := by
  rw [leads_iff, leads_iff]; omega

/-- How many others are ahead of a point. -/
def rankM (f : List Pt) (p : Pt) (t : Int × Int) : Nat := f.countP fun q => q.1 != p.1 && leads q p t
/-- A field's points, the leader first. -/
structure Sorted (f : List Pt) (t : Int × Int) (s : List Pt) : Prop where
  perm : s.Perm f
  ord : s.Pairwise fun p q => leads p q t = true
/-- A point put in its place. -/
def insM (t : Int × Int) (p : Pt) : List Pt → List Pt
  | [] => [p]
  | q :: l => if leads p q t = true then p :: q :: l else q :: insM t p l
def sortM (f : List Pt) (t : Int × Int) : List Pt := f.foldr (insM t) []
def ordM (f : List Pt) (t : Int × Int) : List Int := (sortM f t).map (·.1)

theorem okF_ids {f : List Pt} (h : okF f) : f.Pairwise fun p q => p.1 ≠ q.1 := (List.pairwise_map.1 h.inc).imp fun h => by omega
theorem Sorted.ids {f s : List Pt} {t : Int × Int} (h : Sorted f t s) (hi : f.Pairwise fun p q => p.1 ≠ q.1) : s.Pairwise fun p q => p.1 ≠ q.1 := h.perm.symm.pairwise hi fun h => h.symm
theorem Sorted.of {f s : List Pt} {t : Int × Int} (hi : f.Pairwise fun p q => p.1 ≠ q.1) (p : s.Perm f) (o : s.Pairwise fun p q => leads q p t = false) : Sorted f t s := by
  refine ⟨p, ?_⟩
  have hs : s.Pairwise fun p q => p.1 ≠ q.1 := p.symm.pairwise hi fun h => h.symm
  refine (List.Pairwise.and o hs).imp fun ⟨h1, h2⟩ => ?_
  rcases leads_total (t := t) h2 with h | h
  · exact h
  · rw [h1] at h; cases h
theorem insM_perm (t : Int × Int) (p : Pt) : ∀ l : List Pt, (insM t p l).Perm (p :: l)
  | [] => List.Perm.refl _
  | q :: l => by
    unfold insM
    split
    · exact List.Perm.refl _
    · exact (List.Perm.cons q (insM_perm t p l)).trans (List.Perm.swap p q l)
theorem insM_ord (t : Int × Int) (p : Pt) : ∀ l : List Pt, (l.Pairwise fun p q => leads q p t = false) → (insM t p l).Pairwise fun p q => leads q p t = false
  | [], _ => List.pairwise_singleton _ _
  | q :: l, h => by
    obtain ⟨h1, h2⟩ := List.pairwise_cons.1 h
    unfold insM
    split
    · rename_i hp
      refine List.Pairwise.cons (fun r hr => ?_) h
      rcases List.mem_cons.1 hr with rfl | hr
      · exact leads_asymm hp
      · cases hrp : leads r p t with
        | false => rfl
        | true => have := leads_trans hrp hp; rw [h1 r hr] at this; cases this
    · rename_i hp
      refine List.Pairwise.cons (fun r hr => ?_) (insM_ord t p l h2)
      rcases List.mem_cons.1 ((insM_perm t p l).mem_iff.1 hr) with rfl | hr
      · simpa using hp
      · exact h1 r hr
theorem sortM_perm (t : Int × Int) : ∀ f : List Pt, (sortM f t).Perm f
  | [] => List.Perm.refl _
  | p :: f => (insM_perm t p (sortM f t)).trans (List.Perm.cons p (sortM_perm t f))
theorem sortM_ord (t : Int × Int) : ∀ f : List Pt, (sortM f t).Pairwise fun p q => leads q p t = false
  | [] => List.Pairwise.nil
  | p :: f => insM_ord t p (sortM f t) (sortM_ord t f)
theorem sortM_sorted {f : List Pt} (hi : f.Pairwise fun p q => p.1 ≠ q.1) (t : Int × Int) : Sorted f t (sortM f t) := Sorted.of hi (sortM_perm t f) (sortM_ord t f)

theorem Sorted.rank {f s : List Pt} {t : Int × Int} (h : Sorted f t s) (hi : f.Pairwise fun p q => p.1 ≠ q.1) {k : Nat} {p : Pt} (hk : s[k]? = some p) : rankM f p t = k := by
  have hs := h.ids hi
  unfold rankM
  rw [← h.perm.countP_eq]
  obtain ⟨hl, hp⟩ := List.getElem?_eq_some_iff.1 hk
  have e : s = s.take k ++ p :: s.drop (k + 1) := by rw [← dropX hk]; exact (List.take_append_drop k s).symm
  have o1 := h.ord; have o2 := hs
  rw [e] at o1 o2
  obtain ⟨_, a2, a3⟩ := List.pairwise_append.1 o1
  obtain ⟨_, b2, b3⟩ := List.pairwise_append.1 o2
  rw [e, List.countP_append, List.countP_cons]
  have c1 : (s.take k).countP (fun q => q.1 != p.1 && leads q p t) = k := by
    rw [List.countP_eq_length.2 (fun q hq => ?_), List.length_take]
    · omega
    · rw [a3 q hq p List.mem_cons_self, Bool.and_true, bne_iff_ne]
      exact b3 q hq p List.mem_cons_self
  have c2 : (s.drop (k + 1)).countP (fun q => q.1 != p.1 && leads q p t) = 0 := by
    rw [List.countP_eq_zero]
    intro q hq
    rw [leads_asymm ((List.pairwise_cons.1 a2).1 q hq)]; simp
  rw [c1, c2]
  simp
theorem Sorted.at_rank {f s : List Pt} {t : Int × Int} (h : Sorted f t s) (hi : f.Pairwise fun p q => p.1 ≠ q.1) {p : Pt} (hp : p ∈ f) : s[rankM f p t]? = some p := by
  obtain ⟨k, hk⟩ := List.mem_iff_getElem?.1 (h.perm.mem_iff.2 hp)
  rw [h.rank hi hk]; exact hk
theorem Sorted.eq {f s s' : List Pt} {t : Int × Int} (h : Sorted f t s) (h' : Sorted f t s') (hi : f.Pairwise fun p q => p.1 ≠ q.1) : s = s' := by
  refine List.ext_getElem? fun k => ?_
  have l1 := h.perm.length_eq; have l2 := h'.perm.length_eq
  cases hk : s[k]? with
  | none =>
    have := List.getElem?_eq_none_iff.1 hk
    exact (List.getElem?_eq_none_iff.2 (by omega)).symm
  | some p =>
    have hp := h.perm.mem_iff.1 (List.mem_of_getElem? hk)
    have := h'.at_rank hi hp
    rw [h.rank hi hk] at this
    exact this.symm
theorem sortM_len (f : List Pt) (t : Int × Int) : (sortM f t).length = f.length := (sortM_perm t f).length_eq
theorem ordM_len (f : List Pt) (t : Int × Int) : (ordM f t).length = f.length := by unfold ordM; rw [List.length_map, sortM_len]
theorem ordM_at {f : List Pt} {t : Int × Int} (hi : f.Pairwise fun p q => p.1 ≠ q.1) {p : Pt} (hp : p ∈ f) : rankM f p t < f.length ∧ (ordM f t)[rankM f p t]? = some p.1 := by
  have h := (sortM_sorted hi t).at_rank hi hp
  refine ⟨?_, ?_⟩
  · have := (List.getElem?_eq_some_iff.1 h).1
    rw [sortM_len] at this; exact this
  · unfold ordM; rw [List.getElem?_map, h]; rfl
/-- A list in which each point's ID stands at its rank is the order. -/
theorem ordM_of {f : List Pt} {t : Int × Int} (hi : f.Pairwise fun p q => p.1 ≠ q.1) {o : List Int} (hl : o.length = f.length) (h : ∀ p ∈ f, o[rankM f p t]? = some p.1) : o = ordM f t := by
  refine List.ext_getElem? fun k => ?_
  have S := sortM_sorted hi t
  cases hk : (sortM f t)[k]? with
  | none =>
    have := List.getElem?_eq_none_iff.1 hk
    rw [sortM_len] at this
    rw [List.getElem?_eq_none_iff.2 (by omega), List.getElem?_eq_none_iff.2 (by rw [ordM_len]; omega)]
  | some p =>
    have hp := S.perm.mem_iff.1 (List.mem_of_getElem? hk)
    have a := h p hp
    rw [S.rank hi hk] at a
    rw [a]; unfold ordM; rw [List.getElem?_map, hk]; rfl
end Go.Proofs.YtodmhdfenpkbdaaGreat
