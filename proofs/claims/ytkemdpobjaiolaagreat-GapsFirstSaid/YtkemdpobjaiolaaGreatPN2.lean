/- The engine, parts N5, N6, put together. Conditions: none. -/
import Derived.Test.YtkemdpobjaiolaaGreatPN1
import Derived.Test.YtkemdpobjaiolaaGreatVgStd
import Derived.Test.YtkemdpobjaiolaaGreatFs
set_option linter.unusedVariables false
section
/- The law SpanFinds. Conditions: none. -/
set_option maxRecDepth 100000
open Go Go.Eng Go.Proofs
namespace Go.Proofs.YtkemdpobjaiolaaGreat
end Go.Proofs.YtkemdpobjaiolaaGreat
end
section
/- Hulls; the law SpanTells. Conditions: none. -/
set_option maxRecDepth 100000
open Go Go.Eng Go.Proofs
namespace Go.Proofs.YtkemdpobjaiolaaGreat

/-- Where an ID stands in the order. -/
def posO (o : List Int) (id : Int) : Int := idx (fun y => id == y) o
theorem posO_at {o : List Int} (hd : o.Pairwise (· ≠ ·)) {i : Nat} {x : Int} (hi : o[i]? = some x) : posO o x = i := by
  refine idx_hit hi (by simp) fun y hy => ?_
  obtain ⟨j, hj, e⟩ := List.mem_take_iff_getElem.1 hy
  obtain ⟨a1, a2⟩ := List.getElem?_eq_some_iff.1 hi
  have := List.pairwise_iff_getElem.1 hd j i (by omega) a1 (by omega)
  rw [e, a2] at this
  simpa using fun h => this h.symm
theorem okR.eq_of {a b : Int × Int} (ha : okR a) (hb : okR b) (h : a.1 * b.2 = b.1 * a.2) : a = b := by
  have h1 := ha.d1; have h2 := hb.d1
  have hn : a.1.natAbs * b.2.natAbs = b.1.natAbs * a.2.natAbs := by rw [← Int.natAbs_mul, ← Int.natAbs_mul, h]
  have d1 : a.2.natAbs ∣ b.2.natAbs := by
    have c : Nat.Coprime a.2.natAbs a.1.natAbs := Nat.Coprime.symm ha.g
    exact Nat.Coprime.dvd_of_dvd_mul_left c (by rw [hn]; exact Nat.dvd_mul_left ..)
  have d2 : b.2.natAbs ∣ a.2.natAbs := by
    have c : Nat.Coprime b.2.natAbs b.1.natAbs := Nat.Coprime.symm hb.g
    exact Nat.Coprime.dvd_of_dvd_mul_left c (by rw [← hn]; exact Nat.dvd_mul_left ..)
  have e := Nat.dvd_antisymm d1 d2
  have e2 : a.2 = b.2 := by omega
  rw [e2] at h
  have e1 : a.1 = b.1 := Int.eq_of_mul_eq_mul_right (by omega) h
  exact Prod.ext e1 e2
theorem okLs.ne {l : Ls} (ok : okLs l) : l.ord.Pairwise (· ≠ ·) := by
  have hi := (sortM_sorted (okF_ids ok.ck.f) l.ck.now).ids (okF_ids ok.ck.f)
  have ho : l.ord = (sortM l.ck.f l.ck.now).map (·.1) := ok.ord
  rw [ho]
  exact List.pairwise_map.2 hi

/-- The least place of some is that of the last one, the greatest that of the first. -/
theorem Desc.least {xs : List (Int × Int)} (d : Desc xs) {a b : Int} (a0 : 0 ≤ a) (a1 : a < xs.length) (b0 : 0 ≤ b) (b1 : b < xs.length) :
    (if cmpR (xs.getD a.toNat (0, 0)) (xs.getD b.toNat (0, 0)) < 0 then xs.getD a.toNat (0, 0) else xs.getD b.toNat (0, 0)) = xs.getD (if a > b then a else b).toNat (0, 0) := by
  have ha := getX (d := ((0 : Int), (0 : Int))) a0 a1
  have hb := getX (d := ((0 : Int), (0 : Int))) b0 b1
  rcases Int.lt_trichotomy a b with h | h | h
  · have := d.ge a.toNat b.toNat _ _ (by omega) ha hb
    rw [if_neg (by omega), if_neg (by omega)]
  · subst h; simp
  · have := d.ge b.toNat a.toNat _ _ (by omega) hb ha
    rw [if_pos h]
    split
    · rfl
    · rename_i hc
      refine okR.eq_of (d.ok _ (List.mem_of_getElem? hb)) (d.ok _ (List.mem_of_getElem? ha)) ?_
      rw [cmpR_ge] at this
      have hc : 0 ≤ cmpR (xs.getD a.toNat (0, 0)) (xs.getD b.toNat (0, 0)) := by omega
      rw [cmpR_ge] at hc
      omega
end Go.Proofs.YtkemdpobjaiolaaGreat
end
