/- Contracts of pelotonref06. Conditions: none. -/
import Derived.Test.YtmnbekffebdfmaaA
import Derived.Test.YtmnbekffebdfmaaVgSlot
import Derived.Test.YtmnbekffebdfmaaFs
set_option linter.unusedVariables false
open Go Go.Eng Go.Proofs
namespace Go.Proofs.Ytmnbekffebdfmaa

theorem take_succ_eq {α : Type} [BEq α] [LawfulBEq α] {xs ys : List α} {n : Nat} {x y : α} (hx : xs[n]? = some x) (hy : ys[n]? = some y) (h : xs.take n = ys.take n) : xs.take (n + 1) = ys.take (n + 1) ↔ x = y := by
  rw [List.take_add_one, List.take_add_one, hx, hy, h]; simp

theorem sameInts {H : Hp} {a b : Slc} {xs ys : List Int} (ha : RdI H a xs) (hb : RdI H b ys) (h63 : xs.length ≤ 1000000000) : Qf Try.prog F.pelotonref06_SameInts #[a.v, b.v] H (.bool (xs == ys)) := by
  have la := ha.len
  have lb := hb.len
  refine pelotonref06_SameInts_vc ⟨fun h => ⟨?_, Hp.le_refl H⟩, fun h => ?_⟩
  · have hl : (a.n : Int) ≠ b.n := by simpa using h
    have : (xs == ys) = false := by
      rw [beq_eq_false_iff_ne]; intro e; subst e; omega
    rw [this]
  · have hl : (a.n : Int) = b.n := by simpa using h
    refine ⟨fun n H4 => H4 = H ∧ 0 ≤ n ∧ n ≤ xs.length ∧ xs.take n.toNat = ys.take n.toNat, fun n _ => xs.length - n.toNat, ⟨rfl, by omega, by omega, by simp⟩, fun n H4 ⟨hH, h0, h1, h2⟩ => ?_⟩
    subst hH
    refine ⟨fun hn => ?_, fun hn => ⟨?_, Hp.le_refl _⟩⟩
    · have hn : n < a.n := by simpa using hn
      have gx := getI (xs := xs) h0 (by omega)
      have gy := getI (xs := ys) h0 (by omega)
      refine ⟨ha.inN h0 hn, _, ha.get h0 (by omega), hb.inN h0 (by omega), _, hb.get h0 (by omega), fun hne => ⟨?_, Hp.le_refl _⟩, fun he => ⟨?_, ⟨rfl, by omega, by omega, ?_⟩, ?_⟩⟩
      · have : (xs == ys) = false := by
          rw [beq_eq_false_iff_ne]; intro e; subst e; simp at hne
        rw [this]
      · unfold inI; omega
      · have e : (n + 1).toNat = n.toNat + 1 := by omega
        rw [e]
        exact (take_succ_eq gx gy h2).2 (by simpa using he)
      · show xs.length - (n + 1).toNat < xs.length - n.toNat; omega
    · have hn : n = xs.length := by
        have : ¬ n < a.n := by simpa using hn
        omega
      subst hn
      have : xs = ys := by
        have e1 : xs.take xs.length = xs := List.take_length
        have e2 : ys.take xs.length = ys := by
          have : xs.length = ys.length := by omega
          rw [this]; exact List.take_length
        rw [Int.toNat_natCast] at h2
        rw [← e1, h2, e2]
      subst this; simp
end Go.Proofs.Ytmnbekffebdfmaa
