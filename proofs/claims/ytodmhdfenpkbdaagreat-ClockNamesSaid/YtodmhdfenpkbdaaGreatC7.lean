/- The laws CertLists, CertBack, CertOne. Conditions: none. -/
import Derived.Test.YtodmhdfenpkbdaaGreatC6
set_option linter.unusedVariables false
set_option maxRecDepth 100000
open Go Go.Eng Go.Proofs
namespace Go.Proofs.YtodmhdfenpkbdaaGreat

/-- Ints that are laid down whole. -/
theorem rdInts {H H' : Hp} {b : Nat} {xs : List Int} {cs : Array Value} {n : Nat} {e : TypeId} (h : H' = H.put b (.cells cs e (0, 0))) (hc : cs = (xs.flatMap fI).toArray) (hn : n = xs.length) : RdI H' ⟨some ⟨b, 0, none⟩, n, n⟩ xs :=
  rdConst (k := 1) (f := fI) (fun _ => rfl) h hc hn
theorem rdPts {H H' : Hp} {b : Nat} {xs : List Pt} {cs : Array Value} {n : Nat} {e : TypeId} (h : H' = H.put b (.cells cs e (0, 0))) (hc : cs = (xs.flatMap fD).toArray) (hn : n = xs.length) : Rd 3 fD H' ⟨some ⟨b, 0, none⟩, n, n⟩ xs :=
  rdConst (k := 3) (f := fD) (fun _ => rfl) h hc hn

/-- What is at a place is found under its number. -/
theorem getC_at {c : Ct} (ok : okC c) {i : Nat} {x : Int × Int × Int} (hx : c.list[i]? = some x) : atC c x.1 = i ∧ getC c x.1 = (x.2, 0) := by
  have hlt : i < c.list.length := (List.getElem?_eq_some_iff.1 hx).1
  have e : atC c x.1 = i := by
    refine idx_hit hx (by simp) fun y hy => ?_
    obtain ⟨j, hj, ey⟩ := List.mem_take_iff_getElem.1 hy
    have hij : j < i := by omega
    have := List.pairwise_iff_getElem.1 ok.ok.inc j i (by omega) hlt hij
    rw [(List.getElem?_eq_some_iff.1 hx).2, ey] at this
    rw [beq_eq_false_iff_ne]; omega
  refine ⟨e, ?_⟩
  unfold getC
  rw [if_pos ok, if_neg (by omega), e]
  have : getD3 c.list (i : Int) = x := by unfold getD3; rw [Int.toNat_natCast, List.getD_eq_getElem?_getD, hx]; try rfl
  rw [this]

end Go.Proofs.YtodmhdfenpkbdaaGreat
