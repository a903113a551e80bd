/- The laws CertLists, CertBack, CertOne. Conditions: none. -/
import Derived.Test.YtodmhdfenpkbdaaGreatC6
set_option linter.unusedVariables false
set_option maxRecDepth 100000
open Go Go.Eng Go.Proofs
namespace Go.Proofs.YtodmhdfenpkbdaaGreat

/-- Ints that are laid down whole. -/
theorem rdInts {H H' : Hp} {b : Nat} {xs : List Int} {cs : Array Value} {n : Nat} {e : TypeId} (h : H' = H.put b (.cells cs e (0, 0))) (hc : cs = (xs.flatMap fI).toArray) (hn : n = xs.length) : RdI H' ⟨some ⟨b, 0, none⟩, n, n⟩ xs :=
  rdConst (k := 1) (f := fI) (fun _ => rfl) h hc hn
end Go.Proofs.YtodmhdfenpkbdaaGreat
