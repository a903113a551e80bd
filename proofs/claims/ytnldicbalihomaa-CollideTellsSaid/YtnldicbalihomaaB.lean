/- Contracts of pelotonref06. Conditions: none. -/
import Derived.Test.YtnldicbalihomaaA
set_option linter.unusedVariables false
open Go Go.Eng Go.Proofs
namespace Go.Proofs.Ytnldicbalihomaa

theorem take_succ_eq {α:Type} [BEq α] [LawfulBEq α] {xs ys:List α} {n:Nat} {x y:α} (hx:xs[n]?=some x) (hy:ys[n]?=some y) (h:xs.take n=ys.take n):xs.take (n+1)=ys.take (n+1)↔x=y:=by
 rw [List.take_add_one,List.take_add_one,hx,hy,h]; simp

end Go.Proofs.Ytnldicbalihomaa
