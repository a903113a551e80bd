/- Meetings of a field are swaps of its order, in plain words. Conditions: none. -/
import Derived.Test.YtlbdpklikfddlaaGreatPF1
set_option linter.unusedVariables false
set_option maxRecDepth 100000
open Go Go.Eng Go.Proofs
namespace Go.Proofs.YtlbdpklikfddlaaGreat

/-! ### Pairs of a list -/
/-! ### Meetings -/
abbrev Mt:=(Int × Int) × Int × Int
def atP (p q:Pt):Int × Int:=(makeM (p.2.1-q.2.1) (q.2.2-p.2.2)).1
def metR (p:Pt) (ps:List Pt):List Mt:=ps.filterMap fun q=>if p.2.2=q.2.2 then none else some (atP p q,p.1,q.1)
def metL:List Pt→List Mt
 | []=>[]
 | p :: ps=>metR p ps++metL ps
theorem atP_sym {p q:Pt} (h:p.2.2≠q.2.2):atP p q=atP q p:=by
 unfold atP
 rw [makeM_neg (show q.2.2-p.2.2≠0 by omega)]
 rw [show -(p.2.1-q.2.1)=q.2.1-p.2.1 by omega,show -(q.2.2-p.2.2)=p.2.2-q.2.2 by omega]
theorem met_lead {p q:Pt} (op:okP p) (oq:okP q) (h:p.2.2<q.2.2) {u:Int × Int} (ou:okR u):okR (atP p q)∧(leads q p u=true↔leR (atP p q) u)∧(leads p q u=true↔¬ leR (atP p q) u):=by
 obtain ⟨x,y,g,g0,em,e1,e2,e3⟩:=meet_parts op oq h
 have ea:atP p q=(x,y):=by unfold atP; rw [em]
 have fv:=farV_at e1 e2 u
 have key:farV p q u≤0↔leR (x,y) u:=by
  rw [fv]
  show _↔x * u.2≤u.1 * y
  constructor
  ·intro hk
   rcases Int.lt_or_le (u.1 * y) (x * u.2) with c | c
   ·have:=Int.mul_pos (show 0<x * u.2-u.1 * y by omega) g0
    omega
   ·exact c
  ·intro hk
   have:=Int.mul_le_mul_of_nonneg_right (show x * u.2-u.1 * y≤0 by omega) (show 0≤g by omega)
   rw [Int.zero_mul] at this; exact this
 have v:=farV_val p q u
 rw [ea]
 refine ⟨e3,?_,?_⟩
 ·rw [← key,leads_iff]; omega
 ·rw [← key,leads_iff]; omega
def inT (a b:Int × Int) (m:Int × Int):Bool:=!decide (cmpR m a≤0)&&decide (cmpR m b≤0)
end Go.Proofs.YtlbdpklikfddlaaGreat
