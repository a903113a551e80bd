/- The engine, parts FA, RO, LQ, LW, MC, put together. Conditions: none. -/
import Derived.Test.YtlbdpklikfddlaaGreatPN2
import Derived.Test.YtlbdpklikfddlaaGreatPQ1
import Derived.Test.YtlbdpklikfddlaaGreatPA1
import Derived.Test.YtlbdpklikfddlaaGreatPL5
set_option linter.unusedVariables false
section
/- Points put into a field, taken out, changed, in plain Lean; what becomes of the order. Conditions: none. -/
set_option maxRecDepth 100000
open Go Go.Eng Go.Proofs
namespace Go.Proofs.YtlbdpklikfddlaaGreat

def lowF (f:List Pt) (id:Int):Nat:=posI (f.map (·.1)) id
def insF (f:List Pt) (p:Pt):List Pt:=f.take (lowF f p.1)++p :: f.drop (lowF f p.1)
def putF (f:List Pt) (p:Pt):List Pt × Int:=if chkF f≠0 then ([],chkF f) else if ¬ okP p then ([],8) else if 0≤posF f p.1 then ([],14) else if f.length=64 then ([],18) else (insF f p,0)
def outF (f:List Pt) (id:Int):List Pt:=f.filter fun q=>q.1 != id
/-! ### The order -/
def cutI (o:List Int) (i:Nat):List Int:=o.take i++o.drop (i+1)

/-! ### Room for so many certificates -/
/-! ### Another field with the same failure times -/
/-! ### Certificates made do not fail -/
theorem Mid.of_cert {l:Ls} {lo hi:Nat} (m:Mid l lo hi) {h:Int × Int × Int} (hm:h∈l.ck.ct.list):∃ k,k<l.num.length∧(k<lo∨hi≤k)∧h=(l.num.getD k 0,pairM l.ord k):=by
 have nl:=m.nl; have cl:=m.cl; have le:=m.le; have hl:=m.hl
 obtain ⟨j,hj⟩:=List.mem_iff_getElem?.1 hm
 have hjl:=(List.getElem?_eq_some_iff.1 hj).1
 have gp:∀ i,i<l.ck.ct.list.length→(if i<lo then i else i+(hi-lo))<l.num.length∧((if i<lo then i else i+(hi-lo))<lo∨hi≤(if i<lo then i else i+(hi-lo))):=fun i hi'=>by
  split <;> omega
 have facts:∀ k,k<l.num.length→(k<lo∨hi≤k)→0≤atC l.ck.ct (l.num.getD k 0)∧atC l.ck.ct (l.num.getD k 0)<l.ck.ct.list.length∧getD3 l.ck.ct.list (atC l.ck.ct (l.num.getD k 0))=(l.num.getD k 0,pairM l.ord k):=fun k hk ho=>m.ck.ct.at_mem (m.certs k hk ho)
 obtain ⟨i,hi',he⟩:=all_hit (n:=l.ck.ct.list.length) (f:=fun i=>(atC l.ck.ct (l.num.getD (if i<lo then i else i+(hi-lo)) 0)).toNat) (fun i i' h1 h2 he=>by
  obtain ⟨a1,a2⟩:=gp i h1
  obtain ⟨b1,b2⟩:=gp i' h2
  obtain ⟨a3,a4,a5⟩:=facts _ a1 a2
  obtain ⟨b3,b4,b5⟩:=facts _ b1 b2
  have he:(atC l.ck.ct (l.num.getD (if i<lo then i else i+(hi-lo)) 0)).toNat=(atC l.ck.ct (l.num.getD (if i'<lo then i' else i'+(hi-lo)) 0)).toNat:=he
  have e:atC l.ck.ct (l.num.getD (if i<lo then i else i+(hi-lo)) 0)=atC l.ck.ct (l.num.getD (if i'<lo then i' else i'+(hi-lo)) 0):=by omega
  rw [e,b5] at a5
  have ep:=pair_inj (permNe m.ck.f m.perm) (by omega) (by omega) (congrArg Prod.snd a5)
  split at ep <;> split at ep <;> omega) (fun i h1=>by
  obtain ⟨a1,a2⟩:=gp i h1
  obtain ⟨a3,a4,a5⟩:=facts _ a1 a2
  show (atC l.ck.ct (l.num.getD (if i<lo then i else i+(hi-lo)) 0)).toNat<_
  omega) (k:=j) hjl
 have he:(atC l.ck.ct (l.num.getD (if i<lo then i else i+(hi-lo)) 0)).toNat=j:=he
 obtain ⟨a1,a2⟩:=gp i hi'
 obtain ⟨a3,a4,a5⟩:=facts _ a1 a2
 refine ⟨_,a1,a2,?_⟩
 rw [← a5]
 unfold getD3
 rw [he,List.getD_eq_getElem?_getD,hj]; rfl
/-! ### How many swaps there are -/

/-! ### What is done -/
def outI (l:Ls) (id:Int):Nat:=(posO l.ord id).toNat
def takeC (l:Ls) (id:Int):Ck:=goneIf (goneIf l.ck (decide (0<outI l id)) (l.num.getD (outI l id-1) 0)) (decide (outI l id<l.num.length)) (l.num.getD (outI l id) 0)
def outS (l:Ls) (id:Int):Ls:=⟨(alteredK (takeC l id) (outF l.ck.f id)).1,cutI l.ord (outI l id),cutI l.num (min (outI l id) (l.num.length-1))⟩
def takeL (l:Ls) (id:Int):Ls × Int :=
 if (alteredK (takeC l id) (outF l.ck.f id)).2≠0 then (.zero,(alteredK (takeC l id) (outF l.ck.f id)).2)
 else if 0<outI l id∧outI l id<l.num.length then madeL (outS l id) (outI l id-1) else (outS l id,0)
def takeM (l:Ls) (id:Int):Ls × Int:=if okLs l then (if posO l.ord id<0 then (.zero,6) else takeL l id) else (.zero,8)
/-! ### Lists in the middle whose order is that of their time -/
theorem okLs.perm {l:Ls} (ok:okLs l):l.ord.Perm (l.ck.f.map (·.1)):=ok.weak.perm
theorem okM.done {l:Ls} (w:okM l) (eo:l.ord=ordM l.ck.f l.ck.now):okLs l:=okLs.of w.ck eo w.nl w.cl fun k hk=>(certOK_mem w.ck.ct).2 (w.certs k hk)
theorem okK.goneIf {c:Ck} (ok:okK c) (b:Bool) (n:Int):okK (Go.Proofs.YtlbdpklikfddlaaGreat.goneIf c b n):=by
 unfold Go.Proofs.YtlbdpklikfddlaaGreat.goneIf
 split
 ·exact (ok.gone n).1
 ·exact ok
/-! ### Putting in -/
/-! ### Taking out -/

/-! ### Nothing is due at the time of a valid list -/
theorem okLs.quiet {l:Ls} (ok:okLs l):waitsK l.ck l.ck.now=false:=by
 cases hw:waitsK l.ck l.ck.now with
 | false=>rfl
 | true =>
  exfalso
  unfold waitsK at hw
  rw [Bool.and_eq_true,decide_eq_true_eq,decide_eq_true_eq] at hw
  obtain ⟨h0,hle⟩:=hw
  have hle:=cmpR_le.1 hle
  obtain ⟨i,hi,hno,hF⟩:=ok.weak.event (hp_mem h0)
  have nl:=ok.nl
  have lv:=ok.weak.level hi hF
  have o1:okR (hp l.ck.ag.heap 0).at_:=(ok.ck.ag.each _ (hp_mem h0)).1
  have la:=lead_after o1.d1 ok.ck.now.d1 hle lv.1 lv.2
  have lb:=ok.leads (i:=i) (j:=i+1) (by omega) (by omega)
  rw [leads_asymm lb] at la
  cases la
/-! ### Lists of one field and time -/
/-! ### A list built anew -/
/-! ### What stays and what is new -/
def hasM (l:List Int) (n:Int):Bool:=l.any fun x=>x==n
/-! ### Put in and taken out again -/
/-! ### Two points in whatever order -/

/-! ### Pairs of a list -/
/-! ### Meetings -/
abbrev Mt:=(Int × Int) × Int × Int
def atP (p q:Pt):Int × Int:=(makeM (p.2.1-q.2.1) (q.2.2-p.2.2)).1
def metR (p:Pt) (ps:List Pt):List Mt:=ps.filterMap fun q=>if p.2.2=q.2.2 then none else some (atP p q,p.1,q.1)
def metL:List Pt→List Mt
 | []=>[]
 | p :: ps=>metR p ps++metL ps
theorem atP_sym {p q:Pt} (h:p.2.2≠q.2.2):atP p q=atP q p:=by
 unfold atP
 rw [makeM_neg (show q.2.2-p.2.2≠0 by omega)]
 rw [show -(p.2.1-q.2.1)=q.2.1-p.2.1 by omega,show -(q.2.2-p.2.2)=p.2.2-q.2.2 by omega]
theorem met_lead {p q:Pt} (op:okP p) (oq:okP q) (h:p.2.2<q.2.2) {u:Int × Int} (ou:okR u):okR (atP p q)∧(leads q p u=true↔leR (atP p q) u)∧(leads p q u=true↔¬ leR (atP p q) u):=by
 obtain ⟨x,y,g,g0,em,e1,e2,e3⟩:=meet_parts op oq h
 have ea:atP p q=(x,y):=by unfold atP; rw [em]
 have fv:=farV_at e1 e2 u
 have key:farV p q u≤0↔leR (x,y) u:=by
  rw [fv]
  show _↔x * u.2≤u.1 * y
  constructor
  ·intro hk
   rcases Int.lt_or_le (u.1 * y) (x * u.2) with c | c
   ·have:=Int.mul_pos (show 0<x * u.2-u.1 * y by omega) g0
    omega
   ·exact c
  ·intro hk
   have:=Int.mul_le_mul_of_nonneg_right (show x * u.2-u.1 * y≤0 by omega) (show 0≤g by omega)
   rw [Int.zero_mul] at this; exact this
 have v:=farV_val p q u
 rw [ea]
 refine ⟨e3,?_,?_⟩
 ·rw [← key,leads_iff]; omega
 ·rw [← key,leads_iff]; omega
def inT (a b:Int × Int) (m:Int × Int):Bool:=!decide (cmpR m a≤0)&&decide (cmpR m b≤0)
end Go.Proofs.YtlbdpklikfddlaaGreat
end
