/- The engine, parts PR, PW, PV, put together. Conditions: none. -/
import Derived.Test.YtlbdpklikfddlaaGreatMC
import Derived.Test.YtlbdpklikfddlaaGreatPN2
import Derived.Test.YtlbdpklikfddlaaGreatQB
import Derived.Test.YtlbdpklikfddlaaGreatPS1
set_option linter.unusedVariables false
section
/- Meetings in order, reigns and who reigns, in plain words. Conditions: none. -/
set_option maxRecDepth 100000
open Go Go.Eng Go.Proofs
namespace Go.Proofs.YtlbdpklikfddlaaGreat

/-! ### Meetings in order -/
def mtPr (m:Mt):Pr:=(m.2.1,m.2.2,m.1)
def metsM (f:List Pt):List Pr:=sortP ((metL f).map mtPr)
def betweenM (f:List Pt) (a b:Int × Int):List Pr:=(metsM f).filter fun x=>inT a b x.2.2
theorem metR_ok {p:Pt} (op:okP p):∀ ps:List Pt,(∀ q∈ps,okP q)→∀ m∈metR p ps,okR m.1
 | [],_,m,hm=>by cases hm
 | q :: ps,h,m,hm=>by
  have ih:=metR_ok op ps fun x hx=>h x (List.mem_cons_of_mem _ hx)
  unfold metR at hm ih
  rw [List.filterMap_cons] at hm
  by_cases e:p.2.2=q.2.2
  ·rw [if_pos e] at hm; exact ih m hm
  ·rw [if_neg e] at hm
   rcases List.mem_cons.1 hm with rfl | hm
   ·have oq:=h q List.mem_cons_self
    show okR (atP p q)
    have o0:okR (0,1):=⟨by decide,by decide,by decide,by decide,by decide⟩
    rcases Int.lt_or_le p.2.2 q.2.2 with hl | hl
    ·exact (met_lead op oq hl o0).1
    ·rw [atP_sym e]; exact (met_lead oq op (show q.2.2<p.2.2 by omega) o0).1
   ·exact ih m hm
theorem metL_ok:∀ f:List Pt,(∀ q∈f,okP q)→∀ m∈metL f,okR m.1
 | [],_,m,hm=>by cases hm
 | p :: f,h,m,hm=>by
  have hm:m∈metR p f++metL f:=hm
  rcases List.mem_append.1 hm with hm | hm
  ·exact metR_ok (h p List.mem_cons_self) f (fun q hq=>h q (List.mem_cons_of_mem _ hq)) m hm
  ·exact metL_ok f (fun q hq=>h q (List.mem_cons_of_mem _ hq)) m hm
theorem metPr_ok {f:List Pt} (of:okF f):∀ y∈(metL f).map mtPr,okPr y:=fun y hy=>by
 obtain ⟨m,hm,rfl⟩:=List.mem_map.1 hy
 exact metL_ok f of.each m hm
theorem metsM_ok {f:List Pt} (of:okF f):∀ y∈metsM f,okPr y:=fun y hy=>metPr_ok of y ((sortP_perm _).mem_iff.1 hy)
theorem metsM_srt {f:List Pt} (of:okF f):Srt clP (metsM f):=sortP_srt (metPr_ok of)
theorem betweenM_len (f:List Pt) (a b:Int × Int):(betweenM f a b).length=(metL f).countP fun m=>inT a b m.1:=by
 unfold betweenM metsM
 rw [← List.countP_eq_length_filter,(sortP_perm _).countP_eq,List.countP_map]
 rfl
theorem swaps_between {l:Ls} (ok:okLs l) {to:Int × Int} (hu:untilK l.ck to=0):swapsM l to=(betweenM l.ck.f l.ck.now to).length:=by
 rw [swaps_met ok hu,betweenM_len]

/-! ### Filters of a sorted list in two parts -/
/-! ### The next event is the next meeting -/
/-! ### Reigns -/
abbrev Ld:=(Int × Int) × Int

/-! ### Between meetings the order stays -/
/-! ### Who reigns -/
/-! ### Each point at one index -/
/-! ### As many ahead as the index says -/

end Go.Proofs.YtlbdpklikfddlaaGreat
end
