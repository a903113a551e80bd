/- The engine, parts N5, N6, KM, N7, put together. Conditions: none. -/
import Derived.Test.YtjhbjjdipmpgjaaGreatPN1
import Derived.Test.YtjhbjjdipmpgjaaGreatVgStd
import Derived.Test.YtjhbjjdipmpgjaaGreatFs
import Derived.Test.YtjhbjjdipmpgjaaGreatPL7
import Derived.Test.YtjhbjjdipmpgjaaGreatVgKlist
set_option linter.unusedVariables false
section
/- The law SpanFinds. Conditions: none. -/
set_option maxRecDepth 100000
open Go Go.Eng Go.Proofs
namespace Go.Proofs.YtjhbjjdipmpgjaaGreat

def posO (o:List Int) (id:Int):Int:=idx (fun y=>id == y) o
theorem posO_in {o:List Int} {id:Int} (h:0≤posO o id):posO o id < o.length∧o[(posO o id).toNat]? = some id:=by
 obtain ⟨x,h1,h2,_,h4⟩:=idx_in h
 refine ⟨h4,?_⟩
 have:id = x:=by simpa using h2
 rw [this] at h1 ⊢; exact h1
theorem posO_at {o:List Int} (hd:o.Pairwise (·≠·)) {i:Nat} {x:Int} (hi:o[i]? = some x):posO o x = i:=by
 refine idx_hit hi (by simp) fun y hy=>?_
 obtain ⟨j,hj,e⟩:=List.mem_take_iff_getElem.1 hy
 obtain ⟨a1,a2⟩:=List.getElem?_eq_some_iff.1 hi
 have:=List.pairwise_iff_getElem.1 hd j i (by omega) a1 (by omega)
 rw [e,a2] at this
 simpa using fun h=>this h.symm
theorem okLs.ne {l:Ls} (ok:okLs l):l.ord.Pairwise (·≠·):=by
 have hi:=(sortM_sorted (okF_ids ok.ck.f) l.ck.now).ids (okF_ids ok.ck.f)
 have ho:l.ord = (sortM l.ck.f l.ck.now).map (·.1):=ok.ord
 rw [ho]
 exact List.pairwise_map.2 hi


theorem fitZl:fitL .zero:=fitL_of (l:=.zero) fit00g (by kernel_rfl) (fun y hy=>by cases hy)

end Go.Proofs.YtjhbjjdipmpgjaaGreat
end
