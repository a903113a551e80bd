/- The engine, parts N5, N6, KM, N7, put together. Conditions: none. -/
import Derived.Test.YtlbdpklikfddlaaGreatPN1
import Derived.Test.YtlbdpklikfddlaaGreatVgStd
import Derived.Test.YtlbdpklikfddlaaGreatFs
import Derived.Test.YtlbdpklikfddlaaGreatPL4
import Derived.Test.YtlbdpklikfddlaaGreatVgKlist
set_option linter.unusedVariables false
section
/- The law SpanFinds. Conditions: none. -/
set_option maxRecDepth 100000
open Go Go.Eng Go.Proofs
namespace Go.Proofs.YtlbdpklikfddlaaGreat

def posO (o:List Int) (id:Int):Int:=idx (fun y=>id==y) o
theorem posO_at {o:List Int} (hd:o.Pairwise (·≠·)) {i:Nat} {x:Int} (hi:o[i]?=some x):posO o x=i:=by
 refine idx_hit hi (by simp) fun y hy=>?_
 obtain ⟨j,hj,e⟩:=List.mem_take_iff_getElem.1 hy
 obtain ⟨a1,a2⟩:=List.getElem?_eq_some_iff.1 hi
 have:=List.pairwise_iff_getElem.1 hd j i (by omega) a1 (by omega)
 rw [e,a2] at this
 simpa using fun h=>this h.symm
theorem indexInts {H:Hp} {s:Slc} {xs:List Int} {id:Int} (h:RdI H s xs) (hl:xs.length≤1000000000):Qf Tryz.prog F.slices_Index_int_int #[s.v,.int .i64 id] H (.int .i64 (posO xs id)):=by
  have ls:=h.len
  refine slices_Index_int_int_vc (upto (N:=xs.length) (J:=fun n=>∀ y∈xs.take n.toNat,(id==y)=false) (by omega) (by simp) fun n h0 h1 hJ=>⟨fun hn=>?_,fun hn=>⟨?_,Hp.le_refl _⟩⟩)
  · have hn:n<xs.length:=by have:n<s.n:=by simpa using hn
                            omega
    have hg:=getI h0 hn
    refine ⟨h.inS h0 hn,_,RdI.get h h0 hn,?_⟩
    generalize xs.getD n.toNat 0=x at hg ⊢
    refine ⟨fun hb=>⟨?_,Hp.le_refl _⟩,fun hb=>upto.nx h0 hn (by omega) ?_⟩
    · unfold posO; rw [idx_hit hg hb hJ,Int.toNat_of_nonneg h0]
    · rw [show (n+1).toNat=n.toNat+1 by omega,take_succ hg]
      intro y hy
      rcases List.mem_append.1 hy with hy | hy
      · exact hJ y hy
      · simp only [List.mem_singleton] at hy; subst hy; exact hb
  · have:n=xs.length:=by have:¬ n<s.n:=by simpa using hn
                         omega
    subst this
    rw [Int.toNat_natCast,List.take_length] at hJ
    unfold posO
    rw [idx_miss hJ]

theorem okLs.ne {l:Ls} (ok:okLs l):l.ord.Pairwise (·≠·):=by
 have hi:=(sortM_sorted (okF_ids ok.ck.f) l.ck.now).ids (okF_ids ok.ck.f)
 have ho:l.ord=(sortM l.ck.f l.ck.now).map (·.1):=ok.ord
 rw [ho]
 exact List.pairwise_map.2 hi


theorem fitZl:fitL .zero:=fitL_of (l:=.zero) fit00g (by kernel_rfl) (fun y hy=>by cases hy)

end Go.Proofs.YtlbdpklikfddlaaGreat
end
