/- The engine, parts M7, M8, GQ, put together. Conditions: none. -/
import Derived.Test.YtlbdpklikfddlaaGreatPL4
import Derived.Test.YtlbdpklikfddlaaGreatPN2
set_option linter.unusedVariables false
section
/- The gaps' law's own helpers. Conditions: none. -/
set_option maxRecDepth 100000
open Go Go.Eng Go.Proofs
namespace Go.Proofs.YtlbdpklikfddlaaGreat

def exF:List Pt:=[(1,0,2),(2,6,-1),(5,0,0)]


/-! ### As many places as things -/
theorem pigeon:∀ (n:Nat) (l:List Nat),l.Nodup→(∀ x∈l,x<n)→l.length≤n
 | 0,l,_,h=>by
  cases l with
  | nil=>simp
  | cons a l=>have:=h a List.mem_cons_self; omega
 | n+1,l,hd,h=>by
  have ih:=pigeon n (l.filter fun x=>x != n) (hd.sublist List.filter_sublist) fun x hx=>by
   obtain ⟨h1,h2⟩:=List.mem_filter.1 hx
   have:=h x h1
   have h2:x≠n:=by simpa using h2
   omega
  have c:=List.length_eq_countP_add_countP (fun x=>x != n) (l:=l)
  rw [List.countP_eq_length_filter] at c
  have c2:l.countP (fun x=>decide ¬ (x != n)=true)≤1:=by
   have:l.countP (fun x=>decide ¬ (x != n)=true)=l.count n:=by
    unfold List.count
    congr 1; funext x
    by_cases e:x=n <;> simp [e]
   rw [this]
   exact List.nodup_iff_count.1 hd n
  omega
theorem all_hit {n:Nat} {f:Nat→Nat} (hi:∀ i j,i<n→j<n→f i=f j→i=j) (hl:∀ i,i<n→f i<n) {k:Nat} (hk:k<n):∃ i,i<n∧f i=k:=by
 by_cases h:∃ i,i<n∧f i=k
 ·exact h
 ·exfalso
  have nd:((List.range n).map f).Nodup:=by
   unfold List.Nodup
   rw [List.pairwise_map]
   have:=List.nodup_range (n:=n)
   unfold List.Nodup at this
   refine List.Pairwise.imp_of_mem (fun {a b} ha hb hab e=>?_) this
   exact hab (hi a b (List.mem_range.1 ha) (List.mem_range.1 hb) e)
  have nd2:(k :: (List.range n).map f).Nodup:=List.nodup_cons.2 ⟨fun hm=>by
   obtain ⟨i,h1,h2⟩:=List.mem_map.1 hm
   exact h ⟨i,List.mem_range.1 h1,h2⟩,nd⟩
  have:=pigeon n _ nd2 fun x hx=>by
   rcases List.mem_cons.1 hx with rfl | hx
   ·exact hk
   ·obtain ⟨i,h1,h2⟩:=List.mem_map.1 hx
    rw [← h2]; exact hl i (List.mem_range.1 h1)
  simp at this
  omega

/-! ### The first of the gaps -/
/-! ### Gaps and certificates -/
end Go.Proofs.YtlbdpklikfddlaaGreat
end
