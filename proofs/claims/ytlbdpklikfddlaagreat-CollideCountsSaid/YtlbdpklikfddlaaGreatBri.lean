/- The bridge: arguments as they are read, opened into views; a contract over a whole heap as a walk. Conditions: none. -/
import Derived.Test.YtlbdpklikfddlaaGreatE4
import Derived.WalkKit
import Derived.ProofKit
import Derived.OpenShut
import Derived.ShutString
import Derived.ChangeOld
import Derived.Below
import Derived.Deep.Slices
import Derived.Deep.Fields
import Derived.ChangeSame
set_option linter.unusedVariables false
namespace Go.Eng
open Go.ChangeShapes Go.WideShapes Go.Deep Go.RowKit

def HW (W:World):Hp:=fun b=>W.heap[b]?
theorem HW.view (W:World):View W (HW W):=fun _ _ h=>h
theorem HW.at {W:World} {a:Addr} {v:Value} (h:W.cell? a=some v):(HW W).at a=some v:=by
 unfold Hp.at HW
 unfold World.cell? at h
 exact h

theorem Qf.below {P:Program} {f:FuncId} {args:Array Value} {W:World} {v:Value} (h:Qf P f args (HW W) v):Calls P f args W fun e W'=>e=.returned v∧Below W.heap.size W W':=by
 refine (h W (HW.view W)).mono fun e W' ⟨v',H',he,ht,hv,hle⟩=>?_
 subst hv
 refine ⟨he,ht.os,ht.tape,ht.output,ht.size,fun k hk=>?_⟩
 have ho:W.heap[k]?=some W.heap[k]:=by simp [hk]
 rw [ho]; exact ht.view k _ (hle k _ ho)

def flatT (P:Program):Nat→TypeId→List TypeId
 | 0,t=>[t]
 | d+1,t=>match P.underlying t with
  | some (.struct fs)=>fs.toList.flatMap fun f=>flatT P d f.type
  | _=>[t]

def layF (P:Program) (rec:TypeId→Bool):Nat→Nat→List Field→Bool
 | o,n,[]=>Nat.beq o n
 | o,n,f :: fs=>Nat.beq f.offset o&&rec f.type&&layF P rec (o+P.cellsOf f.type) n fs

def lay (P:Program):Nat→TypeId→Bool
 | 0,t=>Nat.beq (P.cellsOf t) 1
 | d+1,t=>match P.underlying t with
  | some (.struct fs)=>layF P (lay P d) 0 (P.cellsOf t) fs.toList
  | _=>Nat.beq (P.cellsOf t) 1

section
variable {H:Type} {enc:TypeId × Value→H} {P:Program} {w:World} {base:Nat} {spare:Nat→Bool} {held:Bool}

def Lf (enc:TypeId × Value→H) (P:Program) (w:World) (base:Nat) (spare:Nat→Bool) (held:Bool) (t:TypeId) (c:Value):Prop:=∃ (n:Nat) (x:DataW H × List MemPlace),DataW.trod enc P w base spare held n t [c]=some x

inductive All2 {α β:Type} (R:α→β→Prop):List α→List β→Prop
 | nil:All2 R [] []
 | cons {a:α} {b:β} {as:List α} {bs:List β}:R a b→All2 R as bs→All2 R (a :: as) (b :: bs)

theorem All2.append {α β:Type} {R:α→β→Prop} {as as':List α} {bs bs':List β} (h:All2 R as bs) (h':All2 R as' bs'):All2 R (as++as') (bs++bs'):=by
 induction h with
 | nil=>exact h'
 | cons h1 _ ih=>exact .cons h1 ih
theorem All2.c {α β:Type} {R:α→β→Prop} {a:α} {as:List α} {bs:List β} (h:All2 R (a :: as) bs):∃ b bs',bs=b :: bs'∧R a b∧All2 R as bs':=by
 cases h with
 | cons h1 h2=>exact ⟨_,_,rfl,h1,h2⟩
theorem All2.n {α β:Type} {R:α→β→Prop} {bs:List β} (h:All2 R [] bs):bs=[]:=by cases h; rfl

theorem flat_fields {rec:TypeId→Bool} {fl:TypeId→List TypeId} {cs:List Value} (hr:∀ t cs' n x,rec t=true→DataW.trod enc P w base spare held n t cs'=some x→cs'.length=P.cellsOf t→All2 (Lf enc P w base spare held) (fl t) cs') :
  ∀ (fs:List Field) (o:Nat),layF P rec o cs.length fs=true→(∀ f∈fs,∃ n x,DataW.trod enc P w base spare held n f.type ((cs.drop f.offset).take (P.cellsOf f.type))=some x) →
   (∀ f∈fs,f.offset+P.cellsOf f.type≤cs.length)→All2 (Lf enc P w base spare held) (fs.flatMap fun f=>fl f.type) (cs.drop o)
 | [],o,h,_,_=>by
  have:o=cs.length:=by simpa [layF,Nat.beq_iff] using h
  subst this; rw [List.drop_length]; exact .nil
 | f :: fs,o,h,ht,hb=>by
  simp only [layF,Bool.and_eq_true,Nat.beq_iff] at h
  obtain ⟨⟨h1,h2⟩,h3⟩:=h
  have ih:=flat_fields hr fs (o+P.cellsOf f.type) h3 (fun g hg=>ht g (List.mem_cons_of_mem _ hg)) (fun g hg=>hb g (List.mem_cons_of_mem _ hg))
  obtain ⟨n,x,hx⟩:=ht f (List.mem_cons_self ..)
  have hbf:=hb f (List.mem_cons_self ..)
  have a:=hr f.type _ n x h2 hx (by rw [List.length_take,List.length_drop]; omega)
  rw [h1] at a
  have e:cs.drop o=(cs.drop o).take (P.cellsOf f.type)++cs.drop (o+P.cellsOf f.type):=by
   rw [← List.drop_drop,List.take_append_drop]
  rw [e,List.flatMap_cons]
  exact a.append ih

theorem layF_bound {rec:TypeId→Bool} {n:Nat}:∀ (fs:List Field) (o:Nat),layF P rec o n fs=true→o≤n∧∀ f∈fs,f.offset+P.cellsOf f.type≤n
 | [],o,h=>by
  have:o=n:=by simpa [layF,Nat.beq_iff] using h
  exact ⟨by omega,fun f hf=>by simp at hf⟩
 | g :: fs,o,h=>by
  simp only [layF,Bool.and_eq_true,Nat.beq_iff] at h
  obtain ⟨⟨h1,h2⟩,h3⟩:=h
  obtain ⟨i1,i2⟩:=layF_bound fs _ h3
  refine ⟨by omega,fun f hf=>?_⟩
  rcases List.mem_cons.1 hf with rfl | hf
  ·omega
  ·exact i2 f hf

theorem flat_of:∀ (d:Nat) (t:TypeId) (cs:List Value) (n:Nat) (x:DataW H × List MemPlace),lay P d t=true→DataW.trod enc P w base spare held n t cs=some x→cs.length=P.cellsOf t→All2 (Lf enc P w base spare held) (flatT P d t) cs
 | 0,t,cs,n,x,hl,h,hc=>by
  have h1:P.cellsOf t=1:=by simpa [lay,Nat.beq_iff] using hl
  rw [h1] at hc
  match cs,hc with
  | [c],_=>exact .cons ⟨n,x,h⟩ .nil
 | d+1,t,cs,n,x,hl,h,hc=>by
  unfold lay at hl
  unfold flatT
  split at hl
  ·rename_i fs hu
   obtain ⟨xs,m,_,_,hlen,hxl,hf⟩:=DataW.trod_struct hu h
   rw [← hlen] at hl
   have:=flat_fields (rec:=lay P d) (fl:=flatT P d) (cs:=cs) (fun t cs' n x a b c=>flat_of d t cs' n x a b c) fs.toList 0 hl (fun f hfm=>by
    obtain ⟨i,hi⟩:=List.mem_iff_getElem?.1 hfm
    have hi':fs[i]?=some f:=by simpa using hi
    have hil:i<xs.length:=by rw [hxl]; exact (Array.getElem?_eq_some_iff.1 hi').1
    exact ⟨m,xs[i],by rw [hf i f hi']; simp [hil]⟩) (layF_bound fs.toList 0 hl).2
   simpa using this
  ·have h1:P.cellsOf t=1:=by simpa [Nat.beq_iff] using hl
   rw [h1] at hc
   match cs,hc with
   | [c],_=>exact .cons ⟨n,x,h⟩ .nil

theorem Lf.int {t:TypeId} {c:Value} {k:IntKind} (hu:P.underlying t=some (.int k)) (h:Lf enc P w base spare held t c):∃ n,c=.int k n∧(Lit.int k n).wf=true:=by
 obtain ⟨n,x,hx⟩:=h
 obtain ⟨m,hm,_,hw⟩:=DataW.trod_int hu hx
 exact ⟨m,by simpa using hm,hw⟩
theorem Lf.i64 {t:TypeId} {c:Value} (hu:P.underlying t=some (.int .i64)) (h:Lf enc P w base spare held t c):∃ n,c=.int .i64 n∧inI n:=by
 obtain ⟨n,hn,hw⟩:=h.int hu
 have hb:-9223372036854775808≤n∧n≤9223372036854775807:=bounds_i64 hw
 exact ⟨n,hn,hb⟩
theorem Lf.bool {t:TypeId} {c:Value} (hu:P.underlying t=some .bool) (h:Lf enc P w base spare held t c):∃ b,c=.bool b:=by
 obtain ⟨n,x,hx⟩:=h
 obtain ⟨m,hm,_⟩:=DataW.trod_bool hu hx
 exact ⟨m,by simpa using hm⟩

theorem Lf.slice {α:Type} {k:Nat} {f:α→List Value} {good:α→Prop} {t e:TypeId} {c:Value} (hu:P.underlying t=some (.slice e)) (hl:lay P 9 e=true) (hk:P.cellsOf e=k)
  (hf:∀ cs,All2 (Lf enc P w base spare held) (flatT P 9 e) cs→∃ x,cs=f x∧good x) (h:Lf enc P w base spare held t c) :
  ∃ (u:Slc) (xs:List α),c=u.v∧Rd k f (HW w) u xs∧(∀ x∈xs,good x)∧xs.length≤9223372036854775807:=by
 obtain ⟨n,x,hx⟩:=h
 rcases open_slice hu hx with ⟨hc,_⟩ | ⟨a,len,cap,m,n',D,Pl,hc,_,hlc,hcm,hm,_,hel⟩
 ·have:c=.slice none 0 0:=by simpa using hc
  exact ⟨⟨none,0,0⟩,[],this,Rd.nil,fun x hx=>by simp at hx,by simp⟩
 ·have hlm:len≤m:=by rw [hm]; split <;> omega
  have hcc:c=.slice (some a) len cap:=by simpa using hc
  have he:∀ i:Fin len,∃ x:α,w.cells? base (a.add (i * P.cellsOf e)) (P.cellsOf e)=some (f x)∧good x:=fun i=>by
   obtain ⟨cs',hcs,ht⟩:=hel i (by omega)
   have hln:cs'.length=P.cellsOf e:=(World.cells?_some hcs).2.1
   obtain ⟨x,hx,hg⟩:=hf cs' (flat_of 9 e cs' _ _ hl ht hln)
   subst hx
   exact ⟨x,hcs,hg⟩
  let xs:List α:=(List.finRange len).map fun i=>Classical.choose (he i)
  have hxl:xs.length=len:=by simp [xs]
  have hxi:∀ (i:Nat) (x:α),xs[i]?=some x→w.cells? base (a.add (i * P.cellsOf e)) (P.cellsOf e)=some (f x)∧good x:=fun i x hi=>by
   have hlt:i<len:=by rw [← hxl]; exact (List.getElem?_eq_some_iff.1 hi).1
   have:=Classical.choose_spec (he ⟨i,hlt⟩)
   have e:x=Classical.choose (he ⟨i,hlt⟩):=by
    have:xs[i]?=some (Classical.choose (he ⟨i,hlt⟩)):=by simp [xs,hlt]
    rw [this] at hi; exact (Option.some.inj hi).symm
   rw [e]; exact this
  refine ⟨⟨some a,len,cap⟩,xs,hcc,⟨hxl.symm,hlc,fun _=>rfl,fun i x hi j v hj=>?_⟩,fun x hx=>?_,by rw [hxl]; unfold maxLen at hcm; omega⟩
  ·obtain ⟨_,hcl,hat⟩:=World.cells?_some (hxi i x hi).1
   have hjl:j<P.cellsOf e:=by rw [← hcl]; exact (List.getElem?_eq_some_iff.1 hj).1
   have:=hat j hjl
   rw [hj,hk] at this
   exact HW.at this
  ·obtain ⟨i,hi⟩:=List.mem_iff_getElem?.1 hx
   exact (hxi i x hi).2
end
end Go.Eng
