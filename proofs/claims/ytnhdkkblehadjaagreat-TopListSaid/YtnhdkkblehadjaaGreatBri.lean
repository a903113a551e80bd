/- The bridge: arguments as they are read, opened into views; a contract over a whole heap as a walk. Conditions: none. -/
import Derived.Test.YtnhdkkblehadjaaGreatE4
import Derived.WalkKit
import Derived.ProofKit
import Derived.OpenShut
import Derived.ShutString
import Derived.ChangeOld
import Derived.Below
import Derived.Deep.Slices
import Derived.Deep.Fields
import Derived.ChangeSame
open List renaming mem_iff_getElem?->Qa,mem_cons_self->Qb,mem_cons_of_mem->Qc,getElem?_eq_some_iff->Qd
set_option linter.unusedVariables false
namespace Go.Eng
variable{v:Value}
open Go.ChangeShapes Go.WideShapes Go.Deep Go.RowKit
def HW(W:World):Hp:=λb=>W.heap[b]?
theorem HW.view(W:World):z2i W (HW W):=λ_ _ h=>h
theorem HW.at{W:World}{a:Addr}{v:Value}(h:W.cell? a=some v):(HW W).at a=some v:=by
 unfold Hp.at HW;unfold World.cell? at h;exact h
theorem Qf.below{P:Program}{f:FuncId}{args:Array Value}{W:World}(h:Qf P f args (HW W) v):Calls P f args W λe W'=>e=.returned v/\Below W.heap.size W W':=by
 refine(h W (HW.view W)).mono λe W' ⟨v',H',he,ht,hv,hle⟩=>?_
 subst hv;refine⟨he,ht.os,ht.tape,ht.output,ht.size,λk hk=>?_⟩;have ho:W.heap[k]?=some W.heap[k]:=by simp[hk]
 rw[ho];exact ht.view k _ (hle k _ ho)
def y0b(P:Program):Nat->TypeId->List TypeId
 | 0,t=>[t]
 | d+1,t=>match P.underlying t with
  | some (.struct fs)=>fs.toList.flatMap λf=>y0b P d f.type
  | _=>[t]
def y91(P:Program)(rec:TypeId->Bool):Nat->Nat->List Field->Bool
 | o,n,[]=>Nat.beq o n
 | o,n,f :: fs=>Nat.beq f.offset o&&rec f.type&&y91 P rec (o+P.cellsOf f.type) n fs
def lay(P:Program):Nat->TypeId->Bool
 | 0,t=>Nat.beq (P.cellsOf t) 1
 | d+1,t=>match P.underlying t with
  | some (.struct fs)=>y91 P (lay P d) 0 (P.cellsOf t) fs.toList
  | _=>Nat.beq (P.cellsOf t) 1
section
variable{H:Type}{enc:TypeId×Value->H}{P:Program}{w:World}{base:Nat}{spare:Nat->Bool}{held:Bool}
def Lf(enc:TypeId×Value->H)(P:Program)(w:World)(base:Nat)(spare:Nat->Bool)(held:Bool)(t:TypeId)(c:Value):Prop:=∃(n:Nat)(x:DataW H×List MemPlace),DataW.trod enc P w base spare held n t [c]=some x
inductive z06{α β:Type}(R:α->β->Prop):List α->List β->Prop
 | nil:z06 R [] []
 | cons {a:α} {b:β} {as:List α} {bs:List β}:R a b->z06 R as bs->z06 R (a :: as) (b :: bs)
theorem z06.append{α β:Type}{R:α->β->Prop}{as as':List α}{bs bs':List β}(h:z06 R as bs)(h':z06 R as' bs'):z06 R (as++as') (bs++bs'):=by
 induction h with
 | nil=>exact h'
 | cons h1 _ ih=>exact .cons h1 ih
theorem z06.c{α β:Type}{R:α->β->Prop}{a:α}{as:List α}{bs:List β}(h:z06 R (a :: as) bs):∃b bs',bs=b :: bs'/\R a b/\z06 R as bs':=by
 cases h with
 | cons h1 h2=>exact⟨_,_,rfl,h1,h2⟩
theorem z06.n{α β:Type}{R:α->β->Prop}{bs:List β}(h:z06 R [] bs):bs=[]:=by cases h;rfl
theorem y0c{rec:TypeId->Bool}{fl:TypeId->List TypeId}{cs:List Value}(hr:∀t cs' n x,rec t=true->DataW.trod enc P w base spare held n t cs'=some x->cs'.length=P.cellsOf t->z06 (Lf enc P w base spare held) (fl t) cs') :
  ∀(fs:List Field)(o:Nat),y91 P rec o cs.length fs=true->(∀f∈fs,∃n x,DataW.trod enc P w base spare held n f.type ((cs.drop f.offset).take (P.cellsOf f.type))=some x) ->
   (∀f∈fs,f.offset+P.cellsOf f.type<=cs.length)->z06 (Lf enc P w base spare held) (fs.flatMap λf=>fl f.type) (cs.drop o)
 | [],o,h,_,_=>by
  have:o=cs.length:=by simpa[y91,Nat.beq_iff] using h
  subst this;rw[List.drop_length];exact .nil
 | f :: fs,o,h,ht,hb=>by
  simp only[y91,Bool.and_eq_true,Nat.beq_iff] at h;obtain⟨⟨h1,h2⟩,h3⟩:=h;have ih:=y0c hr fs (o+P.cellsOf f.type) h3 (λg hg=>ht g (Qc _ hg)) (λg hg=>hb g (Qc _ hg));obtain⟨n,x,hx⟩:=ht f (Qb ..);have hbf:=hb f (Qb ..);have a:=hr f.type _ n x h2 hx (by rw[List.length_take,List.length_drop];omega);rw[h1] at a;have e:cs.drop o=(cs.drop o).take (P.cellsOf f.type)++cs.drop (o+P.cellsOf f.type):=by
   rw[← List.drop_drop,List.take_append_drop]
  rw[e,List.flatMap_cons];exact a.append ih
theorem y92{rec:TypeId->Bool}{n:Nat}:∀(fs:List Field)(o:Nat),y91 P rec o n fs=true->o<=n/\∀f∈fs,f.offset+P.cellsOf f.type<=n
 | [],o,h=>by
  have:o=n:=by simpa[y91,Nat.beq_iff] using h
  exact⟨by omega,λf hf=>by simp at hf⟩
 | g :: fs,o,h=>by
  simp only[y91,Bool.and_eq_true,Nat.beq_iff] at h;obtain⟨⟨h1,h2⟩,h3⟩:=h;obtain⟨i1,i2⟩:=y92 fs _ h3;refine⟨by omega,λf hf=>?_⟩;rcases List.mem_cons.1 hf with rfl|hf
  ·omega
  ·exact i2 f hf
theorem y0d:∀(d:Nat)(t:TypeId)(cs:List Value)(n:Nat)(x:DataW H×List MemPlace),lay P d t=true->DataW.trod enc P w base spare held n t cs=some x->cs.length=P.cellsOf t->z06 (Lf enc P w base spare held) (y0b P d t) cs
 | 0,t,cs,n,x,hl,h,hc=>by
  have h1:P.cellsOf t=1:=by simpa[lay,Nat.beq_iff] using hl
  rw[h1] at hc
  match cs,hc with
  | [c],_=>exact .cons ⟨n,x,h⟩ .nil
 | d+1,t,cs,n,x,hl,h,hc=>by
  unfold lay at hl;unfold y0b;split at hl
  ·rename_i fs hu;obtain⟨xs,m,_,_,hlen,hxl,hf⟩:=DataW.trod_struct hu h;rw[← hlen] at hl;have:=y0c (rec:=lay P d) (fl:=y0b P d) (cs:=cs) (λt cs' n x a b c=>y0d d t cs' n x a b c) fs.toList 0 hl (λf hfm=>by
    obtain⟨i,hi⟩:=Qa.1 hfm;have hi':fs[i]?=some f:=by simpa using hi
    have hil:i<xs.length:=by rw[hxl];exact(Array.getElem?_eq_some_iff.1 hi').1
    exact⟨m,xs[i],by rw[hf i f hi'];simp[hil]⟩) (y92 fs.toList 0 hl).2
   simpa using this
  ·have h1:P.cellsOf t=1:=by simpa[Nat.beq_iff] using hl
   rw[h1] at hc
   match cs,hc with
   | [c],_=>exact .cons ⟨n,x,h⟩ .nil
theorem yl5{r:Reach}{b0:Nat}{t:TypeId}{fs:Array Field}{dd:DataW H}{p:List MemPlace}(hs:P.underlying t=some (.struct fs))(hl:lay P 9 t=true)
  (hv:Value.okWide P w r b0 t v) (h:DataW.Trod enc P w base spare held t v dd p):∃cs:List Value,v=.agg cs.toArray/\z06 (Lf enc P w base spare held) (y0b P 9 t) cs:=by
 obtain⟨cs,rfl,hsz⟩:=okWide_struct hs hv;obtain⟨l⟩:=cs;obtain⟨n,hn⟩:=h;refine⟨l,rfl,y0d 9 t l n (dd,p) hl ?_ (by simpa using hsz)⟩;simpa[Value.cells] using hn
theorem Lf.int{t:TypeId}{c:Value}{k:IntKind}(hu:P.underlying t=some (.int k))(h:Lf enc P w base spare held t c):∃n,c=.int k n/\(Lit.int k n).wf=true:=by
 obtain⟨n,x,hx⟩:=h;obtain⟨m,hm,_,hw⟩:=DataW.trod_int hu hx;exact⟨m,by simpa using hm,hw⟩
theorem Lf.i64{t:TypeId}{c:Value}(hu:P.underlying t=some (.int .i64))(h:Lf enc P w base spare held t c):∃n,c=.int .i64 n/\inI n:=by
 obtain⟨n,hn,hw⟩:=h.int hu;have hb:-9223372036854775808<=n/\n<=9223372036854775807:=bounds_i64 hw;exact⟨n,hn,hb⟩
theorem Lf.bool{t:TypeId}{c:Value}(hu:P.underlying t=some .bool)(h:Lf enc P w base spare held t c):∃b,c=.bool b:=by
 obtain⟨n,x,hx⟩:=h;obtain⟨m,hm,_⟩:=DataW.trod_bool hu hx;exact⟨m,by simpa using hm⟩
theorem Lf.slice{α:Type}{k:Nat}{f:α->List Value}{good:α->Prop}{t e:TypeId}{c:Value}(hu:P.underlying t=some (.slice e))(hl:lay P 9 e=true)(hk:P.cellsOf e=k)
  (hf:∀cs,z06 (Lf enc P w base spare held) (y0b P 9 e) cs->∃x,cs=f x/\good x) (h:Lf enc P w base spare held t c) :
  ∃(u:Slc)(xs:List α),c=u.v/\Rd k f (HW w) u xs/\(∀x∈xs,good x)/\xs.length<=9223372036854775807:=by
 obtain⟨n,x,hx⟩:=h;rcases open_slice hu hx with⟨hc,_⟩|⟨a,len,cap,m,n',D,Pl,hc,_,hlc,hcm,hm,_,hel⟩
 ·have:c=.slice none 0 0:=by simpa using hc
  exact⟨⟨none,0,0⟩,[],this,Rd.nil,λx hx=>by simp at hx,by simp⟩
 ·have hlm:len<=m:=by rw[hm];split <;> omega
  have hcc:c=.slice (some a) len cap:=by simpa using hc
  have he:∀i:Fin len,∃x:α,w.cells? base (a.add (i*P.cellsOf e)) (P.cellsOf e)=some (f x)/\good x:=λi=>by
   obtain⟨cs',hcs,ht⟩:=hel i (by omega);have hln:cs'.length=P.cellsOf e:=(World.cells?_some hcs).2.1;obtain⟨x,hx,hg⟩:=hf cs' (y0d 9 e cs' _ _ hl ht hln);subst hx;exact⟨x,hcs,hg⟩
  let xs:List α:=(List.finRange len).map λi=>Classical.choose (he i)
  have hxl:xs.length=len:=by simp[xs]
  have hxi:∀(i:Nat)(x:α),xs[i]?=some x->w.cells? base (a.add (i*P.cellsOf e)) (P.cellsOf e)=some (f x)/\good x:=λi x hi=>by
   have hlt:i<len:=by rw[← hxl];exact(Qd.1 hi).1
   have:=Classical.choose_spec (he ⟨i,hlt⟩);have e:x=Classical.choose (he ⟨i,hlt⟩):=by
    have:xs[i]?=some (Classical.choose (he ⟨i,hlt⟩)):=by simp[xs,hlt]
    rw[this] at hi;exact(Option.some.inj hi).symm
   rw[e];exact this
  refine⟨⟨some a,len,cap⟩,xs,hcc,⟨hxl.symm,hlc,λ_=>rfl,λi x hi j v hj=>?_⟩,λx hx=>?_,by rw[hxl];unfold maxLen at hcm;omega⟩
  ·obtain⟨_,hcl,hat⟩:=World.cells?_some (hxi i x hi).1;have hjl:j<P.cellsOf e:=by rw[← hcl];exact(Qd.1 hj).1
   have:=hat j hjl;rw[hj,hk] at this;exact HW.at this
  ·obtain⟨i,hi⟩:=Qa.1 hx;exact(hxi i x hi).2
end
end Go.Eng
