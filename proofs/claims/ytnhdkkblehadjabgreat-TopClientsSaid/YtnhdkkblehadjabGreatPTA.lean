/- The engine, parts UQ, MX, TP, TQ, TH, put together. Conditions: none. -/
import Derived.Test.YtnhdkkblehadjabGreatPQ4
import Derived.Laws.IdiomRangeMap
import Derived.Test.YtnhdkkblehadjabGreatE5
import Derived.Test.YtnhdkkblehadjabGreatPYB
import Derived.Test.YtnhdkkblehadjabGreatPN2
set_option linter.unusedVariables false
section
/- Maps whose entries bear stamps: entries counted up, and all of them gone over. Conditions: none. -/
namespace Go.Eng

def x72{κ:Type}[DecidableEq κ](f:κ->Option Value)(x:κ)(v:Value):κ->Option Value:=λy=>if y=x then some v else f y

structure z17{κ:Type}[DecidableEq κ](fk:κ->Value)(H:Hp)(b:Nat)(f:κ->Option Value)(es:Array MapEntry)(n:Nat):Prop where
 blk:H b=some (.map es n)
 ks:∃kvs:List (κ×Value),es.toList.map (λe=>(e.key,e.val))=kvs.map (λp=>(fk p.1,p.2))/\(kvs.map (·.1)).Nodup/\∀x,y0h kvs x=f x
 old:∀e∈es.toList,e.born<n
 uniq:(es.toList.map (·.born)).Nodup

section
variable {κ:Type} [DecidableEq κ] {P:Program} {k e t:TypeId} {fk:κ->Value} {H H':Hp} {b:Nat} {f:κ->Option Value} {es:Array MapEntry} {n:Nat} {x:κ} {v z:Value}

theorem z17.new(h:H'=H.put b (.map #[] 0)):z17 fk H' b (λ_=>none) #[] 0:=by
 subst h;exact⟨Hp.put_same _ _ _,⟨[],rfl,List.Pairwise.nil,λ_=>rfl⟩,λ_ h=>absurd h (by simp),List.Pairwise.nil⟩
theorem z17.le(h:z17 fk H b f es n)(hl:Hp.le H H'):z17 fk H' b f es n:=⟨hl _ _ h.blk,h.ks,h.old,h.uniq⟩
theorem z17.at(h:z17 fk H b f es n)(he:H' b=H b):z17 fk H' b f es n:=⟨he.trans h.blk,h.ks,h.old,h.uniq⟩
theorem z17.chg{u:Slc}(h:z17 fk H b f es n)(hc:Chg H H' u)(hn:∀p,u.a=some p->p.block≠b):z17 fk H' b f es n :=
 h.at (hc b (by rw[h.blk];simp) hn)
theorem z17.rd(h:z17 fk H b f es n):∃kvs:List (κ×Value),z18 fk H b kvs/\(kvs.map (·.1)).Nodup/\∀x,y0h kvs x=f x:=by
 obtain⟨kvs,h1,h2,h3⟩:=h.ks
 exact⟨kvs,⟨es,n,h.blk,h1⟩,h2,h3⟩
theorem z17.ext(h:z17 fk H b f es n){g:κ->Option Value}(hg:∀x,g x=f x):z17 fk H b g es n:=by
 obtain⟨kvs,h1,h2,h3⟩:=h.ks
 exact⟨h.blk,⟨kvs,h1,h2,λx=>(h3 x).trans (hg x).symm⟩,h.old,h.uniq⟩

theorem y0l(y:κ):y0h ([]:List (κ×Value)) y=none:=rfl
theorem y0i(p:κ×Value)(l:List (κ×Value))(y:κ):y0h (p :: l) y=if p.1=y then some p.2 else y0h l y:=by
 unfold y0h
 rw[List.find?_cons]
 by_cases h:p.1=y <;> simp[h]
theorem y0m:∀{l:List (κ×Value)}{y:κ},y0h l y=none↔y∉l.map (·.1)
 | [],y=>by simp[y0l]
 | p :: l,y=>by
  rw[y0i,List.map_cons,List.mem_cons]
  by_cases h:p.1=y
  ·simp[h]
  ·rw[if_neg h,y0m (l:=l)]
   constructor
   ·intro hn hm
    rcases hm with hm|hm
    ·exact h hm.symm
    ·exact hn hm
   ·exact λhn hm=>hn (.inr hm)
theorem y0o:∀{l:List (κ×Value)}{x:κ}{v:Value},y0h l x=none->∀y,y0h (l++[(x,v)]) y=x72 (y0h l) x v y
 | [],x,v,_,y=>by
  unfold x72
  rw[List.nil_append,y0i]
  by_cases h:x=y
  ·simp[h]
  ·rw[if_neg h,if_neg λe=>h e.symm]
 | p :: l,x,v,hn,y=>by
  rw[y0i] at hn
  have hp:¬ p.1=x:=λe=>by rw[if_pos e] at hn;cases hn
  rw[if_neg hp] at hn
  rw[List.cons_append,y0i,y0o hn]
  unfold x72
  by_cases h:y=x
  ·subst h;rw[if_neg hp,if_pos rfl,if_pos rfl]
  ·rw[if_neg h,if_neg h,y0i]
theorem y0n:∀{l:List (κ×Value)}{i:Nat}{x:κ}{v:Value},(l.map (·.1)).Nodup->l[i]?.map (·.1)=some x->∀y,y0h (l.modify i λp=>(p.1,v)) y=x72 (y0h l) x v y
 | [],i,x,v,_,h,y=>by simp at h
 | p :: l,0,x,v,hd,h,y=>by
  have h:p.1=x:=by simpa using h
  subst h
  rw[List.modify_zero_cons,y0i]
  unfold x72
  rw[y0i]
  by_cases e:p.1=y
  ·subst e;simp
  ·rw[if_neg e,if_neg e,if_neg λh=>e h.symm]
 | p :: l,i+1,x,v,hd,h,y=>by
  obtain⟨h1,h2⟩:=List.nodup_cons.1 (show (p.1 :: l.map (·.1)).Nodup from hd)
  have h:l[i]?.map (·.1)=some x:=by simpa using h
  have hx:p.1≠x:=λe=>h1 (by
   obtain⟨q,hq,e2⟩:=Option.map_eq_some_iff.1 h
   exact List.mem_map.2 ⟨q,List.mem_of_getElem? hq,e2.trans e.symm⟩)
  rw[List.modify_succ_cons,y0i,y0n h2 h]
  unfold x72
  rw[y0i]
  by_cases e:p.1=y
  ·subst e;rw[if_pos rfl,if_neg hx,if_pos rfl]
  ·rw[if_neg e,if_neg e]
theorem y97{α β:Type}{g:α->β}{a:α->α}{c:β->β}(h:∀x,g (a x)=c (g x)):∀(l:List α)(i:Nat),(l.modify i a).map g=(l.map g).modify i c
 | [],i=>by cases i <;> rfl
 | x :: l,0=>by simp[h]
 | x :: l,i+1=>by simp[y97 h l i]
theorem y98{α β:Type}{g:α->β}{a:α->α}(h:∀x,g (a x)=g x):∀(l:List α)(i:Nat),(l.modify i a).map g=l.map g
 | [],i=>by cases i <;> rfl
 | x :: l,0=>by simp[h]
 | x :: l,i+1=>by simp[y98 h l i]
theorem zwo{l:List (κ×Value)}{x:κ}{v:Value}(h:y0h l x=some v):∃i,l.findIdx? (λp=>decide (p.1=x))=some i/\l[i]?=some (x,v):=by
 have hi:=y0j l x
 rw[h] at hi
 obtain⟨i,h1,h2⟩:=Option.map_eq_some_iff.1 hi
 obtain⟨hlt,h3,_⟩:=List.findIdx?_eq_some_iff_getElem.1 h1
 refine⟨i,h1,?_⟩
 rw[List.getElem?_eq_getElem hlt] at h2 ⊢
 have e1:l[i].1=x:=by simpa using h3
 have e2:l[i].2=v:=by simpa using h2
 rw[← e1,← e2]
theorem zwn{l:List (κ×Value)}{x:κ}(h:y0h l x=none):l.findIdx? (λp=>decide (p.1=x))=none:=by
 have hi:=y0j l x
 rw[h] at hi
 simpa using hi
omit [DecidableEq κ] in
theorem zry{l:List (κ×Value)}(h:es.toList.map (λe=>(e.key,e.val))=l.map λp=>(fk p.1,p.2)){i:Nat}{p:κ×Value}(hp:l[i]?=some p):∃e,es[i]?=some e/\e.key=fk p.1/\e.val=p.2:=by
 have:=congrArg (λl=>l[i]?) h
 simp only[List.getElem?_map,hp,Option.map_some] at this
 obtain⟨e,he,h2⟩:=Option.map_eq_some_iff.1 this
 exact⟨e,by rw[← Array.getElem?_toList];exact he,(Prod.mk.inj h2).1,(Prod.mk.inj h2).2⟩

theorem KL.putF(K:KL P k fk)(ht:P.underlying t=some (.map k e))(h:z17 fk H b f es n) :
  z1n P (yvt (Instr.mapUpdate t (.map (some b)) (fk x) v)) H λ_ H'=>∃es' n',H'=H.put b (.map es' n')/\z17 fk H' b (x72 f x v) es' n':=by
 obtain⟨kvs,h1,h2,h3⟩:=h.ks
 intro w hv
 have hf:=K.find w x es.toList kvs h1
 cases hx:y0h kvs x with
 | none =>
  rw[zwn hx] at hf
  refine⟨undef,_,_,.inr ⟨?_,rfl⟩,x5z hv (b:=b) (o:=.map (es.push ⟨fk x,v,n⟩) (n+1)) (by rw[h.blk];simp),_,_,rfl,Hp.put_same _ _ _,⟨kvs++[(x,v)],by simp[h1],?_,λy=>?_⟩,?_,?_⟩
  ·simp[yvt,Instr.mapUpdate,run_underlying ht,MapKept.run_getObj_map (hv b _ h.blk),K.check w x,hf,Result.andThen,MapKept.run_setObj_map _ (hv b _ h.blk)]
  ·rw[List.map_append,List.nodup_append]
   refine⟨h2,by simp,λa ha c hc e=>?_⟩
   rw[List.map_singleton,List.mem_singleton] at hc
   subst hc
   subst e
   exact y0m.1 hx ha
  ·rw[y0o hx];unfold x72;rw[h3]
  ·intro e he
   rw[Array.toList_push,List.mem_append,List.mem_singleton] at he
   rcases he with he|rfl
   ·have:=h.old e he;omega
   ·show n<n+1;omega
  ·rw[Array.toList_push,List.map_append,List.nodup_append]
   refine⟨h.uniq,by simp,λa ha c hc e=>?_⟩
   rw[List.map_singleton,List.mem_singleton] at hc
   obtain⟨m,hm,e1⟩:=List.mem_map.1 ha
   have:=h.old m hm
   subst hc
   omega
 | some v0 =>
  obtain⟨i,hi,hp⟩:=zwo hx
  obtain⟨e0,he0,hk0,hv0⟩:=zry h1 hp
  rw[hi] at hf
  have hst:((es[i]?).map (·.key)).getD (fk x)=fk x:=by rw[he0];exact hk0
  refine⟨undef,_,_,.inr ⟨?_,rfl⟩,x5z hv (b:=b) (o:=.map (es.modify i λe=>{ e with key:=fk x,val:=v }) n) (by rw[h.blk];simp),_,_,rfl,Hp.put_same _ _ _,⟨kvs.modify i λp=>(p.1,v),?_,?_,λy=>?_⟩,?_,?_⟩
  ·simp[yvt,Instr.mapUpdate,run_underlying ht,MapKept.run_getObj_map (hv b _ h.blk),K.check w x,hf,Result.andThen,MapKept.run_setObj_map _ (hv b _ h.blk),hst,K.stays w x]
  ·rw[Array.toList_modify,y97 (g:=λe:MapEntry=>(e.key,e.val)) (c:=λ_=>(fk x,v)) (λ_=>rfl),h1]
   apply List.ext_getElem?
   intro j
   rw[List.getElem?_modify,List.getElem?_map,List.getElem?_map,List.getElem?_modify]
   by_cases hj:i=j
   ·subst hj;rw[hp];simp
   ·simp[hj]
  ·rw[y98 (g:=λp:κ×Value=>p.1) (a:=λp=>(p.1,v)) (λ_=>rfl)];exact h2
  ·rw[y0n h2 (by rw[hp];rfl)];unfold x72;rw[h3]
  ·intro e he
   rw[Array.toList_modify] at he
   obtain⟨j,hj,rfl⟩:=List.mem_iff_getElem.1 he
   rw[List.getElem_modify]
   have hj':j<es.toList.length:=by simpa using hj
   have:=h.old _ (List.getElem_mem hj')
   split <;> exact this
  ·rw[Array.toList_modify,y98 (g:=λe:MapEntry=>e.born) (a:=λe=>{ e with key:=fk x,val:=v }) (λ_=>rfl)];exact h.uniq

/-! ### A range over a map -/

theorem Tr.drewN{w w':World}{H H':Hp}(h:Tr w H w' H')(hw:∃w1:World,w1.heap=w'.heap/\w1.os=w'.os/\w1.tape=w'.tape/\w1.output=w'.output/\w1.drawn<=w'.drawn/\Tr w H w1 H'):Tr w H w' H':=h

theorem z17.entry(h:z17 fk H b f es n){m:MapEntry}(hm:m∈es.toList):∃x,m.key=fk x/\f x=some m.val:=by
 obtain⟨kvs,h1,h2,h3⟩:=h.ks
 obtain⟨i,hi⟩:=List.mem_iff_getElem?.1 hm
 have:=congrArg (λl=>l[i]?) h1
 simp only[List.getElem?_map,hi,Option.map_some] at this
 obtain⟨p,hp,e⟩:=Option.map_eq_some_iff.1 this.symm
 refine⟨p.1,(Prod.mk.inj e).1.symm,?_⟩
 rw[← h3,← (Prod.mk.inj e).2]
 clear h1 h3 hi this e
 induction kvs generalizing i with
 | nil=>simp at hp
 | cons q l ih =>
  obtain⟨g1,g2⟩:=List.nodup_cons.1 (show (q.1 :: l.map (·.1)).Nodup from h2)
  rw[y0i]
  cases i with
  | zero=>simp at hp;subst hp;rw[if_pos rfl]
  | succ i =>
   have hp:l[i]?=some p:=by simpa using hp
   rw[if_neg λe=>g1 (by rw[e];exact List.mem_map.2 ⟨p,List.mem_of_getElem? hp,rfl⟩)]
   exact ih g2 i hp
end
end Go.Eng
end
section
/- The log of meetings,in plain Lean: its check,its times,who is in the most,how it is played. Conditions: none. -/
namespace Go.Eng

abbrev Mg:=(Int×Int)×Int×Int
def zMg:Mg:=((0,0),0,0)
def y15(x:Mg):Prop:=okR x.1/\0<=x.2.1/\x.2.1<x.2.2/\x.2.2<=65535
instance (x:Mg):Decidable (y15 x):=inferInstanceAs (Decidable (_/\_))
def z9j(a b:Mg):Bool:=if znm a.1 b.1=0 then decide (a.2.1<b.2.1\/(a.2.1=b.2.1/\a.2.2<b.2.2)) else decide (znm a.1 b.1<0)
def x1z(m:List Mg)(k:Nat):Prop:=(0<k->z9j (m.getD (k-1) zMg) (m.getD k zMg)=true)/\∀j,j<k->(m.getD j zMg).2≠(m.getD k zMg).2
instance (m:List Mg) (k:Nat):Decidable (x1z m k):=inferInstanceAs (Decidable (_/\_))
/-! ### Order -/
/-! ### The meetings of a point -/
/-! ### Times -/
/-! ### Who is in the most meetings -/
/-! ### A log,played -/
def yin(o:List Int):Prop:=(∀x∈o,0<=x/\x<=65535)/\o.Nodup
instance (o:List Int):Decidable (yin o):=inferInstanceAs (Decidable (_/\_))
def sortG(left:List Mg):Prop:=(∀x∈left,y15 x)/\left.Pairwise λa b=>znm a.1 b.1<=0
theorem sortG.erase{left:List Mg}(h:sortG left)(i:Nat):sortG (left.eraseIdx i):=⟨λx hx=>h.1 x (List.mem_of_mem_eraseIdx hx),h.2.sublist (List.eraseIdx_sublist _ _)⟩
end Go.Eng
end
section
/- A log of meetings that is played on an order gives the order after it,in plain words. Conditions: none. -/
set_option maxRecDepth 100000
open Go Go.Eng Go.Proofs
namespace Go.Proofs.YtnhdkkblehadjabGreat

/-! ### When two points change places -/
/-! ### The meetings between two times -/
theorem yat{p:Pt}{ps:List Pt}{m:Mt}:m∈ybb p ps↔∃q∈ps,p.2.2≠q.2.2/\m=(atP p q,p.1,q.1):=by
 unfold ybb
 rw[List.mem_filterMap]
 constructor
 ·rintro⟨q,hq,e⟩
  by_cases h:p.2.2=q.2.2
  ·rw[if_pos h] at e;cases e
  ·rw[if_neg h] at e;exact⟨q,hq,h,(Option.some.inj e).symm⟩
 ·rintro⟨q,hq,hne,rfl⟩
  exact⟨q,hq,if_neg hne⟩
theorem yas:∀{f:List Pt},(f.map (·.1)).Pairwise (·<·)->∀{m:Mt},m∈yb1 f↔∃p∈f,∃q∈f,p.1<q.1/\p.2.2≠q.2.2/\m=(atP p q,p.1,q.1)
 | [],_,m=>by simp[yb1]
 | x :: f,h,m=>by
  rw[List.map_cons,List.pairwise_cons] at h
  obtain⟨h1,h2⟩:=h
  have lt:∀q∈f,x.1<q.1:=λq hq=>h1 _ (List.mem_map_of_mem hq)
  have ih:=yas (f:=f) h2 (m:=m)
  show m∈ybb x f++yb1 f↔_
  rw[List.mem_append,yat,ih]
  constructor
  ·rintro(⟨q,hq,e⟩|⟨p,hp,q,hq,e⟩)
   ·exact⟨x,List.mem_cons_self,q,List.mem_cons_of_mem _ hq,lt q hq,e⟩
   ·exact⟨p,List.mem_cons_of_mem _ hp,q,List.mem_cons_of_mem _ hq,e⟩
  ·rintro⟨p,hp,q,hq,hl,e⟩
   rcases List.mem_cons.1 hp with rfl|hp'
   ·rcases List.mem_cons.1 hq with rfl|hq'
    ·omega
    ·exact .inl ⟨q,hq',e⟩
   ·rcases List.mem_cons.1 hq with rfl|hq'
    ·have:=lt p hp';omega
    ·exact .inr ⟨p,hp',q,hq',hl,e⟩
theorem z8o{f:List Pt}(of:okF f){p q:Pt}(hp:p∈f)(hq:q∈f)(hl:p.1<q.1)(hne:p.2.2≠q.2.2):okR (atP p q) :=
 yb5 f of.each _ ((yas of.inc).2 ⟨p,hp,q,hq,hl,hne,rfl⟩)
/-! ### The log,played -/
theorem yv8{f:List Pt}(of:okF f){p q:Pt}(hp:p∈f)(hq:q∈f)(h:p.1=q.1):p=q:=by
 rw[← zz5 of hp,← zz5 of hq,h]
section
variable {f:List Pt} {a b:Int×Int} {l:List Int} {left:List Mg}
end

def x2e(R:Pt->Pt->Bool)(g f:List Pt):Nat:=(g.map λp=>f.countP (R p)).sum
theorem x2f(R:Pt->Pt->Bool)(x:Pt)(f:List Pt):∀g:List Pt,x2e R g (x :: f)=x2e R g f+g.countP λp=>R p x
 | []=>rfl
 | p :: g=>by
  have ih:=x2f R x f g
  unfold x2e at ih ⊢
  rw[List.map_cons,List.map_cons,List.sum_cons,List.sum_cons,ih,List.countP_cons,List.countP_cons]
  omega
theorem zpp{p q:Pt->Bool}:∀{f:List Pt},(∀x∈f,¬ (p x=true/\q x=true))->f.countP (λx=>p x||q x)=f.countP p+f.countP q
 | [],_=>rfl
 | x :: f,h=>by
  rw[List.countP_cons,List.countP_cons,List.countP_cons,zpp λy hy=>h y (List.mem_cons_of_mem _ hy)]
  have:=h x List.mem_cons_self
  cases h1:p x <;> cases h2:q x <;> simp_all <;> omega
theorem x2l{R:Pt->Pt->Bool}(h0:∀x,R x x=false)(h1:∀x y,¬ (R x y=true/\R y x=true)):∀f:List Pt,x2e R f f=yk6 (λp q=>R p q||R q p) f
 | []=>rfl
 | x :: f=>by
  have ih:=x2l h0 h1 f
  show ((x :: f).map λp=>(x :: f).countP (R p)).sum=f.countP (λq=>R x q||R q x)+yk6 _ f
  rw[List.map_cons,List.sum_cons,List.countP_cons_of_neg (by rw[h0];simp),zpp λy _=>h1 x y,← ih]
  have:=x2f R x f f
  unfold x2e at this ⊢
  rw[this];omega
def ctR(a b:Int×Int)(p q:Pt):Bool:=decide (q.2.2<p.2.2)&&inT a b (atP p q)
def wsR(a b:Int×Int)(p q:Pt):Bool:=decide (p.2.2<q.2.2)&&inT a b (atP p q)
theorem x2j{R:Int->Int->Bool}(h0:∀x,R x x=false)(h1:∀x y,x≠y->(R x y = !R y x))(f:List Pt)(a b:Int×Int):x2e (λp q=>R p.2.2 q.2.2&&inT a b (atP p q)) f f=(zae f a b).length:=by
 have ex:∀x y:Pt,¬ ((R x.2.2 y.2.2&&inT a b (atP x y))=true/\(R y.2.2 x.2.2&&inT a b (atP y x))=true):=λx y ⟨u,v⟩=>by
  rw[Bool.and_eq_true] at u v
  by_cases h:x.2.2=y.2.2
  ·rw[h,h0] at u;cases u.1
  ·have e:=h1 _ _ h
   rw[u.1,v.1] at e;cases e
 rw[x2l (λx=>by rw[h0];rfl) ex,zaf,yb2 (inT a b)]
 refine yk7 (List.pairwise_of_forall λp q=>?_)
 by_cases h:p.2.2=q.2.2
 ·rw[h,h0,decide_eq_true rfl];rfl
 ·rw[decide_eq_false h,← z8q h,h1 _ _ h]
  cases R q.2.2 p.2.2 <;> simp
theorem zcg(f:List Pt)(a b:Int×Int):x2e (ctR a b) f f=(zae f a b).length :=
 x2j (R:=λx y=>decide (y<x)) (λx=>by simp) (λx y h=>by
  by_cases h1:y<x
  ·rw[decide_eq_true h1,decide_eq_false (by omega)];rfl
  ·rw[decide_eq_false h1,decide_eq_true (by omega)];rfl) f a b
theorem x7w(f:List Pt)(a b:Int×Int):x2e (wsR a b) f f=(zae f a b).length :=
 x2j (R:=λx y=>decide (x<y)) (λx=>by simp) (λx y h=>by
  by_cases h1:x<y
  ·rw[decide_eq_true h1,decide_eq_false (by omega)];rfl
  ·rw[decide_eq_false h1,decide_eq_true (by omega)];rfl) f a b
theorem x2g(R:Pt->Pt->Bool)(f:List Pt){g:List Pt}{n:Nat}{p:Pt}(h:g[n]?=some p):x2e R (g.take (n+1)) f=x2e R (g.take n) f+f.countP (R p):=by
 unfold x2e
 rw[List.take_add_one,h]
 simp

theorem yof{o:List Int}(hd:o.Pairwise (·≠·)){k:Nat}(h:k<o.length):yo8 o (o.getD k 0)=k :=
 yo9 hd (by rw[List.getD_eq_getElem?_getD,List.getElem?_eq_getElem h];rfl)
theorem yc2{o:List Int}(hd:o.Pairwise (·≠·)):∀k:Nat,k<o.length->mnO o o (k+1)=0/\mxO o o (k+1)=k
 | 0,h=>by
  have p:=yof hd h
  have e1:mnO o o 1=if yo8 o (o.getD 0 0)<(o.length:Int) then yo8 o (o.getD 0 0) else o.length:=rfl
  have e2:mxO o o 1=if yo8 o (o.getD 0 0)>(-1:Int) then yo8 o (o.getD 0 0) else -1:=rfl
  rw[e1,e2,p,if_pos (by omega),if_pos (by omega)]
  exact⟨rfl,rfl⟩
 | k+1,h=>by
  obtain⟨i1,i2⟩:=yc2 hd k (by omega)
  have p:=yof hd h
  have e1:mnO o o (k+2)=if yo8 o (o.getD (k+1) 0)<mnO o o (k+1) then yo8 o (o.getD (k+1) 0) else mnO o o (k+1):=rfl
  have e2:mxO o o (k+2)=if yo8 o (o.getD (k+1) 0)>mxO o o (k+1) then yo8 o (o.getD (k+1) 0) else mxO o o (k+1):=rfl
  rw[e1,e2,p,i1,i2,if_neg (by omega),if_pos (by omega)]
  exact⟨rfl,rfl⟩
structure z08(l:Ls)(f:List Pt)(t:Int×Int):Prop where
 ok:yh6 l
 fe:l.ck.f=f
 now:l.ck.now=t
 a:z85 t
section
variable {l:Ls} {f:List Pt} {t:Int×Int}
theorem z08.of(A:z08 l f t):okF f:=by rw[← A.fe];exact A.ok.ck.f
theorem z08.told(A:z08 l f t):z2i f t:=z8a A.of A.a
theorem z08.ord(A:z08 l f t):l.ord=yis f t:=by rw[A.ok.ord,A.fe,A.now]
theorem z08.len(A:z08 l f t):l.ord.length=f.length:=by rw[A.ord,yiv]
theorem z08.pl(A:z08 l f t){k:Nat}(hk:k<f.length):plM l (l.ord.getD k 0)=((spot f t k).1,0):=by
 unfold plM
 rw[A.ord,A.fe,A.now,yuy hk,yur A.of hk]
 have:=A.told.T k hk
 unfold spot at this ⊢
 exact Prod.ext rfl this
theorem z08.pls(A:z08 l f t):∀n,n<=f.length->(ymj l n).2=0
 | 0,_=>rfl
 | n+1,h=>by
  have:=A.pl (k:=n) (by omega)
  rw[ymr (A.pls n (by omega)) (by rw[this])]
theorem z08.plz(A:z08 l f t):(ymh l).2=0:=by
 have:ymh l=ymj l l.ord.length:=if_pos A.ok
 rw[this];exact A.pls _ (by rw[A.len];omega)
theorem z08.xs(A:z08 l f t){k:Nat}(hk:k<f.length):(xsM l)[k]?=some (spot f t k).1:=by
 have:=((ymk (l:=l) l.ord.length (A.pls _ (by rw[A.len];omega))).2 k (by rw[A.len];exact hk)).1
 rw[A.pl hk] at this
 exact this
theorem z08.hull(A:z08 l f t)(h0:0<f.length):y35 l l.ord=((spot f t (f.length-1)).1,(spot f t 0).1,0):=by
 have hl:=A.len
 have ne:=A.ok.ne
 have m:=yc2 ne (l.ord.length-1) (by omega)
 rw[show l.ord.length-1+1=l.ord.length by omega] at m
 have l64:=A.of.len
 rw[y3a A.plz (by omega) (by omega) (z64 λk hk=>by rw[yof ne hk];omega),m.1,m.2]
 have x0:=A.xs h0
 have x1:=A.xs (k:=f.length-1) (by omega)
 rw[hl,Int.toNat_natCast,List.getD_eq_getElem?_getD,x1,show (0:Int).toNat=0 from rfl,List.getD_eq_getElem?_getD,x0]
 rfl
theorem z08.spots(A:z08 l f t){k:Nat}(hk:k<f.length):okR (spot f t k).1:=(x0z A.of A.told.ot hk (A.told.T k hk)).choose_spec.2.2.2
theorem z08.down(A:z08 l f t)(h0:0<f.length):¬ 0<znm (spot f t (f.length-1)).1 (spot f t 0).1:=by
 obtain⟨_,_,_,xl,D⟩:=yms A.plz
 rw[D.up (A.spots h0) (A.xs (k:=f.length-1) (by omega))]
 have:=D.up (A.spots h0) (A.xs h0)
 have e:znm (spot f t 0).1 (spot f t 0).1=0:=znp.2 rfl
 rw[e] at this
 omega
theorem z08.count(A:z08 l f t)(h0:0<f.length):z7i l (spot f t (f.length-1)).1 (spot f t 0).1=0/\zog l (spot f t (f.length-1)).1 (spot f t 0).1=f.length:=by
 obtain⟨_,pz,_,xl,D⟩:=yms A.plz
 have o0:=A.spots h0
 have o1:=A.spots (k:=f.length-1) (by omega)
 have e:z7i l (spot f t (f.length-1)).1 (spot f t 0).1=0:=z7k.2 ⟨A.ok,o1,o0,A.down h0,pz⟩
 refine⟨e,?_⟩
 unfold zog
 rw[y3u e,y3q e]
 have u:=D.up o0 (A.xs h0)
 have l1:=D.lo o1 (A.xs (k:=f.length-1) (by omega))
 have c0:∀x:Int×Int,znm x x=0:=λx=>znp.2 rfl
 rw[c0] at u l1
 have:=y87 (xsM l) (spot f t (f.length-1)).1
 have hl:=A.len
 omega
end
end Go.Proofs.YtnhdkkblehadjabGreat
end
