/- The engine, parts UQ, MX, put together. Conditions: none. -/
import Derived.Test.YtlbdpklikfddlaaGreatUP
import Derived.Laws.IdiomRangeMap
import Derived.Test.YtlbdpklikfddlaaGreatE5
set_option linter.unusedVariables false
section
/- Maps whose entries bear stamps: entries counted up, and all of them gone over. Conditions: none. -/
namespace Go.Eng

def updM {κ:Type} [DecidableEq κ] (f:κ→Option Value) (x:κ) (v:Value):κ→Option Value:=fun y=>if y=x then some v else f y

structure MapF {κ:Type} [DecidableEq κ] (fk:κ→Value) (H:Hp) (b:Nat) (f:κ→Option Value) (es:Array MapEntry) (n:Nat):Prop where
 blk:H b=some (.map es n)
 ks:∃ kvs:List (κ × Value),es.toList.map (fun e=>(e.key,e.val))=kvs.map (fun p=>(fk p.1,p.2))∧(kvs.map (·.1)).Nodup∧∀ x,getM kvs x=f x
 old:∀ e∈es.toList,e.born<n
 uniq:(es.toList.map (·.born)).Nodup

section
variable {κ:Type} [DecidableEq κ] {P:Program} {k e t:TypeId} {fk:κ→Value} {H H':Hp} {b:Nat} {f:κ→Option Value} {es:Array MapEntry} {n:Nat} {x:κ} {v z:Value}

theorem MapF.new (h:H'=H.put b (.map #[] 0)):MapF fk H' b (fun _=>none) #[] 0:=by
 subst h; exact ⟨Hp.put_same _ _ _,⟨[],rfl,List.Pairwise.nil,fun _=>rfl⟩,fun _ h=>absurd h (by simp),List.Pairwise.nil⟩
theorem MapF.le (h:MapF fk H b f es n) (hl:Hp.le H H'):MapF fk H' b f es n:=⟨hl _ _ h.blk,h.ks,h.old,h.uniq⟩
theorem MapF.at (h:MapF fk H b f es n) (he:H' b=H b):MapF fk H' b f es n:=⟨he.trans h.blk,h.ks,h.old,h.uniq⟩
theorem MapF.chg {u:Slc} (h:MapF fk H b f es n) (hc:Chg H H' u) (hn:∀ p,u.a=some p→p.block≠b):MapF fk H' b f es n :=
 h.at (hc b (by rw [h.blk]; simp) hn)
theorem MapF.rd (h:MapF fk H b f es n):∃ kvs:List (κ × Value),MapR fk H b kvs∧(kvs.map (·.1)).Nodup∧∀ x,getM kvs x=f x:=by
 obtain ⟨kvs,h1,h2,h3⟩:=h.ks
 exact ⟨kvs,⟨es,n,h.blk,h1⟩,h2,h3⟩
theorem MapF.ext (h:MapF fk H b f es n) {g:κ→Option Value} (hg:∀ x,g x=f x):MapF fk H b g es n:=by
 obtain ⟨kvs,h1,h2,h3⟩:=h.ks
 exact ⟨h.blk,⟨kvs,h1,h2,fun x=>(h3 x).trans (hg x).symm⟩,h.old,h.uniq⟩

theorem KL.lookF (K:KL P k fk) (ht:P.underlying t=some (.map k e)) (hzz:(P.info? e).bind (fun i=>i.zero)=some z) (h:MapF fk H b f es n) :
  OpQ P (semV (Instr.lookup t (.map (some b)) (fk x) false)) H ((f x).getD z):=by
 obtain ⟨kvs,h1,_,h3⟩:=h.rd
 rw [← h3]; exact K.look ht hzz h1
theorem KL.lookOkF (K:KL P k fk) (ht:P.underlying t=some (.map k e)) (hzz:(P.info? e).bind (fun i=>i.zero)=some z) (h:MapF fk H b f es n) :
  OpQ P (semV (Instr.lookup t (.map (some b)) (fk x) true)) H (.tuple #[(f x).getD z,.bool (f x).isSome]):=by
 obtain ⟨kvs,h1,_,h3⟩:=h.rd
 rw [← h3]; exact K.lookOk ht hzz h1

theorem getM_nil (y:κ):getM ([]:List (κ × Value)) y=none:=rfl
theorem getM_cons (p:κ × Value) (l:List (κ × Value)) (y:κ):getM (p :: l) y=if p.1=y then some p.2 else getM l y:=by
 unfold getM
 rw [List.find?_cons]
 by_cases h:p.1=y <;> simp [h]
theorem getM_none:∀ {l:List (κ × Value)} {y:κ},getM l y=none↔y∉l.map (·.1)
 | [],y=>by simp [getM_nil]
 | p :: l,y=>by
  rw [getM_cons,List.map_cons,List.mem_cons]
  by_cases h:p.1=y
  ·simp [h]
  ·rw [if_neg h,getM_none (l:=l)]
   constructor
   ·intro hn hm
    rcases hm with hm | hm
    ·exact h hm.symm
    ·exact hn hm
   ·exact fun hn hm=>hn (.inr hm)
theorem getM_snoc:∀ {l:List (κ × Value)} {x:κ} {v:Value},getM l x=none→∀ y,getM (l++[(x,v)]) y=updM (getM l) x v y
 | [],x,v,_,y=>by
  unfold updM
  rw [List.nil_append,getM_cons]
  by_cases h:x=y
  ·simp [h]
  ·rw [if_neg h,if_neg fun e=>h e.symm]
 | p :: l,x,v,hn,y=>by
  rw [getM_cons] at hn
  have hp:¬ p.1=x:=fun e=>by rw [if_pos e] at hn; cases hn
  rw [if_neg hp] at hn
  rw [List.cons_append,getM_cons,getM_snoc hn]
  unfold updM
  by_cases h:y=x
  ·subst h; rw [if_neg hp,if_pos rfl,if_pos rfl]
  ·rw [if_neg h,if_neg h,getM_cons]
theorem getM_set:∀ {l:List (κ × Value)} {i:Nat} {x:κ} {v:Value},(l.map (·.1)).Nodup→l[i]?.map (·.1)=some x→∀ y,getM (l.modify i fun p=>(p.1,v)) y=updM (getM l) x v y
 | [],i,x,v,_,h,y=>by simp at h
 | p :: l,0,x,v,hd,h,y=>by
  have h:p.1=x:=by simpa using h
  subst h
  rw [List.modify_zero_cons,getM_cons]
  unfold updM
  rw [getM_cons]
  by_cases e:p.1=y
  ·subst e; simp
  ·rw [if_neg e,if_neg e,if_neg fun h=>e h.symm]
 | p :: l,i+1,x,v,hd,h,y=>by
  obtain ⟨h1,h2⟩:=List.nodup_cons.1 (show (p.1 :: l.map (·.1)).Nodup from hd)
  have h:l[i]?.map (·.1)=some x:=by simpa using h
  have hx:p.1≠x:=fun e=>h1 (by
   obtain ⟨q,hq,e2⟩:=Option.map_eq_some_iff.1 h
   exact List.mem_map.2 ⟨q,List.mem_of_getElem? hq,e2.trans e.symm⟩)
  rw [List.modify_succ_cons,getM_cons,getM_set h2 h]
  unfold updM
  rw [getM_cons]
  by_cases e:p.1=y
  ·subst e; rw [if_pos rfl,if_neg hx,if_pos rfl]
  ·rw [if_neg e,if_neg e]
theorem map_modify {α β:Type} {g:α→β} {a:α→α} {c:β→β} (h:∀ x,g (a x)=c (g x)):∀ (l:List α) (i:Nat),(l.modify i a).map g=(l.map g).modify i c
 | [],i=>by cases i <;> rfl
 | x :: l,0=>by simp [h]
 | x :: l,i+1=>by simp [map_modify h l i]
theorem map_modify_same {α β:Type} {g:α→β} {a:α→α} (h:∀ x,g (a x)=g x):∀ (l:List α) (i:Nat),(l.modify i a).map g=l.map g
 | [],i=>by cases i <;> rfl
 | x :: l,0=>by simp [h]
 | x :: l,i+1=>by simp [map_modify_same h l i]
theorem find_some {l:List (κ × Value)} {x:κ} {v:Value} (h:getM l x=some v):∃ i,l.findIdx? (fun p=>decide (p.1=x))=some i∧l[i]?=some (x,v):=by
 have hi:=getM_idx l x
 rw [h] at hi
 obtain ⟨i,h1,h2⟩:=Option.map_eq_some_iff.1 hi
 obtain ⟨hlt,h3,_⟩:=List.findIdx?_eq_some_iff_getElem.1 h1
 refine ⟨i,h1,?_⟩
 rw [List.getElem?_eq_getElem hlt] at h2 ⊢
 have e1:l[i].1=x:=by simpa using h3
 have e2:l[i].2=v:=by simpa using h2
 rw [← e1,← e2]
theorem find_none {l:List (κ × Value)} {x:κ} (h:getM l x=none):l.findIdx? (fun p=>decide (p.1=x))=none:=by
 have hi:=getM_idx l x
 rw [h] at hi
 simpa using hi
omit [DecidableEq κ] in
theorem entry_at {l:List (κ × Value)} (h:es.toList.map (fun e=>(e.key,e.val))=l.map fun p=>(fk p.1,p.2)) {i:Nat} {p:κ × Value} (hp:l[i]?=some p):∃ e,es[i]?=some e∧e.key=fk p.1∧e.val=p.2:=by
 have:=congrArg (fun l=>l[i]?) h
 simp only [List.getElem?_map,hp,Option.map_some] at this
 obtain ⟨e,he,h2⟩:=Option.map_eq_some_iff.1 this
 exact ⟨e,by rw [← Array.getElem?_toList]; exact he,(Prod.mk.inj h2).1,(Prod.mk.inj h2).2⟩

theorem KL.putF (K:KL P k fk) (ht:P.underlying t=some (.map k e)) (h:MapF fk H b f es n) :
  OpSem P (semU (Instr.mapUpdate t (.map (some b)) (fk x) v)) H fun _ H'=>∃ es' n',H'=H.put b (.map es' n')∧MapF fk H' b (updM f x v) es' n':=by
 obtain ⟨kvs,h1,h2,h3⟩:=h.ks
 intro w hv
 have hf:=K.find w x es.toList kvs h1
 cases hx:getM kvs x with
 | none =>
  rw [find_none hx] at hf
  refine ⟨undef,_,_,.inr ⟨?_,rfl⟩,tr_setObj hv (b:=b) (o:=.map (es.push ⟨fk x,v,n⟩) (n+1)) (by rw [h.blk]; simp),_,_,rfl,Hp.put_same _ _ _,⟨kvs++[(x,v)],by simp [h1],?_,fun y=>?_⟩,?_,?_⟩
  ·simp [semU,Instr.mapUpdate,run_underlying ht,MapKept.run_getObj_map (hv b _ h.blk),K.check w x,hf,Result.andThen,MapKept.run_setObj_map _ (hv b _ h.blk)]
  ·rw [List.map_append,List.nodup_append]
   refine ⟨h2,by simp,fun a ha c hc e=>?_⟩
   rw [List.map_singleton,List.mem_singleton] at hc
   subst hc
   subst e
   exact getM_none.1 hx ha
  ·rw [getM_snoc hx]; unfold updM; rw [h3]
  ·intro e he
   rw [Array.toList_push,List.mem_append,List.mem_singleton] at he
   rcases he with he | rfl
   ·have:=h.old e he; omega
   ·show n<n+1; omega
  ·rw [Array.toList_push,List.map_append,List.nodup_append]
   refine ⟨h.uniq,by simp,fun a ha c hc e=>?_⟩
   rw [List.map_singleton,List.mem_singleton] at hc
   obtain ⟨m,hm,e1⟩:=List.mem_map.1 ha
   have:=h.old m hm
   subst hc
   omega
 | some v0 =>
  obtain ⟨i,hi,hp⟩:=find_some hx
  obtain ⟨e0,he0,hk0,hv0⟩:=entry_at h1 hp
  rw [hi] at hf
  have hst:((es[i]?).map (·.key)).getD (fk x)=fk x:=by rw [he0]; exact hk0
  refine ⟨undef,_,_,.inr ⟨?_,rfl⟩,tr_setObj hv (b:=b) (o:=.map (es.modify i fun e=>{ e with key:=fk x,val:=v }) n) (by rw [h.blk]; simp),_,_,rfl,Hp.put_same _ _ _,⟨kvs.modify i fun p=>(p.1,v),?_,?_,fun y=>?_⟩,?_,?_⟩
  ·simp [semU,Instr.mapUpdate,run_underlying ht,MapKept.run_getObj_map (hv b _ h.blk),K.check w x,hf,Result.andThen,MapKept.run_setObj_map _ (hv b _ h.blk),hst,K.stays w x]
  ·rw [Array.toList_modify,map_modify (g:=fun e:MapEntry=>(e.key,e.val)) (c:=fun _=>(fk x,v)) (fun _=>rfl),h1]
   apply List.ext_getElem?
   intro j
   rw [List.getElem?_modify,List.getElem?_map,List.getElem?_map,List.getElem?_modify]
   by_cases hj:i=j
   ·subst hj; rw [hp]; simp
   ·simp [hj]
  ·rw [map_modify_same (g:=fun p:κ × Value=>p.1) (a:=fun p=>(p.1,v)) (fun _=>rfl)]; exact h2
  ·rw [getM_set h2 (by rw [hp]; rfl)]; unfold updM; rw [h3]
  ·intro e he
   rw [Array.toList_modify] at he
   obtain ⟨j,hj,rfl⟩:=List.mem_iff_getElem.1 he
   rw [List.getElem_modify]
   have hj':j<es.toList.length:=by simpa using hj
   have:=h.old _ (List.getElem_mem hj')
   split <;> exact this
  ·rw [Array.toList_modify,map_modify_same (g:=fun e:MapEntry=>e.born) (a:=fun e=>{ e with key:=fk x,val:=v }) (fun _=>rfl)]; exact h.uniq

theorem KL.arr2 {P:Program} {k t:TypeId} (hk:P.underlying k=some (.array 2 t)) (ht:P.underlying t=some (.int .i64)) (hs:P.cellsOf t=1):KL P k (fun x:Int × Int=>Value.agg #[.int .i64 x.1,.int .i64 x.2]):=by
 have hpart:∀ (cs:Array Value) (i:Nat) (v:Value) (w:World),cs[i]?=some v→(part t cs i).run P w=.ok v w:=fun cs i v w h=>by
  exact run_part (x:=.int .i64) (by unfold partV aggT; rw [ht]; exact h) ht w
 have hsz:∀ w,(sizeOf t).run P w=.ok 1 w:=fun w=>by rw [run_sizeOf (x:=.int .i64) ht,hs]
 refine ⟨fun w x es kvs h=>?_,fun w x em=>?_,fun w x=>?_⟩
 ·rw [Instr.findKey,Sem.run_bind,run_underlying hk,Result.andThen_ok]
  have heq:∀ (x y:Int × Int) (w:World),(Op.equal k (.agg #[.int .i64 x.1,.int .i64 x.2]) (.agg #[.int .i64 y.1,.int .i64 y.2])).run P w=.ok (decide (x=y)) w:=fun x y w=>by
   have he:∀ (a b:Int),(Op.equalIn 9999 t (.int .i64 a) (.int .i64 b)).run P w=.ok (a==b) w:=fun a b=>by
    show (Op.equalIn (9998+1) t _ _).run P w=_
    unfold Op.equalIn
    rw [Sem.run_bind,run_underlying ht,Result.andThen_ok]
    simp
   show (Op.equalIn (9999+1) k _ _).run P w=_
   unfold Op.equalIn
   rw [Sem.run_bind,run_underlying hk,Result.andThen_ok]
   have hd:decide (x=y)=(x.1==y.1&&x.2==y.2):=by
    rw [Bool.eq_iff_iff,decide_eq_true_eq,Bool.and_eq_true,beq_iff_eq,beq_iff_eq]
    exact ⟨fun h=>by rw [h]; exact ⟨rfl,rfl⟩,fun h=>Prod.ext h.1 h.2⟩
   rw [hd]
   have hr:List.range' 0 2=[0,1]:=rfl
   cases h1:x.1==y.1 <;> cases h2:x.2==y.2 <;> simp [hr,List.forIn_cons,hsz,hpart,he,h1,h2,Result.andThen]
  have key:=findAsk_at (P:=P) (k:=k) (fk:=fun x:Int × Int=>Value.agg #[.int .i64 x.1,.int .i64 x.2]) heq w x es kvs 0 h
  cases es with
  | nil =>
   cases kvs with
   | nil=>rfl
   | cons p kvs=>simp at h
  | cons e es =>
   simp only [Instr.findNow,Instr.sameNow]
   rw [key]
   simp
 ·show (Instr.checkKey em (9999+1) k _).run P w=_
  unfold Instr.checkKey
  rw [Sem.run_bind,run_underlying hk,Result.andThen_ok]
  have hc:∀ (n:Int),(Instr.checkKey em 9999 t (.int .i64 n)).run P w=.ok () w:=fun n=>MapKept.run_checkKey (n:=9998) ht (by rfl) em
  have hr:List.range' 0 2=[0,1]:=rfl
  simp [hr,List.forIn_cons,hsz,hpart,hc,Result.andThen]
 ·simp [Instr.keyThatStays,Instr.sameBits]

/-! ### A range over a map -/

theorem rangeF (ht:P.underlying t=some (.map k e)) (h:MapF fk H b f es n) {post:Value→Hp→Prop} (hp:∀ c H',H c=none→H'=H.put c (.mapIter (some b) n #[] n)→post (.pointer (some ⟨c,0,none⟩)) H') :
  OpSem P (semV (Instr.range t (.map (some b)))) H post:=by
 intro w hv
 obtain ⟨hn,tr⟩:=Tr.alloc hv (.mapIter (some b) n #[] n)
 refine ⟨_,_,_,.inl ?_,tr,hp _ _ hn rfl⟩
 have:=run_range_map (P:=P) w t k e b es n ht (hv b _ h.blk)
 simp [semV,this,Result.andThen]

theorem Tr.drewN {w w':World} {H H':Hp} (h:Tr w H w' H') (hw:∃ w1:World,w1.heap=w'.heap∧w1.os=w'.os∧w1.tape=w'.tape∧w1.output=w'.output∧w1.drawn≤w'.drawn∧Tr w H w1 H'):Tr w H w' H':=h

theorem nextF {c since last:Nat} {seen:Array Nat} {ty:TypeId} (h:MapF fk H b f es n) (hc:H c=some (.mapIter (some b) since seen last)) (hs:since=n) (hl:last=n) {post:Value→Hp→Prop}
  (h0:(leftOf es seen).size=0→post (.tuple #[.bool false]) H)
  (h1:∀ m∈(leftOf es seen).toList,∀ H',H'=H.put c (.mapIter (some b) n (seen.push m.born) n)→post (.tuple #[.bool true,m.key,m.val]) H') :
  OpSem P (semV (Instr.next (.pointer (some ⟨c,0,none⟩)) false ty)) H post:=by
 subst hs hl
 intro w hv
 have hb:=hv b _ h.blk
 have hcw:=hv c _ hc
 have hlt:=(Array.getElem?_eq_some_iff.1 hcw).1
 have htest:=next_test_false seen es last last h.old (Nat.le_refl _)
 have e1:(Array.filter (fun x=>decide (x.born<last)) (leftOf es seen))=leftOf es seen:=Array.filter_eq_self.2 fun x hx=>by
  have:=h.old x (mem_left (Array.mem_toList_iff.2 hx)).1
  simpa using this
 have e2:(Array.filter (fun x=>decide (x.born≥last)) (leftOf es seen))=#[]:=by
  rw [Array.filter_eq_empty_iff]
  intro x hx
  have:=h.old x (mem_left (Array.mem_toList_iff.2 hx)).1
  simp
  omega
 have hrun:∀ r:Result Value,(Instr.next (.pointer (some ⟨c,0,none⟩)) false ty).run P w=r→(semV (Instr.next (.pointer (some ⟨c,0,none⟩)) false ty)).run P w=r.andThen fun v w=>.ok (.value v) w:=fun r hr=>by
  simp only [semV,Sem.run_bind,hr]; rfl
 by_cases hz:(leftOf es seen).size=0
 ·refine ⟨_,w,H,.inl ?_,Tr.refl hv,h0 hz⟩
  rw [hrun _ rfl]
  have hem:leftOf es seen=#[]:=Array.eq_empty_of_size_eq_zero hz
  unfold leftOf at hem e1 e2
  simp only [Instr.next,getObj,Sem.run_bind,Sem.run,hcw,hb,Result.andThen,htest,Bool.false_eq_true,if_false,hem]
  simp [choose,Sem.run,Question.forced]
 ·have hne:(leftOf es seen).isEmpty=false:=by simp [Array.isEmpty,hz]
  have hch:∃ (j:Nat) (w1:World),j<(leftOf es seen).size∧(w1=w∨w1=w.drew)∧(choose (Question.mapNext (leftOf es seen).size)).run P w=.ok j w1:=by
   by_cases hf:(leftOf es seen).size≤1
   ·exact ⟨0,w,by omega,.inl rfl,by simp [choose,Sem.run,Question.forced,hf]⟩
   ·exact ⟨_,w.drew,Nat.mod_lt _ (by omega),.inr rfl,by
     simp only [choose,Sem.run,Question.forced,decide_eq_true_eq,hf,if_false,Question.cut]
     rfl⟩
  obtain ⟨j,w1,hj,hw1,hcr⟩:=hch
  have hmem:(leftOf es seen)[j]∈(leftOf es seen).toList:=by simp
  have hcw1:w1.heap[c]?=some (.mapIter (some b) last seen last):=by rcases hw1 with rfl | rfl <;> exact hcw
  have t1:Tr w H w1 H:=by
   rcases hw1 with rfl | rfl
   ·exact Tr.refl hv
   ·exact ⟨hv,fun _ _ _=>rfl,fun _ h=>.inl h,Nat.le_refl _,rfl,rfl,rfl,Nat.le_succ _⟩
  have t2:=tr_setObj t1.view (b:=c) (o:=.mapIter (some b) last (seen.push (leftOf es seen)[j].born) last) (by rw [hc]; simp)
  refine ⟨_,_,_,.inl ?_,t1.trans t2,h1 _ hmem _ rfl⟩
  rw [hrun _ rfl]
  have hset:(setObj c (.mapIter (some b) last (seen.push (leftOf es seen)[j].born) last)).run P w1=.ok () { w1 with heap:=w1.heap.setIfInBounds c (.mapIter (some b) last (seen.push (leftOf es seen)[j].born) last) }:=by
   simp only [setObj,Sem.run,hcw1]
  generalize hL:leftOf es seen=L at *
  unfold leftOf at hL
  simp only [Instr.next,getObj,Sem.run_bind,Sem.run,hcw,hb,Result.andThen,htest,Bool.false_eq_true,if_false,hL,e1,e2,Array.append_empty,hne,Array.empty_append,Array.size_map,hcr,Array.getElem?_map,Array.getElem?_eq_getElem hj,Option.map_some,hset]
  rfl

theorem entryF {c since last:Nat} {seen:Array Nat} {m:MapEntry} (h:MapF fk H b f es n) (hm:m∈es.toList) (hc:H c=some (.mapIter (some b) since (seen.push m.born) n)) {post:Value→Hp→Prop} (hp:post (.tuple #[m.key,m.val]) H) :
  OpSem P (semV (Instr.entry (.pointer (some ⟨c,0,none⟩)))) H post:=by
 intro w hv
 have hb:=hv b _ h.blk
 have hcw:=hv c _ hc
 have hf:es.find? (·.born==m.born)=some m:=by rw [← Array.find?_toList]; exact find_born m es.toList h.uniq hm
 refine ⟨_,w,H,.inl ?_,Tr.refl hv,hp⟩
 simp only [semV,Instr.entry,getObj,Sem.run_bind,Sem.run,hcw,hb,Result.andThen,Array.back?_push,bne_self_eq_false,Bool.false_eq_true,if_false,hf]
 rfl

theorem MapF.entry (h:MapF fk H b f es n) {m:MapEntry} (hm:m∈es.toList):∃ x,m.key=fk x∧f x=some m.val:=by
 obtain ⟨kvs,h1,h2,h3⟩:=h.ks
 obtain ⟨i,hi⟩:=List.mem_iff_getElem?.1 hm
 have:=congrArg (fun l=>l[i]?) h1
 simp only [List.getElem?_map,hi,Option.map_some] at this
 obtain ⟨p,hp,e⟩:=Option.map_eq_some_iff.1 this.symm
 refine ⟨p.1,(Prod.mk.inj e).1.symm,?_⟩
 rw [← h3,← (Prod.mk.inj e).2]
 clear h1 h3 hi this e
 induction kvs generalizing i with
 | nil=>simp at hp
 | cons q l ih =>
  obtain ⟨g1,g2⟩:=List.nodup_cons.1 (show (q.1 :: l.map (·.1)).Nodup from h2)
  rw [getM_cons]
  cases i with
  | zero=>simp at hp; subst hp; rw [if_pos rfl]
  | succ i =>
   have hp:l[i]?=some p:=by simpa using hp
   rw [if_neg fun e=>g1 (by rw [e]; exact List.mem_map.2 ⟨p,List.mem_of_getElem? hp,rfl⟩)]
   exact ih g2 i hp
theorem MapF.has (h:MapF fk H b f es n) {x:κ} {v:Value} (hx:f x=some v):∃ m∈es.toList,m.key=fk x∧m.val=v:=by
 obtain ⟨kvs,h1,h2,h3⟩:=h.ks
 obtain ⟨i,_,hp⟩:=find_some ((h3 x).trans hx)
 obtain ⟨e0,he0,hk0,hv0⟩:=entry_at h1 hp
 exact ⟨e0,List.mem_of_getElem? (i:=i) (by rw [Array.getElem?_toList]; exact he0),hk0,hv0⟩
end
end Go.Eng
end
section
/- The log of meetings,in plain Lean: its check,its times,who is in the most,how it is played. Conditions: none. -/
namespace Go.Eng

abbrev Mg:=(Int × Int) × Int × Int
def zMg:Mg:=((0,0),0,0)
def goodG (x:Mg):Prop:=okR x.1∧0≤x.2.1∧x.2.1<x.2.2∧x.2.2≤65535
instance (x:Mg):Decidable (goodG x):=inferInstanceAs (Decidable (_∧_))
def befG (a b:Mg):Bool:=if cmpR a.1 b.1=0 then decide (a.2.1<b.2.1∨(a.2.1=b.2.1∧a.2.2<b.2.2)) else decide (cmpR a.1 b.1<0)
def stpG (m:List Mg) (k:Nat):Prop:=(0<k→befG (m.getD (k-1) zMg) (m.getD k zMg)=true)∧∀ j,j<k→(m.getD j zMg).2≠(m.getD k zMg).2
instance (m:List Mg) (k:Nat):Decidable (stpG m k):=inferInstanceAs (Decidable (_∧_))
structure okG (m:List Mg):Prop where
 few:m.length≤5000
 good:∀ x∈m,goodG x
 step:∀ k,k<m.length→stpG m k
def chkG (m:List Mg):Int:=if 5000<m.length then 4 else if ∀ x∈m,goodG x then (if ∀ k,k<m.length→stpG m k then 0 else 32) else 8
theorem chkG_zero {m:List Mg}:chkG m=0↔okG m:=by
 unfold chkG
 split
 ·exact ⟨fun h=>by simp at h,fun h=>by have:=h.few; omega⟩
 ·split
  ·split
   ·exact ⟨fun _=>⟨by omega,by assumption,by assumption⟩,fun _=>rfl⟩
   ·rename_i h; exact ⟨fun h=>by simp at h,fun ok=>absurd ok.step h⟩
  ·rename_i h; exact ⟨fun h=>by simp at h,fun ok=>absurd ok.good h⟩
theorem chkG_many {m:List Mg} (h:5000<m.length):chkG m=4:=by unfold chkG; rw [if_pos h]
theorem chkG_bad {m:List Mg} (h:¬ 5000<m.length) (hb:¬ ∀ x∈m,goodG x):chkG m=8:=by unfold chkG; rw [if_neg h,if_neg hb]
theorem chkG_order {m:List Mg} (h:¬ 5000<m.length) (hb:∀ x∈m,goodG x) (hs:¬ ∀ k,k<m.length→stpG m k):chkG m=32:=by unfold chkG; rw [if_neg h,if_pos hb,if_neg hs]
theorem getG_mem {m:List Mg} {k:Nat} (h:k<m.length):m.getD k zMg∈m:=by
 rw [List.getD_eq_getElem?_getD,List.getElem?_eq_getElem h]; exact List.getElem_mem h
theorem okG.at {m:List Mg} (ok:okG m) {k:Nat} (h:k<m.length):goodG (m.getD k zMg):=ok.good _ (getG_mem h)

/-! ### Order -/
theorem befG_le {a b:Mg} (h:befG a b=true):cmpR a.1 b.1≤0:=by
 unfold befG at h
 split at h
 ·omega
 ·have:=of_decide_eq_true h; omega
theorem cmpR_leI {a b:Int × Int}:cmpR a b≤0↔a.1 * b.2≤b.1 * a.2:=by
 have:=@cmpI_gt (a.1 * b.2) (b.1 * a.2)
 unfold cmpR
 omega
theorem okG.sorted {m:List Mg} (ok:okG m):∀ {k:Nat},k<m.length→∀ {j:Nat},j≤k→cmpR (m.getD j zMg).1 (m.getD k zMg).1≤0
 | 0,hk,j,hj=>by
  have:j=0:=by omega
  subst this; rw [cmpR_leI]; exact Int.le_refl _
 | k+1,hk,j,hj=>by
  rcases Nat.lt_or_ge j (k+1) with h | h
  ·have ih:=ok.sorted (k:=k) (by omega) (j:=j) (by omega)
   have st:=befG_le ((ok.step (k+1) hk).1 (by omega))
   rw [Nat.add_sub_cancel] at st
   rw [cmpR_leI] at *
   exact rat_le (ok.at (by omega)).1.d1 (ok.at (by omega)).1.d1 (ok.at hk).1.d1 ih st
  ·have:j=k+1:=by omega
   subst this; rw [cmpR_leI]; exact Int.le_refl _
/-! ### The meetings of a point -/
def inG (id:Int) (x:Mg):Bool:=x.2.1==id||x.2.2==id
def ofG (m:List Mg) (id:Int):List Mg:=m.filter (inG id)
def cntG (m:List Mg) (id:Int):Nat:=m.countP (inG id)
theorem take_snocG {m:List Mg} {n:Nat} (h:n<m.length):m.take (n+1)=m.take n++[m.getD n zMg]:=by
 rw [List.take_add_one,List.getD_eq_getElem?_getD,List.getElem?_eq_getElem h]; rfl
theorem ofG_succ {m:List Mg} {n:Nat} (h:n<m.length) (id:Int):ofG (m.take (n+1)) id=if inG id (m.getD n zMg)=true then ofG (m.take n) id++[m.getD n zMg] else ofG (m.take n) id:=by
 rw [take_snocG h]
 unfold ofG
 rw [List.filter_append]
 split
 ·rename_i hi; rw [List.filter_cons_of_pos hi]; rfl
 ·rename_i hi; rw [List.filter_cons_of_neg hi]; simp
theorem cntG_succ {m:List Mg} {n:Nat} (h:n<m.length) (id:Int):cntG (m.take (n+1)) id=cntG (m.take n) id+if inG id (m.getD n zMg)=true then 1 else 0:=by
 rw [take_snocG h]
 unfold cntG
 rw [List.countP_append,List.countP_singleton]
theorem cntG_le (m:List Mg) (id:Int):cntG m id≤m.length:=List.countP_le_length

/-! ### Times -/
def bumpG (l:List Int):List Int:=l.set (l.length-1) (l.getD (l.length-1) 0+1)
def timesN (m:List Mg):Nat→List (Int × Int) × List Int
 | 0=>([],[])
 | n+1=>if n=0∨(m.getD n zMg).1≠(m.getD (n-1) zMg).1 then ((timesN m n).1++[(m.getD n zMg).1],(timesN m n).2++[1]) else ((timesN m n).1,bumpG (timesN m n).2)
theorem timesN_new {m:List Mg} {n:Nat} (h:n=0∨(m.getD n zMg).1≠(m.getD (n-1) zMg).1):timesN m (n+1)=((timesN m n).1++[(m.getD n zMg).1],(timesN m n).2++[1]):=if_pos h
theorem timesN_old {m:List Mg} {n:Nat} (h0:n≠0) (h:(m.getD n zMg).1=(m.getD (n-1) zMg).1):timesN m (n+1)=((timesN m n).1,bumpG (timesN m n).2):=if_neg fun h'=>h'.elim h0 fun h'=>h' h
theorem bumpG_len (l:List Int):(bumpG l).length=l.length:=by unfold bumpG; simp
theorem timesN_len (m:List Mg):∀ n,(timesN m n).1.length=(timesN m n).2.length∧(timesN m n).1.length≤n∧(n≠0→(timesN m n).1.length≠0)
 | 0=>⟨rfl,Nat.le_refl _,fun h=>absurd rfl h⟩
 | n+1=>by
  obtain ⟨h1,h2,h3⟩:=timesN_len m n
  by_cases h:n=0∨(m.getD n zMg).1≠(m.getD (n-1) zMg).1
  ·rw [timesN_new h]
   simp only [List.length_append,List.length_singleton]
   exact ⟨by omega,by omega,fun _=>by omega⟩
  ·have h0:n≠0:=fun e=>h (.inl e)
   rw [timesN_old h0 (Classical.byContradiction fun e=>h (.inr e))]
   simp only [bumpG_len]
   exact ⟨h1,by omega,fun _=>h3 h0⟩
theorem getD_snocT (l:List (Int × Int)) (x:Int × Int):(l++[x]).getD ((l++[x]).length-1) (0,0)=x:=by simp
theorem timesN_last (m:List Mg):∀ n,n≠0→(timesN m n).1.getD ((timesN m n).1.length-1) (0,0)=(m.getD (n-1) zMg).1
 | 0,h=>absurd rfl h
 | n+1,_=>by
  by_cases h:n=0∨(m.getD n zMg).1≠(m.getD (n-1) zMg).1
  ·rw [timesN_new h]; exact getD_snocT _ _
  ·have h0:n≠0:=fun e=>h (.inl e)
   have he:(m.getD n zMg).1=(m.getD (n-1) zMg).1:=Classical.byContradiction fun e=>h (.inr e)
   rw [timesN_old h0 he]
   show (timesN m n).1.getD ((timesN m n).1.length-1) (0,0)=(m.getD n zMg).1
   rw [timesN_last m n h0,he]
theorem timesN_pos (m:List Mg):∀ n,∀ x∈(timesN m n).2,1≤x∧x≤n
 | 0,x,h=>by cases h
 | n+1,x,hx=>by
  by_cases h:n=0∨(m.getD n zMg).1≠(m.getD (n-1) zMg).1
  ·rw [timesN_new h] at hx
   rcases List.mem_append.1 hx with hx | hx
   ·have:=timesN_pos m n x hx; omega
   ·rw [List.mem_singleton.1 hx]; omega
  ·have h0:n≠0:=fun e=>h (.inl e)
   rw [timesN_old h0 (Classical.byContradiction fun e=>h (.inr e))] at hx
   have hx:x∈bumpG (timesN m n).2:=hx
   obtain ⟨h1,_,h3⟩:=timesN_len m n
   have h3:=h3 h0
   unfold bumpG at hx
   rcases List.mem_or_eq_of_mem_set hx with hx | hx
   ·have:=timesN_pos m n x hx; omega
   ·have hm:(timesN m n).2.getD ((timesN m n).2.length-1) 0∈(timesN m n).2:=by
     rw [List.getD_eq_getElem?_getD,List.getElem?_eq_getElem (by omega)]; exact List.getElem_mem _
    have:=timesN_pos m n _ hm
    omega
/-! ### Who is in the most meetings -/
def bstep (b e:Int × Int):Int × Int:=if b.2<e.2∨(e.2=b.2∧e.1<b.1) then e else b
def Best (p:Int × Int→Prop) (b:Int × Int):Prop:=(b=(0,0)∧∀ e,¬ p e)∨(p b∧∀ e,p e→e.2<b.2∨(e.2=b.2∧b.1≤e.1))
theorem Best.uniq {p:Int × Int→Prop} {a b:Int × Int} (ha:Best p a) (hb:Best p b):a=b:=by
 rcases ha with ⟨ha,hn⟩ | ⟨pa,ha⟩
 ·rcases hb with ⟨hb,_⟩ | ⟨pb,_⟩
  ·rw [ha,hb]
  ·exact absurd pb (hn _)
 ·rcases hb with ⟨_,hn⟩ | ⟨pb,hb⟩
  ·exact absurd pa (hn _)
  ·have h1:=ha b pb
   have h2:=hb a pa
   exact Prod.ext (by omega) (by omega)
theorem Best.step {p:Int × Int→Prop} {b e:Int × Int} (h:Best p b) (he:1≤e.2):Best (fun x=>p x∨x=e) (bstep b e):=by
 unfold bstep
 rcases h with ⟨rfl,hn⟩ | ⟨pb,hb⟩
 ·rw [if_pos (.inl (show (0:Int)<e.2 by omega))]
  refine .inr ⟨.inr rfl,fun x hx=>?_⟩
  rcases hx with hx | rfl
  ·exact absurd hx (hn _)
  ·exact .inr ⟨rfl,Int.le_refl _⟩
 ·split
  ·refine .inr ⟨.inr rfl,fun x hx=>?_⟩
   rcases hx with hx | rfl
   ·have:=hb x hx; omega
   ·exact .inr ⟨rfl,Int.le_refl _⟩
  ·refine .inr ⟨.inl pb,fun x hx=>?_⟩
   rcases hx with hx | rfl
   ·exact hb x hx
   ·omega
theorem Best.congr {p q:Int × Int→Prop} {b:Int × Int} (h:Best p b) (hq:∀ e,q e↔p e):Best q b:=by
 have:q=p:=funext fun e=>propext (hq e)
 rw [this]; exact h
def idsG (m:List Mg):List Int:=m.flatMap fun x=>[x.2.1,x.2.2]
theorem idsG_cnt {m:List Mg} {id:Int}:id∈idsG m↔1≤cntG m id:=by
 unfold idsG cntG
 rw [List.mem_flatMap,Nat.one_le_iff_ne_zero,Ne,List.countP_eq_zero]
 constructor
 ·rintro ⟨x,hx,hi⟩ hn
  refine hn x hx ?_
  unfold inG
  rcases List.mem_cons.1 hi with h | h
  ·simp [h]
  ·simp [List.mem_singleton.1 h]
 ·intro hn
  refine Classical.byContradiction fun hc=>hn fun x hx=>?_
  unfold inG
  intro hi
  refine hc ⟨x,hx,?_⟩
  rw [Bool.or_eq_true,beq_iff_eq,beq_iff_eq] at hi
  rcases hi with hi | hi <;> simp [hi]
def bestL (m:List Mg) (l:List Int) (b:Int × Int):Int × Int:=l.foldl (fun b id=>bstep b (id,(cntG m id:Int))) b
def bestG (m:List Mg):Int × Int:=bestL m (idsG m) (0,0)
theorem bestL_best {m:List Mg}:∀ (l:List Int) {b:Int × Int} {p:Int × Int→Prop},Best p b→(∀ id∈l,1≤cntG m id)→Best (fun e=>p e∨(e.1∈l∧e.2=cntG m e.1)) (bestL m l b)
 | [],b,p,h,_=>h.congr fun e=>by simp
 | x :: l,b,p,h,hl=>by
  have h1:=h.step (e:=(x,(cntG m x:Int))) (by have:=hl x List.mem_cons_self; show (1:Int)≤(cntG m x:Int); omega)
  refine (bestL_best l h1 fun id hi=>hl id (List.mem_cons_of_mem _ hi)).congr fun e=>?_
  rw [List.mem_cons]
  constructor
  ·rintro (hp | ⟨rfl | hm,he⟩)
   ·exact .inl (.inl hp)
   ·exact .inl (.inr (Prod.ext rfl he))
   ·exact .inr ⟨hm,he⟩
  ·rintro ((hp | rfl) | ⟨hm,he⟩)
   ·exact .inl hp
   ·exact .inr ⟨.inl rfl,rfl⟩
   ·exact .inr ⟨.inr hm,he⟩
theorem bestG_best (m:List Mg):Best (fun e=>1≤cntG m e.1∧e.2=cntG m e.1) (bestG m):=by
 have:=bestL_best (m:=m) (idsG m) (b:=(0,0)) (p:=fun _=>False) (.inl ⟨rfl,fun _ h=>h⟩) fun id hi=>idsG_cnt.1 hi
 exact this.congr fun e=>by rw [idsG_cnt]; simp
theorem bestG_of {m:List Mg} (hm:m≠[]):1≤cntG m (bestG m).1∧(bestG m).2=cntG m (bestG m).1∧∀ id,1≤cntG m id→(cntG m id:Int)<(bestG m).2∨((cntG m id:Int)=(bestG m).2∧(bestG m).1≤id):=by
 rcases bestG_best m with ⟨_,hn⟩ | ⟨h1,h2⟩
 ·obtain ⟨x,l,rfl⟩:=List.exists_cons_of_ne_nil hm
  refine absurd ?_ (hn (x.2.1,cntG (x :: l) x.2.1))
  refine ⟨idsG_cnt.1 ?_,rfl⟩
  exact List.mem_flatMap.2 ⟨x,List.mem_cons_self,List.mem_cons_self⟩
 ·exact ⟨h1.1,h1.2,fun id hi=>h2 (id,cntG m id) ⟨hi,rfl⟩⟩
def mostG (m:List Mg):(Int × Int) × Int:=if chkG m=0 then (if m.length=0 then ((0,0),6) else (bestG m,0)) else ((0,0),chkG m)

/-! ### A log,played -/
def posG (l:List Int) (id:Int):Nat:=l.idxOf id
def adjG (l:List Int) (x:Mg):Bool:=decide (x.2.1∈l)&&decide (x.2.2∈l)&&(decide (posG l x.2.1=posG l x.2.2+1)||decide (posG l x.2.2=posG l x.2.1+1))
def rdyG (l:List Int) (t:Int × Int) (x:Mg):Bool:=decide (x.1=t)&&adjG l x
def swapI (l:List Int) (p q:Nat):List Int:=(l.set p (l.getD q 0)).set q (l.getD p 0)
def playG:Nat→List Int→List Mg→Option (List Int)
 | 0,l,_=>some l
 | n+1,l,left=>if left.length=0 then some l else match left.findIdx? (rdyG l (left.getD 0 zMg).1) with
  | none=>none
  | some i=>playG n (swapI l (posG l (left.getD i zMg).2.1) (posG l (left.getD i zMg).2.2)) (left.eraseIdx i)
def ordG (o:List Int):Prop:=(∀ x∈o,0≤x∧x≤65535)∧o.Nodup
instance (o:List Int):Decidable (ordG o):=inferInstanceAs (Decidable (_∧_))
def playM (o:List Int) (m:List Mg):List Int × Int :=
 if chkG m=0 then (if 64<o.length then ([],4) else if ordG o then (match playG m.length o m with | some l=>(l,0) | none=>([],36)) else ([],8)) else ([],chkG m)
theorem playG_nil (n:Nat) (l:List Int):playG n l []=some l:=by cases n <;> rfl
theorem playG_go {n:Nat} {l:List Int} {left:List Mg} (h:left.length=n+1):playG left.length l left=match left.findIdx? (rdyG l (left.getD 0 zMg).1) with
  | none=>none
  | some i=>playG (left.eraseIdx i).length (swapI l (posG l (left.getD i zMg).2.1) (posG l (left.getD i zMg).2.2)) (left.eraseIdx i):=by
 rw [h]
 show (if left.length=0 then _ else _)=_
 rw [if_neg (by omega)]
 cases hx:left.findIdx? (rdyG l (left.getD 0 zMg).1) with
 | none=>rfl
 | some i =>
  have hi:=(List.findIdx?_eq_some_iff_getElem.1 hx).1
  simp only
  rw [List.length_eraseIdx_of_lt hi,h,Nat.add_sub_cancel]
def sortG (left:List Mg):Prop:=(∀ x∈left,goodG x)∧left.Pairwise fun a b=>cmpR a.1 b.1≤0
theorem okG.srt {m:List Mg} (ok:okG m):sortG m:=by
 refine ⟨ok.good,List.pairwise_iff_getElem.2 fun i j hi hj hij=>?_⟩
 have:=ok.sorted hj (j:=i) (by omega)
 rw [List.getD_eq_getElem?_getD,List.getD_eq_getElem?_getD,List.getElem?_eq_getElem hi,List.getElem?_eq_getElem hj] at this
 exact this
theorem sortG.erase {left:List Mg} (h:sortG left) (i:Nat):sortG (left.eraseIdx i):=⟨fun x hx=>h.1 x (List.mem_of_mem_eraseIdx hx),h.2.sublist (List.eraseIdx_sublist _ _)⟩
theorem idxOf_get {l:List Int} (hd:l.Nodup) {i:Nat} (h:i<l.length):posG l (l.getD i 0)=i:=by
 unfold posG
 rw [List.getD_eq_getElem?_getD,List.getElem?_eq_getElem h]
 exact hd.idxOf_getElem i h
theorem posG_lt {l:List Int} {id:Int}:posG l id<l.length↔id∈l:=List.idxOf_lt_length_iff
theorem posG_get {l:List Int} {id:Int} (h:id∈l):l.getD (posG l id) 0=id:=by
 have hl:=posG_lt.2 h
 rw [List.getD_eq_getElem?_getD,List.getElem?_eq_getElem hl]
 exact List.getElem_idxOf hl
theorem swapI_len (l:List Int) (p q:Nat):(swapI l p q).length=l.length:=by unfold swapI; simp
theorem swapI_get {l:List Int} {p q:Nat} (hp:p<l.length) (hq:q<l.length) (i:Nat):(swapI l p q).getD i 0=if i=q then l.getD p 0 else if i=p then l.getD q 0 else l.getD i 0:=by
 unfold swapI
 rw [List.getD_eq_getElem?_getD,List.getElem?_set]
 by_cases h1:q=i
 ·subst h1
  rw [if_pos rfl,if_pos rfl,if_pos (by simpa using hq)]; rfl
 ·rw [if_neg h1,if_neg fun e=>h1 e.symm,List.getElem?_set]
  by_cases h2:p=i
  ·subst h2
   rw [if_pos rfl,if_pos rfl,if_pos hp]; rfl
  ·rw [if_neg h2,if_neg fun e=>h2 e.symm,List.getD_eq_getElem?_getD]
theorem nodup_of_pos {l:List Int} (h:∀ i j,i<l.length→j<l.length→l.getD i 0=l.getD j 0→i=j):l.Nodup:=by
 refine List.pairwise_iff_getElem.2 fun i j hi hj hij e=>?_
 have:=h i j hi hj (by rw [List.getD_eq_getElem?_getD,List.getD_eq_getElem?_getD,List.getElem?_eq_getElem hi,List.getElem?_eq_getElem hj]; exact e)
 omega
theorem swapI_nodup {l:List Int} (hd:l.Nodup) {p q:Nat} (hp:p<l.length) (hq:q<l.length):(swapI l p q).Nodup:=by
 refine nodup_of_pos fun i j hi hj e=>?_
 rw [swapI_len] at hi hj
 have inj:∀ {a b:Nat},a<l.length→b<l.length→l.getD a 0=l.getD b 0→a=b:=fun ha hb e=>by rw [← idxOf_get hd ha,← idxOf_get hd hb,e]
 rw [swapI_get hp hq,swapI_get hp hq] at e
 split at e <;> split at e <;> (try split at e) <;> (try split at e) <;> first | omega | (have:=inj (by omega) (by omega) e; omega)
theorem posG_swap {l:List Int} (hd:l.Nodup) {a b:Int} (ha:a∈l) (hb:b∈l) (id:Int) :
  posG (swapI l (posG l a) (posG l b)) id=if id=a then posG l b else if id=b then posG l a else posG l id:=by
 have hp:=posG_lt.2 ha
 have hq:=posG_lt.2 hb
 have sd:=swapI_nodup hd hp hq
 have here:∀ {i:Nat},i<l.length→(swapI l (posG l a) (posG l b)).getD i 0=id→posG (swapI l (posG l a) (posG l b)) id=i:=fun hi e=>by
  rw [← e]; exact idxOf_get sd (by rw [swapI_len]; exact hi)
 split
 ·rename_i e; subst e
  exact here hq (by rw [swapI_get hp hq,if_pos rfl,posG_get ha])
 ·rename_i na
  split
  ·rename_i e; subst e
   refine here hp ?_
   rw [swapI_get hp hq]
   split
   ·rename_i e; rw [posG_get ha,← posG_get ha,e,posG_get hb]
   ·rw [if_pos rfl,posG_get hb]
  ·rename_i nb
   by_cases hm:id∈l
   ·have hi:=posG_lt.2 hm
    refine here hi ?_
    rw [swapI_get hp hq,if_neg,if_neg,posG_get hm]
    ·intro e; exact na (by rw [← posG_get hm,e,posG_get ha])
    ·intro e; exact nb (by rw [← posG_get hm,e,posG_get hb])
   ·have hn:id∉swapI l (posG l a) (posG l b):=by
     intro hc
     have h1:=posG_lt.2 hc
     have h2:=posG_get hc
     rw [swapI_len] at h1
     rw [swapI_get hp hq] at h2
     split at h2
     ·exact na (by rw [← h2,posG_get ha])
     ·split at h2
      ·exact nb (by rw [← h2,posG_get hb])
      ·refine hm ?_
       rw [← h2,List.getD_eq_getElem?_getD,List.getElem?_eq_getElem h1]; exact List.getElem_mem _
    have e1:posG (swapI l (posG l a) (posG l b)) id=(swapI l (posG l a) (posG l b)).length:=List.idxOf_eq_length hn
    have e2:posG l id=l.length:=List.idxOf_eq_length hm
    rw [e1,e2,swapI_len]
theorem swapI_mem {l:List Int} {p q:Nat} (hp:p<l.length) (hq:q<l.length) {id:Int}:id∈swapI l p q↔id∈l:=by
 have get_mem:∀ {l:List Int} {i:Nat},i<l.length→l.getD i 0∈l:=fun h=>by
  rw [List.getD_eq_getElem?_getD,List.getElem?_eq_getElem h]; exact List.getElem_mem _
 constructor
 ·intro h
  have h1:=posG_lt.2 h
  have h2:=posG_get h
  rw [swapI_len] at h1
  rw [swapI_get hp hq] at h2
  split at h2
  ·rw [← h2]; exact get_mem hp
  ·split at h2
   ·rw [← h2]; exact get_mem hq
   ·rw [← h2]; exact get_mem h1
 ·intro h
  have h1:=posG_lt.2 h
  have h2:=posG_get h
  have sm:∀ {i:Nat},i<l.length→(swapI l p q).getD i 0∈swapI l p q:=fun hi=>get_mem (by rw [swapI_len]; exact hi)
  have pos:∀ {k:Nat},k<l.length→(swapI l p q).getD k 0=id→id∈swapI l p q:=fun hk e=>by rw [← e]; exact sm hk
  by_cases e1:posG l id=q
  ·by_cases e:p=q
   ·exact pos hq (by rw [swapI_get hp hq,if_pos rfl,e,← e1,h2])
   ·exact pos hp (by rw [swapI_get hp hq,if_neg e,if_pos rfl,← e1,h2])
  ·by_cases e2:posG l id=p
   ·exact pos hq (by rw [swapI_get hp hq,if_pos rfl,← e2,h2])
   ·exact pos h1 (by rw [swapI_get hp hq,if_neg e1,if_neg e2,h2])
end Go.Eng
end
