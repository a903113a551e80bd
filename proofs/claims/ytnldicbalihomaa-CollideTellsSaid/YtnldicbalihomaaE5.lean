/- The engine, parts UM, UN, UO, CM, RM, put together. Conditions: none. -/
import Derived.Test.YtnldicbalihomaaE4
import Derived.MapKept
set_option linter.unusedVariables false
section
/- Maps that a call makes. Conditions: none. -/
namespace Go.Eng

theorem tr_setObj {w:World} {H:Hp} (h:View w H) {b:Nat} {o:Obj} (hb:H b≠none):Tr w H { w with heap:=w.heap.setIfInBounds b o } (H.put b o):=by
 have hlt:=h.lt hb
 refine ⟨fun k o' hk=>?_,fun k hk hn=>?_,fun k hk=>?_,by simp,rfl,rfl,rfl,Nat.le_refl _⟩
 ·simp only [Hp.put] at hk
  split at hk
  ·rename_i e; subst e; cases hk; simp [hlt]
  ·rename_i e
   show (w.heap.setIfInBounds b _)[k]?=_
   rw [Array.getElem?_setIfInBounds_ne (fun h=>e h.symm)]; exact h k o' hk
 ·have hne:k≠b:=fun e=>by subst e; exact hb hn
  show (w.heap.setIfInBounds b _)[k]?=_
  rw [Array.getElem?_setIfInBounds_ne (fun h=>hne h.symm)]
 ·by_cases e:k=b
  ·subst e; exact .inl hb
  ·rw [Hp.put_ne _ _ e] at hk; exact .inl hk

structure KL {κ:Type} [DecidableEq κ] (P:Program) (k:TypeId) (fk:κ→Value):Prop where
 find:∀ (w:World) (x:κ) (es:List MapEntry) (kvs:List (κ × Value)),es.map (fun e=>(e.key,e.val))=kvs.map (fun p=>(fk p.1,p.2)) →
  (Instr.findKey k (fk x) es).run P w=.ok ((kvs.findIdx? fun p=>decide (p.1=x)).map fun i=>(i,(kvs[i]?.map (·.2)).getD undef)) w
 check:∀ (w:World) (x:κ) (em:Bool),(Instr.checkKey em 10000 k (fk x)).run P w=.ok () w
 stays:∀ (w:World) (x:κ),(Instr.keyThatStays (fk x) (fk x)).run P w=.ok (fk x) w

def MapR {κ:Type} (fk:κ→Value) (H:Hp) (b:Nat) (kvs:List (κ × Value)):Prop :=
 ∃ es n,H b=some (.map es n)∧es.toList.map (fun e=>(e.key,e.val))=kvs.map fun p=>(fk p.1,p.2)

section
variable {κ:Type} {fk:κ→Value} {H H':Hp} {b:Nat} {kvs:List (κ × Value)}
theorem MapR.new (h:H'=H.put b (.map #[] 0)):MapR fk H' b []:=by
 subst h; exact ⟨#[],0,Hp.put_same _ _ _,rfl⟩
theorem MapR.le (h:MapR fk H b kvs) (hl:Hp.le H H'):MapR fk H' b kvs:=by
 obtain ⟨es,n,h1,h2⟩:=h; exact ⟨es,n,hl _ _ h1,h2⟩
theorem MapR.chg {u:Slc} (h:MapR fk H b kvs) (hc:Chg H H' u) (hn:∀ p,u.a=some p→p.block≠b):MapR fk H' b kvs:=by
 obtain ⟨es,n,h1,h2⟩:=h; exact ⟨es,n,by rw [hc b (by rw [h1]; simp) hn]; exact h1,h2⟩

end

section
variable {κ:Type} [DecidableEq κ] {P:Program} {k e t:TypeId} {fk:κ→Value} {H H':Hp} {b:Nat} {kvs:List (κ × Value)} {x:κ} {v z:Value}

def getM (kvs:List (κ × Value)) (x:κ):Option Value:=(kvs.find? fun p=>decide (p.1=x)).map (·.2)

theorem getM_idx:∀ (kvs:List (κ × Value)) (x:κ),(kvs.findIdx? fun p=>decide (p.1=x)).map (fun i=>(kvs[i]?.map (·.2)).getD undef)=getM kvs x
 | [],x=>rfl
 | p :: kvs,x=>by
  unfold getM
  rw [List.findIdx?_cons,List.find?_cons]
  by_cases h:p.1=x
  ·simp [h]
  ·simp only [h,decide_false,Bool.false_eq_true,if_false,Option.map_map]
   rw [← getM,← getM_idx kvs x]
   rfl

theorem KL.look (K:KL P k fk) (ht:P.underlying t=some (.map k e)) (hzz:(P.info? e).bind (fun i=>i.zero)=some z) (h:MapR fk H b kvs) :
  OpQ P (semV (Instr.lookup t (.map (some b)) (fk x) false)) H ((getM kvs x).getD z):=by
 obtain ⟨es,n,h1,h2⟩:=h
 obtain ⟨i,hi,hz⟩:=Option.bind_eq_some_iff.1 hzz
 intro w hv
 have hf:=K.find w x es.toList kvs h2
 rw [← getM_idx]
 cases hx:kvs.findIdx? fun p=>decide (p.1=x) with
 | none =>
  rw [hx] at hf
  simp [semV,Instr.lookup,run_underlying ht,MapKept.run_getObj_map (hv b _ h1),K.check w x,hf,Result.andThen,zeroValue,typeInfo,hi,hz]
 | some j =>
  rw [hx] at hf
  simp [semV,Instr.lookup,run_underlying ht,MapKept.run_getObj_map (hv b _ h1),K.check w x,hf,Result.andThen]

theorem KL.lookOk (K:KL P k fk) (ht:P.underlying t=some (.map k e)) (hzz:(P.info? e).bind (fun i=>i.zero)=some z) (h:MapR fk H b kvs) :
  OpQ P (semV (Instr.lookup t (.map (some b)) (fk x) true)) H (.tuple #[(getM kvs x).getD z,.bool (getM kvs x).isSome]):=by
 obtain ⟨es,n,h1,h2⟩:=h
 obtain ⟨i,hi,hz⟩:=Option.bind_eq_some_iff.1 hzz
 intro w hv
 have hf:=K.find w x es.toList kvs h2
 rw [← getM_idx]
 cases hx:kvs.findIdx? fun p=>decide (p.1=x) with
 | none =>
  rw [hx] at hf
  simp [semV,Instr.lookup,run_underlying ht,MapKept.run_getObj_map (hv b _ h1),K.check w x,hf,Result.andThen,zeroValue,typeInfo,hi,hz]
 | some j =>
  rw [hx] at hf
  simp [semV,Instr.lookup,run_underlying ht,MapKept.run_getObj_map (hv b _ h1),K.check w x,hf,Result.andThen]

theorem KL.add (K:KL P k fk) (ht:P.underlying t=some (.map k e)) (h:MapR fk H b kvs) (hn:getM kvs x=none) :
  OpSem P (semU (Instr.mapUpdate t (.map (some b)) (fk x) v)) H fun _ H'=>∃ o,H'=H.put b o∧MapR fk H' b (kvs++[(x,v)]):=by
 obtain ⟨es,n,h1,h2⟩:=h
 intro w hv
 have hf:=K.find w x es.toList kvs h2
 have hx:kvs.findIdx? (fun p=>decide (p.1=x))=none:=by
  have:=getM_idx kvs x
  rw [hn] at this
  simpa using this
 rw [hx] at hf
 refine ⟨undef,_,_,.inr ⟨?_,rfl⟩,tr_setObj hv (b:=b) (o:=.map (es.push ⟨fk x,v,n⟩) (n+1)) (by rw [h1]; simp),_,rfl,_,_,Hp.put_same _ _ _,?_⟩
 ·simp [semU,Instr.mapUpdate,run_underlying ht,MapKept.run_getObj_map (hv b _ h1),K.check w x,hf,Result.andThen,MapKept.run_setObj_map _ (hv b _ h1)]
 ·simp [h2]
end

theorem findNow_at {kd:TypeDesc} {κ:Type} [DecidableEq κ] {fk:κ→Value} (hs:∀ x y,Instr.sameNow kd (fk x) (fk y)=some (decide (x=y))) (x:κ):∀ (es:List MapEntry) (kvs:List (κ × Value)) (j:Nat),
  es.map (fun e=>(e.key,e.val))=kvs.map (fun p=>(fk p.1,p.2)) →
  Instr.findNow kd (fk x) es j=some ((kvs.findIdx? fun p=>decide (p.1=x)).map fun i=>(j+i,(kvs[i]?.map (·.2)).getD undef))
 | [],[],j,_=>rfl
 | e :: es,p :: kvs,j,h=>by
  simp only [List.map_cons,List.cons.injEq,Prod.mk.injEq] at h
  obtain ⟨⟨h1,h2⟩,h3⟩:=h
  rw [Instr.findNow,h1,hs,List.findIdx?_cons]
  by_cases hx:x=p.1
  ·subst hx; simp [h2]
  ·have hx':¬ p.1=x:=fun e=>hx e.symm
   simp only [hx,hx',decide_false,Bool.false_eq_true,if_false]
   rw [findNow_at hs x es kvs (j+1) h3]
   cases kvs.findIdx? fun p=>decide (p.1=x) with
   | none=>rfl
   | some i=>simp; omega

theorem findAsk_at {P:Program} {k:TypeId} {κ:Type} [DecidableEq κ] {fk:κ→Value} (hs:∀ x y w,(Op.equal k (fk x) (fk y)).run P w=.ok (decide (x=y)) w) (w:World) (x:κ):∀ (es:List MapEntry) (kvs:List (κ × Value)) (j:Nat),
  es.map (fun e=>(e.key,e.val))=kvs.map (fun p=>(fk p.1,p.2)) →
  (Instr.findAsking k (fk x) es j).run P w=.ok ((kvs.findIdx? fun p=>decide (p.1=x)).map fun i=>(j+i,(kvs[i]?.map (·.2)).getD undef)) w
 | [],[],j,_=>rfl
 | e :: es,p :: kvs,j,h=>by
  simp only [List.map_cons,List.cons.injEq,Prod.mk.injEq] at h
  obtain ⟨⟨h1,h2⟩,h3⟩:=h
  rw [Instr.findAsking,h1,Sem.run_bind,hs,Result.andThen_ok,List.findIdx?_cons]
  by_cases hx:x=p.1
  ·subst hx; simp [h2]
  ·have hx':¬ p.1=x:=fun e=>hx e.symm
   simp only [hx,hx',decide_false,Bool.false_eq_true,if_false]
   rw [findAsk_at hs w x es kvs (j+1) h3]
   cases kvs.findIdx? fun p=>decide (p.1=x) with
   | none=>rfl
   | some i=>simp; omega

theorem KL.of_now {P:Program} {k:TypeId} {κ:Type} [DecidableEq κ] {fk:κ→Value} {kd:TypeDesc} (hk:P.underlying k=some kd) (hs:∀ x y,Instr.sameNow kd (fk x) (fk y)=some (decide (x=y)))
  (hc:∀ (w:World) (x:κ) (em:Bool),(Instr.checkKey em 10000 k (fk x)).run P w=.ok () w) (hst:∀ (w:World) (x:κ),(Instr.keyThatStays (fk x) (fk x)).run P w=.ok (fk x) w):KL P k fk:=by
 refine ⟨fun w x es kvs h=>?_,hc,hst⟩
 rw [Instr.findKey,Sem.run_bind,run_underlying hk,Result.andThen_ok,findNow_at hs x es kvs 0 h]
 simp

theorem KL.int {P:Program} {k:TypeId} (hk:P.underlying k=some (.int .i64)):KL P k (fun x:Int=>Value.int .i64 x):=by
 refine KL.of_now hk (fun x y=>by simp only [Instr.sameNow,if_true,Option.some.injEq]; rw [Bool.eq_iff_iff]; simp) (fun w x em=>?_) fun w x=>by simp [Instr.keyThatStays,Instr.sameBits]
 exact MapKept.run_checkKey (n:=9999) hk (by rfl) em

end Go.Eng
end
section
/- slices.Delete,on a slice of one's own. Conditions: none. -/
namespace Go.Eng

def zeroOne (P:Program) (e:TypeId):Bool :=
 match P.info? e with
 | some i=>match i.zero with
  | some z=>z.cells.toList.all fun v=>v.oneCell'
  | none=>false
 | none=>false

theorem Tr.same {w w':World} {H H' H'':Hp} (h:Tr w H w' H') (e:H'=H''):Tr w H w' H'':=by subst e; exact h

theorem clear_ok {P:Program} {t ty e:TypeId} {i:TypeInfo} {z:Value} {cs:Array Bool} (ht:P.underlying t=some (.slice e)) (hi:P.info? e=some i) (hz:i.zero=some z) (h1:∀ v∈z.cells.toList,v.oneCell'=true)
  {H:Hp} {b off n c:Nat} {cells:Array Value} {T:TypeId} (hb:H b=some (.cells cells T (0,0))) (hsz:off+n * z.cells.size≤cells.size) :
  OpSem P (bcall .clear #[t] ty cs [.slice (some ⟨b,off,none⟩) n c]) H fun v H'=>v=.tuple #[]∧∃ zs:List Value,zs.length=n * z.cells.size∧H'=H.put b (.cells (cells.toList.take off++zs++cells.toList.drop (off+zs.length)).toArray T (0,0)):=by
 intro w hv
 have hzl:(Builtin.zeroCells z.cells n).toList.length=n * z.cells.size:=zeroCells_len
 have hone:∀ v∈(Builtin.zeroCells z.cells n).toList,v.oneCell'=true:=by
  intro v hm
  unfold Builtin.zeroCells at hm
  simp only [Array.toList_map,List.mem_map] at hm
  obtain ⟨a,ha,rfl⟩:=hm
  have hlt:a<n * z.cells.size:=by simpa using ha
  have hpos:0<z.cells.size:=by
   rcases Nat.eq_zero_or_pos z.cells.size with h0 | h0
   ·rw [h0] at hlt; omega
   ·exact h0
  have hm2:a % z.cells.size<z.cells.size:=Nat.mod_lt _ hpos
  rw [getElem!_pos z.cells _ hm2]
  exact h1 _ (by simp)
 have hst:=run_storeCells_at (P:=P) b off T (Builtin.zeroCells z.cells n).toList 0 cells w (hv b _ hb) (by rw [hzl]; omega) hone
 simp only [Nat.add_zero] at hst
 refine ⟨.tuple #[],w.setRow b (cells.toList.take off++(Builtin.zeroCells z.cells n).toList++cells.toList.drop (off+(Builtin.zeroCells z.cells n).toList.length)).toArray,_,.inl ?_,Tr.setRow hv hb _,rfl,_,hzl,rfl⟩
 cases n with
 | zero =>
  have e0:(Builtin.zeroCells z.cells 0).toList=[]:=List.length_eq_zero_iff.1 (by rw [hzl]; simp)
  rw [e0] at hst ⊢
  have hw:w.setRow b (cells.toList.take off++[]++cells.toList.drop (off+([]:List Value).length)).toArray=w:=by
   have:(cells.toList.take off++[]++cells.toList.drop (off+([]:List Value).length)).toArray=cells:=by simp
   rw [this]; exact setRow_self w b cells T (0,0) (hv b _ hb)
  rw [hw]
  simp [bcall,Go.builtin,Builtin.clear_,run_underlying ht]
 | succ n =>
  simp [bcall,Go.builtin,Builtin.clear_,run_underlying ht,zeroValue,typeInfo,hi,hz,hst,Result.andThen]

section
variable {α:Type} {k:Nat} {f:α→List Value} {P:Program} {t ty ty' e bytes:Nat} {cs cs':Array Bool} {H0 H:Hp} {s:Slc} {xs:List α} {i j:Int}

theorem delete_mine (hS:sliceOk P t e k bytes=true) (hO:zeroOne P e=true) (hk0:0<k) (hk:∀ x,(f x).length=k) (h1c:∀ x,∀ v∈f x,v.oneCell'=true) (hK:P.cellsOf e=k)
  (hl:Hp.le H0 H) (h:Mine k f e H0 H s xs) (h0:0≤i) (hij:i<j) (hj:j≤xs.length) {post:Value→Hp→Prop}
  (q:∀ u H',Hp.le H0 H'→Mine k f e H0 H' u (xs.take i.toNat++xs.drop j.toNat)→Chg H H' s→Ext H s u→post u.v H') :
  okSl i j (s.n:Int) (s.c:Int)∧((i==j)=true→post s.v H)∧((i==j)=false→okSl 0 i (s.c:Int) (s.c:Int)∧okSl j (s.n:Int) (s.c:Int) (s.c:Int) ∧
   OpSem P (bcall .append #[t,t] ty cs [.slice (subA s.a (P.cellsOf e) 0 (s.c:Int)) (i.toNat-Int.toNat 0) ((s.c:Int).toNat-Int.toNat 0),.slice (subA s.a (P.cellsOf e) j (s.c:Int)) ((s.n:Int).toNat-j.toNat) ((s.c:Int).toNat-j.toNat)]) H
    fun v1 H2=>∃ u3:Slc,v1=u3.v∧okSl (u3.n:Int) (s.n:Int) (u3.c:Int) (u3.c:Int) ∧
     OpSem P (bcall .clear #[t] ty' cs' [.slice (subA u3.a (P.cellsOf e) (u3.n:Int) (u3.c:Int)) ((s.n:Int).toNat-(u3.n:Int).toNat) ((u3.c:Int).toNat-(u3.n:Int).toNat)]) H2 fun v4 H5=>v4=.tuple #[]∧post u3.v H5):=by
 obtain ⟨ti,z,h1,h2,h3,h4,h5,h6⟩:=sliceOk_out hS
 have hz1:∀ v∈z.cells.toList,v.oneCell'=true:=by
  unfold zeroOne at hO
  rw [h2] at hO
  simp only [h3,List.all_eq_true] at hO
  exact hO
 rcases h with ⟨rfl,rfl⟩ | ⟨b,hb0,h⟩
 ·simp at hj; omega
 have hrd:=h.rd hk
 obtain ⟨o1,o2,o3,cells,o4,o5,o6⟩:=h
 have hn:(s.n:Int)=xs.length:=by omega
 refine ⟨⟨h0,by omega,by omega,by omega⟩,fun he=>(by simp at he; omega),fun _=>⟨⟨by omega,h0,by omega,by omega⟩,⟨by omega,by omega,by omega,by omega⟩,?_⟩⟩
 rw [slcCut]
 have hdl:(xs.drop j.toNat).length=xs.length-j.toNat:=List.length_drop
 have hfl:=flatMap_len hk (xs.drop j.toNat)
 have hck:cells.size=s.c * k:=o5
 have hmul:(i.toNat+(xs.length-j.toNat)) * k≤s.c * k:=Nat.mul_le_mul_right _ (by omega)
 have hmul2:i.toNat * k+(xs.length-j.toNat) * k=(i.toNat+(xs.length-j.toNat)) * k:=by rw [Nat.add_mul]
 have hnm:((s.n:Int).toNat-j.toNat)=xs.length-j.toNat:=by omega
 -- what is there behind the append
 have key:∀ (H2:Hp) (cells2:List Value),H2=H.put b (.cells cells2.toArray e (0,0))→cells2.length=s.c * k→cells2.take ((i.toNat+(xs.length-j.toNat)) * k)=(xs.take i.toNat++xs.drop j.toNat).flatMap f →
   okSl ((i.toNat+(xs.length-j.toNat):Nat):Int) (s.n:Int) (s.c:Int) (s.c:Int) ∧
   OpSem P (bcall .clear #[t] ty' cs' [.slice (subA (some ⟨b,0,none⟩) (P.cellsOf e) ((i.toNat+(xs.length-j.toNat):Nat):Int) (s.c:Int)) ((s.n:Int).toNat-((i.toNat+(xs.length-j.toNat):Nat):Int).toNat) ((s.c:Int).toNat-((i.toNat+(xs.length-j.toNat):Nat):Int).toNat)]) H2
    fun v4 H5=>v4=.tuple #[]∧post (.slice (some ⟨b,0,none⟩) (i.toNat+(xs.length-j.toNat)) s.c) H5:=by
  intro H2 cells2 hH2 hlen2 htake
  refine ⟨⟨by omega,by omega,by omega,by omega⟩,?_⟩
  have hsub:subA (some ⟨b,0,none⟩) (P.cellsOf e) ((i.toNat+(xs.length-j.toNat):Nat):Int) (s.c:Int)=some ⟨b,(i.toNat+(xs.length-j.toNat)) * k,none⟩:=by
   unfold subA
   rw [if_neg (by omega),hK]
   simp only [Option.map_some,Addr.add_lit,Int.toNat_natCast,Nat.zero_add]
  rw [hsub]
  have e1:((s.n:Int).toNat-((i.toNat+(xs.length-j.toNat):Nat):Int).toNat)=s.n-(i.toNat+(xs.length-j.toNat)):=by omega
  rw [e1]
  have hbb:H2 b=some (.cells cells2.toArray e (0,0)):=by rw [hH2]; exact Hp.put_same _ _ _
  have hle2:(i.toNat+(xs.length-j.toNat)) * k+(s.n-(i.toNat+(xs.length-j.toNat))) * k≤s.c * k:=by
   rw [← Nat.add_mul]; exact Nat.mul_le_mul_right _ (by omega)
  refine (clear_ok (P:=P) (ty:=ty') (cs:=cs') h1 h2 h3 hz1 hbb (by rw [h4,h5]; simpa [hlen2] using hle2)).mono fun v H5 ⟨hv,zs,hzs,hH5⟩=>⟨hv,?_⟩
  have hH5':H5=H.put b (.cells (cells2.take ((i.toNat+(xs.length-j.toNat)) * k)++zs++cells2.drop ((i.toNat+(xs.length-j.toNat)) * k+zs.length)).toArray e (0,0)):=by
   rw [hH5,hH2,Hp.put_put]
  rw [h4,h5] at hzs
  refine q ⟨some ⟨b,0,none⟩,i.toNat+(xs.length-j.toNat),s.c⟩ H5 (by rw [hH5']; exact Hp.le_put hl hb0) (.inr ⟨b,hb0,?_,by show i.toNat+(xs.length-j.toNat)≤s.c; omega,rfl,_,by rw [hH5']; exact Hp.put_same _ _ _,?_,?_⟩) (fun c hc hne=>by rw [hH5']; exact Hp.put_ne _ _ fun e=>hne _ o3 e.symm) (fun p hp=>.inl (by rw [o3]; exact hp))
  ·simp; omega
  ·simp only [List.size_toArray,List.length_append,List.length_take,List.length_drop,hlen2,hzs]
   omega
  ·have hlx:(xs.take i.toNat++xs.drop j.toNat).length=i.toNat+(xs.length-j.toNat):=by simp; omega
   rw [hlx,← htake]
   simp only [List.append_assoc]
   rw [List.take_left' (by rw [List.length_take,hlen2]; omega)]
 rw [hnm]
 rcases Nat.eq_zero_or_pos (xs.length-j.toNat) with hz | hz
 · -- nothing behind
  rw [hz]
  refine (append_none (P:=P) (ty:=ty) (cs:=cs) h1 h2 (u:=⟨s.a,i.toNat,s.c⟩) (by show i.toNat≤s.c; omega)).mono fun v H' ⟨hv,hH⟩=>⟨_,hv,?_⟩
  subst hH
  have hk':=key H' cells.toList (by
   funext c
   simp only [Hp.put]
   split
   ·rename_i e; subst e; simpa using o4
   ·rfl) (by simpa using o5) (by
   rw [hz,Nat.add_zero]
   have:xs.drop j.toNat=[]:=List.length_eq_zero_iff.1 (by rw [hdl]; exact hz)
   rw [this,List.append_nil]
   have:=congrArg (List.take (i.toNat * k)) o6
   rw [List.take_take,Nat.min_eq_left (Nat.mul_le_mul_right _ (by omega))] at this
   rw [this]
   have e:(xs.take i.toNat).length=i.toNat:=by simp; omega
   conv=>lhs; rw [← List.take_append_drop i.toNat xs,List.flatMap_append]
   rw [List.take_left' (by rw [flatMap_len hk,e])])
  rw [hz,Nat.add_zero] at hk'
  show okSl (i.toNat:Int) _ _ _∧_
  rw [o3]
  exact hk'
 ·have hsub:subA s.a (P.cellsOf e) j (s.c:Int)=some ⟨b,j.toNat * k,none⟩:=by
   unfold subA
   rw [if_neg (by omega),o3,hK]
   simp [Addr.add_lit]
  rw [hsub]
  refine (append_room (P:=P) (ty:=ty) (cs:=cs) h1 h2 (u:=⟨s.a,i.toNat,s.c⟩) (b:=b) (off:=0) (cells:=cells) (T:=e) (q:=⟨b,j.toNat * k,none⟩) (m:=xs.length-j.toNat) (c:=(s.c:Int).toNat-j.toNat) (news:=(xs.drop j.toNat).flatMap f) o3 o4 (by rw [hfl,hdl,h5]) (fun jj v hv=>?_) (fun v hv=>by
   obtain ⟨x,_,hx⟩:=List.mem_flatMap.1 hv; exact h1c x v hx) (by show i.toNat+_≤s.c; omega) (by rw [h5,o5,Nat.zero_add]; exact hmul)).mono fun v H' ⟨hv,hH⟩=>⟨⟨some ⟨b,0,none⟩,i.toNat+(xs.length-j.toNat),s.c⟩,hv,?_⟩
  ·have:=Rd.cells hk hk0 hrd (p:=⟨b,0,none⟩) o3 (j.toNat * k+jj) v (by
    have e:xs.flatMap f=(xs.take j.toNat).flatMap f++(xs.drop j.toNat).flatMap f:=by rw [← List.flatMap_append,List.take_append_drop]
    rw [e,List.getElem?_append_right (by rw [flatMap_len hk,List.length_take,Nat.min_eq_left (by omega)]; omega),flatMap_len hk,List.length_take,Nat.min_eq_left (by omega)]
    rw [Nat.add_sub_cancel_left]; exact hv)
   simpa [Addr.add_lit] using this
  ·refine key H' _ hH ?_ ?_
   ·simp only [List.length_append,List.length_take,List.length_drop,hfl,hdl,h5,Array.length_toList,o5,Nat.zero_add]
    omega
   ·simp only [h5,Nat.zero_add]
    have ht1:cells.toList.take (i.toNat * k)=(xs.take i.toNat).flatMap f:=by
     have:=congrArg (List.take (i.toNat * k)) o6
     rw [List.take_take,Nat.min_eq_left (Nat.mul_le_mul_right _ (by omega))] at this
     rw [this]
     have e:(xs.take i.toNat).length=i.toNat:=by simp; omega
     conv=>lhs; rw [← List.take_append_drop i.toNat xs,List.flatMap_append]
     rw [List.take_left' (by rw [flatMap_len hk,e])]
    rw [ht1,List.flatMap_append]
    have e:(xs.take i.toNat).length=i.toNat:=by simp; omega
    rw [List.take_left' (by rw [List.length_append,flatMap_len hk,flatMap_len hk,e,hdl,Nat.add_mul])]
end
end Go.Eng
end
section
/- Stores into elements of several cells. Conditions: none. -/
namespace Go.Eng

theorem store_row {b off:Nat} {T:TypeId}:∀ (vs:List Value) (j:Nat) (H:Hp) (cs:Array Value),H b=some (.cells cs T (0,0))→off+j+vs.length≤cs.size →
  H.canStore ⟨b,off,none⟩ j vs∧H.store ⟨b,off,none⟩ j vs=H.put b (.cells (cs.toList.take (off+j)++vs++cs.toList.drop (off+j+vs.length)).toArray T (0,0))
 | [],j,H,cs,h,_=>by
  refine ⟨trivial,?_⟩
  simp only [Hp.store,List.append_nil,List.length_nil,Nat.add_zero,List.take_append_drop,Array.toArray_toList]
  funext k
  simp only [Hp.put]
  split
  ·rename_i e; subst e; exact h
  ·rfl
 | v :: vs,j,H,cs,h,hl=>by
  simp only [List.length_cons] at hl
  have ha:(Addr.mk b off none).add j=⟨b,off+j,none⟩:=by simp [Addr.add_lit]
  have hs1:H.set1 ⟨b,off+j,none⟩ v=H.put b (.cells (cs.setIfInBounds (off+j) v) T (0,0)):=by
   have:=Cel.store (H:=H) (b:=b) (cs:=cs) (T:=T) h (off+j) v
   simpa [Hp.store,Addr.add] using this
  have hc:H.canStore ⟨b,off+j,none⟩ 0 [v]:=Cel.can h (by omega) v
  have hb1:(H.put b (.cells (cs.setIfInBounds (off+j) v) T (0,0))) b=some (.cells (cs.setIfInBounds (off+j) v) T (0,0)):=Hp.put_same _ _ _
  obtain ⟨i1,i2⟩:=store_row (off:=off) vs (j+1) (H.put b (.cells (cs.setIfInBounds (off+j) v) T (0,0))) _ hb1 (by simp; omega)
  obtain ⟨j1,_⟩:=store_row (off:=off) vs (j+1) H cs h (by omega)
  refine ⟨⟨?_,j1⟩,?_⟩
  ·rw [ha]; simpa [Hp.canStore,Addr.add] using hc
  ·simp only [Hp.store]
   rw [ha,hs1,i2,Hp.put_put]
   congr 3
   have e:(cs.setIfInBounds (off+j) v).toList=cs.toList.take (off+j)++v :: cs.toList.drop (off+j+1):=by
    rw [setIf_toList,List.set_eq_take_append_cons_drop,if_pos (by rw [Array.length_toList]; omega)]
   have htl:(cs.toList.take (off+j)).length=off+j:=by rw [List.length_take,Array.length_toList]; omega
   rw [e,show off+(j+1)=(off+j)+1 by omega]
   have t1:(cs.toList.take (off+j)++v :: cs.toList.drop (off+j+1)).take (off+j+1)=cs.toList.take (off+j)++[v]:=by
    rw [show cs.toList.take (off+j)++v :: cs.toList.drop (off+j+1)=(cs.toList.take (off+j)++[v])++cs.toList.drop (off+j+1) by simp]
    exact List.take_left' (by simp [htl])
   have t2:(cs.toList.take (off+j)++v :: cs.toList.drop (off+j+1)).drop (off+j+1+vs.length)=cs.toList.drop (off+j+(vs.length+1)):=by
    rw [show cs.toList.take (off+j)++v :: cs.toList.drop (off+j+1)=(cs.toList.take (off+j)++[v])++cs.toList.drop (off+j+1) by simp]
    rw [List.drop_append,List.drop_of_length_le (by simp [htl]),List.nil_append,List.drop_drop]
    congr 1
    simp [htl]; omega
   rw [t1,t2]
   simp

section
variable {α:Type} {k:Nat} {f:α→List Value} {e:TypeId} {H H0:Hp} {b:Nat} {u:Slc} {xs:List α} {i:Int} {x y:α} {j:Nat} {vs:List Value}

end

section
variable {H:Hp} {u:Slc} {xs:List (Int × Int × Int)} {i:Int}
end
end Go.Eng
end
section
/- Stores of certificates,in plain words. Conditions: none. -/
namespace Go.Eng

structure Ct where
 next:Int
 list:List (Int × Int × Int)
deriving DecidableEq
def Ct.zero:Ct:=⟨0,[]⟩

def validC (x:Int × Int):Bool:=decide (0≤x.1)&&decide (x.1≤65535)&&decide (0≤x.2)&&decide (x.2≤65535)&&x.1 != x.2

structure okL (nx:Int) (l:List (Int × Int × Int)):Prop where
 each:∀ x∈l,validC x.2=true∧0≤x.1∧x.1<nx
 inc:l.Pairwise fun a b=>a.1<b.1
 dist:(l.map (·.2)).Nodup

structure okC (c:Ct):Prop where
 len:c.list.length≤200
 n0:0≤c.next
 n1:c.next≤1000000
 ok:okL c.next c.list

instance (c:Ct):Decidable (okC c) :=
 decidable_of_iff (c.list.length≤200∧0≤c.next∧c.next≤1000000∧(∀ x∈c.list,validC x.2=true∧0≤x.1∧x.1<c.next)∧(c.list.Pairwise fun a b=>a.1<b.1)∧(c.list.map (·.2)).Nodup)
  ⟨fun ⟨a,b,d,e,f,g⟩=>⟨a,b,d,e,f,g⟩,fun ⟨a,b,d,e,f,g⟩=>⟨a,b,d,e,f,g⟩⟩

theorem okL.take {nx:Int} {l:List (Int × Int × Int)} (h:okL nx l) (n:Nat):okL nx (l.take n) :=
 ⟨fun x hx=>h.each x (List.mem_of_mem_take hx),h.inc.sublist (List.take_sublist _ _),h.dist.sublist ((List.take_sublist n l).map _)⟩

theorem okL.nil (nx:Int):okL nx []:=⟨fun x hx=>(by simp at hx),List.Pairwise.nil,List.nodup_nil⟩

def cmpI (x y:Int):Int:=if x<y then -1 else if x>y then 1 else 0

end Go.Eng
end
section
/- Fractions and events,in plain words. Conditions: none. -/
namespace Go.Eng

structure okR (r:Int × Int):Prop where
 d1:1≤r.2
 d2:r.2≤9223372036854775807
 n1:-9223372036854775807≤r.1
 n2:r.1≤9223372036854775807
 g:Nat.gcd r.1.natAbs r.2.natAbs=1
instance (r:Int × Int):Decidable (okR r) :=
 decidable_of_iff (1≤r.2∧r.2≤9223372036854775807∧-9223372036854775807≤r.1∧r.1≤9223372036854775807∧Nat.gcd r.1.natAbs r.2.natAbs=1) ⟨fun ⟨a,b,c,d,e⟩=>⟨a,b,c,d,e⟩,fun ⟨a,b,c,d,e⟩=>⟨a,b,c,d,e⟩⟩
def chkR (r:Int × Int):Int:=if okR r then 0 else 8
theorem chkR_ok {r:Int × Int} (h:okR r):chkR r=0:=by unfold chkR; rw [if_pos h]
theorem chkR_bad {r:Int × Int} (h:¬ okR r):chkR r=8:=by unfold chkR; rw [if_neg h]
theorem chkR_zero {r:Int × Int}:chkR r=0↔okR r:=by
 by_cases h:okR r
 ·simp [chkR_ok h,h]
 ·simp [chkR_bad h,h]
def fitR (r:Int × Int):Prop:=inI r.1∧inI r.2
theorem okR.fit {r:Int × Int} (h:okR r):fitR r:=by
 have:=h.d1; have:=h.d2; have:=h.n1; have:=h.n2
 exact ⟨by unfold inI; omega,by unfold inI; omega⟩

def cmpR (a b:Int × Int):Int:=cmpI (a.1 * b.2) (b.1 * a.2)
theorem cmpI_eq {x y:Int}:cmpI x y=0↔x=y:=by
 unfold cmpI
 split
 ·simp; omega
 ·split
  ·simp; omega
  ·simp; omega
theorem cmpI_gt {x y:Int}:cmpI x y>0↔x>y:=by
 unfold cmpI
 split
 ·simp; omega
 ·split
  ·simp [*]
  ·simp; omega
theorem cmpI_neg {x y:Int}:0-cmpI x y=cmpI y x:=by
 rcases Int.lt_trichotomy x y with h | h | h
 ·have a:cmpI x y = -1:=by unfold cmpI; rw [if_pos h]
  have b:cmpI y x=1:=by unfold cmpI; rw [if_neg (by omega),if_pos (by omega)]
  rw [a,b]; rfl
 ·rw [cmpI_eq.2 h,cmpI_eq.2 h.symm]; rfl
 ·have a:cmpI x y=1:=by unfold cmpI; rw [if_neg (by omega),if_pos h]
  have b:cmpI y x = -1:=by unfold cmpI; rw [if_pos h]
  rw [a,b]; rfl
theorem cmpI_range (x y:Int):-1≤cmpI x y∧cmpI x y≤1:=by
 unfold cmpI
 split
 ·omega
 ·split <;> omega

theorem rat_le {a b c:Int × Int} (hb:1≤b.2) (ha:1≤a.2) (hc:1≤c.2) (h:a.1 * b.2≤b.1 * a.2) (h':b.1 * c.2≤c.1 * b.2):a.1 * c.2≤c.1 * a.2:=by
 have h1:a.1 * b.2 * c.2≤b.1 * a.2 * c.2:=Int.mul_le_mul_of_nonneg_right h (by omega)
 have h2:b.1 * c.2 * a.2≤c.1 * b.2 * a.2:=Int.mul_le_mul_of_nonneg_right h' (by omega)
 refine Int.le_of_mul_le_mul_right (a:=b.2) ?_ (by omega)
 have e1:a.1 * c.2 * b.2=a.1 * b.2 * c.2:=by ac_rfl
 have e2:b.1 * a.2 * c.2=b.1 * c.2 * a.2:=by ac_rfl
 have e3:c.1 * a.2 * b.2=c.1 * b.2 * a.2:=by ac_rfl
 omega
structure Ev where
 at_:Int × Int
 no:Int
 h:Int × Int
deriving DecidableEq

def e0:Ev:=⟨(0,0),0,(0,0)⟩
def Ev.v (x:Ev):Value:=.agg #[.int .i64 x.at_.1,.int .i64 x.at_.2,.int .i64 x.no,.int .i64 x.h.1,.int .i64 x.h.2]

end Go.Eng
end
