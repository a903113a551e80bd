/- The engine, parts UM, UN, UO, CM, RM, put together. Conditions: none. -/
import Derived.Test.YtnhdkkblehadjaaGreatE4
import Derived.MapKept
open Go.Addr renaming add_lit->Qa,add->Qb
open Array renaming length_toList->Qc,getElem?_setIfInBounds_ne->Qd
open Bool renaming false_eq_true->Qe,and_eq_true->Qg,eq_iff_iff->Qh
open Go.Builtin renaming zeroCells->Qi,clear_->Qj
open Go.Eng.Hp renaming put_same->Ql,store->Qm,put_ne->Qn,put->Qo,put_put->Qp
open Int renaming toNat_natCast->Qq,mul_le_mul_of_nonneg_right->Qr,toNat->Qs,mul_lt_mul_of_pos_right->Qt
open List renaming getElem?_eq_some_iff->Qu,length_take->Qv,append_assoc->Qw,take_left'->Qx,take_append_drop->Qy,getElem?_eq_getElem->Qz,length_drop->Q1,flatMap_append->Q2,length_append->Q3,pairwise_append->Q4,mem_singleton->Q5,map_cons->Q6,findIdx?_cons->Q7,drop_append->Q8,take_take->Q9,take_sublist->Xa,take_append->Xb,take->Xc,size_toArray->Xd,set_eq_take_append_cons_drop->Xe,pairwise_iff_getElem->Xf,nodup_append->Xg,nil_append->Xh,map_append->Xi,length_eq_zero_iff->Xj,getElem?_map->Xk,flatMap_cons->Xl,findIdx_getElem->Xm,filter_eq_self->Xn,drop_of_length_le->Xo,drop_eq_getElem_cons->Xp,cons->Xq,append_nil->Xr
open Nat renaming mul_le_mul_right->Xs,add_zero->Xt,add_mul->Xu,min_eq_left->Xv,zero_add->Xw,le_refl->Xx,lt_of_lt_of_le->Xy,lt_trichotomy->Xz,eq_zero_or_pos->X3,add_sub_cancel_left->X4
open Go.Result renaming andThen->X5,andThen_ok->X6
open Go.Sem renaming run_bind->X7
set_option linter.unusedVariables false
section
namespace Go.Eng
variable{P:Program}{k:TypeId}
theorem x9w{w:World}{H:Hp}(h:z2i w H){b:Nat}{o:Obj}(hb:H b≠none):Tr w H { w with heap:=w.heap.setIfInBounds b o } (H.put b o):=by
 have hlt:=h.lt hb;refine⟨λk o' hk=>?_,λk hk hn=>?_,λk hk=>?_,by simp,rfl,rfl,rfl,Xx _⟩
 ·simp only[Qo] at hk;split at hk
  ·rename_i e;subst e;cases hk;simp[hlt]
  ·rename_i e;show (w.heap.setIfInBounds b _)[k]?=_;rw[Qd (λh=>e h.symm)];exact h k o' hk
 ·have hne:k≠b:=λe=>by subst e;exact hb hn
  show (w.heap.setIfInBounds b _)[k]?=_;rw[Qd (λh=>hne h.symm)]
 ·by_cases e:k=b
  ·subst e;exact .inl hb
  ·rw[Qn _ _ e] at hk;exact .inl hk
structure KL{κ:Type}[DecidableEq κ](P:Program)(k:TypeId)(fk:κ->Value):Prop where
 find:∀(w:World)(x:κ)(es:List MapEntry)(kvs:List (κ×Value)),es.map (λe=>(e.key,e.val))=kvs.map (λp=>(fk p.1,p.2)) ->
  (Instr.findKey k (fk x) es).run P w=.ok ((kvs.findIdx? λp=>decide (p.1=x)).map λi=>(i,(kvs[i]?.map (·.2)).getD undef)) w
 check:∀(w:World)(x:κ)(em:Bool),(Instr.checkKey em 10000 k (fk x)).run P w=.ok () w
 stays:∀(w:World)(x:κ),(Instr.keyThatStays (fk x) (fk x)).run P w=.ok (fk x) w
def z16{κ:Type}(fk:κ->Value)(H:Hp)(b:Nat)(kvs:List (κ×Value)):Prop :=
 ∃es n,H b=some (.map es n)/\es.toList.map (λe=>(e.key,e.val))=kvs.map λp=>(fk p.1,p.2)
section
variable{κ:Type}{fk:κ->Value}{H H':Hp}{b:Nat}{kvs:List (κ×Value)}
theorem z16.new(h:H'=H.put b (.map #[] 0)):z16 fk H' b []:=by
 subst h;exact⟨#[],0,Ql _ _ _,rfl⟩
theorem z16.le(h:z16 fk H b kvs)(hl:Hp.le H H'):z16 fk H' b kvs:=by
 obtain⟨es,n,h1,h2⟩:=h;exact⟨es,n,hl _ _ h1,h2⟩
theorem z16.chg{u:Slc}(h:z16 fk H b kvs)(hc:Chg H H' u)(hn:∀p,u.a=some p->p.block≠b):z16 fk H' b kvs:=by
 obtain⟨es,n,h1,h2⟩:=h;exact⟨es,n,by rw[hc b (by rw[h1];simp) hn];exact h1,h2⟩
end
section
variable{κ:Type}[DecidableEq κ]{P:Program}{k e t:TypeId}{fk:κ->Value}{H H':Hp}{b:Nat}{kvs:List (κ×Value)}{x:κ}{v z:Value}
def y37(kvs:List (κ×Value))(x:κ):Option Value:=(kvs.find? λp=>decide (p.1=x)).map (·.2)
theorem y39:∀(kvs:List (κ×Value))(x:κ),(kvs.findIdx? λp=>decide (p.1=x)).map (λi=>(kvs[i]?.map (·.2)).getD undef)=y37 kvs x
 | [],x=>rfl
 | p :: kvs,x=>by
  unfold y37;rw[Q7,List.find?_cons];by_cases h:p.1=x
  ·simp[h]
  ·simp only[h,decide_false,Qe,if_false,Option.map_map];rw[← y37,← y39 kvs x];rfl
theorem KL.look(K:KL P k fk)(ht:P.underlying t=some (.map k e))(hzz:(P.info? e).bind (λi=>i.zero)=some z)(h:z16 fk H b kvs) :
  OpQ P (x07 (Instr.lookup t (.map (some b)) (fk x) false)) H ((y37 kvs x).getD z):=by
 obtain⟨es,n,h1,h2⟩:=h;obtain⟨i,hi,hz⟩:=Option.bind_eq_some_iff.1 hzz;intro w hv;have hf:=K.find w x es.toList kvs h2;rw[← y39];cases hx:kvs.findIdx? λp=>decide (p.1=x) with
 | none =>
  rw[hx] at hf;simp[x07,Instr.lookup,run_underlying ht,MapKept.run_getObj_map (hv b _ h1),K.check w x,hf,X5,zeroValue,typeInfo,hi,hz]
 | some j =>
  rw[hx] at hf;simp[x07,Instr.lookup,run_underlying ht,MapKept.run_getObj_map (hv b _ h1),K.check w x,hf,X5]
theorem KL.lookOk(K:KL P k fk)(ht:P.underlying t=some (.map k e))(hzz:(P.info? e).bind (λi=>i.zero)=some z)(h:z16 fk H b kvs) :
  OpQ P (x07 (Instr.lookup t (.map (some b)) (fk x) true)) H (.tuple #[(y37 kvs x).getD z,.bool (y37 kvs x).isSome]):=by
 obtain⟨es,n,h1,h2⟩:=h;obtain⟨i,hi,hz⟩:=Option.bind_eq_some_iff.1 hzz;intro w hv;have hf:=K.find w x es.toList kvs h2;rw[← y39];cases hx:kvs.findIdx? λp=>decide (p.1=x) with
 | none =>
  rw[hx] at hf;simp[x07,Instr.lookup,run_underlying ht,MapKept.run_getObj_map (hv b _ h1),K.check w x,hf,X5,zeroValue,typeInfo,hi,hz]
 | some j =>
  rw[hx] at hf;simp[x07,Instr.lookup,run_underlying ht,MapKept.run_getObj_map (hv b _ h1),K.check w x,hf,X5]
theorem KL.add(K:KL P k fk)(ht:P.underlying t=some (.map k e))(h:z16 fk H b kvs)(hn:y37 kvs x=none) :
  z1l P (x06 (Instr.mapUpdate t (.map (some b)) (fk x) v)) H λ_ H'=>∃o,H'=H.put b o/\z16 fk H' b (kvs++[(x,v)]):=by
 obtain⟨es,n,h1,h2⟩:=h;intro w hv;have hf:=K.find w x es.toList kvs h2;have hx:kvs.findIdx? (λp=>decide (p.1=x))=none:=by
  have:=y39 kvs x;rw[hn] at this;simpa using this
 rw[hx] at hf;refine⟨undef,_,_,.inr ⟨?_,rfl⟩,x9w hv (b:=b) (o:=.map (es.push ⟨fk x,v,n⟩) (n+1)) (by rw[h1];simp),_,rfl,_,_,Ql _ _ _,?_⟩
 ·simp[x06,Instr.mapUpdate,run_underlying ht,MapKept.run_getObj_map (hv b _ h1),K.check w x,hf,X5,MapKept.run_setObj_map _ (hv b _ h1)]
 ·simp[h2]
end
theorem zyp{kd:TypeDesc}{κ:Type}[DecidableEq κ]{fk:κ->Value}(hs:∀x y,Instr.sameNow kd (fk x) (fk y)=some (decide (x=y)))(x:κ):∀(es:List MapEntry)(kvs:List (κ×Value))(j:Nat),
  es.map (λe=>(e.key,e.val))=kvs.map (λp=>(fk p.1,p.2)) ->
  Instr.findNow kd (fk x) es j=some ((kvs.findIdx? λp=>decide (p.1=x)).map λi=>(j+i,(kvs[i]?.map (·.2)).getD undef))
 | [],[],j,_=>rfl
 | e :: es,p :: kvs,j,h=>by
  simp only[Q6,Xq.injEq,Prod.mk.injEq] at h;obtain⟨⟨h1,h2⟩,h3⟩:=h;rw[Instr.findNow,h1,hs,Q7];by_cases hx:x=p.1
  ·subst hx;simp[h2]
  ·have hx':¬ p.1=x:=λe=>hx e.symm
   simp only[hx,hx',decide_false,Qe,if_false];rw[zyp hs x es kvs (j+1) h3];cases kvs.findIdx? λp=>decide (p.1=x) with
   | none=>rfl
   | some i=>simp;omega
theorem zyo{P:Program}{k:TypeId}{κ:Type}[DecidableEq κ]{fk:κ->Value}(hs:∀x y w,(Op.equal k (fk x) (fk y)).run P w=.ok (decide (x=y)) w)(w:World)(x:κ):∀(es:List MapEntry)(kvs:List (κ×Value))(j:Nat),
  es.map (λe=>(e.key,e.val))=kvs.map (λp=>(fk p.1,p.2)) ->
  (Instr.findAsking k (fk x) es j).run P w=.ok ((kvs.findIdx? λp=>decide (p.1=x)).map λi=>(j+i,(kvs[i]?.map (·.2)).getD undef)) w
 | [],[],j,_=>rfl
 | e :: es,p :: kvs,j,h=>by
  simp only[Q6,Xq.injEq,Prod.mk.injEq] at h;obtain⟨⟨h1,h2⟩,h3⟩:=h;rw[Instr.findAsking,h1,X7,hs,X6,Q7];by_cases hx:x=p.1
  ·subst hx;simp[h2]
  ·have hx':¬ p.1=x:=λe=>hx e.symm
   simp only[hx,hx',decide_false,Qe,if_false];rw[zyo hs w x es kvs (j+1) h3];cases kvs.findIdx? λp=>decide (p.1=x) with
   | none=>rfl
   | some i=>simp;omega
theorem KL.of_now{κ:Type}[DecidableEq κ]{fk:κ->Value}{kd:TypeDesc}(hk:P.underlying k=some kd)(hs:∀x y,Instr.sameNow kd (fk x) (fk y)=some (decide (x=y)))
  (hc:∀(w:World)(x:κ)(em:Bool),(Instr.checkKey em 10000 k (fk x)).run P w=.ok () w) (hst:∀(w:World)(x:κ),(Instr.keyThatStays (fk x) (fk x)).run P w=.ok (fk x) w):KL P k fk:=by
 refine⟨λw x es kvs h=>?_,hc,hst⟩;rw[Instr.findKey,X7,run_underlying hk,X6,zyp hs x es kvs 0 h];simp
theorem KL.int{P:Program}{k:TypeId}(hk:P.underlying k=some (.int .i64)):KL P k (λx:Int=>Value.int .i64 x):=by
 refine KL.of_now hk (λx y=>by simp only[Instr.sameNow,if_true,Option.some.injEq];rw[Qh];simp) (λw x em=>?_) λw x=>by simp[Instr.keyThatStays,Instr.sameBits]
 exact MapKept.run_checkKey (n:=9999) hk (by rfl) em
theorem KL.pair{t:TypeId}{f0 f1:Field}(hk:P.underlying k=some (.struct #[f0,f1]))(h0:f0.type=t)(h1:f1.type=t)(ht:P.underlying t=some (.int .i64))(o0:f0.offset=0)(o1:f1.offset=1)
  (n0:f0.name ≠ "_") (n1:f1.name ≠ "_") (hp:P.stoodInHeld k=false) (hs:P.cellsOf t=1):KL P k (λx:Int×Int=>Value.agg #[.int .i64 x.1,.int .i64 x.2]):=by
 have hpart:∀(cs:Array Value)(i:Nat)(v:Value)(w:World),cs[i]?=some v->(part t cs i).run P w=.ok v w:=λcs i v w h=>by
  exact yys (x:=.int .i64) (by unfold ynq z5o;rw[ht];exact h) ht w
 refine⟨λw x es kvs h=>?_,λw x em=>?_,λw x=>?_⟩
 ·rw[Instr.findKey,X7,run_underlying hk,X6];have heq:∀(x y:Int×Int)(w:World),(Op.equal k (.agg #[.int .i64 x.1,.int .i64 x.2]) (.agg #[.int .i64 y.1,.int .i64 y.2])).run P w=.ok (decide (x=y)) w:=λx y w=>by
   have hv:eqV P 9 none k (.agg #[.int .i64 x.1,.int .i64 x.2]) (.agg #[.int .i64 y.1,.int .i64 y.2])=some (some (x.1==y.1&&x.2==y.2)):=by
    have b0:(f0.name == "_")=false:=by simpa using n0
    have b1:(f1.name == "_")=false:=by simpa using n1
    simp[eqV,hk,hp,zue,h0,h1,ht,ynq,z5o,o0,o1,b0,b1,z6y]
   obtain⟨r,hr,e⟩:=yyp 9 none _ k _ _ hv;have hrr:r=decide (x=y):=by
    have:(x.1==y.1&&x.2==y.2)=r:=by simpa[oB] using e
    rw[← this,Qh];simp only[Qg,beq_iff_eq,Zq];exact⟨λ⟨a,b⟩=>Prod.ext a b,λh=>by subst h;exact⟨rfl,rfl⟩⟩
   rw[← hrr];exact hr 10000 w (by omega)
  have key:=zyo (P:=P) (k:=k) (fk:=λx:Int×Int=>Value.agg #[.int .i64 x.1,.int .i64 x.2]) heq w x es kvs 0 h;cases es with
  | nil =>
   cases kvs with
   | nil=>rfl
   | cons p kvs=>simp at h
  | cons e es =>
   simp only[Instr.findNow,Instr.sameNow];rw[key];simp
 ·show (Instr.checkKey em (9999+1) k _).run P w=_;unfold Instr.checkKey;rw[X7,run_underlying hk,X6];have hc:∀(n:Int),(Instr.checkKey em 9999 t (.int .i64 n)).run P w=.ok () w:=λn=>MapKept.run_checkKey (n:=9998) ht (by rfl) em
  simp[n0,n1,h0,h1,o0,o1,hpart,hc,X5]
 ·simp[Instr.keyThatStays,Instr.sameBits]
end Go.Eng
namespace Go.Eng
def xcz(P:Program)(e:TypeId):Bool :=
 match P.info? e with
 | some i=>match i.zero with
  | some z=>z.cells.toList.all λv=>v.oneCell'
  | none=>false
 | none=>false
theorem Tr.same{w w':World}{H H' H'':Hp}(h:Tr w H w' H')(e:H'=H''):Tr w H w' H'':=by subst e;exact h
theorem zmm{P:Program}{t ty e:TypeId}{i:TypeInfo}{z:Value}{cs:Array Bool}(ht:P.underlying t=some (.slice e))(hi:P.info? e=some i)(hz:i.zero=some z)(h1:∀v∈z.cells.toList,v.oneCell'=true)
  {H:Hp} {b off n c:Nat} {cells:Array Value} {T:TypeId} (hb:H b=some (.cells cells T (0,0))) (hsz:off+n*z.cells.size<=cells.size) :
  z1l P (z9e .clear #[t] ty cs [.slice (some ⟨b,off,none⟩) n c]) H λv H'=>v=.tuple #[]/\∃zs:List Value,zs.length=n*z.cells.size/\H'=H.put b (.cells (cells.toList.take off++zs++cells.toList.drop (off+zs.length)).toArray T (0,0)):=by
 intro w hv;have hzl:(Qi z.cells n).toList.length=n*z.cells.size:=xcy;have hone:∀v∈(Qi z.cells n).toList,v.oneCell'=true:=by
  intro v hm;unfold Qi at hm;simp only[Array.toList_map,List.mem_map] at hm;obtain⟨a,ha,rfl⟩:=hm;have hlt:a<n*z.cells.size:=by simpa using ha
  have hpos:0<z.cells.size:=by
   rcases X3 z.cells.size with h0|h0
   ·rw[h0] at hlt;omega
   ·exact h0
  have hm2:a%z.cells.size<z.cells.size:=Nat.mod_lt _ hpos;rw[getElem!_pos z.cells _ hm2];exact h1 _ (by simp)
 have hst:=run_storeCells_at (P:=P) b off T (Qi z.cells n).toList 0 cells w (hv b _ hb) (by rw[hzl];omega) hone;simp only[Xt] at hst;refine⟨.tuple #[],w.setRow b (cells.toList.take off++(Qi z.cells n).toList++cells.toList.drop (off+(Qi z.cells n).toList.length)).toArray,_,.inl ?_,Tr.setRow hv hb _,rfl,_,hzl,rfl⟩;cases n with
 | zero =>
  have e0:(Qi z.cells 0).toList=[]:=Xj.1 (by rw[hzl];simp);rw[e0] at hst ⊢;have hw:w.setRow b (cells.toList.take off++[]++cells.toList.drop (off+([]:List Value).length)).toArray=w:=by
   have:(cells.toList.take off++[]++cells.toList.drop (off+([]:List Value).length)).toArray=cells:=by simp
   rw[this];exact setRow_self w b cells T (0,0) (hv b _ hb)
  rw[hw];simp[z9e,Go.builtin,Qj,run_underlying ht]
 | succ n =>
  simp[z9e,Go.builtin,Qj,run_underlying ht,zeroValue,typeInfo,hi,hz,hst,X5]
section
variable{α:Type}{k:Nat}{f:α->List Value}{P:Program}{t ty ty' e bytes:Nat}{cs cs':Array Bool}{H0 H:Hp}{s:Slc}{xs:List α}{i j:Int}
theorem zsz(hS:x17 P t e k bytes=true)(hO:xcz P e=true)(hk0:0<k)(hk:∀x,(f x).length=k)(h1c:∀x,∀v∈f x,v.oneCell'=true)(hK:P.cellsOf e=k)
  (hl:Hp.le H0 H) (h:Mine k f e H0 H s xs) (h0:0<=i) (hij:i<j) (hj:j<=xs.length) {Zw:Value->Hp->Prop}
  (q:∀u H',Hp.le H0 H'->Mine k f e H0 H' u (xs.take i.toNat++xs.drop j.toNat)->Chg H H' s->Ext H s u->Zw u.v H') :
  ykg i j (s.n:Int) (s.c:Int)/\((i==j)=true->Zw s.v H)/\((i==j)=false->ykg 0 i (s.c:Int) (s.c:Int)/\ykg j (s.n:Int) (s.c:Int) (s.c:Int) /\
   z1l P (z9e .append #[t,t] ty cs [.slice (x67 s.a (P.cellsOf e) 0 (s.c:Int)) (i.toNat-Qs 0) ((s.c:Int).toNat-Qs 0),.slice (x67 s.a (P.cellsOf e) j (s.c:Int)) ((s.n:Int).toNat-j.toNat) ((s.c:Int).toNat-j.toNat)]) H
    λv1 H2=>∃u3:Slc,v1=u3.v/\ykg (u3.n:Int) (s.n:Int) (u3.c:Int) (u3.c:Int) /\
     z1l P (z9e .clear #[t] ty' cs' [.slice (x67 u3.a (P.cellsOf e) (u3.n:Int) (u3.c:Int)) ((s.n:Int).toNat-(u3.n:Int).toNat) ((u3.c:Int).toNat-(u3.n:Int).toNat)]) H2 λv4 H5=>v4=.tuple #[]/\Zw u3.v H5):=by
 obtain⟨ti,z,h1,h2,h3,h4,h5,h6⟩:=x18 hS;have hz1:∀v∈z.cells.toList,v.oneCell'=true:=by
  unfold xcz at hO;rw[h2] at hO;simp only[h3,List.all_eq_true] at hO;exact hO
 rcases h with⟨rfl,rfl⟩|⟨b,hb0,h⟩
 ·simp at hj;omega
 have hrd:=h.rd hk;obtain⟨o1,o2,o3,cells,o4,o5,o6⟩:=h;have hn:(s.n:Int)=xs.length:=by omega
 refine⟨⟨h0,by omega,by omega,by omega⟩,λhe=>(by simp at he;omega),λ_=>⟨⟨by omega,h0,by omega,by omega⟩,⟨by omega,by omega,by omega,by omega⟩,?_⟩⟩;rw[x0z];have hdl:(xs.drop j.toNat).length=xs.length-j.toNat:=Q1;have hfl:=y06 hk (xs.drop j.toNat);have hck:cells.size=s.c*k:=o5;have hmul:(i.toNat+(xs.length-j.toNat))*k<=s.c*k:=Xs _ (by omega);have hmul2:i.toNat*k+(xs.length-j.toNat)*k=(i.toNat+(xs.length-j.toNat))*k:=by rw[Xu]
 have hnm:((s.n:Int).toNat-j.toNat)=xs.length-j.toNat:=by omega
 have key:∀(H2:Hp)(cells2:List Value),H2=H.put b (.cells cells2.toArray e (0,0))->cells2.length=s.c*k->cells2.take ((i.toNat+(xs.length-j.toNat))*k)=(xs.take i.toNat++xs.drop j.toNat).flatMap f ->
   ykg ((i.toNat+(xs.length-j.toNat):Nat):Int) (s.n:Int) (s.c:Int) (s.c:Int) /\
   z1l P (z9e .clear #[t] ty' cs' [.slice (x67 (some ⟨b,0,none⟩) (P.cellsOf e) ((i.toNat+(xs.length-j.toNat):Nat):Int) (s.c:Int)) ((s.n:Int).toNat-((i.toNat+(xs.length-j.toNat):Nat):Int).toNat) ((s.c:Int).toNat-((i.toNat+(xs.length-j.toNat):Nat):Int).toNat)]) H2
    λv4 H5=>v4=.tuple #[]/\Zw (.slice (some ⟨b,0,none⟩) (i.toNat+(xs.length-j.toNat)) s.c) H5:=by
  intro H2 cells2 hH2 hlen2 htake;refine⟨⟨by omega,by omega,by omega,by omega⟩,?_⟩;have hsub:x67 (some ⟨b,0,none⟩) (P.cellsOf e) ((i.toNat+(xs.length-j.toNat):Nat):Int) (s.c:Int)=some ⟨b,(i.toNat+(xs.length-j.toNat))*k,none⟩:=by
   unfold x67;rw[Zn (by omega),hK];simp only[Option.map_some,Qa,Qq,Xw]
  rw[hsub];have e1:((s.n:Int).toNat-((i.toNat+(xs.length-j.toNat):Nat):Int).toNat)=s.n-(i.toNat+(xs.length-j.toNat)):=by omega
  rw[e1];have hbb:H2 b=some (.cells cells2.toArray e (0,0)):=by rw[hH2];exact Ql _ _ _
  have hle2:(i.toNat+(xs.length-j.toNat))*k+(s.n-(i.toNat+(xs.length-j.toNat)))*k<=s.c*k:=by
   rw[← Xu];exact Xs _ (by omega)
  refine(zmm (P:=P) (ty:=ty') (cs:=cs') h1 h2 h3 hz1 hbb (by rw[h4,h5];simpa[hlen2] using hle2)).mono λv H5 ⟨hv,zs,hzs,hH5⟩=>⟨hv,?_⟩
  have hH5':H5=H.put b (.cells (cells2.take ((i.toNat+(xs.length-j.toNat))*k)++zs++cells2.drop ((i.toNat+(xs.length-j.toNat))*k+zs.length)).toArray e (0,0)):=by
   rw[hH5,hH2,Qp]
  rw[h4,h5] at hzs;refine q ⟨some ⟨b,0,none⟩,i.toNat+(xs.length-j.toNat),s.c⟩ H5 (by rw[hH5'];exact Hp.le_put hl hb0) (.inr ⟨b,hb0,?_,by show i.toNat+(xs.length-j.toNat)<=s.c;omega,rfl,_,by rw[hH5'];exact Ql _ _ _,?_,?_⟩) (λc hc hne=>by rw[hH5'];exact Qn _ _ λe=>hne _ o3 e.symm) (λp hp=>.inl (by rw[o3];exact hp))
  ·simp;omega
  ·simp only[Xd,Q3,Qv,Q1,hlen2,hzs];omega
  ·have hlx:(xs.take i.toNat++xs.drop j.toNat).length=i.toNat+(xs.length-j.toNat):=by simp;omega
   rw[hlx,← htake];simp only[Qw];rw[Qx (by rw[Qv,hlen2];omega)]
 rw[hnm];rcases X3 (xs.length-j.toNat) with hz|hz
 ·
  rw[hz];refine(z7f (P:=P) (ty:=ty) (cs:=cs) h1 h2 (u:=⟨s.a,i.toNat,s.c⟩) (by show i.toNat<=s.c;omega)).mono λv H' ⟨hv,hH⟩=>⟨_,hv,?_⟩
  subst hH;have hk':=key H' cells.toList (by
   funext c;simp only[Qo];split
   ·rename_i e;subst e;simpa using o4
   ·rfl) (by simpa using o5) (by
   rw[hz,Xt];have:xs.drop j.toNat=[]:=Xj.1 (by rw[hdl];exact hz);rw[this,Xr];have:=congrArg (Xc (i.toNat*k)) o6;rw[Q9,Xv (Xs _ (by omega))] at this;rw[this];have e:(xs.take i.toNat).length=i.toNat:=by simp;omega
   conv=>lhs;rw[← Qy i.toNat xs,Q2]
   rw[Qx (by rw[y06 hk,e])])
  rw[hz,Xt] at hk';show ykg (i.toNat:Int) _ _ _/\_;rw[o3];exact hk'
 ·have hsub:x67 s.a (P.cellsOf e) j (s.c:Int)=some ⟨b,j.toNat*k,none⟩:=by
   unfold x67;rw[Zn (by omega),o3,hK];simp[Qa]
  rw[hsub];refine(z7h (P:=P) (ty:=ty) (cs:=cs) h1 h2 (u:=⟨s.a,i.toNat,s.c⟩) (b:=b) (off:=0) (cells:=cells) (T:=e) (q:=⟨b,j.toNat*k,none⟩) (m:=xs.length-j.toNat) (c:=(s.c:Int).toNat-j.toNat) (news:=(xs.drop j.toNat).flatMap f) o3 o4 (by rw[hfl,hdl,h5]) (λjj v hv=>?_) (λv hv=>by
   obtain⟨x,_,hx⟩:=List.mem_flatMap.1 hv;exact h1c x v hx) (by show i.toNat+_<=s.c;omega) (by rw[h5,o5,Xw];exact hmul)).mono λv H' ⟨hv,hH⟩=>⟨⟨some ⟨b,0,none⟩,i.toNat+(xs.length-j.toNat),s.c⟩,hv,?_⟩
  ·have:=Rd.cells hk hk0 hrd (p:=⟨b,0,none⟩) o3 (j.toNat*k+jj) v (by
    have e:xs.flatMap f=(xs.take j.toNat).flatMap f++(xs.drop j.toNat).flatMap f:=by rw[← Q2,Qy]
    rw[e,List.getElem?_append_right (by rw[y06 hk,Qv,Xv (by omega)];omega),y06 hk,Qv,Xv (by omega)];rw[X4];exact hv)
   simpa[Qa] using this
  ·refine key H' _ hH ?_ ?_
   ·simp only[Q3,Qv,Q1,hfl,hdl,h5,Qc,o5,Xw];omega
   ·simp only[h5,Xw];have ht1:cells.toList.take (i.toNat*k)=(xs.take i.toNat).flatMap f:=by
     have:=congrArg (Xc (i.toNat*k)) o6;rw[Q9,Xv (Xs _ (by omega))] at this;rw[this];have e:(xs.take i.toNat).length=i.toNat:=by simp;omega
     conv=>lhs;rw[← Qy i.toNat xs,Q2]
     rw[Qx (by rw[y06 hk,e])]
    rw[ht1,Q2];have e:(xs.take i.toNat).length=i.toNat:=by simp;omega
    rw[Qx (by rw[Q3,y06 hk,y06 hk,e,hdl,Xu])]
end
end Go.Eng
namespace Go.Eng
variable{Q:Hp->Prop}
theorem x62{b off:Nat}{T:TypeId}:∀(vs:List Value)(j:Nat)(H:Hp)(cs:Array Value),H b=some (.cells cs T (0,0))->off+j+vs.length<=cs.size ->
  H.canStore ⟨b,off,none⟩ j vs/\H.store ⟨b,off,none⟩ j vs=H.put b (.cells (cs.toList.take (off+j)++vs++cs.toList.drop (off+j+vs.length)).toArray T (0,0))
 | [],j,H,cs,h,_=>by
  refine⟨trivial,?_⟩;simp only[Qm,Xr,List.length_nil,Xt,Qy,Array.toArray_toList];funext k;simp only[Qo];split
  ·rename_i e;subst e;exact h
  ·rfl
 | v :: vs,j,H,cs,h,hl=>by
  simp only[List.length_cons] at hl;have ha:(Addr.mk b off none).add j=⟨b,off+j,none⟩:=by simp[Qa]
  have hs1:H.set1 ⟨b,off+j,none⟩ v=H.put b (.cells (cs.setIfInBounds (off+j) v) T (0,0)):=by
   have:=Cel.store (H:=H) (b:=b) (cs:=cs) (T:=T) h (off+j) v;simpa[Qm,Qb] using this
  have hc:H.canStore ⟨b,off+j,none⟩ 0 [v]:=Cel.can h (by omega) v;have hb1:(H.put b (.cells (cs.setIfInBounds (off+j) v) T (0,0))) b=some (.cells (cs.setIfInBounds (off+j) v) T (0,0)):=Ql _ _ _;obtain⟨i1,i2⟩:=x62 (off:=off) vs (j+1) (H.put b (.cells (cs.setIfInBounds (off+j) v) T (0,0))) _ hb1 (by simp;omega);obtain⟨j1,_⟩:=x62 (off:=off) vs (j+1) H cs h (by omega);refine⟨⟨?_,j1⟩,?_⟩
  ·rw[ha];simpa[Hp.canStore,Qb] using hc
  ·simp only[Qm];rw[ha,hs1,i2,Qp];congr 3;have e:(cs.setIfInBounds (off+j) v).toList=cs.toList.take (off+j)++v :: cs.toList.drop (off+j+1):=by
    rw[x0e,Xe,Zp (by rw[Qc];omega)]
   have htl:(cs.toList.take (off+j)).length=off+j:=by rw[Qv,Qc];omega
   rw[e,show off+(j+1)=(off+j)+1 by omega];have t1:(cs.toList.take (off+j)++v :: cs.toList.drop (off+j+1)).take (off+j+1)=cs.toList.take (off+j)++[v]:=by
    rw[show cs.toList.take (off+j)++v :: cs.toList.drop (off+j+1)=(cs.toList.take (off+j)++[v])++cs.toList.drop (off+j+1) by simp];exact Qx (by simp[htl])
   have t2:(cs.toList.take (off+j)++v :: cs.toList.drop (off+j+1)).drop (off+j+1+vs.length)=cs.toList.drop (off+j+(vs.length+1)):=by
    rw[show cs.toList.take (off+j)++v :: cs.toList.drop (off+j+1)=(cs.toList.take (off+j)++[v])++cs.toList.drop (off+j+1) by simp];rw[Q8,Xo (by simp[htl]),Xh,List.drop_drop];congr 1;simp[htl];omega
   rw[t1,t2];simp
section
variable{α:Type}{k:Nat}{f:α->List Value}{e:TypeId}{H H0:Hp}{b:Nat}{u:Slc}{xs:List α}{i:Int}{x y:α}{j:Nat}{vs:List Value}
theorem Own.storeP(hk:∀x,(f x).length=k)(h:Own k f e H b u xs)(h0:0<=i)(hx:xs[i.toNat]?=some x)(hy:f y=(f x).take j++vs++(f x).drop (j+vs.length))(hj:j+vs.length<=k) :
  H.canStore ((zu4 u.a k i).add j) 0 vs/\∃o,H.store ((zu4 u.a k i).add j) 0 vs=H.put b o/\Own k f e (H.put b o) b u (xs.set i.toNat y):=by
 obtain⟨o1,o2,o3,cs,o4,o5,o6⟩:=h;have hlt:i.toNat<xs.length:=(Qu.1 hx).1;have hea:(zu4 u.a k i).add j=⟨b,i.toNat*k+j,none⟩:=by rw[o3];simp[zu4,Qa]
 have hik:i.toNat*k+k<=xs.length*k:=by
  calc i.toNat*k+k=(i.toNat+1)*k:=by rw[Xu];omega
   _<=xs.length*k:=Xs _ hlt
 have hck:xs.length*k<=u.c*k:=Xs _ (by omega);obtain⟨s1,s2⟩:=x62 (b:=b) (off:=i.toNat*k+j) (T:=e) vs 0 H cs o4 (by omega);rw[hea];refine⟨s1,_,s2,by simpa using o1,o2,o3,_,Ql _ _ _,?_,?_⟩
 ·simp only[Xd,Q3,Qv,Q1,Qc,o5,Xt];omega
 ·rw[List.length_set];simp only[Xt];have hsplit:xs=xs.take i.toNat++x :: xs.drop (i.toNat+1):=by
   have hd:xs.drop i.toNat=x :: xs.drop (i.toNat+1):=by
    rw[Xp hlt];congr 1;exact(Qu.1 hx).2
   rw[← hd,Qy]
  have hA:((xs.take i.toNat).flatMap f).length=i.toNat*k:=by rw[y06 hk,Qv,Xv (by omega)]
  have hfx:=hk x;have hrow:cs.toList=(xs.take i.toNat).flatMap f++f x++(xs.drop (i.toNat+1)).flatMap f++cs.toList.drop (xs.length*k):=by
   have e1:xs.flatMap f=(xs.take i.toNat).flatMap f++f x++(xs.drop (i.toNat+1)).flatMap f:=by
    conv=>lhs;rw[hsplit]
    rw[Q2,Xl,Qw]
   rw[← e1,← o6,Qy]
  have hset:(xs.set i.toNat y).flatMap f=(xs.take i.toNat).flatMap f++f y++(xs.drop (i.toNat+1)).flatMap f:=by
   rw[Xe,Zp hlt,Q2,Xl,Qw]
  rw[hset,hy];generalize (xs.take i.toNat).flatMap f=A at *
  generalize hB:(xs.drop (i.toNat+1)).flatMap f=B at *
  have hBl:B.length=(xs.length-(i.toNat+1))*k:=by rw[← hB,y06 hk,Q1]
  generalize hD:cs.toList.drop (xs.length*k)=D at *
  have hlenk:xs.length*k=i.toNat*k+k+(xs.length-(i.toNat+1))*k:=by
   have:xs.length=i.toNat+1+(xs.length-(i.toNat+1)):=by omega
   conv=>lhs;rw[this]
   rw[Xu,Xu];omega
  have t1:cs.toList.take (i.toNat*k+j)=A++(f x).take j:=by
   rw[hrow,Qw,Qw,Xb,hA,List.take_of_length_le (by omega),X4,Xb,hfx];rw[show j-k=0 by omega];simp
  have t2:cs.toList.drop (i.toNat*k+j+vs.length)=(f x).drop (j+vs.length)++B++D:=by
   rw[hrow,Qw,Qw,Q8,hA,Xo (by omega),Xh,show i.toNat*k+j+vs.length-i.toNat*k=j+vs.length by omega,Q8,hfx,show j+vs.length-k=0 by omega];simp
  simp only[t1,t2];rw[show A++(f x).take j++vs++((f x).drop (j+vs.length)++B++D)=(A++((f x).take j++vs++(f x).drop (j+vs.length))++B)++D by simp[Qw]];exact Qx (by
   simp only[Q3,Qv,Q1,hA,hBl,hfx,hlenk];omega)
theorem Mine.setP(hk:∀x,(f x).length=k)(h:Mine k f e H0 H u xs)(h0:0<=i)(hx:xs[i.toNat]?=some x)(hy:f y=(f x).take j++vs++(f x).drop (j+vs.length))(hj:j+vs.length<=k)
  (q:∀H',Mine k f e H0 H' u (xs.set i.toNat y)->Chg H H' u->Q H') :
  H.canStore ((zu4 u.a k i).add j) 0 vs/\∀H',H'=H.store ((zu4 u.a k i).add j) 0 vs->Q H':=by
 rcases h with⟨rfl,rfl⟩|⟨b,hb,h⟩
 ·simp at hx
 ·obtain⟨c,o,ho,hw⟩:=h.storeP hk h0 hx hy hj;refine⟨c,λH' hH=>?_⟩;subst hH;refine q _ (.inr ⟨b,hb,by rw[ho];exact hw⟩) λc _ hc=>?_
  rw[ho,Qn];intro ec;exact hc _ h.blk ec.symm
theorem Mine.setE(hk:∀x,(f x).length=k)(h:Mine k f e H0 H u xs)(h0:0<=i)(hx:xs[i.toNat]?=some x)(hy:f y=vs++(f x).drop vs.length)(hj:vs.length<=k)
  (q:∀H',Mine k f e H0 H' u (xs.set i.toNat y)->Chg H H' u->Q H') :
  H.canStore (zu4 u.a k i) 0 vs/\∀H',H'=H.store (zu4 u.a k i) 0 vs->Q H':=by
 have:=Mine.setP (j:=0) (vs:=vs) hk h h0 hx (by simpa using hy) (by omega) q;rwa [add_zero'] at this
end
def fD(x:Int×Int×Int):List Value:=[.int .i64 x.1,.int .i64 x.2.1,.int .i64 x.2.2]
section
variable{H:Hp}{u:Slc}{xs:List (Int×Int×Int)}{i:Int}
theorem Rd.gD(h:Rd 3 fD H u xs)(h0:0<=i)(h1:i<xs.length):H.at (zu4 u.a 3 i)=some (.int .i64 (xs.getD i.toNat (0,0,0)).1)/\H.at ((zu4 u.a 3 i).add 1)=some (.int .i64 (xs.getD i.toNat (0,0,0)).2.1)/\H.at ((zu4 u.a 3 i).add 2)=some (.int .i64 (xs.getD i.toNat (0,0,0)).2.2) :=
 ⟨h.at0 h0 (y3h h0 h1) rfl,h.atj h0 (y3h h0 h1) (j:=1) rfl,h.atj h0 (y3h h0 h1) (j:=2) rfl⟩
theorem Rd.gD2(h:Rd 3 fD H u xs)(h0:0<=i)(h1:i<xs.length):H.at (((zu4 u.a 3 i).add 1).add 0)=some (.int .i64 (xs.getD i.toNat (0,0,0)).2.1)/\H.at (((zu4 u.a 3 i).add 1).add 1)=some (.int .i64 (xs.getD i.toNat (0,0,0)).2.2):=by
 obtain⟨_,b,c⟩:=h.gD h0 h1;rw[add_zero',z3z];exact⟨b,c⟩
theorem Rd.ldD{Q:Int->Int->Int->Prop}(h:Rd 3 fD H u xs)(h0:0<=i)(h1:i<xs.length)(q:Q (xs.getD i.toNat (0,0,0)).1 (xs.getD i.toNat (0,0,0)).2.1 (xs.getD i.toNat (0,0,0)).2.2) :
  y63 u.a u.n i/\∃n m l,(H.at (zu4 u.a 3 i)=some (.int .i64 n)/\H.at ((zu4 u.a 3 i).add 1)=some (.int .i64 m)/\H.at ((zu4 u.a 3 i).add 2)=some (.int .i64 l))/\Q n m l:=⟨h.inS h0 h1,_,_,_,h.gD h0 h1,q⟩
theorem Mine.rdD{e:TypeId}{H0 H:Hp}{u:Slc}{xs:List (Int×Int×Int)}(h:Mine 3 fD e H0 H u xs):Rd 3 fD H u xs:=Mine.rd (k:=3) (f:=fD) (λ_=>rfl) h
end
end Go.Eng
namespace Go.Eng
variable{l:List (Int×Int×Int)}{t:Int}{i:Nat}{x:Int×Int×Int}
structure Ct where
 next:Int
 list:List (Int×Int×Int)
deriving DecidableEq
def Ct.zero:Ct:=⟨0,[]⟩
def xb5(x:Int×Int):Bool:=decide (0<=x.1)&&decide (x.1<=65535)&&decide (0<=x.2)&&decide (x.2<=65535)&&x.1 != x.2
structure okL(nx:Int)(l:List (Int×Int×Int)):Prop where
 each:∀x∈l,xb5 x.2=true/\0<=x.1/\x.1<nx
 inc:l.Pairwise λa b=>a.1<b.1
 dist:(l.map (·.2)).Nodup
structure okC(c:Ct):Prop where
 len:c.list.length<=200
 n0:0<=c.next
 n1:c.next<=1000000
 ok:okL c.next c.list
instance (c:Ct):Decidable (okC c) :=
 decidable_of_iff (c.list.length<=200/\0<=c.next/\c.next<=1000000/\(∀x∈c.list,xb5 x.2=true/\0<=x.1/\x.1<c.next)/\(c.list.Pairwise λa b=>a.1<b.1)/\(c.list.map (·.2)).Nodup)
  ⟨λ⟨a,b,d,e,f,g⟩=>⟨a,b,d,e,f,g⟩,λ⟨a,b,d,e,f,g⟩=>⟨a,b,d,e,f,g⟩⟩
def zla(c:Ct):Int:=if okC c then 0 else 8
theorem zlc{c:Ct}(h:okC c):zla c=0:=by unfold zla;rw[Zp h]
theorem zlb{c:Ct}(h:¬ okC c):zla c=8:=by unfold zla;rw[Zn h]
theorem zld{c:Ct}:zla c=0↔okC c:=by
 by_cases h:okC c
 ·simp[zlc h,h]
 ·simp[zlb h,h]
theorem okL.take{nx:Int}{l:List (Int×Int×Int)}(h:okL nx l)(n:Nat):okL nx (l.take n) :=
 ⟨λx hx=>h.each x (List.mem_of_mem_take hx),h.inc.sublist (Xa _ _),h.dist.sublist ((Xa n l).map _)⟩
theorem okL.nil(nx:Int):okL nx []:=⟨λx hx=>(by simp at hx),List.Pairwise.nil,List.nodup_nil⟩
theorem okL.snoc{nx:Int}:okL nx (l++[x])↔okL nx l/\xb5 x.2=true/\0<=x.1/\x.1<nx/\(∀y∈l,y.1<x.1)/\x.2∉l.map (·.2):=by
 constructor
 ·intro h;have h1:=h.take l.length;rw[Qx rfl] at h1;obtain⟨a,b,c⟩:=h.each x (by simp);have hi:=h.inc;rw[Q4] at hi;have hd:=h.dist;rw[Xi,Xg] at hd;exact⟨h1,a,b,c,λy hy=>hi.2.2 y hy x (by simp),λhm=>hd.2.2 _ hm _ (by simp) rfl⟩
 ·intro ⟨h,a,b,c,d,e⟩;refine⟨λy hy=>?_,?_,?_⟩
  ·rcases List.mem_append.1 hy with hy|hy
   ·exact h.each y hy
   ·simp only[Q5] at hy;subst hy;exact⟨a,b,c⟩
  ·rw[Q4];exact⟨h.inc,by simp,λy hy z hz=>by simp only[Q5] at hz;subst hz;exact d y hy⟩
  ·rw[Xi,Xg];refine⟨h.dist,by simp,λy hy z hz hyz=>?_⟩;simp only[Q6,List.map_nil,Q5] at hz;subst hz;subst hyz;exact e hy
def y44(c:Ct)(x:Int×Int):Bool:=c.list.any λh=>h.2==x
def atC(c:Ct)(n:Int):Int:=idx (λh:Int×Int×Int=>h.1==n) c.list
def z3e(c:Ct)(x:Int×Int):Ct×Int×Int :=
 if okC c/\xb5 x=true then (if y44 c x then (.zero,0,14) else if c.list.length=200\/c.next=1000000 then (.zero,0,18) else (⟨c.next+1,c.list++[(c.next,x)]⟩,c.next,0)) else (.zero,0,8)
def y2r(l:List (Int×Int×Int))(i:Int):Int×Int×Int:=l.getD i.toNat (0,0,0)
def y2n(c:Ct)(n:Int):(Int×Int)×Int :=
 if okC c then (if atC c n<0 then ((0,0),6) else ((y2r c.list (atC c n)).2,0)) else ((0,0),8)
def xce(c:Ct)(n:Int):Ct:=⟨c.next,c.list.filter λh=>h.1 != n⟩
def yxi(c:Ct)(n:Int):Ct×(Int×Int)×Int:=if (y2n c n).2=0 then (xce c n,(y2n c n).1,0) else (.zero,(0,0),(y2n c n).2)
def zoo(x y:Int):Int:=if x<y then -1 else if x>y then 1 else 0
def yrl(l:List Int)(t:Int):Nat:=l.findIdx λx=>decide (t<=x)
theorem yro(l:List Int)(t:Int):yrl l t<=l.length:=List.findIdx_le_length
theorem yrp{l:List Int}{x:Int}(hi:i<yrl l t)(hx:l[i]?=some x):x<t:=by
 have hl:i<l.length:=Xy hi (yro l t);have:=List.not_of_lt_findIdx hi;have e:l[i]=x:=(Qu.1 hx).2;rw[e] at this;simpa using this
theorem yrn{l:List Int}(hs:l.Pairwise (·<·)){x:Int}(hi:yrl l t<=i)(hx:l[i]?=some x):t<=x:=by
 have hl:i<l.length:=(Qu.1 hx).1;have hp:yrl l t<l.length:=Nat.lt_of_le_of_lt hi hl;have h1:decide (t<=l[yrl l t])=true:=Xm (xs:=l) (p:=λx=>decide (t<=x)) (w:=hp);have h1:t<=l[yrl l t]:=by simpa using h1
 rcases Nat.lt_or_ge (yrl l t) i with h|h
 ·have:=Xf.1 hs _ _ hp hl h;have e:l[i]=x:=(Qu.1 hx).2;omega
 ·have e:yrl l t=i:=by omega
  have e2:l[i]=x:=(Qu.1 hx).2;subst e;omega
theorem yrm{l:List Int}(hs:l.Pairwise (·<·)){p:Nat}(hp:p<=l.length)(h1:∀i x,i<p->l[i]?=some x->x<t)(h2:∀i x,p<=i->l[i]?=some x->t<=x):p=yrl l t:=by
 rcases Xz p (yrl l t) with h|h|h
 ·have hl:p<l.length:=Xy h (yro l t);have a:=yrp h (Qz hl);have b:=h2 p _ (Xx _) (Qz hl);omega
 ·exact h
 ·have hl:yrl l t<l.length:=Xy h hp;have a:=h1 _ _ h (Qz hl);have b:=yrn hs (Xx _) (Qz hl);omega
theorem okL.nums{nx:Int}(h:okL nx l):(l.map (·.1)).Pairwise (·<·):=by
 rw[List.pairwise_map];exact h.inc
theorem z8j{nx:Int}(h:okL nx l)(n:Int) :
  (decide (yrl (l.map (·.1)) n<l.length)&&(y2r l (yrl (l.map (·.1)) n)).1==n)=true/\idx (λh:Int×Int×Int=>h.1==n) l=yrl (l.map (·.1)) n \/
  (decide (yrl (l.map (·.1)) n<l.length)&&(y2r l (yrl (l.map (·.1)) n)).1==n)=false/\idx (λh:Int×Int×Int=>h.1==n) l = -1:=by
 have hs:=h.nums;by_cases hc:(decide (yrl (l.map (·.1)) n<l.length)&&(y2r l (yrl (l.map (·.1)) n)).1==n)=true
 ·left;refine⟨hc,?_⟩;simp only[Qg,Zq,beq_iff_eq] at hc;obtain⟨h1,h2⟩:=hc;have hx:l[yrl (l.map (·.1)) n]?=some (y2r l (yrl (l.map (·.1)) n)):=by
   unfold y2r;rw[Qq];simp[List.getD,h1]
  rw[y5s hx (by simpa using h2) (λy hy=>?_)];obtain⟨j,hj,e⟩:=List.mem_take_iff_getElem.1 hy;have:=yrp (l:=l.map (·.1)) (t:=n) (i:=j) (x:=y.1) (by omega) (by
   rw[Xk,Qz (by omega),e];rfl)
  rw[beq_eq_false_iff_ne];omega
 ·right;have hc:=Bool.eq_false_iff.2 hc;refine⟨hc,y5u λy hy=>?_⟩;rw[beq_eq_false_iff_ne];intro e;obtain⟨j,hj⟩:=List.mem_iff_getElem?.1 hy;have hjl:j<l.length:=(Qu.1 hj).1;have hm:(l.map (·.1))[j]?=some y.1:=by rw[Xk,hj];rfl
  have hpj:yrl (l.map (·.1)) n=j:=by
   rcases Xz (yrl (l.map (·.1)) n) j with h'|h'|h'
   ·have hpl:yrl (l.map (·.1)) n<(l.map (·.1)).length:=by simp;omega
    have a:=yrn hs (Xx _) (Qz hpl);have b:=Xf.1 hs _ _ hpl (by simpa using hjl) h';have e2:(l.map (·.1))[j]'(by simpa using hjl)=y.1:=(Qu.1 hm).2;rw[e2] at b;omega
   ·exact h'
   ·have:=yrp h' hm;omega
  rw[hpj] at hc;have hg:y2r l (j:Int)=y:=by unfold y2r;rw[Qq,List.getD_eq_getElem?_getD,hj];rfl
  rw[hg] at hc;simp[hjl,e] at hc
theorem zyd(hs:l.Pairwise λa b=>a.1<b.1)(hx:l[i]?=some x):l.take i++l.drop (i+1)=l.filter λh=>h.1 != x.1:=by
 have hlt:i<l.length:=(Qu.1 hx).1;have he:l=l.take i++x :: l.drop (i+1):=by
  have hd:l.drop i=x :: l.drop (i+1):=by rw[Xp hlt];congr 1;exact(Qu.1 hx).2
  rw[← hd,Qy]
 rw[he,Q4] at hs;obtain⟨_,h2,h3⟩:=hs;rw[List.pairwise_cons] at h2;conv=>rhs;rw[he,List.filter_append,List.filter_cons]
 have e1:(l.take i).filter (λh=>h.1 != x.1)=l.take i:=Xn.2 λy hy=>by
  have:=h3 y hy x (by simp);simp;omega
 have e2:(l.drop (i+1)).filter (λh=>h.1 != x.1)=l.drop (i+1):=Xn.2 λy hy=>by
  have:=h2.1 y hy;simp;omega
 rw[e1,e2];simp
theorem z88{c:Ct}{n:Int}(h:0<=atC c n):atC c n<c.list.length/\∃x,c.list[(atC c n).toNat]?=some x/\x.1=n:=by
 unfold atC at *
 unfold idx at *
 split at h
 ·rename_i ha;rw[Zp ha];have hl:c.list.findIdx (λh=>h.1==n)<c.list.length:=by
   rw[List.findIdx_lt_length];simpa using ha
  refine⟨by omega,_,by rw[Qq];exact Qz hl,?_⟩;have:=Xm (xs:=c.list) (p:=λh:Int×Int×Int=>h.1==n) (w:=hl);simpa using this
 ·omega
end Go.Eng
namespace Go.Eng
variable{r a b c:Int×Int}{x y:Int}
structure okR(r:Int×Int):Prop where
 d1:1<=r.2
 d2:r.2<=9223372036854775807
 n1:-9223372036854775807<=r.1
 n2:r.1<=9223372036854775807
 g:Nat.gcd r.1.natAbs r.2.natAbs=1
instance (r:Int×Int):Decidable (okR r) :=
 decidable_of_iff (1<=r.2/\r.2<=9223372036854775807/\-9223372036854775807<=r.1/\r.1<=9223372036854775807/\Nat.gcd r.1.natAbs r.2.natAbs=1) ⟨λ⟨a,b,c,d,e⟩=>⟨a,b,c,d,e⟩,λ⟨a,b,c,d,e⟩=>⟨a,b,c,d,e⟩⟩
def zm6(r:Int×Int):Int:=if okR r then 0 else 8
theorem zm8(h:okR r):zm6 r=0:=by unfold zm6;rw[Zp h]
theorem zm7(h:¬ okR r):zm6 r=8:=by unfold zm6;rw[Zn h]
theorem zm9:zm6 r=0↔okR r:=by
 by_cases h:okR r
 ·simp[zm8 h,h]
 ·simp[zm7 h,h]
def zzn(r:Int×Int):Prop:=inI r.1/\inI r.2
theorem okR.fit(h:okR r):zzn r:=by
 have:=h.d1;have:=h.d2;have:=h.n1;have:=h.n2;exact⟨by unfold inI;omega,by unfold inI;omega⟩
def zp5(a b:Int×Int):Int:=zoo (a.1*b.2) (b.1*a.2)
theorem zos:zoo x y<0↔x<y:=by
 unfold zoo;split
 ·simp[*]
 ·split <;> simp[*]
theorem zop:zoo x y=0↔x=y:=by
 unfold zoo;split
 ·simp;omega
 ·split
  ·simp;omega
  ·simp;omega
theorem zoq{x y:Int}:zoo x y>0↔x>y:=by
 unfold zoo;split
 ·simp;omega
 ·split
  ·simp[*]
  ·simp;omega
theorem zou:0-zoo x y=zoo y x:=by
 rcases Int.lt_trichotomy x y with h|h|h
 ·have a:zoo x y = -1:=by unfold zoo;rw[Zp h]
  have b:zoo y x=1:=by unfold zoo;rw[Zn (by omega),Zp (by omega)]
  rw[a,b];rfl
 ·rw[zop.2 h,zop.2 h.symm];rfl
 ·have a:zoo x y=1:=by unfold zoo;rw[Zn (by omega),Zp h]
  have b:zoo y x = -1:=by unfold zoo;rw[Zp h]
  rw[a,b];rfl
theorem zow(x y:Int):-1<=zoo x y/\zoo x y<=1:=by
 unfold zoo;split
 ·omega
 ·split <;> omega
theorem yua(hb:1<=b.2)(ha:1<=a.2)(hc:1<=c.2)(h:a.1*b.2<=b.1*a.2)(h':b.1*c.2<=c.1*b.2):a.1*c.2<=c.1*a.2:=by
 have h1:a.1*b.2*c.2<=b.1*a.2*c.2:=Qr h (by omega);have h2:b.1*c.2*a.2<=c.1*b.2*a.2:=Qr h' (by omega);refine Int.le_of_mul_le_mul_right (a:=b.2) ?_ (by omega);have e1:a.1*c.2*b.2=a.1*b.2*c.2:=by ac_rfl
 have e2:b.1*a.2*c.2=b.1*c.2*a.2:=by ac_rfl
 have e3:c.1*a.2*b.2=c.1*b.2*a.2:=by ac_rfl
 omega
theorem yub(hb:1<=b.2)(ha:1<=a.2)(hc:1<=c.2)(h:a.1*b.2<=b.1*a.2)(h':b.1*c.2<=c.1*b.2)(hs:a.1*b.2<b.1*a.2\/b.1*c.2<c.1*b.2):a.1*c.2<c.1*a.2:=by
 have h1:a.1*b.2*c.2<=b.1*a.2*c.2:=Qr h (by omega);have h2:b.1*c.2*a.2<=c.1*b.2*a.2:=Qr h' (by omega);have h3:a.1*b.2*c.2<b.1*a.2*c.2\/b.1*c.2*a.2<c.1*b.2*a.2:=by
  rcases hs with hs|hs
  ·exact .inl (Qt hs (by omega))
  ·exact .inr (Qt hs (by omega))
 have e1:a.1*c.2*b.2=a.1*b.2*c.2:=by ac_rfl
 have e2:b.1*a.2*c.2=b.1*c.2*a.2:=by ac_rfl
 have e3:c.1*a.2*b.2=c.1*b.2*a.2:=by ac_rfl
 refine Int.lt_of_mul_lt_mul_right (a:=b.2) ?_ (by omega);omega
structure Ev where
 at_:Int×Int
 no:Int
 h:Int×Int
deriving DecidableEq
def e0:Ev:=⟨(0,0),0,(0,0)⟩
def fE(x:Ev):List Value:=[.int .i64 x.at_.1,.int .i64 x.at_.2,.int .i64 x.no,.int .i64 x.h.1,.int .i64 x.h.2]
def Ev.v(x:Ev):Value:=.agg #[.int .i64 x.at_.1,.int .i64 x.at_.2,.int .i64 x.no,.int .i64 x.h.1,.int .i64 x.h.2]
def yaj(x y:Ev):Bool:=decide (zp5 x.at_ y.at_<0)||(zp5 x.at_ y.at_==0&&decide (x.no<y.no))
theorem yal{x y:Ev}:yaj x y=true↔x.at_.1*y.at_.2<y.at_.1*x.at_.2\/(x.at_.1*y.at_.2=y.at_.1*x.at_.2/\x.no<y.no):=by
 unfold yaj zp5;simp only[Bool.or_eq_true,Qg,Zq,beq_iff_eq,zos,zop]
theorem yao{x y:Ev}:yaj x y=false↔y.at_.1*x.at_.2<x.at_.1*y.at_.2\/(y.at_.1*x.at_.2=x.at_.1*y.at_.2/\y.no<=x.no):=by
 rw[← Bool.not_eq_true,yal];omega
def yr4(x:Ev):Prop:=1<=x.at_.2
theorem y97{x y z:Ev}(hx:yr4 x)(hy:yr4 y)(hz:yr4 z)(h:yaj y x=false)(h':yaj z y=false):yaj z x=false:=by
 rw[yao] at *
 unfold yr4 at *
 have a:x.at_.1*y.at_.2<=y.at_.1*x.at_.2:=by omega
 have b:y.at_.1*z.at_.2<=z.at_.1*y.at_.2:=by omega
 have c:=yua hy hx hz a b;by_cases hs:x.at_.1*y.at_.2<y.at_.1*x.at_.2\/y.at_.1*z.at_.2<z.at_.1*y.at_.2
 ·exact .inl (yub hy hx hz a b hs)
 ·omega
theorem yak{x y:Ev}(h:yaj x y=true):yaj y x=false:=by
 rw[yal] at h;rw[yao];omega
theorem yam(x:Ev):yaj x x=false:=by rw[yao];omega
end Go.Eng
end
