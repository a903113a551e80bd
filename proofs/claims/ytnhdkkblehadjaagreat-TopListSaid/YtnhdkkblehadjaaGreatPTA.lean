/- The engine, parts UQ, MX, TP, TH, put together. Conditions: none. -/
import Derived.Laws.IdiomRangeMap
import Derived.Test.YtnhdkkblehadjaaGreatPYB
open Array renaming toList_modify->Qa,toList_push->Qb
open Bool renaming and_eq_true->Qc,true_and->Qd,or_eq_true->Qe
open Int renaming le_refl->Qg,lt_or_le->Qh
open List renaming getD_eq_getElem?_getD->Qi,getElem?_eq_getElem->Qj,pairwise_iff_getElem->Ql,mem_map->Qm,getElem_mem->Qn,pairwise_map->Qo,Pairwise->Qp,mem_cons->Qq,getElem?_map->Qr,mem_singleton->Qs,mem_iff_getElem->Qt,mem_cons_of_mem->Qu,map_cons->Qv,findIdx?_eq_some_iff_getElem->Qw,range'->Qx,pairwise_cons->Qy,nodup_cons->Qz,nodup_append->Q1,mem_of_mem_eraseIdx->Q2,mem_of_getElem?->Q3,mem_map_of_mem->Q4,mem_eraseIdx_iff_getElem->Q5,mem_append->Q6,map_singleton->Q7,map_append->Q8,length_eraseIdx_of_lt->Q9,idxOf_eq_length->Xa,getElem?_set->Xb,getElem?_modify->Xc,forIn_cons->Xd,filter_sublist->Xe,eraseIdx_sublist->Xf
open Nat renaming lt_or_ge->Xg,add_sub_cancel->Xh
open Option renaming map_eq_some_iff->Xi,some->Xj,map_some->Xk
open Prod renaming mk->Xl,ext->Xm
open Go.Result renaming andThen_ok->Xn,andThen->Xo
open Go.Sem renaming run_bind->Xp
set_option linter.unusedVariables false
section
namespace Go.Eng
def xaz{κ:Type}[DecidableEq κ](f:κ->Option Value)(x:κ)(v:Value):κ->Option Value:=λy=>if y=x then some v else f y
structure z14{κ:Type}[DecidableEq κ](fk:κ->Value)(H:Hp)(b:Nat)(f:κ->Option Value)(es:Array MapEntry)(n:Nat):Prop where
 blk:H b=some (.map es n)
 ks:∃kvs:List (κ×Value),es.toList.map (λe=>(e.key,e.val))=kvs.map (λp=>(fk p.1,p.2))/\(kvs.map (·.1)).Nodup/\∀x,y37 kvs x=f x
 old:∀e∈es.toList,e.born<n
 uniq:(es.toList.map (·.born)).Nodup
section
variable{κ:Type}[DecidableEq κ]{P:Program}{k e t:TypeId}{fk:κ->Value}{H H':Hp}{b:Nat}{f:κ->Option Value}{es:Array MapEntry}{n:Nat}{x:κ}{v z:Value}
theorem z14.new(h:H'=H.put b (.map #[] 0)):z14 fk H' b (λ_=>none) #[] 0:=by
 subst h;exact⟨Hp.put_same _ _ _,⟨[],rfl,Qp.nil,λ_=>rfl⟩,λ_ h=>absurd h (by simp),Qp.nil⟩
theorem z14.le(h:z14 fk H b f es n)(hl:Hp.le H H'):z14 fk H' b f es n:=⟨hl _ _ h.blk,h.ks,h.old,h.uniq⟩
theorem z14.at(h:z14 fk H b f es n)(he:H' b=H b):z14 fk H' b f es n:=⟨he.trans h.blk,h.ks,h.old,h.uniq⟩
theorem z14.chg{u:Slc}(h:z14 fk H b f es n)(hc:Chg H H' u)(hn:∀p,u.a=some p->p.block≠b):z14 fk H' b f es n :=
 h.at (hc b (by rw[h.blk];simp) hn)
theorem z14.rd(h:z14 fk H b f es n):∃kvs:List (κ×Value),z16 fk H b kvs/\(kvs.map (·.1)).Nodup/\∀x,y37 kvs x=f x:=by
 obtain⟨kvs,h1,h2,h3⟩:=h.ks;exact⟨kvs,⟨es,n,h.blk,h1⟩,h2,h3⟩
theorem z14.ext(h:z14 fk H b f es n){g:κ->Option Value}(hg:∀x,g x=f x):z14 fk H b g es n:=by
 obtain⟨kvs,h1,h2,h3⟩:=h.ks;exact⟨h.blk,⟨kvs,h1,h2,λx=>(h3 x).trans (hg x).symm⟩,h.old,h.uniq⟩
theorem KL.lookF(K:KL P k fk)(ht:P.underlying t=some (.map k e))(hzz:(P.info? e).bind (λi=>i.zero)=some z)(h:z14 fk H b f es n) :
  OpQ P (x07 (Instr.lookup t (.map (some b)) (fk x) false)) H ((f x).getD z):=by
 obtain⟨kvs,h1,_,h3⟩:=h.rd;rw[← h3];exact K.look ht hzz h1
theorem KL.lookOkF(K:KL P k fk)(ht:P.underlying t=some (.map k e))(hzz:(P.info? e).bind (λi=>i.zero)=some z)(h:z14 fk H b f es n) :
  OpQ P (x07 (Instr.lookup t (.map (some b)) (fk x) true)) H (.tuple #[(f x).getD z,.bool (f x).isSome]):=by
 obtain⟨kvs,h1,_,h3⟩:=h.rd;rw[← h3];exact K.lookOk ht hzz h1
theorem y3b(y:κ):y37 ([]:List (κ×Value)) y=none:=rfl
theorem y38(p:κ×Value)(l:List (κ×Value))(y:κ):y37 (p :: l) y=if p.1=y then some p.2 else y37 l y:=by
 unfold y37;rw[List.find?_cons];by_cases h:p.1=y <;> simp[h]
theorem y3c:∀{l:List (κ×Value)}{y:κ},y37 l y=none↔y∉l.map (·.1)
 | [],y=>by simp[y3b]
 | p :: l,y=>by
  rw[y38,Qv,Qq];by_cases h:p.1=y
  ·simp[h]
  ·rw[Zn h,y3c (l:=l)];constructor
   ·intro hn hm;rcases hm with hm|hm
    ·exact h hm.symm
    ·exact hn hm
   ·exact λhn hm=>hn (.inr hm)
theorem y3e:∀{l:List (κ×Value)}{x:κ}{v:Value},y37 l x=none->∀y,y37 (l++[(x,v)]) y=xaz (y37 l) x v y
 | [],x,v,_,y=>by
  unfold xaz;rw[List.nil_append,y38];by_cases h:x=y
  ·simp[h]
  ·rw[Zn h,Zn λe=>h e.symm]
 | p :: l,x,v,hn,y=>by
  rw[y38] at hn;have hp:¬ p.1=x:=λe=>by rw[Zp e] at hn;cases hn
  rw[Zn hp] at hn;rw[List.cons_append,y38,y3e hn];unfold xaz;by_cases h:y=x
  ·subst h;rw[Zn hp,Zp rfl,Zp rfl]
  ·rw[Zn h,Zn h,y38]
theorem y3d:∀{l:List (κ×Value)}{i:Nat}{x:κ}{v:Value},(l.map (·.1)).Nodup->l[i]?.map (·.1)=some x->∀y,y37 (l.modify i λp=>(p.1,v)) y=xaz (y37 l) x v y
 | [],i,x,v,_,h,y=>by simp at h
 | p :: l,0,x,v,hd,h,y=>by
  have h:p.1=x:=by simpa using h
  subst h;rw[List.modify_zero_cons,y38];unfold xaz;rw[y38];by_cases e:p.1=y
  ·subst e;simp
  ·rw[Zn e,Zn e,Zn λh=>e h.symm]
 | p :: l,i+1,x,v,hd,h,y=>by
  obtain⟨h1,h2⟩:=Qz.1 (show (p.1 :: l.map (·.1)).Nodup from hd);have h:l[i]?.map (·.1)=some x:=by simpa using h
  have hx:p.1≠x:=λe=>h1 (by
   obtain⟨q,hq,e2⟩:=Xi.1 h;exact Qm.2 ⟨q,Q3 hq,e2.trans e.symm⟩)
  rw[List.modify_succ_cons,y38,y3d h2 h];unfold xaz;rw[y38];by_cases e:p.1=y
  ·subst e;rw[Zp rfl,Zn hx,Zp rfl]
  ·rw[Zn e,Zn e]
theorem ycb{α β:Type}{g:α->β}{a:α->α}{c:β->β}(h:∀x,g (a x)=c (g x)):∀(l:List α)(i:Nat),(l.modify i a).map g=(l.map g).modify i c
 | [],i=>by cases i <;> rfl
 | x :: l,0=>by simp[h]
 | x :: l,i+1=>by simp[ycb h l i]
theorem ycc{α β:Type}{g:α->β}{a:α->α}(h:∀x,g (a x)=g x):∀(l:List α)(i:Nat),(l.modify i a).map g=l.map g
 | [],i=>by cases i <;> rfl
 | x :: l,0=>by simp[h]
 | x :: l,i+1=>by simp[ycc h l i]
theorem zyu{l:List (κ×Value)}{x:κ}{v:Value}(h:y37 l x=some v):∃i,l.findIdx? (λp=>decide (p.1=x))=some i/\l[i]?=some (x,v):=by
 have hi:=y39 l x;rw[h] at hi;obtain⟨i,h1,h2⟩:=Xi.1 hi;obtain⟨hlt,h3,_⟩:=Qw.1 h1;refine⟨i,h1,?_⟩;rw[Qj hlt] at h2 ⊢;have e1:l[i].1=x:=by simpa using h3
 have e2:l[i].2=v:=by simpa using h2
 rw[← e1,← e2]
theorem zyt{l:List (κ×Value)}{x:κ}(h:y37 l x=none):l.findIdx? (λp=>decide (p.1=x))=none:=by
 have hi:=y39 l x;rw[h] at hi;simpa using hi
omit [DecidableEq κ] in
theorem zub{l:List (κ×Value)}(h:es.toList.map (λe=>(e.key,e.val))=l.map λp=>(fk p.1,p.2)){i:Nat}{p:κ×Value}(hp:l[i]?=some p):∃e,es[i]?=some e/\e.key=fk p.1/\e.val=p.2:=by
 have:=congrArg (λl=>l[i]?) h;simp only[Qr,hp,Xk] at this;obtain⟨e,he,h2⟩:=Xi.1 this;exact⟨e,by rw[← Array.getElem?_toList];exact he,(Xl.inj h2).1,(Xl.inj h2).2⟩
theorem KL.putF(K:KL P k fk)(ht:P.underlying t=some (.map k e))(h:z14 fk H b f es n) :
  z1l P (x06 (Instr.mapUpdate t (.map (some b)) (fk x) v)) H λ_ H'=>∃es' n',H'=H.put b (.map es' n')/\z14 fk H' b (xaz f x v) es' n':=by
 obtain⟨kvs,h1,h2,h3⟩:=h.ks;intro w hv;have hf:=K.find w x es.toList kvs h1;cases hx:y37 kvs x with
 | none =>
  rw[zyt hx] at hf;refine⟨undef,_,_,.inr ⟨?_,rfl⟩,x9w hv (b:=b) (o:=.map (es.push ⟨fk x,v,n⟩) (n+1)) (by rw[h.blk];simp),_,_,rfl,Hp.put_same _ _ _,⟨kvs++[(x,v)],by simp[h1],?_,λy=>?_⟩,?_,?_⟩
  ·simp[x06,Instr.mapUpdate,run_underlying ht,MapKept.run_getObj_map (hv b _ h.blk),K.check w x,hf,Xo,MapKept.run_setObj_map _ (hv b _ h.blk)]
  ·rw[Q8,Q1];refine⟨h2,by simp,λa ha c hc e=>?_⟩;rw[Q7,Qs] at hc;subst hc;subst e;exact y3c.1 hx ha
  ·rw[y3e hx];unfold xaz;rw[h3]
  ·intro e he;rw[Qb,Q6,Qs] at he;rcases he with he|rfl
   ·have:=h.old e he;omega
   ·show n<n+1;omega
  ·rw[Qb,Q8,Q1];refine⟨h.uniq,by simp,λa ha c hc e=>?_⟩;rw[Q7,Qs] at hc;obtain⟨m,hm,e1⟩:=Qm.1 ha;have:=h.old m hm;subst hc;omega
 | some v0 =>
  obtain⟨i,hi,hp⟩:=zyu hx;obtain⟨e0,he0,hk0,hv0⟩:=zub h1 hp;rw[hi] at hf;have hst:((es[i]?).map (·.key)).getD (fk x)=fk x:=by rw[he0];exact hk0
  refine⟨undef,_,_,.inr ⟨?_,rfl⟩,x9w hv (b:=b) (o:=.map (es.modify i λe=>{ e with key:=fk x,val:=v }) n) (by rw[h.blk];simp),_,_,rfl,Hp.put_same _ _ _,⟨kvs.modify i λp=>(p.1,v),?_,?_,λy=>?_⟩,?_,?_⟩
  ·simp[x06,Instr.mapUpdate,run_underlying ht,MapKept.run_getObj_map (hv b _ h.blk),K.check w x,hf,Xo,MapKept.run_setObj_map _ (hv b _ h.blk),hst,K.stays w x]
  ·rw[Qa,ycb (g:=λe:MapEntry=>(e.key,e.val)) (c:=λ_=>(fk x,v)) (λ_=>rfl),h1];apply List.ext_getElem?;intro j;rw[Xc,Qr,Qr,Xc];by_cases hj:i=j
   ·subst hj;rw[hp];simp
   ·simp[hj]
  ·rw[ycc (g:=λp:κ×Value=>p.1) (a:=λp=>(p.1,v)) (λ_=>rfl)];exact h2
  ·rw[y3d h2 (by rw[hp];rfl)];unfold xaz;rw[h3]
  ·intro e he;rw[Qa] at he;obtain⟨j,hj,rfl⟩:=Qt.1 he;rw[List.getElem_modify];have hj':j<es.toList.length:=by simpa using hj
   have:=h.old _ (Qn hj');split <;> exact this
  ·rw[Qa,ycc (g:=λe:MapEntry=>e.born) (a:=λe=>{ e with key:=fk x,val:=v }) (λ_=>rfl)];exact h.uniq
theorem KL.arr2{P:Program}{k t:TypeId}(hk:P.underlying k=some (.array 2 t))(ht:P.underlying t=some (.int .i64))(hs:P.cellsOf t=1):KL P k (λx:Int×Int=>Value.agg #[.int .i64 x.1,.int .i64 x.2]):=by
 have hpart:∀(cs:Array Value)(i:Nat)(v:Value)(w:World),cs[i]?=some v->(part t cs i).run P w=.ok v w:=λcs i v w h=>by
  exact yys (x:=.int .i64) (by unfold ynq z5o;rw[ht];exact h) ht w
 have hsz:∀w,(sizeOf t).run P w=.ok 1 w:=λw=>by rw[run_sizeOf (x:=.int .i64) ht,hs]
 refine⟨λw x es kvs h=>?_,λw x em=>?_,λw x=>?_⟩
 ·rw[Instr.findKey,Xp,run_underlying hk,Xn];have heq:∀(x y:Int×Int)(w:World),(Op.equal k (.agg #[.int .i64 x.1,.int .i64 x.2]) (.agg #[.int .i64 y.1,.int .i64 y.2])).run P w=.ok (decide (x=y)) w:=λx y w=>by
   have he:∀(a b:Int),(Op.equalIn 9999 t (.int .i64 a) (.int .i64 b)).run P w=.ok (a==b) w:=λa b=>by
    show (Op.equalIn (9998+1) t _ _).run P w=_;unfold Op.equalIn;rw[Xp,run_underlying ht,Xn];simp
   show (Op.equalIn (9999+1) k _ _).run P w=_;unfold Op.equalIn;rw[Xp,run_underlying hk,Xn];have hd:decide (x=y)=(x.1==y.1&&x.2==y.2):=by
    rw[Bool.eq_iff_iff,Zq,Qc,beq_iff_eq,beq_iff_eq];exact⟨λh=>by rw[h];exact⟨rfl,rfl⟩,λh=>Xm h.1 h.2⟩
   rw[hd];have hr:Qx 0 2=[0,1]:=rfl;cases h1:x.1==y.1 <;> cases h2:x.2==y.2 <;> simp[hr,Xd,hsz,hpart,he,h1,h2,Xo]
  have key:=zyo (P:=P) (k:=k) (fk:=λx:Int×Int=>Value.agg #[.int .i64 x.1,.int .i64 x.2]) heq w x es kvs 0 h;cases es with
  | nil =>
   cases kvs with
   | nil=>rfl
   | cons p kvs=>simp at h
  | cons e es =>
   simp only[Instr.findNow,Instr.sameNow];rw[key];simp
 ·show (Instr.checkKey em (9999+1) k _).run P w=_;unfold Instr.checkKey;rw[Xp,run_underlying hk,Xn];have hc:∀(n:Int),(Instr.checkKey em 9999 t (.int .i64 n)).run P w=.ok () w:=λn=>MapKept.run_checkKey (n:=9998) ht (by rfl) em
  have hr:Qx 0 2=[0,1]:=rfl;simp[hr,Xd,hsz,hpart,hc,Xo]
 ·simp[Instr.keyThatStays,Instr.sameBits]
theorem Tr.drewN{w w':World}{H H':Hp}(h:Tr w H w' H')(hw:∃w1:World,w1.heap=w'.heap/\w1.os=w'.os/\w1.tape=w'.tape/\w1.output=w'.output/\w1.drawn<=w'.drawn/\Tr w H w1 H'):Tr w H w' H':=h
theorem z14.entry(h:z14 fk H b f es n){m:MapEntry}(hm:m∈es.toList):∃x,m.key=fk x/\f x=some m.val:=by
 obtain⟨kvs,h1,h2,h3⟩:=h.ks;obtain⟨i,hi⟩:=List.mem_iff_getElem?.1 hm;have:=congrArg (λl=>l[i]?) h1;simp only[Qr,hi,Xk] at this;obtain⟨p,hp,e⟩:=Xi.1 this.symm;refine⟨p.1,(Xl.inj e).1.symm,?_⟩;rw[← h3,← (Xl.inj e).2];clear h1 h3 hi this e;induction kvs generalizing i with
 | nil=>simp at hp
 | cons q l ih =>
  obtain⟨g1,g2⟩:=Qz.1 (show (q.1 :: l.map (·.1)).Nodup from h2);rw[y38];cases i with
  | zero=>simp at hp;subst hp;rw[Zp rfl]
  | succ i =>
   have hp:l[i]?=some p:=by simpa using hp
   rw[Zn λe=>g1 (by rw[e];exact Qm.2 ⟨p,Q3 hp,rfl⟩)];exact ih g2 i hp
end
end Go.Eng
namespace Go.Eng
variable{l:List Int}{b a:Int×Int}{p:Int×Int->Prop}{q k n:Nat}
abbrev Mg:=(Int×Int)×Int×Int
def zMg:Mg:=((0,0),0,0)
def y3v(x:Mg):Prop:=okR x.1/\0<=x.2.1/\x.2.1<x.2.2/\x.2.2<=65535
instance (x:Mg):Decidable (y3v x):=inferInstanceAs (Decidable (_/\_))
def z9g(a b:Mg):Bool:=if zp5 a.1 b.1=0 then decide (a.2.1<b.2.1\/(a.2.1=b.2.1/\a.2.2<b.2.2)) else decide (zp5 a.1 b.1<0)
def x63(m:List Mg)(k:Nat):Prop:=(0<k->z9g (m.getD (k-1) zMg) (m.getD k zMg)=true)/\∀j,j<k->(m.getD j zMg).2≠(m.getD k zMg).2
instance (m:List Mg) (k:Nat):Decidable (x63 m k):=inferInstanceAs (Decidable (_/\_))
structure okG(m:List Mg):Prop where
 few:m.length<=5000
 good:∀x∈m,y3v x
 step:∀k,k<m.length->x63 m k
def zli(m:List Mg):Int:=if 5000<m.length then 4 else if ∀x∈m,y3v x then (if ∀k,k<m.length->x63 m k then 0 else 32) else 8
theorem zln{m:List Mg}:zli m=0↔okG m:=by
 unfold zli;split
 ·exact⟨λh=>by simp at h,λh=>by have:=h.few;omega⟩
 ·split
  ·split
   ·exact⟨λ_=>⟨by omega,by assumption,by assumption⟩,λ_=>rfl⟩
   ·rename_i h;exact⟨λh=>by simp at h,λok=>absurd ok.step h⟩
  ·rename_i h;exact⟨λh=>by simp at h,λok=>absurd ok.good h⟩
theorem zll{m:List Mg}(h:5000<m.length):zli m=4:=by unfold zli;rw[Zp h]
theorem zlj{m:List Mg}(h:¬ 5000<m.length)(hb:¬ ∀x∈m,y3v x):zli m=8:=by unfold zli;rw[Zn h,Zn hb]
theorem zlm{m:List Mg}(h:¬ 5000<m.length)(hb:∀x∈m,y3v x)(hs:¬ ∀k,k<m.length->x63 m k):zli m=32:=by unfold zli;rw[Zn h,Zp hb,Zn hs]
theorem y35{m:List Mg}(h:k<m.length):m.getD k zMg∈m:=by
 rw[Qi,Qj h];exact Qn h
theorem okG.at{m:List Mg}(ok:okG m)(h:k<m.length):y3v (m.getD k zMg):=ok.good _ (y35 h)
theorem z9i{a b:Mg}(h:z9g a b=true):zp5 a.1 b.1<=0:=by
 unfold z9g at h;split at h
 ·omega
 ·have:=Zr h;omega
theorem zpc:zp5 a b<=0↔a.1*b.2<=b.1*a.2:=by
 have:=@zoq (a.1*b.2) (b.1*a.2);unfold zp5;omega
theorem okG.sorted{m:List Mg}(ok:okG m):∀{k:Nat},k<m.length->∀{j:Nat},j<=k->zp5 (m.getD j zMg).1 (m.getD k zMg).1<=0
 | 0,hk,j,hj=>by
  have:j=0:=by omega
  subst this;rw[zpc];exact Qg _
 | k+1,hk,j,hj=>by
  rcases Xg j (k+1) with h|h
  ·have ih:=ok.sorted (k:=k) (by omega) (j:=j) (by omega);have st:=z9i ((ok.step (k+1) hk).1 (by omega));rw[Xh] at st;rw[zpc] at *
   exact yua (ok.at (by omega)).1.d1 (ok.at (by omega)).1.d1 (ok.at hk).1.d1 ih st
  ·have:j=k+1:=by omega
   subst this;rw[zpc];exact Qg _
theorem x84{m:List Mg}(h:n<m.length):m.take (n+1)=m.take n++[m.getD n zMg]:=by
 rw[List.take_add_one,Qi,Qj h];rfl
def zb9(b e:Int×Int):Int×Int:=if b.2<e.2\/(e.2=b.2/\e.1<b.1) then e else b
def z0a(p:Int×Int->Prop)(b:Int×Int):Prop:=(b=(0,0)/\∀e,¬ p e)\/(p b/\∀e,p e->e.2<b.2\/(e.2=b.2/\b.1<=e.1))
theorem z0a.uniq(ha:z0a p a)(hb:z0a p b):a=b:=by
 rcases ha with⟨ha,hn⟩|⟨pa,ha⟩
 ·rcases hb with⟨hb,_⟩|⟨pb,_⟩
  ·rw[ha,hb]
  ·exact absurd pb (hn _)
 ·rcases hb with⟨_,hn⟩|⟨pb,hb⟩
  ·exact absurd pa (hn _)
  ·have h1:=ha b pb;have h2:=hb a pa;exact Xm (by omega) (by omega)
theorem z0a.step{e:Int×Int}(h:z0a p b)(he:1<=e.2):z0a (λx=>p x\/x=e) (zb9 b e):=by
 unfold zb9;rcases h with⟨rfl,hn⟩|⟨pb,hb⟩
 ·rw[Zp (.inl (show (0:Int)<e.2 by omega))];refine .inr ⟨.inr rfl,λx hx=>?_⟩;rcases hx with hx|rfl
  ·exact absurd hx (hn _)
  ·exact .inr ⟨rfl,Qg _⟩
 ·split
  ·refine .inr ⟨.inr rfl,λx hx=>?_⟩;rcases hx with hx|rfl
   ·have:=hb x hx;omega
   ·exact .inr ⟨rfl,Qg _⟩
  ·refine .inr ⟨.inl pb,λx hx=>?_⟩;rcases hx with hx|rfl
   ·exact hb x hx
   ·omega
theorem z0a.congr{q:Int×Int->Prop}(h:z0a p b)(hq:∀e,q e↔p e):z0a q b:=by
 have:q=p:=funext λe=>propext (hq e)
 rw[this];exact h
def yrc(l:List Int)(id:Int):Nat:=l.idxOf id
def z43(l:List Int)(x:Mg):Bool:=decide (x.2.1∈l)&&decide (x.2.2∈l)&&(decide (yrc l x.2.1=yrc l x.2.2+1)||decide (yrc l x.2.2=yrc l x.2.1+1))
def yvh(l:List Int)(t:Int×Int)(x:Mg):Bool:=decide (x.1=t)&&z43 l x
def x6w(l:List Int)(p q:Nat):List Int:=(l.set p (l.getD q 0)).set q (l.getD p 0)
def yqf:Nat->List Int->List Mg->Option (List Int)
 | 0,l,_=>some l
 | n+1,l,left=>if left.length=0 then some l else match left.findIdx? (yvh l (left.getD 0 zMg).1) with
  | none=>none
  | some i=>yqf n (x6w l (yrc l (left.getD i zMg).2.1) (yrc l (left.getD i zMg).2.2)) (left.eraseIdx i)
def ylg(o:List Int):Prop:=(∀x∈o,0<=x/\x<=65535)/\o.Nodup
instance (o:List Int):Decidable (ylg o):=inferInstanceAs (Decidable (_/\_))
def yqk(o:List Int)(m:List Mg):List Int×Int :=
 if zli m=0 then (if 64<o.length then ([],4) else if ylg o then (match yqf m.length o m with|some l=>(l,0)|none=>([],36)) else ([],8)) else ([],zli m)
theorem yqj(n:Nat)(l:List Int):yqf n l []=some l:=by cases n <;> rfl
theorem yqh{left:List Mg}(h:left.length=n+1):yqf left.length l left=match left.findIdx? (yvh l (left.getD 0 zMg).1) with
  | none=>none
  | some i=>yqf (left.eraseIdx i).length (x6w l (yrc l (left.getD i zMg).2.1) (yrc l (left.getD i zMg).2.2)) (left.eraseIdx i):=by
 rw[h];show (if left.length=0 then _ else _)=_;rw[Zn (by omega)];cases hx:left.findIdx? (yvh l (left.getD 0 zMg).1) with
 | none=>rfl
 | some i =>
  have hi:=(Qw.1 hx).1;simp only;rw[Q9 hi,h,Xh]
def sortG(left:List Mg):Prop:=(∀x∈left,y3v x)/\left.Pairwise λa b=>zp5 a.1 b.1<=0
theorem okG.srt{m:List Mg}(ok:okG m):sortG m:=by
 refine⟨ok.good,Ql.2 λi j hi hj hij=>?_⟩;have:=ok.sorted hj (j:=i) (by omega);rw[Qi,Qi,Qj hi,Qj hj] at this;exact this
theorem sortG.erase{left:List Mg}(h:sortG left)(i:Nat):sortG (left.eraseIdx i):=⟨λx hx=>h.1 x (Q2 hx),h.2.sublist (Xf _ _)⟩
theorem y5q(hd:l.Nodup){i:Nat}(h:i<l.length):yrc l (l.getD i 0)=i:=by
 unfold yrc;rw[Qi,Qj h];exact hd.idxOf_getElem i h
theorem yrg{id:Int}:yrc l id<l.length↔id∈l:=List.idxOf_lt_length_iff
theorem yrd{id:Int}(h:id∈l):l.getD (yrc l id) 0=id:=by
 have hl:=yrg.2 h;rw[Qi,Qj hl];exact List.getElem_idxOf hl
theorem x6y(l:List Int)(p q:Nat):(x6w l p q).length=l.length:=by unfold x6w;simp
theorem x6x{p:Nat}(hp:p<l.length)(hq:q<l.length)(i:Nat):(x6w l p q).getD i 0=if i=q then l.getD p 0 else if i=p then l.getD q 0 else l.getD i 0:=by
 unfold x6w;rw[Qi,Xb];by_cases h1:q=i
 ·subst h1;rw[Zp rfl,Zp rfl,Zp (by simpa using hq)];rfl
 ·rw[Zn h1,Zn λe=>h1 e.symm,Xb];by_cases h2:p=i
  ·subst h2;rw[Zp rfl,Zp rfl,Zp hp];rfl
  ·rw[Zn h2,Zn λe=>h2 e.symm,Qi]
theorem yiu(h:∀i j,i<l.length->j<l.length->l.getD i 0=l.getD j 0->i=j):l.Nodup:=by
 refine Ql.2 λi j hi hj hij e=>?_
 have:=h i j hi hj (by rw[Qi,Qi,Qj hi,Qj hj];exact e);omega
theorem x70(hd:l.Nodup){p:Nat}(hp:p<l.length)(hq:q<l.length):(x6w l p q).Nodup:=by
 refine yiu λi j hi hj e=>?_
 rw[x6y] at hi hj;have inj:∀{a b:Nat},a<l.length->b<l.length->l.getD a 0=l.getD b 0->a=b:=λha hb e=>by rw[← y5q hd ha,← y5q hd hb,e]
 rw[x6x hp hq,x6x hp hq] at e;split at e <;> split at e <;> (try split at e) <;> (try split at e) <;> first|omega|(have:=inj (by omega) (by omega) e;omega)
theorem yrj(hd:l.Nodup){a b:Int}(ha:a∈l)(hb:b∈l)(id:Int) :
  yrc (x6w l (yrc l a) (yrc l b)) id=if id=a then yrc l b else if id=b then yrc l a else yrc l id:=by
 have hp:=yrg.2 ha;have hq:=yrg.2 hb;have sd:=x70 hd hp hq;have here:∀{i:Nat},i<l.length->(x6w l (yrc l a) (yrc l b)).getD i 0=id->yrc (x6w l (yrc l a) (yrc l b)) id=i:=λhi e=>by
  rw[← e];exact y5q sd (by rw[x6y];exact hi)
 split
 ·rename_i e;subst e;exact here hq (by rw[x6x hp hq,Zp rfl,yrd ha])
 ·rename_i na;split
  ·rename_i e;subst e;refine here hp ?_;rw[x6x hp hq];split
   ·rename_i e;rw[yrd ha,← yrd ha,e,yrd hb]
   ·rw[Zp rfl,yrd hb]
  ·rename_i nb;by_cases hm:id∈l
   ·have hi:=yrg.2 hm;refine here hi ?_;rw[x6x hp hq,Zn,Zn,yrd hm]
    ·intro e;exact na (by rw[← yrd hm,e,yrd ha])
    ·intro e;exact nb (by rw[← yrd hm,e,yrd hb])
   ·have hn:id∉x6w l (yrc l a) (yrc l b):=by
     intro hc;have h1:=yrg.2 hc;have h2:=yrd hc;rw[x6y] at h1;rw[x6x hp hq] at h2;split at h2
     ·exact na (by rw[← h2,yrd ha])
     ·split at h2
      ·exact nb (by rw[← h2,yrd hb])
      ·refine hm ?_;rw[← h2,Qi,Qj h1];exact Qn _
    have e1:yrc (x6w l (yrc l a) (yrc l b)) id=(x6w l (yrc l a) (yrc l b)).length:=Xa hn;have e2:yrc l id=l.length:=Xa hm;rw[e1,e2,x6y]
theorem x6z{p:Nat}(hp:p<l.length)(hq:q<l.length){id:Int}:id∈x6w l p q↔id∈l:=by
 have get_mem:∀{l:List Int}{i:Nat},i<l.length->l.getD i 0∈l:=λh=>by
  rw[Qi,Qj h];exact Qn _
 constructor
 ·intro h;have h1:=yrg.2 h;have h2:=yrd h;rw[x6y] at h1;rw[x6x hp hq] at h2;split at h2
  ·rw[← h2];exact get_mem hp
  ·split at h2
   ·rw[← h2];exact get_mem hq
   ·rw[← h2];exact get_mem h1
 ·intro h;have h1:=yrg.2 h;have h2:=yrd h;have sm:∀{i:Nat},i<l.length->(x6w l p q).getD i 0∈x6w l p q:=λhi=>get_mem (by rw[x6y];exact hi)
  have pos:∀{k:Nat},k<l.length->(x6w l p q).getD k 0=id->id∈x6w l p q:=λhk e=>by rw[← e];exact sm hk
  by_cases e1:yrc l id=q
  ·by_cases e:p=q
   ·exact pos hq (by rw[x6x hp hq,Zp rfl,e,← e1,h2])
   ·exact pos hp (by rw[x6x hp hq,Zn e,Zp rfl,← e1,h2])
  ·by_cases e2:yrc l id=p
   ·exact pos hq (by rw[x6x hp hq,Zp rfl,← e2,h2])
   ·exact pos h1 (by rw[x6x hp hq,Zn e1,Zn e2,h2])
end Go.Eng
end
section
set_option maxRecDepth 100000
open Go Go.Eng Go.Proofs
namespace Go.Proofs.YtnhdkkblehadjaaGreat
variable{f ps:List Pt}{p q:Pt}{t a b u v:Int×Int}{k:Nat}{x:Mg}
theorem y9l(ou:okR u)(ov:okR v)(h:leR u v)(op:okP p)(oq:okP q)(hne:p.1≠q.1) :
  (p.2.2≠q.2.2/\inT u v (atP p q)=true)↔(leads p q u=true↔¬ leads p q v=true):=by
 have e:=x6q ou ov h op oq hne;have tu:=y9r (t:=u) hne;have tv:=y9r (t:=v) hne;have key:(p.2.2≠q.2.2/\inT u v (atP p q)=true)↔swR u v p q=true:=by
  rw[e,Qc,Bool.not_eq_true',Zt]
 rw[key];unfold swR;rw[Qe,Qc,Qc];have au:leads p q u=true->leads q p u=false:=y9j;have av:leads p q v=true->leads q p v=false:=y9j;cases h1:leads p q u <;> cases h2:leads p q v <;> cases h3:leads q p u <;> cases h4:leads q p v <;> simp_all
theorem y9p(ou:okR u)(ov:okR v)(h:leR u v)(op:okP p)(oq:okP q)(hne:p.1≠q.1)(hn:p.2.2≠q.2.2->¬ inT u v (atP p q)=true) :
  leads p q u=true↔leads p q v=true:=by
 have:=y9l ou ov h op oq hne;by_cases h1:leads p q u=true <;> by_cases h2:leads p q v=true
 ·exact⟨λ_=>h2,λ_=>h1⟩
 ·have:=this.2 ⟨λ_=>h2,λ_=>h1⟩;exact absurd this.2 (hn this.1)
 ·have:=this.2 ⟨λh=>absurd h h1,λh=>absurd h2 h⟩;exact absurd this.2 (hn this.1)
 ·exact⟨λh=>absurd h h1,λh=>absurd h h2⟩
theorem ydw{m:Mt}:m∈yee p ps↔∃q∈ps,p.2.2≠q.2.2/\m=(atP p q,p.1,q.1):=by
 unfold yee;rw[List.mem_filterMap];constructor
 ·rintro⟨q,hq,e⟩;by_cases h:p.2.2=q.2.2
  ·rw[Zp h] at e;cases e
  ·rw[Zn h] at e;exact⟨q,hq,h,(Xj.inj e).symm⟩
 ·rintro⟨q,hq,hne,rfl⟩;exact⟨q,hq,Zn hne⟩
theorem ydv:∀{f:List Pt},(f.map (·.1)).Pairwise (·<·)->∀{m:Mt},m∈ye4 f↔∃p∈f,∃q∈f,p.1<q.1/\p.2.2≠q.2.2/\m=(atP p q,p.1,q.1)
 | [],_,m=>by simp[ye4]
 | x :: f,h,m=>by
  rw[Qv,Qy] at h;obtain⟨h1,h2⟩:=h;have lt:∀q∈f,x.1<q.1:=λq hq=>h1 _ (Q4 hq)
  have ih:=ydv (f:=f) h2 (m:=m);show m∈yee x f++ye4 f↔_;rw[Q6,ydw,ih];constructor
  ·rintro(⟨q,hq,e⟩|⟨p,hp,q,hq,e⟩)
   ·exact⟨x,List.mem_cons_self,q,Qu _ hq,lt q hq,e⟩
   ·exact⟨p,Qu _ hp,q,Qu _ hq,e⟩
  ·rintro⟨p,hp,q,hq,hl,e⟩;rcases Qq.1 hp with rfl|hp'
   ·rcases Qq.1 hq with rfl|hq'
    ·omega
    ·exact .inl ⟨q,hq',e⟩
   ·rcases Qq.1 hq with rfl|hq'
    ·have:=lt p hp';omega
    ·exact .inr ⟨p,hp',q,hq',hl,e⟩
theorem ydp(of:okF f){x:Pr}:x∈za4 f a b↔∃p∈f,∃q∈f,p.1<q.1/\p.2.2≠q.2.2/\inT a b (atP p q)=true/\x=(p.1,q.1,atP p q):=by
 unfold za4 yem;rw[List.mem_filter,(x4u _).mem_iff,Qm];constructor
 ·rintro⟨⟨m,hm,rfl⟩,hi⟩;obtain⟨p,hp,q,hq,hl,hne,rfl⟩:=(ydv of.inc).1 hm;exact⟨p,hp,q,hq,hl,hne,hi,rfl⟩
 ·rintro⟨p,hp,q,hq,hl,hne,hi,rfl⟩;exact⟨⟨(atP p q,p.1,q.1),(ydv of.inc).2 ⟨p,hp,q,hq,hl,hne,rfl⟩,rfl⟩,hi⟩
theorem yej(h:(ps.map (·.1)).Pairwise (·<·)):(yee p ps).Pairwise λx y=>x.2≠y.2:=by
 unfold yee;rw[List.pairwise_filterMap];refine(Qo.1 h).imp λ{q r} hl x hx y hy e=>?_
 by_cases h1:p.2.2=q.2.2
 ·rw[Zp h1] at hx;cases hx
 ·by_cases h2:p.2.2=r.2.2
  ·rw[Zp h2] at hy;cases hy
  ·rw[Zn h1] at hx;rw[Zn h2] at hy;have hx:=Xj.inj hx;have hy:=Xj.inj hy;subst hx;subst hy;have:q.1=r.1:=congrArg Prod.snd e;omega
theorem ye9:∀{f:List Pt},(f.map (·.1)).Pairwise (·<·)->(ye4 f).Pairwise λx y=>x.2≠y.2
 | [],_=>Qp.nil
 | x :: f,h=>by
  rw[Qv,Qy] at h;obtain⟨h1,h2⟩:=h;have lt:∀q∈f,x.1<q.1:=λq hq=>h1 _ (Q4 hq)
  refine List.pairwise_append.2 ⟨yej h2,ye9 h2,λu hu v hv e=>?_⟩;obtain⟨q,_,_,rfl⟩:=ydw.1 hu;obtain⟨p,hp,r,_,_,_,rfl⟩:=(ydv h2).1 hv;have:=lt p hp;have:x.1=p.1:=(Xl.inj (show (x.1,q.1)=(p.1,r.1) from e)).1;omega
theorem za9(of:okF f)(a b:Int×Int):(za4 f a b).Pairwise λx y=>(x.1,x.2.1)≠(y.1,y.2.1):=by
 unfold za4 yem;refine Qp.sublist Xe ?_;refine(x4u _).symm.pairwise (R:=λx y:Pr=>(x.1,x.2.1)≠(y.1,y.2.1)) ?_ λh e=>h e.symm
 refine Qo.2 ?_;exact ye9 of.inc
theorem ye7:∀f:List Pt,(ye4 f).length<=f.length*f.length
 | []=>Nat.le_refl _
 | p :: f=>by
  have ih:=ye7 f;have h1:(yee p f).length<=f.length:=List.length_filterMap_le ..;show (yee p f++ye4 f).length<=(f.length+1)*(f.length+1);rw[List.length_append,Nat.add_mul,Nat.mul_add];omega
theorem za8(of:okF f)(a b:Int×Int):(za4 f a b).length<=4096:=by
 have h:=ye7 f;have:=of.len;have h2:f.length*f.length<=64*64:=Nat.mul_le_mul this this;rw[za5];have:=List.countP_le_length (p:=λm:Mt=>inT a b m.1) (l:=ye4 f);omega
def mgP(x:Pr):Mg:=(x.2.2,x.1,x.2.1)
def ybe(f:List Pt)(a b:Int×Int):List Mg:=(za4 f a b).map mgP
theorem ybg(of:okF f)(a b:Int×Int):(ybe f a b).Pairwise λx y=>z9g x y=true/\x.2≠y.2:=by
 unfold ybe;refine Qo.2 ?_;have s:(za4 f a b).Pairwise λx y=>clP y x=false:=(yet of).sublist Xe
 refine(Qp.and s (za9 of a b)).imp λ{x y} ⟨h1,h2⟩=>⟨?_,h2⟩
 obtain⟨h3,h4⟩:=zmj.1 h1;unfold z9g;by_cases h:zp5 (mgP x).1 (mgP y).1=0
 ·rw[Zp h,Zq];have h5:=h4 (zp7.1 h).2;rcases h5 with h5|⟨h5,h6⟩
  ·exact .inl h5
  ·refine .inr ⟨h5,?_⟩;have:x.2.1≠y.2.1:=λe=>h2 (by rw[h5,e])
   show x.2.1<y.2.1;omega
 ·rw[Zn h,Zq];have:zp5 (mgP x).1 (mgP y).1<=0:=zpb.2 h3;omega
theorem ydu(of:okF f):x∈ybe f a b↔∃p∈f,∃q∈f,p.1<q.1/\p.2.2≠q.2.2/\inT a b (atP p q)=true/\x=(atP p q,p.1,q.1):=by
 unfold ybe;rw[Qm];constructor
 ·rintro⟨y,hy,rfl⟩;obtain⟨p,hp,q,hq,h1,h2,h3,rfl⟩:=(ydp of).1 hy;exact⟨p,hp,q,hq,h1,h2,h3,rfl⟩
 ·rintro⟨p,hp,q,hq,h1,h2,h3,rfl⟩;exact⟨_,(ydp of).2 ⟨p,hp,q,hq,h1,h2,h3,rfl⟩,rfl⟩
theorem z8e(of:okF f)(hp:p∈f)(hq:q∈f)(hl:p.1<q.1)(hne:p.2.2≠q.2.2):okR (atP p q) :=
 ye8 f of.each _ ((ydv of.inc).2 ⟨p,hp,q,hq,hl,hne,rfl⟩)
theorem ybf(of:okF f)(a b:Int×Int):okG (ybe f a b):=by
 refine⟨?_,λx hx=>?_,λk hk=>?_⟩
 ·have:=za8 of a b;unfold ybe;rw[List.length_map];omega
 ·obtain⟨p,hp,q,hq,h1,h2,h3,rfl⟩:=(ydu of).1 hx;exact⟨z8e of hp hq h1 h2,(of.each p hp).i0,h1,(of.each q hq).i1⟩
 ·have s:=Ql.1 (ybg of a b);have key:∀j,j<k->z9g ((ybe f a b).getD j zMg) ((ybe f a b).getD k zMg)=true/\((ybe f a b).getD j zMg).2≠((ybe f a b).getD k zMg).2:=λj hj=>by
   have:=s j k (by omega) hk hj;rw[Qi,Qi,Qj hk,Qj (show j<_ by omega)];exact this
  exact⟨λh0=>(key (k-1) (by omega)).1,λj hj=>(key j hj).2⟩
def yn5(left:List Mg)(p q:Pt):Prop:=∃x∈left,x.2=(p.1,q.1)
structure z1q(f:List Pt)(a b:Int×Int)(l:List Int)(left:List Mg):Prop where
 nd:l.Nodup
 mem:∀id,id∈l↔∃p∈f,p.1=id
 srt:Go.Eng.sortG left
 each:∀x∈left,∃p∈f,∃q∈f,p.1<q.1/\p.2.2≠q.2.2/\inT a b (atP p q)=true/\x=(atP p q,p.1,q.1)
 prs:left.Pairwise λx y=>x.2≠y.2
 inp:∀p∈f,∀q∈f,p.1<q.1->yn5 left p q->(yrc l p.1<yrc l q.1↔leads p q a=true)
 out:∀p∈f,∀q∈f,p.1<q.1->¬ yn5 left p q->(yrc l p.1<yrc l q.1↔leads p q b=true)
 done:∀p∈f,∀q∈f,p.1<q.1->p.2.2≠q.2.2->inT a b (atP p q)=true->yn5 left p q\/∀x∈left,leR (atP p q) x.1
theorem yzl(of:okF f)(hp:p∈f)(hq:q∈f)(h:p.1=q.1):p=q:=by
 rw[← y1e of hp,← y1e of hq,h]
section
variable{f:List Pt}{a b:Int×Int}{l:List Int}{left:List Mg}
theorem z1q.pair(I:z1q f a b l left)(of:okF f)(hp:p∈f)(hq:q∈f)(hx:x∈left)(e:x.2=(p.1,q.1)):p.2.2≠q.2.2/\inT a b (atP p q)=true/\x=(atP p q,p.1,q.1):=by
 obtain⟨p',hp',q',hq',_,h2,h3,rfl⟩:=I.each x hx;have e:(p'.1,q'.1)=(p.1,q.1):=e;have e1:p'.1=p.1:=(Xl.inj e).1;have e2:q'.1=q.1:=(Xl.inj e).2;have:=yzl of hp' hp e1;have:=yzl of hq' hq e2;subst p';subst q';exact⟨h2,h3,rfl⟩
theorem z1q.at_in(I:z1q f a b l left)(of:okF f)(oa:okR a)(ot:okR t)(hat:leR a t)
  {p q:Pt} (hp:p∈f) (hq:q∈f) (hl:p.1<q.1) {x:Mg} (hx:x∈left) (e:x.2=(p.1,q.1)) (ht:x.1=t):yrc l p.1<yrc l q.1↔¬ leads p q t=true:=by
 obtain⟨h1,h2,h3⟩:=I.pair of hp hq hx e;rw[I.inp p hp q hq hl ⟨x,hx,e⟩];have e1:atP p q=t:=by rw[← ht,h3]
 refine(y9l oa ot hat (of.each p hp) (of.each q hq) (by omega)).1 ⟨h1,y64.2 ⟨(y64.1 h2).1,?_⟩⟩;rw[e1];exact y99 t
theorem z1q.at_out(I:z1q f a b l left)(of:okF f)(oa:okR a)(ob:okR b)(ot:okR t)(hat:leR a t)(htb:leR t b)(low:∀x∈left,leR t x.1){y:Mg}(hy:y∈left)(ey:y.1=t)
  {p q:Pt} (hp:p∈f) (hq:q∈f) (hl:p.1<q.1) (hn:∀x∈left,x.2=(p.1,q.1)->x.1≠t):yrc l p.1<yrc l q.1↔leads p q t=true:=by
 by_cases hi:yn5 left p q
 ·obtain⟨x,hx,e⟩:=hi;obtain⟨h1,h2,h3⟩:=I.pair of hp hq hx e;rw[I.inp p hp q hq hl ⟨x,hx,e⟩];refine y9p oa ot hat (of.each p hp) (of.each q hq) (by omega) λ_ hin=>?_
  have hle:=(y64.1 hin).2;have hge:=low x hx;rw[h3] at hge;have:=ykd (z8e of hp hq hl h1) ot hle hge;exact hn x hx e (by rw[h3];exact this)
 ·rw[I.out p hp q hq hl hi];refine(y9p ot ob htb (of.each p hp) (of.each q hq) (by omega) λhne hin=>?_).symm;obtain⟨c1,c2⟩:=y64.1 hin;have oat:=z8e of hp hq hl hne;rcases I.done p hp q hq hl hne (y64.2 ⟨λh=>c1 (y9b oat oa ot h hat),c2⟩) with h|h
  ·exact hi h
  ·have:=h y hy;rw[ey] at this;exact c1 this
theorem z1q.first(I:z1q f a b l left)(h:left.length≠0):left.getD 0 zMg∈left/\(∀x∈left,leR (left.getD 0 zMg).1 x.1):=by
 have h0:0<left.length:=by omega
 refine⟨y35 h0,λx hx=>?_⟩;obtain⟨k,hk,e⟩:=Qt.1 hx;rcases Nat.eq_zero_or_pos k with hz|hz
 ·subst hz;rw[Qi,Qj h0,← e];exact y99 _
 ·have:=Ql.1 I.srt.2 0 k h0 hk hz;rw[Qi,Qj h0,← e];exact zpb.1 this
theorem z1q.ready(I:z1q f a b l left)(of:okF f)(oa:okR a)(ob:okR b)(h:left.length≠0):∃x∈left,yvh l (left.getD 0 zMg).1 x=true:=by
 obtain⟨hy,low⟩:=I.first h;obtain⟨p0,hp0,q0,hq0,hl0,hne0,hin0,e0⟩:=I.each _ hy;generalize left.getD 0 zMg=y at hy low e0 ⊢;have ey:y.1=atP p0 q0:=by rw[e0]
 have ot:okR y.1:=by rw[ey];exact z8e of hp0 hq0 hl0 hne0
 obtain⟨i1,i2⟩:=y64.1 hin0;rw[← ey] at i1 i2;have hat:leR a y.1:=(y9a a y.1).resolve_right i1;refine Decidable.by_contra λhno=>?_
 have no:∀x∈left,yvh l y.1 x=true->False:=λx hx hr=>hno ⟨x,hx,hr⟩
 have pt:∀i,i<l.length->∃p∈f,p.1=l.getD i 0:=λi hi=>(I.mem _).1 (by
  rw[Qi,Qj hi];exact Qn _)
 have step:∀i,i+1<l.length->∀p∈f,∀q∈f,p.1=l.getD i 0->q.1=l.getD (i+1) 0->leads p q y.1=true:=λi hi p hp q hq e1 e2=>by
  have p1:yrc l p.1=i:=by rw[e1];exact y5q I.nd (by omega)
  have p2:yrc l q.1=i+1:=by rw[e2];exact y5q I.nd hi
  have m1:p.1∈l:=(I.mem _).2 ⟨p,hp,rfl⟩;have m2:q.1∈l:=(I.mem _).2 ⟨q,hq,rfl⟩;have hne:p.1≠q.1:=λe=>by rw[e] at p1;omega
  rcases y9r (t:=y.1) hne with hr|hr
  ·exact hr
  ·exfalso;have asy:=y9j hr;rcases Qh p.1 q.1 with hl|hl
   ·have:=I.at_out of oa ob ot hat i2 low hy rfl hp hq hl λx hx e ht=>no x hx (by
     unfold yvh z43;rw[e];simp only[ht,m1,m2,p1,p2,decide_true,Qd,Bool.or_true])
    rw[p1,p2,asy] at this;have:=this.1 (by omega);cases this
   ·have:=I.at_out of oa ob ot hat i2 low hy rfl hq hp (by omega) λx hx e ht=>no x hx (by
     unfold yvh z43;rw[e];simp only[ht,m1,m2,p1,p2,decide_true,Qd,Bool.true_or])
    rw[p1,p2] at this;have:=this.2 hr;omega
 have zl0:∀d i,i+d+1<l.length->∀p∈f,∀q∈f,p.1=l.getD i 0->q.1=l.getD (i+d+1) 0->leads p q y.1=true:=λd=>by
  induction d with
  | zero=>exact λi hi=>step i hi
  | succ d ih =>
   intro i hi p hp q hq e1 e2;obtain⟨r,hr,e3⟩:=pt (i+d+1) (by omega);exact y9s (ih i (by omega) p hp r hr e1 e3) (step (i+d+1) (by omega) r hr q hq e3 (by rw[e2];rfl))
 have m1:p0.1∈l:=(I.mem _).2 ⟨p0,hp0,rfl⟩;have m2:q0.1∈l:=(I.mem _).2 ⟨q0,hq0,rfl⟩;have l1:=yrg.2 m1;have l2:=yrg.2 m2;have g1:=yrd m1;have g2:=yrd m2;have ai:=I.at_in of oa ot hat hp0 hq0 hl0 hy (by rw[e0]) rfl;have ne:yrc l p0.1≠yrc l q0.1:=λe=>by rw[e,g2] at g1;omega
 rcases Xg (yrc l p0.1) (yrc l q0.1) with hc|hc
 ·have:=zl0 (yrc l q0.1-yrc l p0.1-1) (yrc l p0.1) (by omega) p0 hp0 q0 hq0 g1.symm (by rw[show yrc l p0.1+(yrc l q0.1-yrc l p0.1-1)+1=yrc l q0.1 by omega];exact g2.symm);exact ai.1 hc this
 ·have:=zl0 (yrc l p0.1-yrc l q0.1-1) (yrc l q0.1) (by omega) q0 hq0 p0 hp0 g2.symm (by rw[show yrc l q0.1+(yrc l p0.1-yrc l q0.1-1)+1=yrc l p0.1 by omega];exact g1.symm);have asy:=y9j this;have:=ai.2 (by rw[asy];decide);omega
theorem z1q.step(I:z1q f a b l left)(of:okF f)(oa:okR a)(ob:okR b)(hab:leR a b){i:Nat}(hi:i<left.length)(hr:yvh l (left.getD 0 zMg).1 (left.getD i zMg)=true) :
  z1q f a b (x6w l (yrc l (left.getD i zMg).2.1) (yrc l (left.getD i zMg).2.2)) (left.eraseIdx i):=by
 obtain⟨_,low⟩:=I.first (by omega);have hx:=y35 hi;have oth:∀y∈left.eraseIdx i,y.2≠(left.getD i zMg).2:=λy hy=>by
  obtain⟨j,hj,hji,e⟩:=Q5.1 hy;rw[Qi,Qj hi,← e];rcases Xg i j with h|h
  ·exact λe=>Ql.1 I.prs i j hi hj h e.symm
  ·exact Ql.1 I.prs j i hj hi (by omega)
 have keep:∀y∈left,y.2≠(left.getD i zMg).2->y∈left.eraseIdx i:=λy hy hne=>by
  obtain⟨j,hj,e⟩:=Qt.1 hy;refine Q5.2 ⟨j,hj,λh=>hne ?_,e⟩;subst h;rw[Qi,Qj hi,← e];rfl
 have sub:∀y∈left.eraseIdx i,y∈left:=λy hy=>Q2 hy
 obtain⟨p0,hp0,q0,hq0,hl0,hne0,hin0,e0⟩:=I.each _ hx;generalize hX:left.getD i zMg=x at *
 subst e0;unfold yvh z43 at hr;simp only[Qc,Qe,Zq] at hr;obtain⟨ht,⟨m1,m2⟩,adj⟩:=hr;have l1:=yrg.2 m1;have l2:=yrg.2 m2;have ps:=yrj I.nd m1 m2;have inj:∀p∈f,∀q∈f,p.1≠q.1->yrc l p.1≠yrc l q.1:=λp hp q hq hne e=>hne (by
  rw[← yrd ((I.mem _).2 ⟨p,hp,rfl⟩),e,yrd ((I.mem _).2 ⟨q,hq,rfl⟩)])
 have pin:∀p∈f,∀q∈f,¬ (p.1=p0.1/\q.1=q0.1)->(yn5 (left.eraseIdx i) p q↔yn5 left p q):=λp hp q hq hn =>
  ⟨λ⟨y,hy,e⟩=>⟨y,sub y hy,e⟩,λ⟨y,hy,e⟩=>⟨y,keep y hy (by
   rw[e];exact λ(h:(p.1,q.1)=(p0.1,q0.1))=>hn (Xl.inj h |> λh=>⟨h.1,h.2⟩)),e⟩⟩
 have mv:∀p∈f,∀q∈f,p.1<q.1->¬ (p.1=p0.1/\q.1=q0.1)->(yrc (x6w l (yrc l p0.1) (yrc l q0.1)) p.1<yrc (x6w l (yrc l p0.1) (yrc l q0.1)) q.1↔yrc l p.1<yrc l q.1):=λp hp q hq hl hn=>by
  rw[ps,ps];have n1:=inj p hp q hq (by omega);by_cases c1:p.1=p0.1
  ·rw[Zp c1];have c2:q.1≠q0.1:=λe=>hn ⟨c1,e⟩
   rw[Zn (show q.1≠p0.1 by omega),Zn c2];have n2:=inj q hq q0 hq0 c2;have n3:=inj q hq p0 hp0 (by omega);rw[c1];omega
  ·rw[Zn c1];have n4:=inj p hp p0 hp0 c1;by_cases c2:p.1=q0.1
   ·rw[Zp c2,Zn (show q.1≠p0.1 by omega),Zn (show q.1≠q0.1 by omega)];have n2:=inj q hq q0 hq0 (by omega);have n3:=inj q hq p0 hp0 (by omega);rw[c2];omega
   ·rw[Zn c2];have n5:=inj p hp q0 hq0 c2;by_cases c3:q.1=p0.1
    ·rw[Zp c3,c3];omega
    ·rw[Zn c3];by_cases c4:q.1=q0.1
     ·rw[Zp c4,c4];omega
     ·rw[Zn c4]
 refine⟨x70 I.nd l1 l2,λid=>?_,I.srt.erase i,λy hy=>I.each y (sub y hy),I.prs.sublist (Xf _ _),λp hp q hq hl hpi=>?_,λp hp q hq hl hpi=>?_,λp hp q hq hl hne hin=>?_⟩
 ·rw[x6z l1 l2];exact I.mem id
 ·have hn:¬ (p.1=p0.1/\q.1=q0.1):=λ⟨e1,e2⟩=>by
   obtain⟨y,hy,e⟩:=hpi;exact oth y hy (by rw[e,e1,e2])
  show yrc (x6w l (yrc l p0.1) (yrc l q0.1)) p.1<yrc (x6w l (yrc l p0.1) (yrc l q0.1)) q.1↔_;rw[mv p hp q hq hl hn];exact I.inp p hp q hq hl ((pin p hp q hq hn).1 hpi)
 ·show yrc (x6w l (yrc l p0.1) (yrc l q0.1)) p.1<yrc (x6w l (yrc l p0.1) (yrc l q0.1)) q.1↔_;by_cases hn:p.1=p0.1/\q.1=q0.1
  ·have e1:=yzl of hp hp0 hn.1;have e2:=yzl of hq hq0 hn.2;subst e1;subst e2;rw[ps,ps,Zp rfl,Zn (show q.1≠p.1 by omega),Zp rfl];have n1:=inj p hp q hq (by omega);have a1:=I.inp p hp q hq hl ⟨_,hx,rfl⟩;have a2:=(y9l oa ob hab (of.each p hp) (of.each q hq) (by omega)).1 ⟨hne0,hin0⟩;by_cases hb:leads p q b=true
   ·exact⟨λ_=>hb,λ_=>by
     have:¬ yrc l p.1<yrc l q.1:=λh=>a2.1 (a1.1 h) hb
     omega⟩
   ·have h1:=a1.2 (a2.2 hb);exact⟨λh=>by omega,λh=>absurd h hb⟩
  ·rw[mv p hp q hq hl hn];exact I.out p hp q hq hl λh=>hpi ((pin p hp q hq hn).2 h)
 ·by_cases hn:p.1=p0.1/\q.1=q0.1
  ·have e1:=yzl of hp hp0 hn.1;have e2:=yzl of hq hq0 hn.2;subst e1;subst e2;refine .inr λy hy=>?_
   have:=low y (sub y hy);rw[← ht] at this;exact this
  ·rcases I.done p hp q hq hl hne hin with h|h
   ·exact .inl ((pin p hp q hq hn).2 h)
   ·exact .inr λy hy=>h y (sub y hy)
end
theorem yli(of:okF f){l:List Int}(nd:l.Nodup)(mem:∀id,id∈l↔∃p∈f,p.1=id)(h:∀p∈f,∀q∈f,p.1<q.1->(yrc l p.1<yrc l q.1↔leads p q t=true)):l=yll f t:=by
 have hi:=yk2 of;have m0:∀x∈l,gP f (yr5 f x)∈f/\(gP f (yr5 f x)).1=x:=λx hx=>by
  obtain⟨p,hp,rfl⟩:=(mem x).1 hx;rw[y1e of hp];exact⟨hp,rfl⟩
 have em:(l.map λx=>gP f (yr5 f x)).map (·.1)=l:=by
  rw[List.map_map];conv=>rhs;rw[← List.map_id l]
  exact List.map_congr_left λx hx=>(m0 x hx).2
 have inj:∀x∈l,∀y∈l,gP f (yr5 f x)=gP f (yr5 f y)->x=y:=λx hx y hy e=>by
  rw[← (m0 x hx).2,← (m0 y hy).2,e]
 have S:z27 f t (l.map λx=>gP f (yr5 f x)):=by
  refine⟨?_,?_⟩
  ·refine(List.perm_ext_iff_of_nodup ?_ ?_).2 λp=>?_
   ·exact Qo.2 (Qp.imp_of_mem (λ{x y} hx hy hne e=>hne (inj x hx y hy e)) nd)
   ·exact hi.imp λh e=>h (by rw[e])
   ·rw[Qm];constructor
    ·rintro⟨x,hx,rfl⟩;exact(m0 x hx).1
    ·intro hp;exact⟨p.1,(mem p.1).2 ⟨p,hp,rfl⟩,y1e of hp⟩
  ·refine Qo.2 (Ql.2 λi j hi' hj hij=>?_);have hx:=Qn hi';have hy:=Qn hj;obtain⟨a1,a2⟩:=m0 _ hx;obtain⟨b1,b2⟩:=m0 _ hy;have px:yrc l l[i]=i:=nd.idxOf_getElem i hi';have py:yrc l l[j]=j:=nd.idxOf_getElem j hj;generalize l[i]=x at *
   generalize l[j]=y at *
   generalize gP f (yr5 f x)=p at *
   generalize gP f (yr5 f y)=q at *
   subst a2;subst b2;have hne:p.1≠q.1:=λe=>by rw[e] at px;omega
   rcases Qh p.1 q.1 with hl|hl
   ·exact(h p a1 q b1 hl).1 (by omega)
   ·have:=h q b1 p a1 (by omega);rcases y9r (t:=t) hne with hr|hr
    ·exact hr
    ·have:=this.2 hr;omega
 have:=S.eq (x4o hi t) hi;unfold yll;rw[← this,em]
theorem ylp(t:Int×Int)(id:Int):id∈yll f t↔∃p∈f,p.1=id:=by
 unfold yll;rw[Qm];exact⟨λ⟨p,hp,e⟩=>⟨p,(x4n t f).mem_iff.1 hp,e⟩,λ⟨p,hp,e⟩=>⟨p,(x4n t f).mem_iff.2 hp,e⟩⟩
theorem ylr(of:okF f)(t:Int×Int):(yll f t).Nodup:=by
 have S:=x4o (yk2 of) t;exact Qo.2 (S.ids (yk2 of))
theorem ylt(of:okF f)(hp:p∈f)(hq:q∈f)(hne:p.1≠q.1):yrc (yll f t) p.1<yrc (yll f t) q.1↔leads p q t=true:=by
 have hi:=yk2 of;have S:=x4o hi t;have nd:=ylr of t;have rk:∀{p:Pt},p∈f->yrc (yll f t) p.1=yu7 f p t:=λ{p} hp=>by
  obtain⟨h1,h2⟩:=ylm (t:=t) hi hp;have e:(yll f t).getD (yu7 f p t) 0=p.1:=by rw[Qi,h2];rfl
  rw[← e];exact y5q nd (by rw[ylo];exact h1)
 rw[rk hp,rk hq];constructor
 ·intro h;rcases y9r (t:=t) hne with hr|hr
  ·exact hr
  ·have:=yu9 of hp hq hr;omega
 ·intro h;exact yu9 of hq hp h
theorem yqg{f:List Pt}(of:okF f){a b:Int×Int}(oa:okR a)(ob:okR b)(hab:leR a b):∀(n:Nat){l:List Int}{left:List Mg},left.length=n->z1q f a b l left->yqf left.length l left=some (yll f b)
 | 0,l,left,hn,I=>by
  have:left=[]:=List.length_eq_zero_iff.1 hn;subst this;rw[yqj];rw[yli of I.nd I.mem λp hp q hq hl=>I.out p hp q hq hl λ⟨x,hx,_⟩=>by cases hx]
 | n+1,l,left,hn,I=>by
  rw[yqh hn];obtain⟨x,hx,hr⟩:=I.ready of oa ob (by omega);cases hf:left.findIdx? (yvh l (left.getD 0 zMg).1) with
  | none =>
   have:=List.findIdx?_eq_none_iff.1 hf x hx;rw[hr] at this;cases this
  | some i =>
   obtain⟨hi,hp,_⟩:=Qw.1 hf;have hp:yvh l (left.getD 0 zMg).1 (left.getD i zMg)=true:=by
    rw[Qi (i:=i),Qj hi];exact hp
   exact yqg of oa ob hab n (by rw[Q9 hi,hn,Xh]) (I.step of oa ob hab hi hp)
theorem yqs(of:okF f)(oa:okR a)(ob:okR b)(hab:leR a b):yqk (yll f a) (ybe f a b)=(yll f b,0):=by
 have ok:=ybf of a b;have I:z1q f a b (yll f a) (ybe f a b):=by
  refine⟨ylr of a,ylp a,ok.srt,λx hx=>(ydu of).1 hx,(ybg of a b).imp λh=>h.2,λp hp q hq hl _=>ylt of hp hq (by omega),λp hp q hq hl hn=>?_,λp hp q hq hl hne hin=>.inl ⟨_,(ydu of).2 ⟨p,hp,q,hq,hl,hne,hin,rfl⟩,rfl⟩⟩;rw[ylt of hp hq (by omega)];exact y9p oa ob hab (of.each p hp) (of.each q hq) (by omega) λhne hin=>hn ⟨_,(ydu of).2 ⟨p,hp,q,hq,hl,hne,hin,rfl⟩,rfl⟩
 have g:=yqg of oa ob hab _ rfl I;have ho:ylg (yll f a):=⟨λx hx=>by
  obtain⟨p,hp,rfl⟩:=(ylp a x).1 hx;exact⟨(of.each p hp).i0,(of.each p hp).i1⟩,ylr of a⟩
 unfold yqk;rw[Zp (zln.2 ok),Zn (by rw[ylo];have:=of.len;omega),Zp ho,g]
structure z07(l:Ls)(f:List Pt)(t:Int×Int):Prop where
 ok:yk9 l
 fe:l.ck.f=f
 now:l.ck.now=t
 a:z7z t
section
variable{l:Ls}{f:List Pt}{t:Int×Int}
theorem z07.of(A:z07 l f t):okF f:=by rw[← A.fe];exact A.ok.ck.f
theorem z07.told(A:z07 l f t):z2g f t:=z84 A.of A.a
theorem z07.ord(A:z07 l f t):l.ord=yll f t:=by rw[A.ok.ord,A.fe,A.now]
theorem z07.len(A:z07 l f t):l.ord.length=f.length:=by rw[A.ord,ylo]
theorem z07.pl(A:z07 l f t)(hk:k<f.length):plM l (l.ord.getD k 0)=((spot f t k).1,0):=by
 unfold plM;rw[A.ord,A.fe,A.now,yzb hk,yz4 A.of hk];have:=A.told.T k hk;unfold spot at this ⊢;exact Xm rfl this
theorem z07.pls(A:z07 l f t):∀n,n<=f.length->(yq5 l n).2=0
 | 0,_=>rfl
 | n+1,h=>by
  have:=A.pl (k:=n) (by omega);rw[yqd (A.pls n (by omega)) (by rw[this])]
theorem z07.plz(A:z07 l f t):(yq3 l).2=0:=by
 have:yq3 l=yq5 l l.ord.length:=Zp A.ok;rw[this];exact A.pls _ (by rw[A.len];omega)
theorem z07.xs(A:z07 l f t)(hk:k<f.length):(xsM l)[k]?=some (spot f t k).1:=by
 have:=((yq6 (l:=l) l.ord.length (A.pls _ (by rw[A.len];omega))).2 k (by rw[A.len];exact hk)).1;rw[A.pl hk] at this;exact this
theorem z07.spots(A:z07 l f t)(hk:k<f.length):okR (spot f t k).1:=(x5c A.of A.told.ot hk (A.told.T k hk)).choose_spec.2.2.2
theorem z07.down(A:z07 l f t)(h0:0<f.length):¬ 0<zp5 (spot f t (f.length-1)).1 (spot f t 0).1:=by
 obtain⟨_,_,_,xl,D⟩:=yqe A.plz;rw[D.up (A.spots h0) (A.xs (k:=f.length-1) (by omega))];have:=D.up (A.spots h0) (A.xs h0);have e:zp5 (spot f t 0).1 (spot f t 0).1=0:=zp8.2 rfl;rw[e] at this;omega
theorem z07.count(A:z07 l f t)(h0:0<f.length):z7l l (spot f t (f.length-1)).1 (spot f t 0).1=0/\zqf l (spot f t (f.length-1)).1 (spot f t 0).1=f.length:=by
 obtain⟨_,pz,_,xl,D⟩:=yqe A.plz;have o0:=A.spots h0;have o1:=A.spots (k:=f.length-1) (by omega);have e:z7l l (spot f t (f.length-1)).1 (spot f t 0).1=0:=z7n.2 ⟨A.ok,o1,o0,A.down h0,pz⟩;refine⟨e,?_⟩;unfold zqf;rw[y62 e,y5y e];have u:=D.up o0 (A.xs h0);have l1:=D.lo o1 (A.xs (k:=f.length-1) (by omega));have c0:∀x:Int×Int,zp5 x x=0:=λx=>zp8.2 rfl
 rw[c0] at u l1;have:=yb9 (xsM l) (spot f t (f.length-1)).1;have hl:=A.len;omega
end
