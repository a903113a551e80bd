/- The engine, parts AM, AN, AP, put together. Conditions: none. -/
import Derived.Test.YtnhdkkblehadjaaGreatE5
open Int renaming toNat_natCast->Qa
open List renaming getD_eq_getElem?_getD->Qb,Perm->Qc,mem_map->Qd,range->Qe,mem_range->Qg,mem_filter->Qh,getElem?_eq_some_iff->Qi,getD->Qj,nodup_cons->Ql,mem_iff_getElem?->Qm,mem_cons_of_mem->Qn,mem_cons->Qo,perm_append_singleton->Qp,nodup_iff_pairwise_ne->Qq,map_cons->Qr,length_set->Qs,perm_middle->Qt,pairwise_map->Qu,nodup_range->Qv,mem_singleton->Qw,mem_append->Qx,length_map->Qy,getElem?_take->Qz,filter_sublist->Q1,count_set->Q2
open Nat renaming lt_trans->Q3,le_refl->Q4
set_option linter.unusedVariables false
section
namespace Go.Eng
variable{i f j k:Nat}{h:List Ev}
structure Ag where
 tb:Tb
 heap:List Ev
 wh:List Int
deriving DecidableEq
def Ag.zero:Ag:=⟨.zero,[],[]⟩
def par(i:Nat):Nat:=(i-1)/2
def hp(h:List Ev)(i:Nat):Ev:=h.getD i e0
abbrev Hw:=List Ev×List Int
structure okA(a:Ag):Prop where
 tb:okT a.tb
 wl:a.wh.length=a.tb.uses.length
 hl:a.heap.length+a.tb.free.length=a.tb.uses.length
 free:∀i:Nat,i<a.tb.uses.length->a.tb.used.getD i false=false->a.wh.getD i 0 = -1
 used:∀i:Nat,i<a.tb.uses.length->a.tb.used.getD i false=true->0<=a.wh.getD i 0/\a.wh.getD i 0<a.heap.length/\(hp a.heap (a.wh.getD i 0).toNat).h=((i:Int),a.tb.uses.getD i 0)
 each:∀x∈a.heap,okR x.at_/\0<=x.no/\x.no<=1000000
 nos:(a.heap.map (·.no)).Nodup
 ord:∀i:Nat,1<=i->i<a.heap.length->yaj (hp a.heap i) (hp a.heap (par i))=false
instance (a:Ag):Decidable (okA a) :=
 decidable_of_iff (okT a.tb/\a.wh.length=a.tb.uses.length/\a.heap.length+a.tb.free.length=a.tb.uses.length/\(∀i:Nat,i<a.tb.uses.length->a.tb.used.getD i false=false->a.wh.getD i 0 = -1) /\
  (∀i:Nat,i<a.tb.uses.length->a.tb.used.getD i false=true->0<=a.wh.getD i 0/\a.wh.getD i 0<a.heap.length/\(hp a.heap (a.wh.getD i 0).toNat).h=((i:Int),a.tb.uses.getD i 0)) /\
  (∀x∈a.heap,okR x.at_/\0<=x.no/\x.no<=1000000)/\(a.heap.map (·.no)).Nodup/\(∀i:Nat,i<a.heap.length->1<=i->yaj (hp a.heap i) (hp a.heap (par i))=false))
  ⟨λ⟨a,b,c,d,e,f,g,h⟩=>⟨a,b,c,d,e,f,g,λi h1 h2=>h i h2 h1⟩,λ⟨a,b,c,d,e,f,g,h⟩=>⟨a,b,c,d,e,f,g,λi h1 h2=>h i h2 h1⟩⟩
def zl6(a:Ag):Int:=if okA a then 0 else 8
theorem zl8{a:Ag}(h:okA a):zl6 a=0:=by unfold zl6;rw[Zp h]
theorem zl7{a:Ag}(h:¬ okA a):zl6 a=8:=by unfold zl6;rw[Zn h]
theorem zl9{a:Ag}:zl6 a=0↔okA a:=by
 by_cases h:okA a
 ·simp[zl8 h,h]
 ·simp[zl7 h,h]
theorem y55(hi:i<h.length):h[i]?=some (hp h i):=by simp[hp,Qj,hi]
theorem y57(hi:i<h.length):hp h i∈h:=List.mem_of_getElem? (y55 hi)
theorem y59{x:Ev}(hi:i<h.length):hp (h.set i x) j=if i=j then x else hp h j:=y2y hi
theorem ynl(h:1<=i):par i<i:=by unfold par;omega
def x6u(s:Hw)(i k:Nat):Hw :=
 ((s.1.set i (hp s.1 k)).set k (hp s.1 i),(s.2.set (hp s.1 k).h.1.toNat i).set (hp s.1 i).h.1.toNat k)
def upA:Nat->Hw->Nat->Hw×Nat
 | 0,s,i=>(s,i)
 | f+1,s,i=>if 0<i/\yaj (hp s.1 i) (hp s.1 (par i))=true then upA f (x6u s i (par i)) (par i) else (s,i)
def kid(h:List Ev)(i:Nat):Nat:=if 2*i+2<h.length/\yaj (hp h (2*i+2)) (hp h (2*i+1))=true then 2*i+2 else 2*i+1
def zta:Nat->Hw->Nat->Hw
 | 0,s,_=>s
 | f+1,s,i=>if 2*i+1<s.1.length/\yaj (hp s.1 (kid s.1 i)) (hp s.1 i)=true then zta f (x6u s i (kid s.1 i)) (kid s.1 i) else s
def yfe(s:Hw)(i:Nat):Hw:=let u:=upA i s i;zta s.1.length u.1 u.2
theorem x6v(s:Hw)(i k:Nat):(x6u s i k).1.length=s.1.length/\(x6u s i k).2.length=s.2.length:=by simp[x6u]
theorem xam:∀(f g:Nat)(s:Hw)(i:Nat),i<=f->i<=g->upA f s i=upA g s i
 | 0,0,_,_,_,_=>rfl
 | 0,g+1,s,i,h,_=>by
  have:i=0:=by omega
  subst this;simp[upA]
 | f+1,0,s,i,_,h=>by
  have:i=0:=by omega
  subst this;simp[upA]
 | f+1,g+1,s,i,h,h'=>by
  unfold upA;split
  ·rename_i hc;have:=ynl (i:=i) (by omega);exact xam f g _ _ (by omega) (by omega)
  ·rfl
theorem y82(h:List Ev)(i:Nat):i<kid h i/\(2*i+1<h.length->kid h i<h.length)/\par (kid h i)=i:=by
 unfold kid par;split <;> omega
theorem ztb:∀(f g:Nat)(s:Hw)(i:Nat),s.1.length<=f+i->s.1.length<=g+i->zta f s i=zta g s i
 | 0,0,_,_,_,_=>rfl
 | 0,g+1,s,i,h,_=>by
  unfold zta;rw[Zn (by omega)]
 | f+1,0,s,i,_,h=>by
  unfold zta;rw[Zn (by omega)]
 | f+1,g+1,s,i,h,h'=>by
  unfold zta;split
  ·have k:=y82 s.1 i;have l:=(x6v s i (kid s.1 i)).1;exact ztb f g _ _ (by omega) (by omega)
  ·rfl
theorem xap{s:Hw}(hf:i<=f)(h0:0<i)(h:yaj (hp s.1 i) (hp s.1 (par i))=true):upA f s i=upA f (x6u s i (par i)) (par i):=by
 have:=ynl (i:=i) h0;rw[xam f (f+1) s i hf (by omega)];conv=>lhs;unfold upA
 rw[Zp ⟨h0,h⟩]
theorem xaq{s:Hw}(h:¬ (0<i/\yaj (hp s.1 i) (hp s.1 (par i))=true)):upA f s i=(s,i):=by
 cases f with
 | zero=>rfl
 | succ f=>unfold upA;rw[Zn h]
theorem zte{s:Hw}(hf:s.1.length<=f+i)(h0:2*i+1<s.1.length)(h:yaj (hp s.1 (kid s.1 i)) (hp s.1 i)=true):zta f s i=zta f (x6u s i (kid s.1 i)) (kid s.1 i):=by
 have k:=y82 s.1 i;have l:=(x6v s i (kid s.1 i)).1;rw[ztb f (f+1) s i hf (by omega)];conv=>lhs;unfold zta
 rw[Zp ⟨h0,h⟩]
theorem ztf{s:Hw}(h:¬ (2*i+1<s.1.length/\yaj (hp s.1 (kid s.1 i)) (hp s.1 i)=true)):zta f s i=s:=by
 cases f with
 | zero=>rfl
 | succ f=>unfold zta;rw[Zn h]
def plA(s:Hw):Prop:=∀p,p<s.1.length->0<=(hp s.1 p).h.1/\(hp s.1 p).h.1<s.2.length/\s.2.getD (hp s.1 p).h.1.toNat 0=p
theorem y30{l:List Int}{x:Int}(h:i<l.length):(l.set i x).getD j 0=if i=j then x else l.getD j 0:=y2y h
theorem plA.inj{s:Hw}(h:plA s){p q:Nat}(hp':p<s.1.length)(hq:q<s.1.length)(e:(hp s.1 p).h.1=(hp s.1 q).h.1):p=q:=by
 have a:=(h p hp').2.2;have b:=(h q hq).2.2;rw[e] at a;omega
theorem y5a{s:Hw}(hi:i<s.1.length)(hk:k<s.1.length)(j:Nat):hp (x6u s i k).1 j=if k=j then hp s.1 i else if i=j then hp s.1 k else hp s.1 j:=by
 show hp ((s.1.set i (hp s.1 k)).set k (hp s.1 i)) j=_;rw[y59 (by simpa using hk),y59 hi]
theorem plA.swap{s:Hw}(h:plA s)(hi:i<s.1.length)(hk:k<s.1.length):plA (x6u s i k):=by
 intro p hpl;rw[(x6v s i k).1] at hpl;rw[(x6v s i k).2,y5a hi hk];obtain⟨i1,i2,i3⟩:=h i hi;obtain⟨k1,k2,k3⟩:=h k hk;have gs:∀j:Nat,(x6u s i k).2.getD j 0=if (hp s.1 i).h.1.toNat=j then (k:Int) else if (hp s.1 k).h.1.toNat=j then (i:Int) else s.2.getD j 0:=λj=>by
  show ((s.2.set _ _).set _ _).getD j 0=_;rw[y30 (by simp;omega),y30 (by omega)]
 rw[gs];by_cases e1:k=p
 ·subst e1;rw[Zp rfl,Zp rfl];exact⟨i1,i2,rfl⟩
 ·rw[Zn e1];by_cases e2:i=p
  ·subst e2;rw[Zp rfl,Zp rfl];refine⟨k1,k2,?_⟩;by_cases e3:(hp s.1 i).h.1.toNat=(hp s.1 k).h.1.toNat
   ·exact absurd (h.inj hi hk (by omega)) (λe=>e1 e.symm)
   ·rw[Zn e3]
  ·rw[Zn e2];obtain⟨p1,p2,p3⟩:=h p hpl;refine⟨p1,p2,?_⟩;rw[Zn,Zn,p3]
   ·intro e;exact e1 (h.inj hk hpl (by omega))
   ·intro e;exact e2 (h.inj hi hpl (by omega))
theorem ypi{s:Hw}(hi:i<s.1.length)(hk:k<s.1.length):(x6u s i k).1.Perm s.1:=by
 show ((s.1.set i (hp s.1 k)).set k (hp s.1 i)).Perm s.1;generalize s.1=l at *
 have e1:hp l k=l[k]:=by simp[hp,Qj,hk]
 have e2:hp l i=l[i]:=by simp[hp,Qj,hi]
 rw[e1,e2];by_cases h:i=k
 ·subst h;simp
 ·rw[List.perm_iff_count];intro x;have h1:=Q2 (l:=l.set i l[k]) (i:=k) (a:=l[i]) (b:=x) (by simpa using hk);have h2:=Q2 (l:=l) (i:=i) (a:=l[k]) (b:=x) hi;rw[h1,h2,List.getElem_set_ne h];by_cases a:l[i]==x <;> by_cases b:l[k]==x <;> simp_all
  all_goals
   have p1:∀(l:List Ev)(j:Nat)(hj:j<l.length),0<l.count l[j]:=λl j hj=>List.count_pos_iff.2 (List.getElem_mem hj)
   first
    | (have:=p1 l i hi;simp_all;done)
    | (have:=p1 l k hk;simp_all;done)
    | (have:=p1 l i hi;have:=p1 l k hk;simp_all;omega)
structure z0z(s t:Hw):Prop where
 len:t.1.length=s.1.length
 wlen:t.2.length=s.2.length
 perm:t.1.Perm s.1
 pl:plA t
 same:∀j:Nat,(∀x∈s.1,x.h.1.toNat≠j)->t.2.getD j 0=s.2.getD j 0
theorem z0z.refl{s:Hw}(h:plA s):z0z s s:=⟨rfl,rfl,Qc.refl _,h,λ_ _=>rfl⟩
theorem z0z.swap{s:Hw}(h:plA s){i k:Nat}(hi:i<s.1.length)(hk:k<s.1.length):z0z s (x6u s i k):=by
 refine⟨(x6v s i k).1,(x6v s i k).2,ypi hi hk,h.swap hi hk,λj hj=>?_⟩;obtain⟨i1,i2,i3⟩:=h i hi;obtain⟨k1,k2,k3⟩:=h k hk;show ((s.2.set _ _).set _ _).getD j 0=_;rw[y30 (by simp;omega),y30 (by omega),Zn (hj _ (y57 hi)),Zn (hj _ (y57 hk))]
theorem z0z.trans{s t u:Hw}(a:z0z s t)(b:z0z t u):z0z s u :=
 ⟨b.len.trans a.len,b.wlen.trans a.wlen,b.perm.trans a.perm,b.pl,λj hj=>(b.same j λx hx=>hj x (a.perm.mem_iff.1 hx)).trans (a.same j hj)⟩
theorem xan:∀(f:Nat)(s:Hw)(i:Nat),plA s->i<s.1.length->z0z s (upA f s i).1/\(upA f s i).2<=i
 | 0,s,i,h,_=>⟨z0z.refl h,Q4 _⟩
 | f+1,s,i,h,hi=>by
  unfold upA;split
  ·rename_i hc;have hp:=ynl (i:=i) hc.1;have k:=z0z.swap h hi (Q3 hp hi);obtain⟨a,b⟩:=xan f _ (par i) k.pl (by rw[k.len];omega);exact⟨k.trans a,by omega⟩
  ·exact⟨z0z.refl h,Q4 _⟩
theorem ztc:∀(f:Nat)(s:Hw)(i:Nat),plA s->i<s.1.length->z0z s (zta f s i)
 | 0,s,i,h,_=>z0z.refl h
 | f+1,s,i,h,hi=>by
  unfold zta;split
  ·rename_i hc;have hk:=(y82 s.1 i).2.1 hc.1;have k:=z0z.swap h hi hk;exact k.trans (ztc f _ _ k.pl (by rw[k.len];exact hk))
  ·exact z0z.refl h
theorem yff{s:Hw}(h:plA s)(hi:i<s.1.length):z0z s (yfe s i):=by
 obtain⟨a,b⟩:=xan i s i h hi;exact a.trans (ztc _ _ _ a.pl (by rw[a.len];omega))
structure z19(h:List Ev)(i:Nat):Prop where
 far:∀j,1<=j->j<h.length->j≠i->par j≠i->yaj (hp h j) (hp h (par j))=false
 over:∀j,1<=j->j<h.length->par j=i->1<=i->yaj (hp h j) (hp h (par i))=false
structure z13(h:List Ev)(i:Nat):Prop where
 far:∀j,1<=j->j<h.length->par j≠i->yaj (hp h j) (hp h (par j))=false
 over:∀j,1<=j->j<h.length->par j=i->1<=i->yaj (hp h j) (hp h (par i))=false
def ylk(h:List Ev):Prop:=∀j,1<=j->j<h.length->yaj (hp h j) (hp h (par j))=false
def posH(h:List Ev):Prop:=∀x∈h,yr4 x
theorem posH.at(p:posH h)(hi:i<h.length):yr4 (hp h i):=p _ (y57 hi)
theorem posH.perm{h':List Ev}(p:posH h)(e:h'.Perm h):posH h':=λx hx=>p x (e.mem_iff.1 hx)
theorem z19.up{s:Hw}(p:posH s.1)(m:z19 s.1 i)(hi:i<s.1.length)(h0:0<i)(hl:yaj (hp s.1 i) (hp s.1 (par i))=true):z19 (x6u s i (par i)).1 (par i):=by
 have pl:=ynl (i:=i) h0;have hpl:par i<s.1.length:=Q3 pl hi;have len:=(x6v s i (par i)).1;refine⟨λj j1 j2 j3 j4=>?_,λj j1 j2 j3 j4=>?_⟩
 ·rw[len] at j2;have jp:=ynl (i:=j) j1;rw[y5a hi hpl j,y5a hi hpl (par j),Zn (λe=>j3 e.symm:¬ par i=j),Zn (λe=>j4 e.symm:¬ par i=par j)];by_cases e1:i=j
  ·subst e1;exact absurd rfl j4
  ·rw[Zn e1];by_cases e2:i=par j
   ·rw[Zp e2];exact m.over j j1 j2 e2.symm h0
   ·rw[Zn e2];exact m.far j j1 j2 (λe=>e1 e.symm) (λe=>e2 e.symm)
 ·rw[len] at j2;have pp:=ynl (i:=par i) j4;rw[y5a hi hpl j,y5a hi hpl (par (par i))];have hgg:yaj (hp s.1 (par i)) (hp s.1 (par (par i)))=false:=m.far (par i) j4 hpl (by omega) (by omega);rw[Zn (by omega:¬ par i=par (par i)),Zn (by omega:¬ i=par (par i))];rw[Zn (by have:=ynl (i:=j) j1;omega:¬ par i=j)];by_cases e1:i=j
  ·rw[Zp e1];exact hgg
  ·rw[Zn e1];have:=m.far j j1 j2 (λe=>e1 e.symm) (by omega);rw[j3] at this;exact y97 (p.at (by omega)) (p.at hpl) (p.at j2) hgg this
theorem xao:∀(f:Nat)(s:Hw)(i:Nat),plA s->posH s.1->z19 s.1 i->i<s.1.length->i<=f->z13 (upA f s i).1.1 (upA f s i).2
 | f,s,i,h,p,m,hi,hf=>by
  by_cases hc:0<i/\yaj (hp s.1 i) (hp s.1 (par i))=true
  ·have pl:=ynl (i:=i) hc.1;have k:=z0z.swap h hi (Q3 pl hi);rw[xap hf hc.1 hc.2];cases f with
   | zero=>omega
   | succ f =>
    rw[xam (f+1) f _ _ (by omega) (by omega)];exact xao f _ (par i) k.pl (p.perm k.perm) (m.up p hi hc.1 hc.2) (by rw[k.len];omega) (by omega)
  ·rw[xaq hc];refine⟨λj j1 j2 j3=>?_,m.over⟩;by_cases e:j=i
   ·subst e;cases hx:yaj (hp s.1 j) (hp s.1 (par j)) with
    | false=>rfl
    | true=>exact absurd ⟨by omega,hx⟩ hc
   ·exact m.far j j1 j2 e j3
termination_by f=>f
structure z2h(h:List Ev)(i:Nat):Prop where
 far:∀j,1<=j->j<h.length->j≠i->yaj (hp h j) (hp h (par j))=false
 over:∀j,1<=j->j<h.length->par j=i->1<=i->yaj (hp h j) (hp h (par i))=false
theorem z2h.mid(t:z2h h i):z19 h i:=⟨λj a b c _=>t.far j a b c,t.over⟩
theorem z2h.up{s:Hw}{i:Nat}(p:posH s.1)(m:z2h s.1 i)(hi:i<s.1.length)(h0:0<i)(hl:yaj (hp s.1 i) (hp s.1 (par i))=true):z2h (x6u s i (par i)).1 (par i):=by
 have md:=m.mid.up p hi h0 hl;have pl:=ynl (i:=i) h0;have hpl:par i<s.1.length:=Q3 pl hi;have len:=(x6v s i (par i)).1;refine⟨λj j1 j2 j3=>?_,md.over⟩;by_cases e:par j=par i
 ·rw[len] at j2;rw[y5a hi hpl j,y5a hi hpl (par j),Zp e.symm,Zn (λe=>j3 e.symm:¬ par i=j)];by_cases e1:i=j
  ·rw[Zp e1];exact yak hl
  ·rw[Zn e1];have:=m.far j j1 j2 (λe=>e1 e.symm);rw[e] at this;exact y97 (p.at hi) (p.at hpl) (p.at j2) (yak hl) this
 ·exact md.far j j1 j2 j3 e
theorem xar:∀(f:Nat)(s:Hw)(i:Nat),plA s->posH s.1->z2h s.1 i->i<s.1.length->i<=f->ylk (upA f s i).1.1
 | f,s,i,h,p,m,hi,hf=>by
  by_cases hc:0<i/\yaj (hp s.1 i) (hp s.1 (par i))=true
  ·have pl:=ynl (i:=i) hc.1;have k:=z0z.swap h hi (Q3 pl hi);rw[xap hf hc.1 hc.2];cases f with
   | zero=>omega
   | succ f =>
    rw[xam (f+1) f _ _ (by omega) (by omega)];exact xar f _ (par i) k.pl (p.perm k.perm) (m.up p hi hc.1 hc.2) (by rw[k.len];omega) (by omega)
  ·rw[xaq hc];intro j j1 j2;by_cases e:j=i
   ·subst e;cases hx:yaj (hp s.1 j) (hp s.1 (par j)) with
    | false=>rfl
    | true=>exact absurd ⟨by omega,hx⟩ hc
   ·exact m.far j j1 j2 e
termination_by f=>f
theorem y83(p:posH h)(hj:j<h.length)(j1:1<=j)(hpj:par j=i):yaj (hp h j) (hp h (kid h i))=false:=by
 have hj2:j=2*i+1\/j=2*i+2:=by unfold par at hpj;omega
 unfold kid;split
 ·rename_i hc;rcases hj2 with rfl|rfl
  ·exact yak hc.2
  ·exact yam _
 ·rename_i hc;rcases hj2 with rfl|rfl
  ·exact yam _
  ·cases hx:yaj (hp h (2*i+2)) (hp h (2*i+1)) with
   | false=>rfl
   | true=>exact absurd ⟨hj,hx⟩ hc
theorem z13.down{s:Hw}(p:posH s.1)(m:z13 s.1 i)(hi:i<s.1.length)(h0:2*i+1<s.1.length)(hl:yaj (hp s.1 (kid s.1 i)) (hp s.1 i)=true):z13 (x6u s i (kid s.1 i)).1 (kid s.1 i):=by
 obtain⟨k1,k2,k3⟩:=y82 s.1 i;have hk:=k2 h0;have hkid:=λj hj j1 hpj=>y83 (h:=s.1) p (i:=i) (j:=j) hj j1 hpj
 have len:=(x6v s i (kid s.1 i)).1;generalize kid s.1 i=k at *
 refine⟨λj j1 j2 j3=>?_,λj j1 j2 j3 j4=>?_⟩
 ·rw[len] at j2;have jp:=ynl (i:=j) j1;rw[y5a hi hk j,y5a hi hk (par j),Zn (λe=>j3 e.symm:¬ k=par j)];by_cases e1:i=par j
  ·rw[Zp e1];by_cases e2:k=j
   ·rw[Zp e2];exact yak hl
   ·rw[Zn e2,Zn (by omega)];exact hkid j j2 j1 e1.symm
  ·rw[Zn e1];by_cases e2:k=j
   ·subst e2;exact absurd k3.symm e1
   ·rw[Zn e2];by_cases e3:i=j
    ·subst e3;rw[Zp rfl];exact m.over k (by omega) hk k3 j1
    ·rw[Zn e3];exact m.far j j1 j2 (λe=>e1 e.symm)
 ·rw[len] at j2;have jp:=ynl (i:=j) j1;rw[y5a hi hk j,y5a hi hk (par k),k3,Zn (by omega:¬ k=j),Zn (by omega:¬ i=j),Zn (by omega:¬ k=i),Zp rfl];have:=m.far j j1 j2 (by omega);rw[j3] at this;exact this
theorem ztd:∀(f:Nat)(s:Hw)(i:Nat),plA s->posH s.1->z13 s.1 i->i<s.1.length->s.1.length<=f+i->ylk (zta f s i).1
 | f,s,i,h,p,m,hi,hf=>by
  by_cases hc:2*i+1<s.1.length/\yaj (hp s.1 (kid s.1 i)) (hp s.1 i)=true
  ·obtain⟨k1,k2,k3⟩:=y82 s.1 i;have hk:=k2 hc.1;have k:=z0z.swap h hi hk;rw[zte hf hc.1 hc.2];cases f with
   | zero=>omega
   | succ f =>
    have hl:=k.len;rw[ztb (f+1) f _ _ (by omega) (by omega)];exact ztd f _ _ k.pl (p.perm k.perm) (m.down p hi hc.1 hc.2) (by rw[hl];exact hk) (by omega)
  ·rw[ztf hc];intro j j1 j2;by_cases e:par j=i
   ·have hjk:=y83 p (i:=i) j2 j1 e;have h2:2*i+1<s.1.length:=by unfold par at e;omega
    have hk:=(y82 s.1 i).2.1 h2;have hx:yaj (hp s.1 (kid s.1 i)) (hp s.1 i)=false:=by
     cases hx:yaj (hp s.1 (kid s.1 i)) (hp s.1 i) with
     | false=>rfl
     | true=>exact absurd ⟨h2,hx⟩ hc
    rw[e];exact y97 (p.at hi) (p.at hk) (p.at j2) hx hjk
   ·exact m.far j j1 j2 e
termination_by f=>f
theorem yfg{s:Hw}(h:plA s)(p:posH s.1)(m:z19 s.1 i)(hi:i<s.1.length):ylk (yfe s i).1:=by
 obtain⟨a,b⟩:=xan i s i h hi;have l:=xao i s i h p m hi (Q4 _);exact ztd _ _ _ a.pl (p.perm a.perm) l (by rw[a.len];omega) (by rw[a.len];omega)
theorem ylk.first(o:ylk h)(p:posH h):∀(j:Nat),j<h.length->yaj (hp h j) (hp h 0)=false:=by
 intro j;induction j using Nat.strongRecOn with
 | _ j ih =>
  intro hj;rcases Nat.eq_zero_or_pos j with e|e
  ·subst e;exact yam _
  ·have pl:=ynl (i:=j) e;exact y97 (p.at (by omega)) (p.at (by omega)) (p.at hj) (ih _ pl (by omega)) (o j e hj)
end Go.Eng
namespace Go.Eng
variable{a:Ag}{x:Ev}{h:List Ev}{t:Int×Int}{n:Int}{i:Nat}
theorem yiw{α:Type}[DecidableEq α]:∀(A B:List α),A.Nodup->(∀x∈A,x∈B)->A.length<=B.length
 | [],B,_,_=>by simp
 | x :: A,B,h,hs=>by
  have hx:x∈B:=hs x (List.mem_cons_self ..);obtain⟨h1,h2⟩:=Ql.1 h;have:=yiw A (B.erase x) h2 λy hy=>by
   exact(List.mem_erase_of_ne (by rintro rfl;exact h1 hy)).2 (hs y (Qn _ hy))
  rw[List.length_erase_of_mem hx] at this;have:=List.length_pos_of_mem hx;simp;omega
theorem zyh{α:Type}(p:α->Bool):∀l:List α,(l.filter p).length+(l.filter λx=>!p x).length=l.length
 | []=>rfl
 | x :: l=>by
  have:=zyh p l;cases h:p x <;> simp[h] <;> omega
theorem okA.usedCount(ok:okA a):a.heap.length<=((Qe a.tb.uses.length).filter λi=>a.tb.used.getD i false).length:=by
 have h1:=zyh (λi=>a.tb.used.getD i false) (Qe a.tb.uses.length);have h2:((Qe a.tb.uses.length).filter λi=>!a.tb.used.getD i false).length<=a.tb.free.length:=by
  have:=yiw ((((Qe a.tb.uses.length).filter λi=>!a.tb.used.getD i false)).map λi:Nat=>(i:Int)) a.tb.free
   (by
    rw[Qq,Qu];exact((Qv (n:=a.tb.uses.length)).sublist Q1).imp λh e=>h (by omega))
   (λx hx=>by
    obtain⟨i,hi,rfl⟩:=Qd.1 hx;obtain⟨hr,hu⟩:=Qh.1 hi;have:=(ok.tb.each i (Qg.1 hr)).2.2.1;rcases Decidable.em ((i:Int)∈a.tb.free) with h|h
    ·exact h
    ·have e:=this.2 h;have hu:(!a.tb.used.getD i false)=true:=hu;rw[e] at hu;cases hu)
  rw[Qy] at this;exact this
 have h3:=ok.hl;rw[List.length_range] at h1;omega
theorem okA.at{a:Ag}(ok:okA a){p:Nat}(hp':p<a.heap.length):∃i:Nat,i<a.tb.uses.length/\a.tb.used.getD i false=true/\a.wh.getD i 0=p/\(hp a.heap p).h=((i:Int),a.tb.uses.getD i 0):=by
 by_cases h:∃i:Nat,i<a.tb.uses.length/\a.tb.used.getD i false=true/\a.wh.getD i 0=p
 ·obtain⟨i,h1,h2,h3⟩:=h;have:=(ok.used i h1 h2).2.2;rw[h3,Qa] at this;exact⟨i,h1,h2,h3,this⟩
 ·exfalso;have hc:=ok.usedCount;have hinj:∀i j:Nat,i<a.tb.uses.length->j<a.tb.uses.length->a.tb.used.getD i false=true->a.tb.used.getD j false=true->a.wh.getD i 0=a.wh.getD j 0->i=j:=λi j hi hj ui uj e=>by
   have x:=(ok.used i hi ui).2.2;have y:=(ok.used j hj uj).2.2;rw[e,y] at x;have:=congrArg Prod.fst x;simp only at this;omega
  have hle:=yit a.heap.length ((p:Int) :: ((Qe a.tb.uses.length).filter λi=>a.tb.used.getD i false).map λi=>a.wh.getD i 0)
   (Ql.2 ⟨λhm=>by
    obtain⟨i,hi,e⟩:=Qd.1 hm;obtain⟨hr,hu⟩:=Qh.1 hi;exact h ⟨i,Qg.1 hr,hu,e⟩,by
    rw[Qq,Qu];have:=(Qv (n:=a.tb.uses.length)).sublist (Q1 (p:=λi=>a.tb.used.getD i false));rw[Qq] at this;refine List.Pairwise.imp_of_mem (λ{i j} hi hj hne e=>?_) this;obtain⟨hr,hu⟩:=Qh.1 hi;obtain⟨hr',hu'⟩:=Qh.1 hj;exact hne (hinj i j (Qg.1 hr) (Qg.1 hr') hu hu' e)⟩)
   (λx hx=>by
    rcases Qo.1 hx with rfl|hx
    ·omega
    ·obtain⟨i,hi,rfl⟩:=Qd.1 hx;obtain⟨hr,hu⟩:=Qh.1 hi;have:=ok.used i (Qg.1 hr) hu;exact⟨this.1,by omega⟩)
  rw[List.length_cons,Qy] at hle;omega
theorem okA.pl(ok:okA a):plA (a.heap,a.wh):=λp hp'=>by
 obtain⟨i,h1,h2,h3,h4⟩:=ok.at hp';have hw:=ok.wl;show 0<=(hp a.heap p).h.1/\(hp a.heap p).h.1<a.wh.length/\a.wh.getD (hp a.heap p).h.1.toNat 0=p;rw[h4];refine⟨by simp,by simp;omega,by simpa using h3⟩
theorem okA.posH{a:Ag}(ok:okA a):Go.Eng.posH a.heap:=λx hx=>(ok.each x hx).1.d1
theorem okA.slot(ok:okA a)(hx:x∈a.heap):0<=x.h.1/\x.h.1<a.tb.uses.length/\a.tb.used.getD x.h.1.toNat false=true/\a.tb.uses.getD x.h.1.toNat 0=x.h.2/\a.tb.live x.h.1 x.h.2=true:=by
 obtain⟨p,hp'⟩:=Qm.1 hx;have hlt:=(Qi.1 hp').1;obtain⟨i,h1,h2,h3,h4⟩:=ok.at hlt;have e:hp a.heap p=x:=by unfold hp;rw[Qb,hp'];rfl
 rw[e] at h4;rw[h4];simp only[Qa];refine⟨by omega,by omega,h2,trivial,yb7.2 ⟨by omega,by omega,by simpa using h2,by simp⟩⟩
theorem okA.slotOf(ok:okA a){i u:Int}(hl:a.tb.live i u=true):0<=a.wh.getD i.toNat 0/\a.wh.getD i.toNat 0<a.heap.length/\(hp a.heap (a.wh.getD i.toNat 0).toNat).h=(i,u):=by
 obtain⟨h1,h2,h3,h4⟩:=yb7.1 hl;have:=ok.used i.toNat (by omega) h3;refine⟨this.1,this.2.1,?_⟩;rw[this.2.2,Int.toNat_of_nonneg h1,h4]
theorem okA.make{tb:Tb}{s:Hw}(tok:okT tb)(hwl:s.2.length=tb.uses.length)(hl:s.1.length+tb.free.length=tb.uses.length)(pl:plA s)(o:ylk s.1)(each:∀x∈s.1,okR x.at_/\0<=x.no/\x.no<=1000000)(nos:(s.1.map (·.no)).Nodup)
  (slot:∀x∈s.1,tb.uses.getD x.h.1.toNat 0=x.h.2) (all:∀i:Nat,i<tb.uses.length->tb.used.getD i false=true->∃x∈s.1,x.h.1=i) (free:∀i:Nat,i<tb.uses.length->tb.used.getD i false=false->s.2.getD i 0 = -1):okA ⟨tb,s.1,s.2⟩:=by
 refine⟨tok,hwl,hl,free,λi hi hu=>?_,each,nos,o⟩;obtain⟨x,hx,e⟩:=all i hi hu;obtain⟨p,hp'⟩:=Qm.1 hx;have hlt:=(Qi.1 hp').1;have ep:hp s.1 p=x:=by unfold hp;rw[Qb,hp'];rfl
 obtain⟨q1,q2,q3⟩:=pl p hlt;rw[ep,e,Qa] at q3;show 0<=s.2.getD i 0/\s.2.getD i 0<s.1.length/\(hp s.1 (s.2.getD i 0).toNat).h=((i:Int),tb.uses.getD i 0);rw[q3,Qa,ep];refine⟨by omega,by omega,Prod.ext e ?_⟩;have:=slot x hx;rw[e,Qa] at this;exact this.symm
def y43(a:Ag)(n:Int):Bool:=a.heap.any λx=>x.no==n
def z9k(n:Nat):Ag:=⟨z9l n,[],List.replicate n (-1)⟩
def ygn(n:Int):Ag×Int:=if n<1\/n>200 then (.zero,2) else (z9k n.toNat,0)
def yh1(a:Ag):Int×Int:=(x9q a.tb.free,a.tb.uses.getD (x9q a.tb.free).toNat 0+1)
def ysx(a:Ag)(t:Int×Int)(n:Int):Hw:=(a.heap++[⟨t,n,yh1 a⟩],a.wh.set (x9q a.tb.free).toNat a.heap.length)
def ysz(a:Ag)(t:Int×Int)(n:Int):Ag:=⟨a.tb.taken,(upA a.heap.length (ysx a t n) a.heap.length).1.1,(upA a.heap.length (ysx a t n) a.heap.length).1.2⟩
def ysu(a:Ag)(t:Int×Int)(n:Int):Ag×(Int×Int)×Int :=
 if okA a/\okR t then (if n<0\/1000000<n then (.zero,(0,0),2) else if y43 a n=true then (.zero,(0,0),14) else if a.tb.canTake=true then (ysz a t n,yh1 a,0) else (.zero,(0,0),18)) else (.zero,(0,0),8)
def x9i(a:Ag):Ev×Int:=if okA a then (if a.heap.length=0 then (e0,42) else (hp a.heap 0,0)) else (e0,8)
def atA(a:Ag)(h:Int×Int):Nat:=(a.wh.getD h.1.toNat 0).toNat
def zym(a:Ag)(h:Int×Int):Ev×Int:=if okA a then (if a.tb.live h.1 h.2=true then (hp a.heap (atA a h),0) else (e0,6)) else (e0,8)
def yxb(a:Ag)(h:Int×Int):Hw:=((a.heap.set (atA a h) (hp a.heap (a.heap.length-1))).take (a.heap.length-1),(a.wh.set (hp a.heap (a.heap.length-1)).h.1.toNat (atA a h)).set h.1.toNat (-1))
def yxk(a:Ag)(h:Int×Int):Ag :=
 if atA a h=a.heap.length-1 then ⟨a.tb.given h.1,a.heap.take (a.heap.length-1),a.wh.set h.1.toNat (-1)⟩
 else ⟨a.tb.given h.1,(yfe (yxb a h) (atA a h)).1,(yfe (yxb a h) (atA a h)).2⟩
def yxf(a:Ag)(h:Int×Int):Ag×Ev×Int:=if (zym a h).2=0 then (yxk a h,(zym a h).1,0) else (.zero,e0,(zym a h).2)
def reS(a:Ag)(h:Int×Int)(t:Int×Int):Hw:=(a.heap.set (atA a h) { hp a.heap (atA a h) with at_:=t },a.wh)
def yx9(a:Ag)(h:Int×Int)(t:Int×Int):Ag:=⟨a.tb,(yfe (reS a h t) (atA a h)).1,(yfe (reS a h t) (atA a h)).2⟩
def yx6(a:Ag)(h:Int×Int)(t:Int×Int):Ag×Int:=if okA a/\okR t then (if a.tb.live h.1 h.2=true then (yx9 a h t,0) else (.zero,6)) else (.zero,8)
theorem okA.begin{n:Nat}(h1:1<=n)(h2:n<=200):okA (z9k n):=by
 refine⟨okT.begin h1 h2,by simp[z9k,z9l],by simp[z9k,z9l],λi hi _=>?_,λi hi hu=>?_,λx hx=>by simp[z9k] at hx,by simp[z9k],λi _ hi=>by simp[z9k] at hi⟩
 ·have:i<n:=by simpa[z9k,z9l] using hi
  simp[z9k,Qj,this]
 ·have:i<n:=by simpa[z9k,z9l] using hi
  simp[z9k,z9l,Qj,this] at hu
theorem y56(hi:i<h.length):hp (h++[x]) i=hp h i:=by
 unfold hp;rw[Qb,Qb,List.getElem?_append_left hi]
theorem y58:hp (h++[x]) h.length=x:=by
 unfold hp;rw[Qb,List.getElem?_append_right (Q4 _)];simp
theorem ysy(ok:okA a)(ht:okR t)(hc:a.tb.canTake=true) :
  plA (ysx a t n)/\Go.Eng.posH (ysx a t n).1/\z2h (ysx a t n).1 a.heap.length/\(ysx a t n).1.length=a.heap.length+1:=by
 obtain⟨hf,hu⟩:=zbx.1 hc;obtain⟨tm,t0,t1⟩:=ok.tb.topR hf;have td:=ok.tb.topD hf;have hw:=ok.wl;have ix:∀p,p<a.heap.length->(hp a.heap p).h.1.toNat≠(x9q a.tb.free).toNat:=λp hp' e=>by
  have:=(ok.slot (y57 hp')).2.2.1;rw[e,td] at this;cases this
 refine⟨λp hp'=>?_,λx hx=>?_,⟨λj j1 j2 j3=>?_,λj j1 j2 j3 j4=>?_⟩,by simp[ysx]⟩
 ·have hpl:p<a.heap.length+1:=by simpa[ysx] using hp'
  show 0<=(hp (a.heap++[_]) p).h.1/\(hp (a.heap++[_]) p).h.1<(a.wh.set _ _).length/\(a.wh.set _ _).getD (hp (a.heap++[_]) p).h.1.toNat 0=p;rw[Qs,y30 (by omega)];rcases Nat.lt_or_ge p a.heap.length with h|h
  ·rw[y56 h];obtain⟨p1,p2,p3⟩:=ok.pl p h;refine⟨p1,p2,?_⟩;rw[Zn (λe=>ix p h e.symm)];exact p3
  ·have:p=a.heap.length:=by omega
   subst this;rw[y58];exact⟨t0,by show x9q a.tb.free<_;omega,Zp rfl⟩
 ·rcases Qx.1 hx with hx|hx
  ·exact ok.posH x hx
  ·simp only[Qw] at hx;subst hx;exact ht.d1
 ·have hj:j<a.heap.length:=by simp[ysx] at j2;omega
  have:=ynl (i:=j) j1;show yaj (hp (a.heap++[_]) j) (hp (a.heap++[_]) (par j))=false;rw[y56 hj,y56 (by omega)];exact ok.ord j j1 hj
 ·exfalso;simp[ysx] at j2;unfold par at j3;omega
theorem yt0(ok:okA a)(ht:okR t)(hc:a.tb.canTake=true):z0z (ysx a t n) (upA a.heap.length (ysx a t n) a.heap.length).1/\ylk (upA a.heap.length (ysx a t n) a.heap.length).1.1:=by
 obtain⟨h1,h2,h3,h4⟩:=ysy (n:=n) ok ht hc;exact⟨(xan _ _ _ h1 (by omega)).1,xar _ _ _ h1 h2 h3 (by omega) (Q4 _)⟩
theorem yt1(ok:okA a)(ht:okR t)(hc:a.tb.canTake=true):(ysz a t n).heap.Perm (⟨t,n,yh1 a⟩ :: a.heap) :=
 (yt0 ok ht hc).1.perm.trans (Qp _ _)
theorem okA.pushed(ok:okA a)(ht:okR t)(h0:0<=n)(h1:n<=1000000)(hn:y43 a n=false)(hc:a.tb.canTake=true):okA (ysz a t n):=by
 obtain⟨k,o⟩:=yt0 (n:=n) ok ht hc;have pm:=yt1 (n:=n) ok ht hc;obtain⟨hf,hu⟩:=zbx.1 hc;obtain⟨tm,t0,t1⟩:=ok.tb.topR hf;have td:=ok.tb.topD hf;have hw:=ok.wl;have hl:=ok.hl;have lu:a.tb.taken.uses.length=a.tb.uses.length:=by simp[Tb.taken]
 have lus:a.tb.used.length=a.tb.uses.length:=ok.tb.len;have usd:∀i:Nat,a.tb.taken.used.getD i false=if (x9q a.tb.free).toNat=i then true else a.tb.used.getD i false:=λi=>y2y (by omega)
 have use:∀i:Nat,a.tb.taken.uses.getD i 0=if (x9q a.tb.free).toNat=i then a.tb.uses.getD (x9q a.tb.free).toNat 0+1 else a.tb.uses.getD i 0:=λi=>y2y (by omega)
 have memb:∀x,x∈(upA a.heap.length (ysx a t n) a.heap.length).1.1↔x=⟨t,n,yh1 a⟩\/x∈a.heap:=λx=>by rw[← Qo];exact pm.mem_iff
 have hlen:(upA a.heap.length (ysx a t n) a.heap.length).1.1.length=a.heap.length+1:=by rw[k.len];simp[ysx]
 refine okA.make (s:=(upA a.heap.length (ysx a t n) a.heap.length).1) (ok.tb.taken hc) ?_ ?_ k.pl o (λx hx=>?_) ?_ (λx hx=>?_) (λi hi hu'=>?_) (λi hi hu'=>?_)
 ·rw[k.wlen,lu];simp[ysx];exact hw
 ·rw[hlen,lu];have:a.tb.taken.free.length=a.tb.free.length-1:=by simp[Tb.taken]
  omega
 ·rcases(memb x).1 hx with rfl|hx
  ·exact⟨ht,h0,h1⟩
  ·exact ok.each x hx
 ·have:(List.map (·.no) (upA a.heap.length (ysx a t n) a.heap.length).1.1).Perm (n :: a.heap.map (·.no)):=pm.map _;rw[this.nodup_iff,Ql];refine⟨λhm=>?_,ok.nos⟩;obtain⟨y,hy,e⟩:=Qd.1 hm;have:y43 a n=true:=List.any_eq_true.2 ⟨y,hy,by simpa using e⟩;rw[hn] at this;cases this
 ·rcases(memb x).1 hx with rfl|hx
  ·rw[use];simp[yh1]
  ·have s:=ok.slot hx;rw[use,Zn,s.2.2.2.1];intro e;rw[← e,td] at s;exact absurd s.2.2.1 (by simp)
 ·rw[usd] at hu';by_cases e:(x9q a.tb.free).toNat=i
  ·exact⟨_,(memb _).2 (.inl rfl),by show x9q a.tb.free=i;omega⟩
  ·rw[Zn e] at hu';have hi':i<a.tb.uses.length:=by rw[lu] at hi;exact hi
   have:=ok.used i hi' hu';exact⟨_,(memb _).2 (.inr (y57 (by omega:(a.wh.getD i 0).toNat<a.heap.length))),by rw[this.2.2]⟩
 ·rw[usd] at hu';have hi':i<a.tb.uses.length:=by rw[lu] at hi;exact hi
  by_cases e:(x9q a.tb.free).toNat=i
  ·rw[Zp e] at hu';cases hu'
  ·rw[Zn e] at hu';rw[k.same i (λx hx he=>?_)]
   ·show (a.wh.set _ _).getD i 0 = -1;rw[y30 (by omega),Zn e];exact ok.free i hi' hu'
   ·rcases Qx.1 hx with hx|hx
    ·have s:=ok.slot hx;rw[he,hu'] at s;exact absurd s.2.2.1 (by simp)
    ·simp only[Qw] at hx;subst hx;exact e he
theorem zys{h:Int×Int}(ok:okA a)(hl:a.tb.live h.1 h.2=true):hp a.heap (atA a h)∈a.heap/\(hp a.heap (atA a h)).h=h/\atA a h<a.heap.length:=by
 obtain⟨h1,h2,h3⟩:=ok.slotOf hl;have:atA a h<a.heap.length:=by unfold atA;omega
 exact⟨y57 this,h3,this⟩
theorem zyr(ok:okA a)(hx:x∈a.heap):zym a x.h=(x,0)/\hp a.heap (atA a x.h)=x:=by
 have hl:=(ok.slot hx).2.2.2.2;obtain⟨m1,m2,m3⟩:=zys ok hl;have e:hp a.heap (atA a x.h)=x:=by
  obtain⟨p,hp'⟩:=Qm.1 hx;have hlt:=(Qi.1 hp').1;have ep:hp a.heap p=x:=by unfold hp;rw[Qb,hp'];rfl
  have:=ok.pl.inj m3 hlt (by show (hp a.heap _).h.1=(hp a.heap p).h.1;rw[m2,ep]);rw[this,ep]
 refine⟨?_,e⟩;unfold zym;rw[Zp ok,Zp hl,e]
theorem x82(hl:0<h.length):h=h.take (h.length-1)++[hp h (h.length-1)]:=by
 have hg:=y55 (h:=h) (i:=h.length-1) (by omega);have:=x88 hg;rw[show h.length-1+1=h.length by omega,List.take_length] at this;exact this
theorem x0j{y:Ev}(hi:i<h.length):(hp h i :: h.set i y).Perm (y :: h):=by
 have hg:=y55 hi;have e:h=h.take i++hp h i :: h.drop (i+1):=by
  have hd:h.drop i=hp h i :: h.drop (i+1):=by
   rw[List.drop_eq_getElem_cons hi];congr 1;exact(Qi.1 hg).2
  rw[← hd,List.take_append_drop]
 rw[List.set_eq_take_append_cons_drop,Zp hi];have p1:(hp h i :: (h.take i++y :: h.drop (i+1))).Perm (hp h i :: y :: (h.take i++h.drop (i+1))):=Qc.cons _ Qt;have p3:h.Perm (hp h i :: (h.take i++h.drop (i+1))):=by
  conv=>lhs;rw[e]
  exact Qt
 have p2:(y :: h).Perm (y :: hp h i :: (h.take i++h.drop (i+1))):=Qc.cons _ p3;exact p1.trans ((Qc.swap _ _ _).trans p2.symm)
theorem yxn{h:Int×Int}(ok:okA a)(hl:a.tb.live h.1 h.2=true)(hne:atA a h≠a.heap.length-1):((yxb a h).1).length=a.heap.length-1/\(hp a.heap (atA a h) :: (yxb a h).1).Perm a.heap:=by
 obtain⟨m1,m2,m3⟩:=zys ok hl;have hlen:(yxb a h).1.length=a.heap.length-1:=by simp[yxb]
 refine⟨hlen,?_⟩;have hpos:0<a.heap.length:=by omega
 have h1:=x0j (y:=hp a.heap (a.heap.length-1)) m3;have hs:(a.heap.set (atA a h) (hp a.heap (a.heap.length-1)))=(yxb a h).1++[hp a.heap (a.heap.length-1)]:=by
  have:=x82 (h:=a.heap.set (atA a h) (hp a.heap (a.heap.length-1))) (by simpa using hpos);rw[Qs] at this;conv=>lhs;rw[this]
  rw[y59 m3,Zn hne];rfl
 rw[hs] at h1;have h2:(hp a.heap (a.heap.length-1) :: (hp a.heap (atA a h) :: (yxb a h).1)).Perm (hp a.heap (a.heap.length-1) :: a.heap):=by
  refine Qc.trans ?_ h1;refine(Qc.swap _ _ _).trans (Qc.cons _ ?_);exact(Qp _ _).symm
 exact Qc.cons_inv h2
theorem yxe{h:Int×Int}(ok:okA a)(hl:a.tb.live h.1 h.2=true)(hne:atA a h≠a.heap.length-1) :
  plA (yxb a h)/\Go.Eng.posH (yxb a h).1/\z19 (yxb a h).1 (atA a h)/\atA a h<(yxb a h).1.length:=by
 obtain⟨m1,m2,m3⟩:=zys ok hl;obtain⟨hlen,pm⟩:=yxn ok hl hne;have hat:atA a h<a.heap.length-1:=by omega
 have hg:∀p,p<a.heap.length-1->hp (yxb a h).1 p=if atA a h=p then hp a.heap (a.heap.length-1) else hp a.heap p:=λp hp'=>by
  show hp ((a.heap.set _ _).take _) p=_;unfold hp;rw[Qb,Qz,Zp hp',← Qb];exact y59 m3
 obtain⟨y1,y2,y3⟩:=ok.pl (a.heap.length-1) (by show a.heap.length-1<a.heap.length;omega);have y1:0<=(hp a.heap (a.heap.length-1)).h.1:=y1;have y2:(hp a.heap (a.heap.length-1)).h.1<a.wh.length:=y2;have hh:h.1.toNat<a.wh.length/\0<=h.1:=by
  have:=yb7.1 hl;have:=ok.wl;omega
 have gs:∀j:Nat,(yxb a h).2.getD j 0=if h.1.toNat=j then (-1:Int) else if (hp a.heap (a.heap.length-1)).h.1.toNat=j then (atA a h:Int) else a.wh.getD j 0:=λj=>by
  show ((a.wh.set _ _).set _ _).getD j 0=_;rw[y30 (by simp;omega),y30 (by omega)]
 refine⟨λp hp'=>?_,λx hx=>ok.posH x (pm.mem_iff.1 (Qn _ hx)),⟨λj j1 j2 j3 j4=>?_,λj j1 j2 j3 j4=>?_⟩,by rw[hlen];exact hat⟩
 ·rw[hlen] at hp';rw[hg p hp',gs];have wlen:(yxb a h).2.length=a.wh.length:=by simp[yxb]
  rw[wlen];by_cases e:atA a h=p
  ·rw[Zp e];refine⟨y1,y2,?_⟩;rw[Zn,Zp rfl,e];intro e2;have:=ok.pl.inj (p:=atA a h) (q:=a.heap.length-1) m3 (by show a.heap.length-1<a.heap.length;omega) (by show (hp a.heap _).h.1=(hp a.heap _).h.1;rw[m2];omega);omega
  ·rw[Zn e];obtain⟨p1,p2,p3⟩:=ok.pl p (by show p<a.heap.length;omega);have p1:0<=(hp a.heap p).h.1:=p1;refine⟨p1,p2,?_⟩;rw[Zn,Zn]
   ·exact p3
   ·intro e2;have:=ok.pl.inj (p:=p) (q:=a.heap.length-1) (by show p<a.heap.length;omega) (by show a.heap.length-1<a.heap.length;omega) (by show (hp a.heap _).h.1=(hp a.heap _).h.1;omega);omega
   ·intro e2;have:=ok.pl.inj (p:=p) (q:=atA a h) (by show p<a.heap.length;omega) m3 (by show (hp a.heap _).h.1=(hp a.heap _).h.1;rw[m2];omega);omega
 ·rw[hlen] at j2;have jp:=ynl (i:=j) j1;rw[hg j j2,hg (par j) (by omega),Zn (λe=>j3 e.symm),Zn (λe=>j4 e.symm)];exact ok.ord j j1 (by omega)
 ·rw[hlen] at j2;have jp:=ynl (i:=j) j1;have ip:=ynl (i:=atA a h) j4;rw[hg j j2,hg (par (atA a h)) (by omega),Zn (by omega),Zn (by omega)];have h1:=ok.ord j j1 (by omega);have h2:=ok.ord (atA a h) j4 (by omega);rw[j3] at h1;exact y97 (ok.posH.at (by omega)) (ok.posH.at (by omega)) (ok.posH.at (by omega)) h2 h1
end Go.Eng
namespace Go.Eng
variable{a:Ag}{h t:Int×Int}
theorem z0z.neg{s t:Hw}(k:z0z s t)(pl:plA s){j:Nat}(h:s.2.getD j 0 = -1):t.2.getD j 0 = -1:=by
 rw[k.same j λx hx e=>?_,h];obtain⟨p,hp'⟩:=Qm.1 hx;have hlt:=(Qi.1 hp').1;have ep:hp s.1 p=x:=by unfold hp;rw[Qb,hp'];rfl
 have:=(pl p hlt).2.2;rw[ep,e,h] at this;omega
theorem y5b{h:List Ev}{n p:Nat}(hp':p<n):hp (h.take n) p=hp h p:=by
 unfold hp;rw[Qb,Qz,Zp hp',← Qb]
structure z1z(a b:Ag)(x:Ev):Prop where
 ok:okA b
 perm:(x :: b.heap).Perm a.heap
 tb:b.tb=a.tb.given x.h.1
theorem okA.removed(ok:okA a)(hl:a.tb.live h.1 h.2=true):z1z a (yxk a h) (hp a.heap (atA a h)):=by
 obtain⟨m1,m2,m3⟩:=zys ok hl;obtain⟨v1,v2,v3,v4⟩:=yb7.1 hl;have hw:=ok.wl;have hlen:=ok.hl;have lus:a.tb.used.length=a.tb.uses.length:=ok.tb.len;have usd:∀i:Nat,(a.tb.given h.1).used.getD i false=if h.1.toNat=i then false else a.tb.used.getD i false:=λi=>y2y (by omega)
 have fin:∀(s:Hw),s.2.length=a.wh.length->(hp a.heap (atA a h) :: s.1).Perm a.heap->plA s->ylk s.1->(∀i:Nat,i<a.tb.uses.length->(h.1.toNat=i\/a.tb.used.getD i false=false)->s.2.getD i 0 = -1)->z1z a ⟨a.tb.given h.1,s.1,s.2⟩ (hp a.heap (atA a h)):=λs hs1 pm pl o hneg=>by
  have hls:s.1.length+1=a.heap.length:=by have:=pm.length_eq;simpa using this
  have sub:∀x∈s.1,x∈a.heap:=λx hx=>pm.mem_iff.1 (Qn _ hx)
  refine⟨okA.make (ok.tb.given hl) (by rw[hs1,hw];rfl) ?_ pl o (λx hx=>ok.each x (sub x hx)) ?_ (λx hx=>(ok.slot (sub x hx)).2.2.2.1) (λi hi hu=>?_) (λi hi hu=>?_),pm,by rw[m2]⟩
  ·show s.1.length+(a.tb.free++[h.1]).length=a.tb.uses.length;simp;omega
  ·have:((hp a.heap (atA a h) :: s.1).map (·.no)).Nodup:=(pm.map _).nodup_iff.2 ok.nos;rw[Qr,Ql] at this;exact this.2
  ·have hi':i<a.tb.uses.length:=hi;rw[usd] at hu;by_cases e:h.1.toNat=i
   ·rw[Zp e] at hu;cases hu
   ·rw[Zn e] at hu;have:=ok.used i hi' hu;have hm:=y57 (by omega:(a.wh.getD i 0).toNat<a.heap.length);have hm2:=pm.mem_iff.2 hm;rcases Qo.1 hm2 with he|hm2
    ·rw[he,m2] at this;have:=congrArg Prod.fst this.2.2;simp only at this;omega
    ·exact⟨_,hm2,by rw[this.2.2]⟩
  ·rw[usd] at hu;refine hneg i hi ?_;by_cases e:h.1.toNat=i
   ·exact .inl e
   ·rw[Zn e] at hu;exact .inr hu
 have hpos:0<a.heap.length:=by omega
 unfold yxk;split
 ·rename_i he;refine fin (a.heap.take (a.heap.length-1),a.wh.set h.1.toNat (-1)) (by simp) ?_ (λp hp'=>?_) (λj j1 j2=>?_) (λi hi hor=>?_)
  ·rw[he];conv=>rhs;rw[x82 hpos]
   exact(Qp _ _).symm
  ·have hp1:p<a.heap.length-1:=by
    have:p<(a.heap.take (a.heap.length-1)).length:=hp';simp at this;omega
   show 0<=(hp (a.heap.take _) p).h.1/\(hp (a.heap.take _) p).h.1<(a.wh.set _ _).length/\(a.wh.set _ _).getD (hp (a.heap.take _) p).h.1.toNat 0=p;rw[y5b hp1,Qs,y30 (by omega)];obtain⟨p1,p2,p3⟩:=ok.pl p (by show p<a.heap.length;omega);have p1:0<=(hp a.heap p).h.1:=p1;refine⟨p1,p2,?_⟩;rw[Zn]
   ·exact p3
   ·intro e;have:=ok.pl.inj (p:=p) (q:=atA a h) (by show p<a.heap.length;omega) m3 (by show (hp a.heap _).h.1=(hp a.heap _).h.1;rw[m2];omega);omega
  ·have hj:j<a.heap.length-1:=by
    have:j<(a.heap.take (a.heap.length-1)).length:=j2;simp at this;omega
   have:=ynl (i:=j) j1;show yaj (hp (a.heap.take _) j) (hp (a.heap.take _) (par j))=false;rw[y5b hj,y5b (by omega)];exact ok.ord j j1 (by omega)
  ·show (a.wh.set _ _).getD i 0 = -1;rw[y30 (by omega)];by_cases e:h.1.toNat=i
   ·rw[Zp e]
   ·rw[Zn e];exact ok.free i hi (hor.resolve_left e)
 ·rename_i he;obtain⟨r1,r2,r3,r4⟩:=yxe ok hl he;obtain⟨rl,rp⟩:=yxn ok hl he;have k:=yff r1 r4;have o:=yfg r1 r2 r3 r4;refine fin (yfe (yxb a h) (atA a h)) ?_ ((Qc.cons _ k.perm).trans rp) k.pl o (λi hi hor=>k.neg r1 ?_)
  ·rw[k.wlen];simp[yxb]
  ·have hy:=ok.slot (y57 (by omega:a.heap.length-1<a.heap.length));show ((a.wh.set _ _).set _ _).getD i 0 = -1;rw[y30 (by simp;omega),y30 (by omega)];by_cases e:h.1.toNat=i
   ·rw[Zp e]
   ·rw[Zn e,Zn]
    ·exact ok.free i hi (hor.resolve_left e)
    ·intro e2;have:=hor.resolve_left e;rw[← e2,hy.2.2.1] at this;cases this
theorem yx8(ok:okA a)(hl:a.tb.live h.1 h.2=true)(ht:okR t):plA (reS a h t)/\Go.Eng.posH (reS a h t).1/\z19 (reS a h t).1 (atA a h)/\atA a h<(reS a h t).1.length:=by
 obtain⟨m1,m2,m3⟩:=zys ok hl;have hg:∀p,hp (reS a h t).1 p=if atA a h=p then { hp a.heap (atA a h) with at_:=t } else hp a.heap p:=λp=>y59 m3
 have hlen:(reS a h t).1.length=a.heap.length:=by simp[reS]
 refine⟨λp hp'=>?_,λx hx=>?_,⟨λj j1 j2 j3 j4=>?_,λj j1 j2 j3 j4=>?_⟩,by rw[hlen];exact m3⟩
 ·rw[hlen] at hp';have:=ok.pl p hp';rw[hg];by_cases e:atA a h=p
  ·subst e;rw[Zp rfl];exact this
  ·rw[Zn e];exact this
 ·rcases List.mem_or_eq_of_mem_set hx with hx|rfl
  ·exact ok.posH x hx
  ·exact ht.d1
 ·rw[hlen] at j2;rw[hg j,hg (par j),Zn (λe=>j3 e.symm),Zn (λe=>j4 e.symm)];exact ok.ord j j1 j2
 ·rw[hlen] at j2;have jp:=ynl (i:=j) j1;have ip:=ynl (i:=atA a h) j4;rw[hg j,hg (par (atA a h)),Zn (by omega),Zn (by omega)];have h1:=ok.ord j j1 j2;have h2:=ok.ord (atA a h) j4 m3;rw[j3] at h1;exact y97 (ok.posH.at (by omega)) (ok.posH.at (by omega)) (ok.posH.at (by omega)) h2 h1
structure z1y(a b:Ag)(x:Ev)(t:Int×Int):Prop where
 ok:okA b
 perm:(x :: b.heap).Perm ({ x with at_:=t } :: a.heap)
 tb:b.tb=a.tb
theorem okA.rekeyed(ok:okA a)(hl:a.tb.live h.1 h.2=true)(ht:okR t):z1y a (yx9 a h t) (hp a.heap (atA a h)) t:=by
 obtain⟨m1,m2,m3⟩:=zys ok hl;obtain⟨r1,r2,r3,r4⟩:=yx8 ok hl ht;have k:=yff r1 r4;have o:=yfg r1 r2 r3 r4;have pm:(hp a.heap (atA a h) :: (yfe (reS a h t) (atA a h)).1).Perm ({ hp a.heap (atA a h) with at_:=t } :: a.heap):=(Qc.cons _ k.perm).trans (x0j m3);have mem0:∀x∈(yfe (reS a h t) (atA a h)).1,x={ hp a.heap (atA a h) with at_:=t }\/x∈a.heap:=λx hx=>by
  have:=pm.mem_iff.1 (Qn _ hx);exact Qo.1 this
 have hlen:(yfe (reS a h t) (atA a h)).1.length=a.heap.length:=by rw[k.len];simp[reS]
 have hmap:∀{β:Type}(g:Ev->β),g { hp a.heap (atA a h) with at_:=t }=g (hp a.heap (atA a h))->((yfe (reS a h t) (atA a h)).1.map g).Perm (a.heap.map g):=λg hg=>by
  have:=pm.map g;rw[Qr,Qr,hg] at this;exact Qc.cons_inv this
 refine⟨okA.make ok.tb ?_ (by rw[hlen];exact ok.hl) k.pl o (λx hx=>?_) ((hmap (·.no) rfl).nodup_iff.2 ok.nos) (λx hx=>?_) (λi hi hu=>?_) (λi hi hu=>k.neg r1 (ok.free i hi hu)),pm,rfl⟩
 ·rw[k.wlen];simp[reS];exact ok.wl
 ·rcases mem0 x hx with rfl|hx
  ·exact⟨ht,(ok.each _ m1).2⟩
  ·exact ok.each x hx
 ·rcases mem0 x hx with rfl|hx
  ·exact(ok.slot m1).2.2.2.1
  ·exact(ok.slot hx).2.2.2.1
 ·have:=ok.used i hi hu;have hm:=y57 (by omega:(a.wh.getD i 0).toNat<a.heap.length);have:(i:Int)∈a.heap.map (·.h.1):=Qd.2 ⟨_,hm,by rw[this.2.2]⟩;have:=(hmap (·.h.1) rfl).mem_iff.2 this;obtain⟨x,hx,e⟩:=Qd.1 this;exact⟨x,hx,e⟩
end Go.Eng
end
