/- The engine, parts AM, AN, AP, put together. Conditions: none. -/
import Derived.Test.YtjhbjjdipmpgjaaGreatE5
set_option linter.unusedVariables false
section
/- Agendas, in plain words. Conditions: none. -/
namespace Go.Eng

structure Ag where
 tb:Tb
 heap:List Ev
 wh:List Int
deriving DecidableEq
def Ag.zero:Ag:=⟨.zero,[],[]⟩

def par (i:Nat):Nat:=(i-1) / 2
def hp (h:List Ev) (i:Nat):Ev:=h.getD i e0
abbrev Hw:=List Ev × List Int

structure okA (a:Ag):Prop where
 tb:okT a.tb
 wl:a.wh.length=a.tb.uses.length
 hl:a.heap.length+a.tb.free.length=a.tb.uses.length
 free:∀ i:Nat,i<a.tb.uses.length→a.tb.used.getD i false=false→a.wh.getD i 0 = -1
 used:∀ i:Nat,i<a.tb.uses.length→a.tb.used.getD i false=true→0≤a.wh.getD i 0∧a.wh.getD i 0<a.heap.length∧(hp a.heap (a.wh.getD i 0).toNat).h=((i:Int),a.tb.uses.getD i 0)
 each:∀ x∈a.heap,okR x.at_∧0≤x.no∧x.no≤1000000
 nos:(a.heap.map (·.no)).Nodup
 ord:∀ i:Nat,1≤i→i<a.heap.length→y40 (hp a.heap i) (hp a.heap (par i))=false

instance (a:Ag):Decidable (okA a) :=
 decidable_of_iff (okT a.tb∧a.wh.length=a.tb.uses.length∧a.heap.length+a.tb.free.length=a.tb.uses.length∧(∀ i:Nat,i<a.tb.uses.length→a.tb.used.getD i false=false→a.wh.getD i 0 = -1) ∧
  (∀ i:Nat,i<a.tb.uses.length→a.tb.used.getD i false=true→0≤a.wh.getD i 0∧a.wh.getD i 0<a.heap.length∧(hp a.heap (a.wh.getD i 0).toNat).h=((i:Int),a.tb.uses.getD i 0)) ∧
  (∀ x∈a.heap,okR x.at_∧0≤x.no∧x.no≤1000000)∧(a.heap.map (·.no)).Nodup∧(∀ i:Nat,i<a.heap.length→1≤i→y40 (hp a.heap i) (hp a.heap (par i))=false))
  ⟨fun ⟨a,b,c,d,e,f,g,h⟩=>⟨a,b,c,d,e,f,g,fun i h1 h2=>h i h2 h1⟩,fun ⟨a,b,c,d,e,f,g,h⟩=>⟨a,b,c,d,e,f,g,fun i h1 h2=>h i h2 h1⟩⟩

def ziv (a:Ag):Int:=if okA a then 0 else 8
theorem zix {a:Ag} (h:okA a):ziv a=0:=by unfold ziv; rw [if_pos h]
theorem ziw {a:Ag} (h:¬ okA a):ziv a=8:=by unfold ziv; rw [if_neg h]
theorem ziy {a:Ag}:ziv a=0↔okA a:=by
 by_cases h:okA a
 ·simp [zix h,h]
 ·simp [ziw h,h]

theorem zyw {h:List Ev} {i:Nat} (hi:i<h.length):h[i]?=some (hp h i):=by simp [hp,List.getD,hi]
theorem zyy {h:List Ev} {i:Nat} (hi:i<h.length):hp h i∈h:=List.mem_of_getElem? (zyw hi)
theorem zz0 {h:List Ev} {i j:Nat} {x:Ev} (hi:i<h.length):hp (h.set i x) j=if i=j then x else hp h j:=zx4 hi
theorem ydx {i:Nat} (h:1≤i):par i<i:=by unfold par; omega

def yw1 (s:Hw) (i k:Nat):Hw :=
 ((s.1.set i (hp s.1 k)).set k (hp s.1 i),(s.2.set (hp s.1 k).h.1.toNat i).set (hp s.1 i).h.1.toNat k)

def upA:Nat→Hw→Nat→Hw × Nat
 | 0,s,i=>(s,i)
 | f+1,s,i=>if 0<i∧y40 (hp s.1 i) (hp s.1 (par i))=true then upA f (yw1 s i (par i)) (par i) else (s,i)
def kid (h:List Ev) (i:Nat):Nat:=if 2 * i+2<h.length∧y40 (hp h (2 * i+2)) (hp h (2 * i+1))=true then 2 * i+2 else 2 * i+1
def zp2:Nat→Hw→Nat→Hw
 | 0,s,_=>s
 | f+1,s,i=>if 2 * i+1<s.1.length∧y40 (hp s.1 (kid s.1 i)) (hp s.1 i)=true then zp2 f (yw1 s i (kid s.1 i)) (kid s.1 i) else s
def y73 (s:Hw) (i:Nat):Hw:=let u:=upA i s i; zp2 s.1.length u.1 u.2

theorem yw2 (s:Hw) (i k:Nat):(yw1 s i k).1.length=s.1.length∧(yw1 s i k).2.length=s.2.length:=by simp [yw1]
theorem yyv:∀ (f g:Nat) (s:Hw) (i:Nat),i≤f→i≤g→upA f s i=upA g s i
 | 0,0,_,_,_,_=>rfl
 | 0,g+1,s,i,h,_=>by
  have:i=0:=by omega
  subst this; simp [upA]
 | f+1,0,s,i,_,h=>by
  have:i=0:=by omega
  subst this; simp [upA]
 | f+1,g+1,s,i,h,h'=>by
  unfold upA
  split
  ·rename_i hc
   have:=ydx (i:=i) (by omega)
   exact yyv f g _ _ (by omega) (by omega)
  ·rfl
theorem y1f (h:List Ev) (i:Nat):i<kid h i∧(2 * i+1<h.length→kid h i<h.length)∧par (kid h i)=i:=by
 unfold kid par; split <;> omega
theorem zp3:∀ (f g:Nat) (s:Hw) (i:Nat),s.1.length≤f+i→s.1.length≤g+i→zp2 f s i=zp2 g s i
 | 0,0,_,_,_,_=>rfl
 | 0,g+1,s,i,h,_=>by
  unfold zp2; rw [if_neg (by omega)]
 | f+1,0,s,i,_,h=>by
  unfold zp2; rw [if_neg (by omega)]
 | f+1,g+1,s,i,h,h'=>by
  unfold zp2
  split
  ·have k:=y1f s.1 i
   have l:=(yw2 s i (kid s.1 i)).1
   exact zp3 f g _ _ (by omega) (by omega)
  ·rfl

theorem yyy {f:Nat} {s:Hw} {i:Nat} (hf:i≤f) (h0:0<i) (h:y40 (hp s.1 i) (hp s.1 (par i))=true):upA f s i=upA f (yw1 s i (par i)) (par i):=by
 have:=ydx (i:=i) h0
 rw [yyv f (f+1) s i hf (by omega)]
 conv=>lhs; unfold upA
 rw [if_pos ⟨h0,h⟩]
theorem yyz {f:Nat} {s:Hw} {i:Nat} (h:¬ (0<i∧y40 (hp s.1 i) (hp s.1 (par i))=true)):upA f s i=(s,i):=by
 cases f with
 | zero=>rfl
 | succ f=>unfold upA; rw [if_neg h]
theorem zp6 {f:Nat} {s:Hw} {i:Nat} (hf:s.1.length≤f+i) (h0:2 * i+1<s.1.length) (h:y40 (hp s.1 (kid s.1 i)) (hp s.1 i)=true):zp2 f s i=zp2 f (yw1 s i (kid s.1 i)) (kid s.1 i):=by
 have k:=y1f s.1 i
 have l:=(yw2 s i (kid s.1 i)).1
 rw [zp3 f (f+1) s i hf (by omega)]
 conv=>lhs; unfold zp2
 rw [if_pos ⟨h0,h⟩]
theorem zp7 {f:Nat} {s:Hw} {i:Nat} (h:¬ (2 * i+1<s.1.length∧y40 (hp s.1 (kid s.1 i)) (hp s.1 i)=true)):zp2 f s i=s:=by
 cases f with
 | zero=>rfl
 | succ f=>unfold zp2; rw [if_neg h]

def plA (s:Hw):Prop:=∀ p,p<s.1.length→0≤(hp s.1 p).h.1∧(hp s.1 p).h.1<s.2.length∧s.2.getD (hp s.1 p).h.1.toNat 0=p

theorem zx6 {l:List Int} {i j:Nat} {x:Int} (h:i<l.length):(l.set i x).getD j 0=if i=j then x else l.getD j 0:=zx4 h

theorem plA.inj {s:Hw} (h:plA s) {p q:Nat} (hp':p<s.1.length) (hq:q<s.1.length) (e:(hp s.1 p).h.1=(hp s.1 q).h.1):p=q:=by
 have a:=(h p hp').2.2; have b:=(h q hq).2.2
 rw [e] at a; omega

theorem zz1 {s:Hw} {i k:Nat} (hi:i<s.1.length) (hk:k<s.1.length) (j:Nat):hp (yw1 s i k).1 j=if k=j then hp s.1 i else if i=j then hp s.1 k else hp s.1 j:=by
 show hp ((s.1.set i (hp s.1 k)).set k (hp s.1 i)) j=_
 rw [zz0 (by simpa using hk),zz0 hi]

theorem plA.swap {s:Hw} (h:plA s) {i k:Nat} (hi:i<s.1.length) (hk:k<s.1.length):plA (yw1 s i k):=by
 intro p hpl
 rw [(yw2 s i k).1] at hpl
 rw [(yw2 s i k).2,zz1 hi hk]
 obtain ⟨i1,i2,i3⟩:=h i hi
 obtain ⟨k1,k2,k3⟩:=h k hk
 have gs:∀ j:Nat,(yw1 s i k).2.getD j 0=if (hp s.1 i).h.1.toNat=j then (k:Int) else if (hp s.1 k).h.1.toNat=j then (i:Int) else s.2.getD j 0:=fun j=>by
  show ((s.2.set _ _).set _ _).getD j 0=_
  rw [zx6 (by simp; omega),zx6 (by omega)]
 rw [gs]
 by_cases e1:k=p
 ·subst e1; rw [if_pos rfl,if_pos rfl]; exact ⟨i1,i2,rfl⟩
 ·rw [if_neg e1]
  by_cases e2:i=p
  ·subst e2; rw [if_pos rfl,if_pos rfl]
   refine ⟨k1,k2,?_⟩
   by_cases e3:(hp s.1 i).h.1.toNat=(hp s.1 k).h.1.toNat
   ·exact absurd (h.inj hi hk (by omega)) (fun e=>e1 e.symm)
   ·rw [if_neg e3]
  ·rw [if_neg e2]
   obtain ⟨p1,p2,p3⟩:=h p hpl
   refine ⟨p1,p2,?_⟩
   rw [if_neg,if_neg,p3]
   ·intro e; exact e1 (h.inj hk hpl (by omega))
   ·intro e; exact e2 (h.inj hi hpl (by omega))

theorem yh8 {s:Hw} {i k:Nat} (hi:i<s.1.length) (hk:k<s.1.length):(yw1 s i k).1.Perm s.1:=by
 show ((s.1.set i (hp s.1 k)).set k (hp s.1 i)).Perm s.1
 generalize s.1=l at *
 have e1:hp l k=l[k]:=by simp [hp,List.getD,hk]
 have e2:hp l i=l[i]:=by simp [hp,List.getD,hi]
 rw [e1,e2]
 by_cases h:i=k
 ·subst h; simp
 ·rw [List.perm_iff_count]
  intro x
  have h1:=List.count_set (l:=l.set i l[k]) (i:=k) (a:=l[i]) (b:=x) (by simpa using hk)
  have h2:=List.count_set (l:=l) (i:=i) (a:=l[k]) (b:=x) hi
  rw [h1,h2,List.getElem_set_ne h]
  by_cases a:l[i]==x <;> by_cases b:l[k]==x <;> simp_all
  all_goals
   have p1:∀ (l:List Ev) (j:Nat) (hj:j<l.length),0<l.count l[j]:=fun l j hj=>List.count_pos_iff.2 (List.getElem_mem hj)
   first
    | (have:=p1 l i hi; simp_all; done)
    | (have:=p1 l k hk; simp_all; done)
    | (have:=p1 l i hi; have:=p1 l k hk; simp_all; omega)

structure z0w (s t:Hw):Prop where
 len:t.1.length=s.1.length
 wlen:t.2.length=s.2.length
 perm:t.1.Perm s.1
 pl:plA t
 same:∀ j:Nat,(∀ x∈s.1,x.h.1.toNat≠j)→t.2.getD j 0=s.2.getD j 0
theorem z0w.refl {s:Hw} (h:plA s):z0w s s:=⟨rfl,rfl,List.Perm.refl _,h,fun _ _=>rfl⟩
theorem z0w.swap {s:Hw} (h:plA s) {i k:Nat} (hi:i<s.1.length) (hk:k<s.1.length):z0w s (yw1 s i k):=by
 refine ⟨(yw2 s i k).1,(yw2 s i k).2,yh8 hi hk,h.swap hi hk,fun j hj=>?_⟩
 obtain ⟨i1,i2,i3⟩:=h i hi
 obtain ⟨k1,k2,k3⟩:=h k hk
 show ((s.2.set _ _).set _ _).getD j 0=_
 rw [zx6 (by simp; omega),zx6 (by omega),if_neg (hj _ (zyy hi)),if_neg (hj _ (zyy hk))]
theorem z0w.trans {s t u:Hw} (a:z0w s t) (b:z0w t u):z0w s u :=
 ⟨b.len.trans a.len,b.wlen.trans a.wlen,b.perm.trans a.perm,b.pl,fun j hj=>(b.same j fun x hx=>hj x (a.perm.mem_iff.1 hx)).trans (a.same j hj)⟩

theorem yyw:∀ (f:Nat) (s:Hw) (i:Nat),plA s→i<s.1.length→z0w s (upA f s i).1∧(upA f s i).2≤i
 | 0,s,i,h,_=>⟨z0w.refl h,Nat.le_refl _⟩
 | f+1,s,i,h,hi=>by
  unfold upA
  split
  ·rename_i hc
   have hp:=ydx (i:=i) hc.1
   have k:=z0w.swap h hi (Nat.lt_trans hp hi)
   obtain ⟨a,b⟩:=yyw f _ (par i) k.pl (by rw [k.len]; omega)
   exact ⟨k.trans a,by omega⟩
  ·exact ⟨z0w.refl h,Nat.le_refl _⟩
theorem zp4:∀ (f:Nat) (s:Hw) (i:Nat),plA s→i<s.1.length→z0w s (zp2 f s i)
 | 0,s,i,h,_=>z0w.refl h
 | f+1,s,i,h,hi=>by
  unfold zp2
  split
  ·rename_i hc
   have hk:=(y1f s.1 i).2.1 hc.1
   have k:=z0w.swap h hi hk
   exact k.trans (zp4 f _ _ k.pl (by rw [k.len]; exact hk))
  ·exact z0w.refl h
theorem y74 {s:Hw} {i:Nat} (h:plA s) (hi:i<s.1.length):z0w s (y73 s i):=by
 obtain ⟨a,b⟩:=yyw i s i h hi
 exact a.trans (zp4 _ _ _ a.pl (by rw [a.len]; omega))

structure z12 (h:List Ev) (i:Nat):Prop where
 far:∀ j,1≤j→j<h.length→j≠i→par j≠i→y40 (hp h j) (hp h (par j))=false
 over:∀ j,1≤j→j<h.length→par j=i→1≤i→y40 (hp h j) (hp h (par i))=false
structure z0z (h:List Ev) (i:Nat):Prop where
 far:∀ j,1≤j→j<h.length→par j≠i→y40 (hp h j) (hp h (par j))=false
 over:∀ j,1≤j→j<h.length→par j=i→1≤i→y40 (hp h j) (hp h (par i))=false
def ycj (h:List Ev):Prop:=∀ j,1≤j→j<h.length→y40 (hp h j) (hp h (par j))=false
def posH (h:List Ev):Prop:=∀ x∈h,yid x

theorem posH.at {h:List Ev} (p:posH h) {i:Nat} (hi:i<h.length):yid (hp h i):=p _ (zyy hi)
theorem posH.perm {h h':List Ev} (p:posH h) (e:h'.Perm h):posH h':=fun x hx=>p x (e.mem_iff.1 hx)

theorem z12.up {s:Hw} {i:Nat} (p:posH s.1) (m:z12 s.1 i) (hi:i<s.1.length) (h0:0<i) (hl:y40 (hp s.1 i) (hp s.1 (par i))=true):z12 (yw1 s i (par i)).1 (par i):=by
 have pl:=ydx (i:=i) h0
 have hpl:par i<s.1.length:=Nat.lt_trans pl hi
 have len:=(yw2 s i (par i)).1
 refine ⟨fun j j1 j2 j3 j4=>?_,fun j j1 j2 j3 j4=>?_⟩
 ·rw [len] at j2
  have jp:=ydx (i:=j) j1
  rw [zz1 hi hpl j,zz1 hi hpl (par j),if_neg (fun e=>j3 e.symm:¬ par i=j),if_neg (fun e=>j4 e.symm:¬ par i=par j)]
  by_cases e1:i=j
  ·subst e1; exact absurd rfl j4
  ·rw [if_neg e1]
   by_cases e2:i=par j
   ·rw [if_pos e2]; exact m.over j j1 j2 e2.symm h0
   ·rw [if_neg e2]; exact m.far j j1 j2 (fun e=>e1 e.symm) (fun e=>e2 e.symm)
 ·rw [len] at j2
  have pp:=ydx (i:=par i) j4
  rw [zz1 hi hpl j,zz1 hi hpl (par (par i))]
  have hgg:y40 (hp s.1 (par i)) (hp s.1 (par (par i)))=false:=m.far (par i) j4 hpl (by omega) (by omega)
  rw [if_neg (by omega:¬ par i=par (par i)),if_neg (by omega:¬ i=par (par i))]
  rw [if_neg (by have:=ydx (i:=j) j1; omega:¬ par i=j)]
  by_cases e1:i=j
  ·rw [if_pos e1]; exact hgg
  ·rw [if_neg e1]
   have:=m.far j j1 j2 (fun e=>e1 e.symm) (by omega)
   rw [j3] at this
   exact y2l (p.at (by omega)) (p.at hpl) (p.at j2) hgg this

theorem yyx:∀ (f:Nat) (s:Hw) (i:Nat),plA s→posH s.1→z12 s.1 i→i<s.1.length→i≤f→z0z (upA f s i).1.1 (upA f s i).2
 | f,s,i,h,p,m,hi,hf=>by
  by_cases hc:0<i∧y40 (hp s.1 i) (hp s.1 (par i))=true
  ·have pl:=ydx (i:=i) hc.1
   have k:=z0w.swap h hi (Nat.lt_trans pl hi)
   rw [yyy hf hc.1 hc.2]
   cases f with
   | zero=>omega
   | succ f =>
    rw [yyv (f+1) f _ _ (by omega) (by omega)]
    exact yyx f _ (par i) k.pl (p.perm k.perm) (m.up p hi hc.1 hc.2) (by rw [k.len]; omega) (by omega)
  ·rw [yyz hc]
   refine ⟨fun j j1 j2 j3=>?_,m.over⟩
   by_cases e:j=i
   ·subst e
    cases hx:y40 (hp s.1 j) (hp s.1 (par j)) with
    | false=>rfl
    | true=>exact absurd ⟨by omega,hx⟩ hc
   ·exact m.far j j1 j2 e j3
termination_by f=>f

structure z23 (h:List Ev) (i:Nat):Prop where
 far:∀ j,1≤j→j<h.length→j≠i→y40 (hp h j) (hp h (par j))=false
 over:∀ j,1≤j→j<h.length→par j=i→1≤i→y40 (hp h j) (hp h (par i))=false
theorem z23.mid {h:List Ev} {i:Nat} (t:z23 h i):z12 h i:=⟨fun j a b c _=>t.far j a b c,t.over⟩
theorem z23.up {s:Hw} {i:Nat} (p:posH s.1) (m:z23 s.1 i) (hi:i<s.1.length) (h0:0<i) (hl:y40 (hp s.1 i) (hp s.1 (par i))=true):z23 (yw1 s i (par i)).1 (par i):=by
 have md:=m.mid.up p hi h0 hl
 have pl:=ydx (i:=i) h0
 have hpl:par i<s.1.length:=Nat.lt_trans pl hi
 have len:=(yw2 s i (par i)).1
 refine ⟨fun j j1 j2 j3=>?_,md.over⟩
 by_cases e:par j=par i
 ·rw [len] at j2
  rw [zz1 hi hpl j,zz1 hi hpl (par j),if_pos e.symm,if_neg (fun e=>j3 e.symm:¬ par i=j)]
  by_cases e1:i=j
  ·rw [if_pos e1]; exact y41 hl
  ·rw [if_neg e1]
   have:=m.far j j1 j2 (fun e=>e1 e.symm)
   rw [e] at this
   exact y2l (p.at hi) (p.at hpl) (p.at j2) (y41 hl) this
 ·exact md.far j j1 j2 j3 e
theorem yz0:∀ (f:Nat) (s:Hw) (i:Nat),plA s→posH s.1→z23 s.1 i→i<s.1.length→i≤f→ycj (upA f s i).1.1
 | f,s,i,h,p,m,hi,hf=>by
  by_cases hc:0<i∧y40 (hp s.1 i) (hp s.1 (par i))=true
  ·have pl:=ydx (i:=i) hc.1
   have k:=z0w.swap h hi (Nat.lt_trans pl hi)
   rw [yyy hf hc.1 hc.2]
   cases f with
   | zero=>omega
   | succ f =>
    rw [yyv (f+1) f _ _ (by omega) (by omega)]
    exact yz0 f _ (par i) k.pl (p.perm k.perm) (m.up p hi hc.1 hc.2) (by rw [k.len]; omega) (by omega)
  ·rw [yyz hc]
   intro j j1 j2
   by_cases e:j=i
   ·subst e
    cases hx:y40 (hp s.1 j) (hp s.1 (par j)) with
    | false=>rfl
    | true=>exact absurd ⟨by omega,hx⟩ hc
   ·exact m.far j j1 j2 e
termination_by f=>f

theorem y1g {h:List Ev} (p:posH h) {i j:Nat} (hj:j<h.length) (j1:1≤j) (hpj:par j=i):y40 (hp h j) (hp h (kid h i))=false:=by
 have hj2:j=2 * i+1∨j=2 * i+2:=by unfold par at hpj; omega
 unfold kid
 split
 ·rename_i hc
  rcases hj2 with rfl | rfl
  ·exact y41 hc.2
  ·exact y43 _
 ·rename_i hc
  rcases hj2 with rfl | rfl
  ·exact y43 _
  ·cases hx:y40 (hp h (2 * i+2)) (hp h (2 * i+1)) with
   | false=>rfl
   | true=>exact absurd ⟨hj,hx⟩ hc

theorem z0z.down {s:Hw} {i:Nat} (p:posH s.1) (m:z0z s.1 i) (hi:i<s.1.length) (h0:2 * i+1<s.1.length) (hl:y40 (hp s.1 (kid s.1 i)) (hp s.1 i)=true):z0z (yw1 s i (kid s.1 i)).1 (kid s.1 i):=by
 obtain ⟨k1,k2,k3⟩:=y1f s.1 i
 have hk:=k2 h0
 have hkid:=fun j hj j1 hpj=>y1g (h:=s.1) p (i:=i) (j:=j) hj j1 hpj
 have len:=(yw2 s i (kid s.1 i)).1
 generalize kid s.1 i=k at *
 refine ⟨fun j j1 j2 j3=>?_,fun j j1 j2 j3 j4=>?_⟩
 ·rw [len] at j2
  have jp:=ydx (i:=j) j1
  rw [zz1 hi hk j,zz1 hi hk (par j),if_neg (fun e=>j3 e.symm:¬ k=par j)]
  by_cases e1:i=par j
  ·rw [if_pos e1]
   by_cases e2:k=j
   ·rw [if_pos e2]; exact y41 hl
   ·rw [if_neg e2,if_neg (by omega)]; exact hkid j j2 j1 e1.symm
  ·rw [if_neg e1]
   by_cases e2:k=j
   ·subst e2; exact absurd k3.symm e1
   ·rw [if_neg e2]
    by_cases e3:i=j
    ·subst e3; rw [if_pos rfl]; exact m.over k (by omega) hk k3 j1
    ·rw [if_neg e3]; exact m.far j j1 j2 (fun e=>e1 e.symm)
 ·rw [len] at j2
  have jp:=ydx (i:=j) j1
  rw [zz1 hi hk j,zz1 hi hk (par k),k3,if_neg (by omega:¬ k=j),if_neg (by omega:¬ i=j),if_neg (by omega:¬ k=i),if_pos rfl]
  have:=m.far j j1 j2 (by omega)
  rw [j3] at this; exact this
theorem zp5:∀ (f:Nat) (s:Hw) (i:Nat),plA s→posH s.1→z0z s.1 i→i<s.1.length→s.1.length≤f+i→ycj (zp2 f s i).1
 | f,s,i,h,p,m,hi,hf=>by
  by_cases hc:2 * i+1<s.1.length∧y40 (hp s.1 (kid s.1 i)) (hp s.1 i)=true
  ·obtain ⟨k1,k2,k3⟩:=y1f s.1 i
   have hk:=k2 hc.1
   have k:=z0w.swap h hi hk
   rw [zp6 hf hc.1 hc.2]
   cases f with
   | zero=>omega
   | succ f =>
    have hl:=k.len
    rw [zp3 (f+1) f _ _ (by omega) (by omega)]
    exact zp5 f _ _ k.pl (p.perm k.perm) (m.down p hi hc.1 hc.2) (by rw [hl]; exact hk) (by omega)
  ·rw [zp7 hc]
   intro j j1 j2
   by_cases e:par j=i
   ·have hjk:=y1g p (i:=i) j2 j1 e
    have h2:2 * i+1<s.1.length:=by unfold par at e; omega
    have hk:=(y1f s.1 i).2.1 h2
    have hx:y40 (hp s.1 (kid s.1 i)) (hp s.1 i)=false:=by
     cases hx:y40 (hp s.1 (kid s.1 i)) (hp s.1 i) with
     | false=>rfl
     | true=>exact absurd ⟨h2,hx⟩ hc
    rw [e]
    exact y2l (p.at hi) (p.at hk) (p.at j2) hx hjk
   ·exact m.far j j1 j2 e
termination_by f=>f
theorem y75 {s:Hw} {i:Nat} (h:plA s) (p:posH s.1) (m:z12 s.1 i) (hi:i<s.1.length):ycj (y73 s i).1:=by
 obtain ⟨a,b⟩:=yyw i s i h hi
 have l:=yyx i s i h p m hi (Nat.le_refl _)
 exact zp5 _ _ _ a.pl (p.perm a.perm) l (by rw [a.len]; omega) (by rw [a.len]; omega)

theorem ycj.first {h:List Ev} (o:ycj h) (p:posH h):∀ (j:Nat),j<h.length→y40 (hp h j) (hp h 0)=false:=by
 intro j
 induction j using Nat.strongRecOn with
 | _ j ih =>
  intro hj
  rcases Nat.eq_zero_or_pos j with e | e
  ·subst e; exact y43 _
  ·have pl:=ydx (i:=j) e
   exact y2l (p.at (by omega)) (p.at (by omega)) (p.at hj) (ih _ pl (by omega)) (o j e hj)
end Go.Eng
end
section
/- What is done with agendas,in plain words. Conditions: none. -/
namespace Go.Eng

theorem yad {α:Type} [DecidableEq α]:∀ (A B:List α),A.Nodup→(∀ x∈A,x∈B)→A.length≤B.length
 | [],B,_,_=>by simp
 | x :: A,B,h,hs=>by
  have hx:x∈B:=hs x (List.mem_cons_self ..)
  obtain ⟨h1,h2⟩:=List.nodup_cons.1 h
  have:=yad A (B.erase x) h2 fun y hy=>by
   exact (List.mem_erase_of_ne (by rintro rfl; exact h1 hy)).2 (hs y (List.mem_cons_of_mem _ hy))
  rw [List.length_erase_of_mem hx] at this
  have:=List.length_pos_of_mem hx
  simp; omega

theorem ztm {α:Type} (p:α→Bool):∀ l:List α,(l.filter p).length+(l.filter fun x=>!p x).length=l.length
 | []=>rfl
 | x :: l=>by
  have:=ztm p l
  cases h:p x <;> simp [h] <;> omega

theorem okA.usedCount {a:Ag} (ok:okA a):a.heap.length≤((List.range a.tb.uses.length).filter fun i=>a.tb.used.getD i false).length:=by
 have h1:=ztm (fun i=>a.tb.used.getD i false) (List.range a.tb.uses.length)
 have h2:((List.range a.tb.uses.length).filter fun i=>!a.tb.used.getD i false).length≤a.tb.free.length:=by
  have:=yad ((((List.range a.tb.uses.length).filter fun i=>!a.tb.used.getD i false)).map fun i:Nat=>(i:Int)) a.tb.free
   (by
    rw [List.nodup_iff_pairwise_ne,List.pairwise_map]
    exact ((List.nodup_range (n:=a.tb.uses.length)).sublist List.filter_sublist).imp fun h e=>h (by omega))
   (fun x hx=>by
    obtain ⟨i,hi,rfl⟩:=List.mem_map.1 hx
    obtain ⟨hr,hu⟩:=List.mem_filter.1 hi
    have:=(ok.tb.each i (List.mem_range.1 hr)).2.2.1
    rcases Decidable.em ((i:Int)∈a.tb.free) with h | h
    ·exact h
    ·have e:=this.2 h
     have hu:(!a.tb.used.getD i false)=true:=hu
     rw [e] at hu; cases hu)
  rw [List.length_map] at this; exact this
 have h3:=ok.hl
 rw [List.length_range] at h1
 omega

theorem okA.at {a:Ag} (ok:okA a) {p:Nat} (hp':p<a.heap.length):∃ i:Nat,i<a.tb.uses.length∧a.tb.used.getD i false=true∧a.wh.getD i 0=p∧(hp a.heap p).h=((i:Int),a.tb.uses.getD i 0):=by
 by_cases h:∃ i:Nat,i<a.tb.uses.length∧a.tb.used.getD i false=true∧a.wh.getD i 0=p
 ·obtain ⟨i,h1,h2,h3⟩:=h
  have:=(ok.used i h1 h2).2.2
  rw [h3,Int.toNat_natCast] at this
  exact ⟨i,h1,h2,h3,this⟩
 ·exfalso
  have hc:=ok.usedCount
  have hinj:∀ i j:Nat,i<a.tb.uses.length→j<a.tb.uses.length→a.tb.used.getD i false=true→a.tb.used.getD j false=true→a.wh.getD i 0=a.wh.getD j 0→i=j:=fun i j hi hj ui uj e=>by
   have x:=(ok.used i hi ui).2.2
   have y:=(ok.used j hj uj).2.2
   rw [e,y] at x
   have:=congrArg Prod.fst x
   simp only at this
   omega
  have hle:=yab a.heap.length ((p:Int) :: ((List.range a.tb.uses.length).filter fun i=>a.tb.used.getD i false).map fun i=>a.wh.getD i 0)
   (List.nodup_cons.2 ⟨fun hm=>by
    obtain ⟨i,hi,e⟩:=List.mem_map.1 hm
    obtain ⟨hr,hu⟩:=List.mem_filter.1 hi
    exact h ⟨i,List.mem_range.1 hr,hu,e⟩,by
    rw [List.nodup_iff_pairwise_ne,List.pairwise_map]
    have:=(List.nodup_range (n:=a.tb.uses.length)).sublist (List.filter_sublist (p:=fun i=>a.tb.used.getD i false))
    rw [List.nodup_iff_pairwise_ne] at this
    refine List.Pairwise.imp_of_mem (fun {i j} hi hj hne e=>?_) this
    obtain ⟨hr,hu⟩:=List.mem_filter.1 hi
    obtain ⟨hr',hu'⟩:=List.mem_filter.1 hj
    exact hne (hinj i j (List.mem_range.1 hr) (List.mem_range.1 hr') hu hu' e)⟩)
   (fun x hx=>by
    rcases List.mem_cons.1 hx with rfl | hx
    ·omega
    ·obtain ⟨i,hi,rfl⟩:=List.mem_map.1 hx
     obtain ⟨hr,hu⟩:=List.mem_filter.1 hi
     have:=ok.used i (List.mem_range.1 hr) hu
     exact ⟨this.1,by omega⟩)
  rw [List.length_cons,List.length_map] at hle
  omega

theorem okA.pl {a:Ag} (ok:okA a):plA (a.heap,a.wh):=fun p hp'=>by
 obtain ⟨i,h1,h2,h3,h4⟩:=ok.at hp'
 have hw:=ok.wl
 show 0≤(hp a.heap p).h.1∧(hp a.heap p).h.1<a.wh.length∧a.wh.getD (hp a.heap p).h.1.toNat 0=p
 rw [h4]
 refine ⟨by simp,by simp; omega,by simpa using h3⟩
theorem okA.posH {a:Ag} (ok:okA a):Go.Eng.posH a.heap:=fun x hx=>(ok.each x hx).1.d1

theorem okA.slot {a:Ag} (ok:okA a) {x:Ev} (hx:x∈a.heap):0≤x.h.1∧x.h.1<a.tb.uses.length∧a.tb.used.getD x.h.1.toNat false=true∧a.tb.uses.getD x.h.1.toNat 0=x.h.2∧a.tb.live x.h.1 x.h.2=true:=by
 obtain ⟨p,hp'⟩:=List.mem_iff_getElem?.1 hx
 have hlt:=(List.getElem?_eq_some_iff.1 hp').1
 obtain ⟨i,h1,h2,h3,h4⟩:=ok.at hlt
 have e:hp a.heap p=x:=by unfold hp; rw [List.getD_eq_getElem?_getD,hp']; rfl
 rw [e] at h4
 rw [h4]
 simp only [Int.toNat_natCast]
 refine ⟨by omega,by omega,h2,trivial,y4m.2 ⟨by omega,by omega,by simpa using h2,by simp⟩⟩
theorem okA.slotOf {a:Ag} (ok:okA a) {i u:Int} (hl:a.tb.live i u=true):0≤a.wh.getD i.toNat 0∧a.wh.getD i.toNat 0<a.heap.length∧(hp a.heap (a.wh.getD i.toNat 0).toNat).h=(i,u):=by
 obtain ⟨h1,h2,h3,h4⟩:=y4m.1 hl
 have:=ok.used i.toNat (by omega) h3
 refine ⟨this.1,this.2.1,?_⟩
 rw [this.2.2,Int.toNat_of_nonneg h1,h4]

theorem okA.make {tb:Tb} {s:Hw} (tok:okT tb) (hwl:s.2.length=tb.uses.length) (hl:s.1.length+tb.free.length=tb.uses.length) (pl:plA s) (o:ycj s.1) (each:∀ x∈s.1,okR x.at_∧0≤x.no∧x.no≤1000000) (nos:(s.1.map (·.no)).Nodup)
  (slot:∀ x∈s.1,tb.uses.getD x.h.1.toNat 0=x.h.2) (all:∀ i:Nat,i<tb.uses.length→tb.used.getD i false=true→∃ x∈s.1,x.h.1=i) (free:∀ i:Nat,i<tb.uses.length→tb.used.getD i false=false→s.2.getD i 0 = -1):okA ⟨tb,s.1,s.2⟩:=by
 refine ⟨tok,hwl,hl,free,fun i hi hu=>?_,each,nos,o⟩
 obtain ⟨x,hx,e⟩:=all i hi hu
 obtain ⟨p,hp'⟩:=List.mem_iff_getElem?.1 hx
 have hlt:=(List.getElem?_eq_some_iff.1 hp').1
 have ep:hp s.1 p=x:=by unfold hp; rw [List.getD_eq_getElem?_getD,hp']; rfl
 obtain ⟨q1,q2,q3⟩:=pl p hlt
 rw [ep,e,Int.toNat_natCast] at q3
 show 0≤s.2.getD i 0∧s.2.getD i 0<s.1.length∧(hp s.1 (s.2.getD i 0).toNat).h=((i:Int),tb.uses.getD i 0)
 rw [q3,Int.toNat_natCast,ep]
 refine ⟨by omega,by omega,Prod.ext e ?_⟩
 have:=slot x hx
 rw [e,Int.toNat_natCast] at this
 exact this.symm

def zxz (a:Ag) (n:Int):Bool:=a.heap.any fun x=>x.no==n
def y8l (a:Ag):Int × Int:=(yy1 a.tb.free,a.tb.uses.getD (yy1 a.tb.free).toNat 0+1)
def yjo (a:Ag) (t:Int × Int) (n:Int):Hw:=(a.heap++[⟨t,n,y8l a⟩],a.wh.set (yy1 a.tb.free).toNat a.heap.length)
def yjq (a:Ag) (t:Int × Int) (n:Int):Ag:=⟨a.tb.taken,(upA a.heap.length (yjo a t n) a.heap.length).1.1,(upA a.heap.length (yjo a t n) a.heap.length).1.2⟩
def yjl (a:Ag) (t:Int × Int) (n:Int):Ag × (Int × Int) × Int :=
 if okA a∧okR t then (if n<0∨1000000<n then (.zero,(0,0),2) else if zxz a n=true then (.zero,(0,0),14) else if a.tb.canTake=true then (yjq a t n,y8l a,0) else (.zero,(0,0),18)) else (.zero,(0,0),8)
def yxt (a:Ag):Ev × Int:=if okA a then (if a.heap.length=0 then (e0,42) else (hp a.heap 0,0)) else (e0,8)
def atA (a:Ag) (h:Int × Int):Nat:=(a.wh.getD h.1.toNat 0).toNat
def ztq (a:Ag) (h:Int × Int):Ev × Int:=if okA a then (if a.tb.live h.1 h.2=true then (hp a.heap (atA a h),0) else (e0,6)) else (e0,8)
def yow (a:Ag) (h:Int × Int):Hw:=((a.heap.set (atA a h) (hp a.heap (a.heap.length-1))).take (a.heap.length-1),(a.wh.set (hp a.heap (a.heap.length-1)).h.1.toNat (atA a h)).set h.1.toNat (-1))
def yp5 (a:Ag) (h:Int × Int):Ag :=
 if atA a h=a.heap.length-1 then ⟨a.tb.given h.1,a.heap.take (a.heap.length-1),a.wh.set h.1.toNat (-1)⟩
 else ⟨a.tb.given h.1,(y73 (yow a h) (atA a h)).1,(y73 (yow a h) (atA a h)).2⟩
def yp0 (a:Ag) (h:Int × Int):Ag × Ev × Int:=if (ztq a h).2=0 then (yp5 a h,(ztq a h).1,0) else (.zero,e0,(ztq a h).2)
def reS (a:Ag) (h:Int × Int) (t:Int × Int):Hw:=(a.heap.set (atA a h) { hp a.heap (atA a h) with at_:=t },a.wh)
def yov (a:Ag) (h:Int × Int) (t:Int × Int):Ag:=⟨a.tb,(y73 (reS a h t) (atA a h)).1,(y73 (reS a h t) (atA a h)).2⟩
def yos (a:Ag) (h:Int × Int) (t:Int × Int):Ag × Int:=if okA a∧okR t then (if a.tb.live h.1 h.2=true then (yov a h t,0) else (.zero,6)) else (.zero,8)

theorem zyx {h:List Ev} {x:Ev} {i:Nat} (hi:i<h.length):hp (h++[x]) i=hp h i:=by
 unfold hp; rw [List.getD_eq_getElem?_getD,List.getD_eq_getElem?_getD,List.getElem?_append_left hi]
theorem zyz {h:List Ev} {x:Ev}:hp (h++[x]) h.length=x:=by
 unfold hp; rw [List.getD_eq_getElem?_getD,List.getElem?_append_right (Nat.le_refl _)]; simp

theorem yjp {a:Ag} {t:Int × Int} {n:Int} (ok:okA a) (ht:okR t) (hc:a.tb.canTake=true) :
  plA (yjo a t n)∧Go.Eng.posH (yjo a t n).1∧z23 (yjo a t n).1 a.heap.length∧(yjo a t n).1.length=a.heap.length+1:=by
 obtain ⟨hf,hu⟩:=za9.1 hc
 obtain ⟨tm,t0,t1⟩:=ok.tb.topR hf
 have td:=ok.tb.topD hf
 have hw:=ok.wl
 have ix:∀ p,p<a.heap.length→(hp a.heap p).h.1.toNat≠(yy1 a.tb.free).toNat:=fun p hp' e=>by
  have:=(ok.slot (zyy hp')).2.2.1
  rw [e,td] at this; cases this
 refine ⟨fun p hp'=>?_,fun x hx=>?_,⟨fun j j1 j2 j3=>?_,fun j j1 j2 j3 j4=>?_⟩,by simp [yjo]⟩
 ·have hpl:p<a.heap.length+1:=by simpa [yjo] using hp'
  show 0≤(hp (a.heap++[_]) p).h.1∧(hp (a.heap++[_]) p).h.1<(a.wh.set _ _).length∧(a.wh.set _ _).getD (hp (a.heap++[_]) p).h.1.toNat 0=p
  rw [List.length_set,zx6 (by omega)]
  rcases Nat.lt_or_ge p a.heap.length with h | h
  ·rw [zyx h]
   obtain ⟨p1,p2,p3⟩:=ok.pl p h
   refine ⟨p1,p2,?_⟩
   rw [if_neg (fun e=>ix p h e.symm)]; exact p3
  ·have:p=a.heap.length:=by omega
   subst this
   rw [zyz]
   exact ⟨t0,by show yy1 a.tb.free<_; omega,if_pos rfl⟩
 ·rcases List.mem_append.1 hx with hx | hx
  ·exact ok.posH x hx
  ·simp only [List.mem_singleton] at hx; subst hx; exact ht.d1
 ·have hj:j<a.heap.length:=by simp [yjo] at j2; omega
  have:=ydx (i:=j) j1
  show y40 (hp (a.heap++[_]) j) (hp (a.heap++[_]) (par j))=false
  rw [zyx hj,zyx (by omega)]
  exact ok.ord j j1 hj
 ·exfalso
  simp [yjo] at j2
  unfold par at j3; omega

theorem yjr {a:Ag} {t:Int × Int} {n:Int} (ok:okA a) (ht:okR t) (hc:a.tb.canTake=true):z0w (yjo a t n) (upA a.heap.length (yjo a t n) a.heap.length).1∧ycj (upA a.heap.length (yjo a t n) a.heap.length).1.1:=by
 obtain ⟨h1,h2,h3,h4⟩:=yjp (n:=n) ok ht hc
 exact ⟨(yyw _ _ _ h1 (by omega)).1,yz0 _ _ _ h1 h2 h3 (by omega) (Nat.le_refl _)⟩

theorem yjs {a:Ag} {t:Int × Int} {n:Int} (ok:okA a) (ht:okR t) (hc:a.tb.canTake=true):(yjq a t n).heap.Perm (⟨t,n,y8l a⟩ :: a.heap) :=
 (yjr ok ht hc).1.perm.trans (List.perm_append_singleton _ _)

theorem okA.pushed {a:Ag} {t:Int × Int} {n:Int} (ok:okA a) (ht:okR t) (h0:0≤n) (h1:n≤1000000) (hn:zxz a n=false) (hc:a.tb.canTake=true):okA (yjq a t n):=by
 obtain ⟨k,o⟩:=yjr (n:=n) ok ht hc
 have pm:=yjs (n:=n) ok ht hc
 obtain ⟨hf,hu⟩:=za9.1 hc
 obtain ⟨tm,t0,t1⟩:=ok.tb.topR hf
 have td:=ok.tb.topD hf
 have hw:=ok.wl
 have hl:=ok.hl
 have lu:a.tb.taken.uses.length=a.tb.uses.length:=by simp [Tb.taken]
 have lus:a.tb.used.length=a.tb.uses.length:=ok.tb.len
 have usd:∀ i:Nat,a.tb.taken.used.getD i false=if (yy1 a.tb.free).toNat=i then true else a.tb.used.getD i false:=fun i=>zx4 (by omega)
 have use:∀ i:Nat,a.tb.taken.uses.getD i 0=if (yy1 a.tb.free).toNat=i then a.tb.uses.getD (yy1 a.tb.free).toNat 0+1 else a.tb.uses.getD i 0:=fun i=>zx4 (by omega)
 have memb:∀ x,x∈(upA a.heap.length (yjo a t n) a.heap.length).1.1↔x=⟨t,n,y8l a⟩∨x∈a.heap:=fun x=>by rw [← List.mem_cons]; exact pm.mem_iff
 have hlen:(upA a.heap.length (yjo a t n) a.heap.length).1.1.length=a.heap.length+1:=by rw [k.len]; simp [yjo]
 refine okA.make (s:=(upA a.heap.length (yjo a t n) a.heap.length).1) (ok.tb.taken hc) ?_ ?_ k.pl o (fun x hx=>?_) ?_ (fun x hx=>?_) (fun i hi hu'=>?_) (fun i hi hu'=>?_)
 ·rw [k.wlen,lu]; simp [yjo]; exact hw
 ·rw [hlen,lu]
  have:a.tb.taken.free.length=a.tb.free.length-1:=by simp [Tb.taken]
  omega
 ·rcases (memb x).1 hx with rfl | hx
  ·exact ⟨ht,h0,h1⟩
  ·exact ok.each x hx
 ·have:(List.map (·.no) (upA a.heap.length (yjo a t n) a.heap.length).1.1).Perm (n :: a.heap.map (·.no)):=pm.map _
  rw [this.nodup_iff,List.nodup_cons]
  refine ⟨fun hm=>?_,ok.nos⟩
  obtain ⟨y,hy,e⟩:=List.mem_map.1 hm
  have:zxz a n=true:=List.any_eq_true.2 ⟨y,hy,by simpa using e⟩
  rw [hn] at this; cases this
 ·rcases (memb x).1 hx with rfl | hx
  ·rw [use]; simp [y8l]
  ·have s:=ok.slot hx
   rw [use,if_neg,s.2.2.2.1]
   intro e
   rw [← e,td] at s; exact absurd s.2.2.1 (by simp)
 ·rw [usd] at hu'
  by_cases e:(yy1 a.tb.free).toNat=i
  ·exact ⟨_,(memb _).2 (.inl rfl),by show yy1 a.tb.free=i; omega⟩
  ·rw [if_neg e] at hu'
   have hi':i<a.tb.uses.length:=by rw [lu] at hi; exact hi
   have:=ok.used i hi' hu'
   exact ⟨_,(memb _).2 (.inr (zyy (by omega:(a.wh.getD i 0).toNat<a.heap.length))),by rw [this.2.2]⟩
 ·rw [usd] at hu'
  have hi':i<a.tb.uses.length:=by rw [lu] at hi; exact hi
  by_cases e:(yy1 a.tb.free).toNat=i
  ·rw [if_pos e] at hu'; cases hu'
  ·rw [if_neg e] at hu'
   rw [k.same i (fun x hx he=>?_)]
   ·show (a.wh.set _ _).getD i 0 = -1
    rw [zx6 (by omega),if_neg e]; exact ok.free i hi' hu'
   ·rcases List.mem_append.1 hx with hx | hx
    ·have s:=ok.slot hx
     rw [he,hu'] at s; exact absurd s.2.2.1 (by simp)
    ·simp only [List.mem_singleton] at hx; subst hx; exact e he

theorem ztw {a:Ag} {h:Int × Int} (ok:okA a) (hl:a.tb.live h.1 h.2=true):hp a.heap (atA a h)∈a.heap∧(hp a.heap (atA a h)).h=h∧atA a h<a.heap.length:=by
 obtain ⟨h1,h2,h3⟩:=ok.slotOf hl
 have:atA a h<a.heap.length:=by unfold atA; omega
 exact ⟨zyy this,h3,this⟩
theorem ztv {a:Ag} {x:Ev} (ok:okA a) (hx:x∈a.heap):ztq a x.h=(x,0)∧hp a.heap (atA a x.h)=x:=by
 have hl:=(ok.slot hx).2.2.2.2
 obtain ⟨m1,m2,m3⟩:=ztw ok hl
 have e:hp a.heap (atA a x.h)=x:=by
  obtain ⟨p,hp'⟩:=List.mem_iff_getElem?.1 hx
  have hlt:=(List.getElem?_eq_some_iff.1 hp').1
  have ep:hp a.heap p=x:=by unfold hp; rw [List.getD_eq_getElem?_getD,hp']; rfl
  have:=ok.pl.inj m3 hlt (by show (hp a.heap _).h.1=(hp a.heap p).h.1; rw [m2,ep])
  rw [this,ep]
 refine ⟨?_,e⟩
 unfold ztq
 rw [if_pos ok,if_pos hl,e]

theorem ywy {h:List Ev} (hl:0<h.length):h=h.take (h.length-1)++[hp h (h.length-1)]:=by
 have hg:=zyw (h:=h) (i:=h.length-1) (by omega)
 have:=yx0 hg
 rw [show h.length-1+1=h.length by omega,List.take_length] at this
 exact this

theorem yrh {h:List Ev} {i:Nat} {y:Ev} (hi:i<h.length):(hp h i :: h.set i y).Perm (y :: h):=by
 have hg:=zyw hi
 have e:h=h.take i++hp h i :: h.drop (i+1):=by
  have hd:h.drop i=hp h i :: h.drop (i+1):=by
   rw [List.drop_eq_getElem_cons hi]; congr 1; exact (List.getElem?_eq_some_iff.1 hg).2
  rw [← hd,List.take_append_drop]
 rw [List.set_eq_take_append_cons_drop,if_pos hi]
 have p1:(hp h i :: (h.take i++y :: h.drop (i+1))).Perm (hp h i :: y :: (h.take i++h.drop (i+1))):=List.Perm.cons _ List.perm_middle
 have p3:h.Perm (hp h i :: (h.take i++h.drop (i+1))):=by
  conv=>lhs; rw [e]
  exact List.perm_middle
 have p2:(y :: h).Perm (y :: hp h i :: (h.take i++h.drop (i+1))):=List.Perm.cons _ p3
 exact p1.trans ((List.Perm.swap _ _ _).trans p2.symm)

theorem yp8 {a:Ag} {h:Int × Int} (ok:okA a) (hl:a.tb.live h.1 h.2=true) (hne:atA a h≠a.heap.length-1):((yow a h).1).length=a.heap.length-1∧(hp a.heap (atA a h) :: (yow a h).1).Perm a.heap:=by
 obtain ⟨m1,m2,m3⟩:=ztw ok hl
 have hlen:(yow a h).1.length=a.heap.length-1:=by simp [yow]
 refine ⟨hlen,?_⟩
 have hpos:0<a.heap.length:=by omega
 have h1:=yrh (y:=hp a.heap (a.heap.length-1)) m3
 have hs:(a.heap.set (atA a h) (hp a.heap (a.heap.length-1)))=(yow a h).1++[hp a.heap (a.heap.length-1)]:=by
  have:=ywy (h:=a.heap.set (atA a h) (hp a.heap (a.heap.length-1))) (by simpa using hpos)
  rw [List.length_set] at this
  conv=>lhs; rw [this]
  rw [zz0 m3,if_neg hne]; rfl
 rw [hs] at h1
 have h2:(hp a.heap (a.heap.length-1) :: (hp a.heap (atA a h) :: (yow a h).1)).Perm (hp a.heap (a.heap.length-1) :: a.heap):=by
  refine List.Perm.trans ?_ h1
  refine (List.Perm.swap _ _ _).trans (List.Perm.cons _ ?_)
  exact (List.perm_append_singleton _ _).symm
 exact List.Perm.cons_inv h2

theorem yoz {a:Ag} {h:Int × Int} (ok:okA a) (hl:a.tb.live h.1 h.2=true) (hne:atA a h≠a.heap.length-1) :
  plA (yow a h)∧Go.Eng.posH (yow a h).1∧z12 (yow a h).1 (atA a h)∧atA a h<(yow a h).1.length:=by
 obtain ⟨m1,m2,m3⟩:=ztw ok hl
 obtain ⟨hlen,pm⟩:=yp8 ok hl hne
 have hat:atA a h<a.heap.length-1:=by omega
 have hg:∀ p,p<a.heap.length-1→hp (yow a h).1 p=if atA a h=p then hp a.heap (a.heap.length-1) else hp a.heap p:=fun p hp'=>by
  show hp ((a.heap.set _ _).take _) p=_
  unfold hp
  rw [List.getD_eq_getElem?_getD,List.getElem?_take,if_pos hp',← List.getD_eq_getElem?_getD]
  exact zz0 m3
 obtain ⟨y1,y2,y3⟩:=ok.pl (a.heap.length-1) (by show a.heap.length-1<a.heap.length; omega)
 have y1:0≤(hp a.heap (a.heap.length-1)).h.1:=y1
 have y2:(hp a.heap (a.heap.length-1)).h.1<a.wh.length:=y2
 have hh:h.1.toNat<a.wh.length∧0≤h.1:=by
  have:=y4m.1 hl; have:=ok.wl; omega
 have gs:∀ j:Nat,(yow a h).2.getD j 0=if h.1.toNat=j then (-1:Int) else if (hp a.heap (a.heap.length-1)).h.1.toNat=j then (atA a h:Int) else a.wh.getD j 0:=fun j=>by
  show ((a.wh.set _ _).set _ _).getD j 0=_
  rw [zx6 (by simp; omega),zx6 (by omega)]
 refine ⟨fun p hp'=>?_,fun x hx=>ok.posH x (pm.mem_iff.1 (List.mem_cons_of_mem _ hx)),⟨fun j j1 j2 j3 j4=>?_,fun j j1 j2 j3 j4=>?_⟩,by rw [hlen]; exact hat⟩
 ·rw [hlen] at hp'
  rw [hg p hp',gs]
  have wlen:(yow a h).2.length=a.wh.length:=by simp [yow]
  rw [wlen]
  by_cases e:atA a h=p
  ·rw [if_pos e]
   refine ⟨y1,y2,?_⟩
   rw [if_neg,if_pos rfl,e]
   intro e2
   have:=ok.pl.inj (p:=atA a h) (q:=a.heap.length-1) m3 (by show a.heap.length-1<a.heap.length; omega) (by show (hp a.heap _).h.1=(hp a.heap _).h.1; rw [m2]; omega)
   omega
  ·rw [if_neg e]
   obtain ⟨p1,p2,p3⟩:=ok.pl p (by show p<a.heap.length; omega)
   have p1:0≤(hp a.heap p).h.1:=p1
   refine ⟨p1,p2,?_⟩
   rw [if_neg,if_neg]
   ·exact p3
   ·intro e2
    have:=ok.pl.inj (p:=p) (q:=a.heap.length-1) (by show p<a.heap.length; omega) (by show a.heap.length-1<a.heap.length; omega) (by show (hp a.heap _).h.1=(hp a.heap _).h.1; omega)
    omega
   ·intro e2
    have:=ok.pl.inj (p:=p) (q:=atA a h) (by show p<a.heap.length; omega) m3 (by show (hp a.heap _).h.1=(hp a.heap _).h.1; rw [m2]; omega)
    omega
 ·rw [hlen] at j2
  have jp:=ydx (i:=j) j1
  rw [hg j j2,hg (par j) (by omega),if_neg (fun e=>j3 e.symm),if_neg (fun e=>j4 e.symm)]
  exact ok.ord j j1 (by omega)
 ·rw [hlen] at j2
  have jp:=ydx (i:=j) j1
  have ip:=ydx (i:=atA a h) j4
  rw [hg j j2,hg (par (atA a h)) (by omega),if_neg (by omega),if_neg (by omega)]
  have h1:=ok.ord j j1 (by omega)
  have h2:=ok.ord (atA a h) j4 (by omega)
  rw [j3] at h1
  exact y2l (ok.posH.at (by omega)) (ok.posH.at (by omega)) (ok.posH.at (by omega)) h2 h1
end Go.Eng
end
section
/- Agendas: removing,rekeying,the order. Conditions: none. -/
namespace Go.Eng

theorem z0w.neg {s t:Hw} (k:z0w s t) (pl:plA s) {j:Nat} (h:s.2.getD j 0 = -1):t.2.getD j 0 = -1:=by
 rw [k.same j fun x hx e=>?_,h]
 obtain ⟨p,hp'⟩:=List.mem_iff_getElem?.1 hx
 have hlt:=(List.getElem?_eq_some_iff.1 hp').1
 have ep:hp s.1 p=x:=by unfold hp; rw [List.getD_eq_getElem?_getD,hp']; rfl
 have:=(pl p hlt).2.2
 rw [ep,e,h] at this
 omega

theorem zz2 {h:List Ev} {n p:Nat} (hp':p<n):hp (h.take n) p=hp h p:=by
 unfold hp; rw [List.getD_eq_getElem?_getD,List.getElem?_take,if_pos hp',← List.getD_eq_getElem?_getD]

structure z1p (a b:Ag) (x:Ev):Prop where
 ok:okA b
 perm:(x :: b.heap).Perm a.heap
 tb:b.tb=a.tb.given x.h.1

theorem okA.removed {a:Ag} {h:Int × Int} (ok:okA a) (hl:a.tb.live h.1 h.2=true):z1p a (yp5 a h) (hp a.heap (atA a h)):=by
 obtain ⟨m1,m2,m3⟩:=ztw ok hl
 obtain ⟨v1,v2,v3,v4⟩:=y4m.1 hl
 have hw:=ok.wl
 have hlen:=ok.hl
 have lus:a.tb.used.length=a.tb.uses.length:=ok.tb.len
 have usd:∀ i:Nat,(a.tb.given h.1).used.getD i false=if h.1.toNat=i then false else a.tb.used.getD i false:=fun i=>zx4 (by omega)
 -- from a state whose parts are known
 have fin:∀ (s:Hw),s.2.length=a.wh.length→(hp a.heap (atA a h) :: s.1).Perm a.heap→plA s→ycj s.1→(∀ i:Nat,i<a.tb.uses.length→(h.1.toNat=i∨a.tb.used.getD i false=false)→s.2.getD i 0 = -1)→z1p a ⟨a.tb.given h.1,s.1,s.2⟩ (hp a.heap (atA a h)):=fun s hs1 pm pl o hneg=>by
  have hls:s.1.length+1=a.heap.length:=by have:=pm.length_eq; simpa using this
  have sub:∀ x∈s.1,x∈a.heap:=fun x hx=>pm.mem_iff.1 (List.mem_cons_of_mem _ hx)
  refine ⟨okA.make (ok.tb.given hl) (by rw [hs1,hw]; rfl) ?_ pl o (fun x hx=>ok.each x (sub x hx)) ?_ (fun x hx=>(ok.slot (sub x hx)).2.2.2.1) (fun i hi hu=>?_) (fun i hi hu=>?_),pm,by rw [m2]⟩
  ·show s.1.length+(a.tb.free++[h.1]).length=a.tb.uses.length
   simp; omega
  ·have:((hp a.heap (atA a h) :: s.1).map (·.no)).Nodup:=(pm.map _).nodup_iff.2 ok.nos
   rw [List.map_cons,List.nodup_cons] at this
   exact this.2
  ·have hi':i<a.tb.uses.length:=hi
   rw [usd] at hu
   by_cases e:h.1.toNat=i
   ·rw [if_pos e] at hu; cases hu
   ·rw [if_neg e] at hu
    have:=ok.used i hi' hu
    have hm:=zyy (by omega:(a.wh.getD i 0).toNat<a.heap.length)
    have hm2:=pm.mem_iff.2 hm
    rcases List.mem_cons.1 hm2 with he | hm2
    ·rw [he,m2] at this
     have:=congrArg Prod.fst this.2.2
     simp only at this
     omega
    ·exact ⟨_,hm2,by rw [this.2.2]⟩
  ·rw [usd] at hu
   refine hneg i hi ?_
   by_cases e:h.1.toNat=i
   ·exact .inl e
   ·rw [if_neg e] at hu; exact .inr hu
 have hpos:0<a.heap.length:=by omega
 unfold yp5
 split
 ·rename_i he
  refine fin (a.heap.take (a.heap.length-1),a.wh.set h.1.toNat (-1)) (by simp) ?_ (fun p hp'=>?_) (fun j j1 j2=>?_) (fun i hi hor=>?_)
  ·rw [he]
   conv=>rhs; rw [ywy hpos]
   exact (List.perm_append_singleton _ _).symm
  ·have hp1:p<a.heap.length-1:=by
    have:p<(a.heap.take (a.heap.length-1)).length:=hp'
    simp at this; omega
   show 0≤(hp (a.heap.take _) p).h.1∧(hp (a.heap.take _) p).h.1<(a.wh.set _ _).length∧(a.wh.set _ _).getD (hp (a.heap.take _) p).h.1.toNat 0=p
   rw [zz2 hp1,List.length_set,zx6 (by omega)]
   obtain ⟨p1,p2,p3⟩:=ok.pl p (by show p<a.heap.length; omega)
   have p1:0≤(hp a.heap p).h.1:=p1
   refine ⟨p1,p2,?_⟩
   rw [if_neg]
   ·exact p3
   ·intro e
    have:=ok.pl.inj (p:=p) (q:=atA a h) (by show p<a.heap.length; omega) m3 (by show (hp a.heap _).h.1=(hp a.heap _).h.1; rw [m2]; omega)
    omega
  ·have hj:j<a.heap.length-1:=by
    have:j<(a.heap.take (a.heap.length-1)).length:=j2
    simp at this; omega
   have:=ydx (i:=j) j1
   show y40 (hp (a.heap.take _) j) (hp (a.heap.take _) (par j))=false
   rw [zz2 hj,zz2 (by omega)]
   exact ok.ord j j1 (by omega)
  ·show (a.wh.set _ _).getD i 0 = -1
   rw [zx6 (by omega)]
   by_cases e:h.1.toNat=i
   ·rw [if_pos e]
   ·rw [if_neg e]; exact ok.free i hi (hor.resolve_left e)
 ·rename_i he
  obtain ⟨r1,r2,r3,r4⟩:=yoz ok hl he
  obtain ⟨rl,rp⟩:=yp8 ok hl he
  have k:=y74 r1 r4
  have o:=y75 r1 r2 r3 r4
  refine fin (y73 (yow a h) (atA a h)) ?_ ((List.Perm.cons _ k.perm).trans rp) k.pl o (fun i hi hor=>k.neg r1 ?_)
  ·rw [k.wlen]; simp [yow]
  ·have hy:=ok.slot (zyy (by omega:a.heap.length-1<a.heap.length))
   show ((a.wh.set _ _).set _ _).getD i 0 = -1
   rw [zx6 (by simp; omega),zx6 (by omega)]
   by_cases e:h.1.toNat=i
   ·rw [if_pos e]
   ·rw [if_neg e,if_neg]
    ·exact ok.free i hi (hor.resolve_left e)
    ·intro e2
     have:=hor.resolve_left e
     rw [← e2,hy.2.2.1] at this; cases this

theorem you {a:Ag} {h t:Int × Int} (ok:okA a) (hl:a.tb.live h.1 h.2=true) (ht:okR t):plA (reS a h t)∧Go.Eng.posH (reS a h t).1∧z12 (reS a h t).1 (atA a h)∧atA a h<(reS a h t).1.length:=by
 obtain ⟨m1,m2,m3⟩:=ztw ok hl
 have hg:∀ p,hp (reS a h t).1 p=if atA a h=p then { hp a.heap (atA a h) with at_:=t } else hp a.heap p:=fun p=>zz0 m3
 have hlen:(reS a h t).1.length=a.heap.length:=by simp [reS]
 refine ⟨fun p hp'=>?_,fun x hx=>?_,⟨fun j j1 j2 j3 j4=>?_,fun j j1 j2 j3 j4=>?_⟩,by rw [hlen]; exact m3⟩
 ·rw [hlen] at hp'
  have:=ok.pl p hp'
  rw [hg]
  by_cases e:atA a h=p
  ·subst e; rw [if_pos rfl]; exact this
  ·rw [if_neg e]; exact this
 ·rcases List.mem_or_eq_of_mem_set hx with hx | rfl
  ·exact ok.posH x hx
  ·exact ht.d1
 ·rw [hlen] at j2
  rw [hg j,hg (par j),if_neg (fun e=>j3 e.symm),if_neg (fun e=>j4 e.symm)]
  exact ok.ord j j1 j2
 ·rw [hlen] at j2
  have jp:=ydx (i:=j) j1
  have ip:=ydx (i:=atA a h) j4
  rw [hg j,hg (par (atA a h)),if_neg (by omega),if_neg (by omega)]
  have h1:=ok.ord j j1 j2
  have h2:=ok.ord (atA a h) j4 m3
  rw [j3] at h1
  exact y2l (ok.posH.at (by omega)) (ok.posH.at (by omega)) (ok.posH.at (by omega)) h2 h1

structure z1o (a b:Ag) (x:Ev) (t:Int × Int):Prop where
 ok:okA b
 perm:(x :: b.heap).Perm ({ x with at_:=t } :: a.heap)
 tb:b.tb=a.tb

theorem okA.rekeyed {a:Ag} {h t:Int × Int} (ok:okA a) (hl:a.tb.live h.1 h.2=true) (ht:okR t):z1o a (yov a h t) (hp a.heap (atA a h)) t:=by
 obtain ⟨m1,m2,m3⟩:=ztw ok hl
 obtain ⟨r1,r2,r3,r4⟩:=you ok hl ht
 have k:=y74 r1 r4
 have o:=y75 r1 r2 r3 r4
 have pm:(hp a.heap (atA a h) :: (y73 (reS a h t) (atA a h)).1).Perm ({ hp a.heap (atA a h) with at_:=t } :: a.heap):=(List.Perm.cons _ k.perm).trans (yrh m3)
 have mem0:∀ x∈(y73 (reS a h t) (atA a h)).1,x={ hp a.heap (atA a h) with at_:=t }∨x∈a.heap:=fun x hx=>by
  have:=pm.mem_iff.1 (List.mem_cons_of_mem _ hx)
  exact List.mem_cons.1 this
 have hlen:(y73 (reS a h t) (atA a h)).1.length=a.heap.length:=by rw [k.len]; simp [reS]
 -- the handles and the numbers are those that were
 have hmap:∀ {β:Type} (g:Ev→β),g { hp a.heap (atA a h) with at_:=t }=g (hp a.heap (atA a h))→((y73 (reS a h t) (atA a h)).1.map g).Perm (a.heap.map g):=fun g hg=>by
  have:=pm.map g
  rw [List.map_cons,List.map_cons,hg] at this
  exact List.Perm.cons_inv this
 refine ⟨okA.make ok.tb ?_ (by rw [hlen]; exact ok.hl) k.pl o (fun x hx=>?_) ((hmap (·.no) rfl).nodup_iff.2 ok.nos) (fun x hx=>?_) (fun i hi hu=>?_) (fun i hi hu=>k.neg r1 (ok.free i hi hu)),pm,rfl⟩
 ·rw [k.wlen]; simp [reS]; exact ok.wl
 ·rcases mem0 x hx with rfl | hx
  ·exact ⟨ht,(ok.each _ m1).2⟩
  ·exact ok.each x hx
 ·rcases mem0 x hx with rfl | hx
  ·exact (ok.slot m1).2.2.2.1
  ·exact (ok.slot hx).2.2.2.1
 ·have:=ok.used i hi hu
  have hm:=zyy (by omega:(a.wh.getD i 0).toNat<a.heap.length)
  have:(i:Int)∈a.heap.map (·.h.1):=List.mem_map.2 ⟨_,hm,by rw [this.2.2]⟩
  have:=(hmap (·.h.1) rfl).mem_iff.2 this
  obtain ⟨x,hx,e⟩:=List.mem_map.1 this
  exact ⟨x,hx,e⟩

end Go.Eng
end
