/- The engine, parts QA, SB, CP, CD, put together. Conditions: none. -/
import Derived.Test.YtlbdpklikfddlaaGreatPD1
import Derived.Test.YtlbdpklikfddlaaGreatPK1
import Derived.Test.YtlbdpklikfddlaaGreatPA1
set_option linter.unusedVariables false
section
/- Adding two fractions. Conditions: none. -/
set_option maxRecDepth 100000
open Go Go.Eng Go.Proofs
namespace Go.Proofs.YtlbdpklikfddlaaGreat

def gD (a b:Int × Int):Int:=(Nat.gcd a.2.toNat b.2.toNat:Nat)
def addV (a b:Int × Int):Int:=a.1 * (b.2 / gD a b)+b.1 * (a.2 / gD a b)
def addH (a b:Int × Int):Int:=(Nat.gcd (gD a b).toNat (absI (addV a b) % gD a b).toNat:Nat)
def addM (a b:Int × Int):(Int × Int) × Int:=if okR a∧okR b then buildM (decide (addV a b<0)) (absI (addV a b) / addH a b) (a.2 / gD a b * (b.2 / addH a b)) else ((0,0),8)


def subM (a b:Int × Int):(Int × Int) × Int:=addM a (-b.1,b.2)
/-! ### Places and gaps -/

/-! ### Sorting by insertion -/
def insG {α:Type} (lt:α→α→Bool) (x:α):List α→List α
 | []=>[x]
 | y :: ys=>if lt x y=true then x :: y :: ys else y :: insG lt x ys
def sortG {α:Type} (lt:α→α→Bool) (l:List α):List α:=l.foldr (insG lt) []
def Srt {α:Type} (lt:α→α→Bool) (l:List α):Prop:=l.Pairwise fun a b=>lt b a=false
theorem insG_perm {α:Type} (lt:α→α→Bool) (x:α):∀ l:List α,(insG lt x l).Perm (x :: l)
 | []=>List.Perm.refl _
 | y :: ys=>by
  unfold insG; split
  ·exact List.Perm.refl _
  ·exact (List.Perm.cons y (insG_perm lt x ys)).trans (List.Perm.swap x y ys)
theorem sortG_perm {α:Type} (lt:α→α→Bool):∀ l:List α,(sortG lt l).Perm l
 | []=>List.Perm.refl _
 | x :: xs=>(insG_perm lt x _).trans (List.Perm.cons x (sortG_perm lt xs))
theorem insG_srt {α:Type} {lt:α→α→Bool} {S:α→Prop} (tr:∀ a b c,S a→S b→S c→lt b a=false→lt c b=false→lt c a=false) (asy:∀ a b,S a→S b→lt a b=true→lt b a=false) (x:α):∀ l:List α,S x→(∀ y∈l,S y)→Srt lt l→Srt lt (insG lt x l)
 | [],_,_,_=>List.pairwise_singleton _ _
 | y :: ys,hx,hl,hs=>by
  obtain ⟨h1,h2⟩:=List.pairwise_cons.1 hs
  have sy:=hl y List.mem_cons_self
  unfold insG; split
  ·rename_i hlt
   refine List.pairwise_cons.2 ⟨fun z hz=>?_,hs⟩
   rcases List.mem_cons.1 hz with rfl | hz
   ·exact asy _ _ hx sy hlt
   ·exact tr x y z hx sy (hl z (List.mem_cons_of_mem _ hz)) (asy _ _ hx sy hlt) (h1 z hz)
  ·rename_i hlt
   refine List.pairwise_cons.2 ⟨fun z hz=>?_,insG_srt tr asy x ys hx (fun z hz=>hl z (List.mem_cons_of_mem _ hz)) h2⟩
   rcases List.mem_cons.1 ((insG_perm lt x ys).mem_iff.1 hz) with rfl | hz
   ·simpa using hlt
   ·exact h1 z hz
theorem sortG_srt {α:Type} {lt:α→α→Bool} {S:α→Prop} (tr:∀ a b c,S a→S b→S c→lt b a=false→lt c b=false→lt c a=false) (asy:∀ a b,S a→S b→lt a b=true→lt b a=false):∀ l:List α,(∀ y∈l,S y)→Srt lt (sortG lt l)
 | [],_=>List.Pairwise.nil
 | x :: xs,h=>insG_srt tr asy x _ (h x List.mem_cons_self) (fun y hy=>h y (List.mem_cons_of_mem _ ((sortG_perm lt xs).mem_iff.1 hy))) (sortG_srt tr asy xs fun y hy=>h y (List.mem_cons_of_mem _ hy))
theorem srt_unique {α:Type} {lt:α→α→Bool} {S:α→Prop} (an:∀ a b,S a→S b→lt a b=false→lt b a=false→a=b):∀ (xs ys:List α),xs.Perm ys→(∀ x∈xs,S x)→Srt lt xs→Srt lt ys→xs=ys
 | [],ys,hp,_,_,_=>(List.Perm.eq_nil hp.symm).symm
 | x :: xs,[],hp,_,_,_=>by have:=hp.length_eq; simp at this
 | x :: xs,y :: ys,hp,hS,h1,h2=>by
  obtain ⟨a1,a2⟩:=List.pairwise_cons.1 h1
  obtain ⟨b1,b2⟩:=List.pairwise_cons.1 h2
  have e:x=y:=by
   have hx:=hp.mem_iff.1 (List.mem_cons_self (a:=x) (l:=xs))
   have hy:=hp.mem_iff.2 (List.mem_cons_self (a:=y) (l:=ys))
   rcases List.mem_cons.1 hx with rfl | hx
   ·rfl
   ·rcases List.mem_cons.1 hy with rfl | hy'
    ·rfl
    ·exact an _ _ (hS _ List.mem_cons_self) (hS _ hy) (b1 _ hx) (a1 _ hy')
  subst e
  rw [srt_unique an xs ys (List.Perm.cons_inv hp) (fun z hz=>hS z (List.mem_cons_of_mem _ hz)) a2 b2]
theorem Srt.filter {α:Type} {lt:α→α→Bool} {l:List α} (h:Srt lt l) (p:α→Bool):Srt lt (l.filter p):=List.Pairwise.sublist List.filter_sublist h

/-! ### Pairs -/
abbrev Pr:=Int × Int × (Int × Int)
def clP (a b:Pr):Bool:=if cmpR a.2.2 b.2.2≠0 then decide (cmpR a.2.2 b.2.2<0) else if a.1≠b.1 then decide (a.1<b.1) else decide (a.2.1<b.2.1)
def okPr (a:Pr):Prop:=okR a.2.2
theorem clP_iff {a b:Pr}:clP a b=true↔¬ leR b.2.2 a.2.2∨(leR a.2.2 b.2.2∧leR b.2.2 a.2.2)∧(a.1<b.1∨a.1=b.1∧a.2.1<b.2.1):=by
 unfold clP
 have l:=cmpR_lt (a:=a.2.2) (b:=b.2.2)
 have e:=cmpR_eq (a:=a.2.2) (b:=b.2.2)
 split
 ·rename_i h1
  rw [decide_eq_true_iff,l]
  constructor
  ·exact .inl
  ·rintro (h | ⟨h,h9⟩)
   ·exact h
   ·exact absurd (e.2 h) h1
 ·rename_i h0
  have h0:cmpR a.2.2 b.2.2=0:=by omega
  have he:=e.1 h0
  split
  ·rw [decide_eq_true_iff]
   constructor
   ·intro h; exact .inr ⟨he,.inl h⟩
   ·rintro (h | ⟨_,h⟩)
    ·exact absurd he.2 h
    ·omega
  ·rw [decide_eq_true_iff]
   constructor
   ·intro h; exact .inr ⟨he,by omega⟩
   ·rintro (h | ⟨_,h⟩)
    ·exact absurd he.2 h
    ·omega
theorem clP_no {a b:Pr}:clP a b=false↔leR b.2.2 a.2.2∧(leR a.2.2 b.2.2→b.1<a.1∨b.1=a.1∧b.2.1≤a.2.1):=by
 rw [Bool.eq_false_iff,ne_eq,clP_iff]
 constructor
 ·intro h
  have h1:leR b.2.2 a.2.2:=Decidable.by_contra fun x=>h (.inl x)
  exact ⟨h1,fun h2=>by
   have:¬ (a.1<b.1∨a.1=b.1∧a.2.1<b.2.1):=fun x=>h (.inr ⟨⟨h2,h1⟩,x⟩)
   omega⟩
 ·rintro ⟨h1,h2⟩ (h | ⟨⟨h,_⟩,h3⟩)
  ·exact h h1
  ·have:=h2 h; omega
theorem clP_irrefl (a:Pr):clP a a=false:=clP_no.2 ⟨leR_refl _,fun _=>.inr ⟨rfl,Int.le_refl _⟩⟩
theorem clP_tr (a b c:Pr) (ha:okPr a) (hb:okPr b) (hc:okPr c) (h1:clP b a=false) (h2:clP c b=false):clP c a=false:=by
 rw [clP_no] at *
 refine ⟨leR_trans ha hb hc h1.1 h2.1,fun h=>?_⟩
 have x1:=h1.2 (leR_trans hb hc ha h2.1 h)
 have x2:=h2.2 (leR_trans hc ha hb h h1.1)
 omega
theorem clP_asymm (a b:Pr) (_:okPr a) (_:okPr b) (h:clP a b=true):clP b a=false:=by
 rw [clP_iff] at h
 rw [clP_no]
 rcases h with h | ⟨h,h1⟩
 ·exact ⟨(leR_total _ _).resolve_right h,fun x=>absurd x h⟩
 ·exact ⟨h.1,fun _=>by omega⟩
theorem clP_anti (a b:Pr) (ha:okPr a) (hb:okPr b) (h1:clP a b=false) (h2:clP b a=false):a=b:=by
 rw [clP_no] at h1 h2
 have e:=okR_eq ha hb h2.1 h1.1
 have x:=h1.2 h2.1; have y:=h2.2 h1.1
 obtain ⟨a1,a2,a3⟩:=a; obtain ⟨b1,b2,b3⟩:=b
 simp only at *
 subst e
 rw [show a1=b1 by omega,show a2=b2 by omega]
theorem clP_less {a b:Pr} (ha:okPr a) (hb:okPr b) (h:a≠b) (h1:clP b a=false):clP a b=true:=by
 cases h2:clP a b with
 | true=>rfl
 | false=>exact absurd (clP_anti a b ha hb h2 h1) h
def sortP (l:List Pr):List Pr:=sortG clP l
theorem sortP_perm (l:List Pr):(sortP l).Perm l:=sortG_perm _ _
theorem sortP_srt {l:List Pr} (h:∀ y∈l,okPr y):Srt clP (sortP l):=sortG_srt (S:=okPr) clP_tr clP_asymm l h
theorem sortP_of {l s:List Pr} (h:∀ y∈l,okPr y) (hp:s.Perm l) (hs:Srt clP s):s=sortP l :=
 srt_unique (S:=okPr) clP_anti s (sortP l) (hp.trans (sortP_perm l).symm) (fun x hx=>h x (hp.mem_iff.1 hx)) hs (sortP_srt h)
/-! ### All pairs of indices -/

def sP (f:List Pt) (t:Int × Int) (k:Nat):Pt:=(sortM f t).getD k (0,0,0)
theorem sP_get {f:List Pt} {t:Int × Int} {k:Nat} (hk:k<f.length):(sortM f t)[k]?=some (sP f t k):=by
 have h:k<(sortM f t).length:=by rw [sortM_len]; exact hk
 unfold sP
 rw [List.getD_eq_getElem?_getD,List.getElem?_eq_getElem h]; rfl
theorem okLs.sP {l:Ls} (ok:okLs l) {k:Nat} (hk:k<l.ord.length):ptL l k=Go.Proofs.YtlbdpklikfddlaaGreat.sP l.ck.f l.ck.now k:=by
 have:=ok.sorted hk
 rw [sP_get (by rw [← ok.len]; exact hk)] at this
 exact (Option.some.inj this).symm

/-! ### Distances -/
def spot (f:List Pt) (t:Int × Int) (k:Nat):(Int × Int) × Int:=placeM (sP f t k) t
def toldF (f:List Pt) (t:Int × Int) (n:Nat):Prop:=∀ k,k<n→(spot f t k).2=0
instance (f:List Pt) (t:Int × Int) (n:Nat):Decidable (toldF f t n):=inferInstanceAs (Decidable (∀ k,k<n→_))
def gapD (f:List Pt) (t:Int × Int) (i k:Nat):(Int × Int) × Int:=subM (spot f t i).1 (spot f t k).1
/-! ### What is told -/
def nearT (f:List Pt) (t:Int × Int):Prop:=∀ i,i<f.length-1→(gapD f t i (i+1)).2=0
instance (f:List Pt) (t:Int × Int):Decidable (nearT f t):=inferInstanceAs (Decidable (∀ i,i<_→_))
def zPr:Pr:=(0,0,(0,0))
def allT (f:List Pt) (t:Int × Int):Prop:=∀ k,k<f.length→∀ i,i<k→(gapD f t i k).2=0
instance (f:List Pt) (t:Int × Int):Decidable (allT f t):=inferInstanceAs (Decidable (∀ k,k<_→∀ i,i<k→_))
end Go.Proofs.YtlbdpklikfddlaaGreat
end
