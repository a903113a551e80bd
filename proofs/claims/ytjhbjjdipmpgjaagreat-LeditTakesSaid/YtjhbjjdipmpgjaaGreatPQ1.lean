/- The engine, parts QA, SB, CP, CD, put together. Conditions: none. -/
import Derived.Test.YtjhbjjdipmpgjaaGreatPD1
import Derived.Test.YtjhbjjdipmpgjaaGreatPK1
import Derived.Test.YtjhbjjdipmpgjaaGreatPA1
set_option linter.unusedVariables false
section
/- Adding two fractions. Conditions: none. -/
set_option maxRecDepth 100000
open Go Go.Eng Go.Proofs
namespace Go.Proofs.YtjhbjjdipmpgjaaGreat

def gD (a b:Int × Int):Int:=(Nat.gcd a.2.toNat b.2.toNat:Nat)
def z3j (a b:Int × Int):Int:=a.1 * (b.2 / gD a b)+b.1 * (a.2 / gD a b)
def z35 (a b:Int × Int):Int:=(Nat.gcd (gD a b).toNat (z2h (z3j a b) % gD a b).toNat:Nat)
def z3a (a b:Int × Int):(Int × Int) × Int:=if okR a∧okR b then z9u (decide (z3j a b<0)) (z2h (z3j a b) / z35 a b) (a.2 / gD a b * (b.2 / z35 a b)) else ((0,0),8)


def yvn (a b:Int × Int):(Int × Int) × Int:=z3a a (-b.1,b.2)
/-! ### Places and gaps -/

/-! ### Sorting by insertion -/
def Srt {α:Type} (lt:α→α→Bool) (l:List α):Prop:=l.Pairwise fun a b=>lt b a=false
theorem yv0 {α:Type} {lt:α→α→Bool} {S:α→Prop} (an:∀ a b,S a→S b→lt a b=false→lt b a=false→a=b):∀ (xs ys:List α),xs.Perm ys→(∀ x∈xs,S x)→Srt lt xs→Srt lt ys→xs=ys
 | [],ys,hp,_,_,_=>(List.Perm.eq_nil hp.symm).symm
 | x :: xs,[],hp,_,_,_=>by have:=hp.length_eq; simp at this
 | x :: xs,y :: ys,hp,hS,h1,h2=>by
  obtain ⟨a1,a2⟩:=List.pairwise_cons.1 h1
  obtain ⟨b1,b2⟩:=List.pairwise_cons.1 h2
  have e:x=y:=by
   have hx:=hp.mem_iff.1 (List.mem_cons_self (a:=x) (l:=xs))
   have hy:=hp.mem_iff.2 (List.mem_cons_self (a:=y) (l:=ys))
   rcases List.mem_cons.1 hx with rfl | hx
   ·rfl
   ·rcases List.mem_cons.1 hy with rfl | hy'
    ·rfl
    ·exact an _ _ (hS _ List.mem_cons_self) (hS _ hy) (b1 _ hx) (a1 _ hy')
  subst e
  rw [yv0 an xs ys (List.Perm.cons_inv hp) (fun z hz=>hS z (List.mem_cons_of_mem _ hz)) a2 b2]
theorem Srt.filter {α:Type} {lt:α→α→Bool} {l:List α} (h:Srt lt l) (p:α→Bool):Srt lt (l.filter p):=List.Pairwise.sublist List.filter_sublist h

/-! ### Pairs -/
/-! ### All pairs of indices -/

def sP (f:List Pt) (t:Int × Int) (k:Nat):Pt:=(yu7 f t).getD k (0,0,0)
theorem yqe {f:List Pt} {t:Int × Int} {k:Nat} (hk:k<f.length):(yu7 f t)[k]?=some (sP f t k):=by
 have h:k<(yu7 f t).length:=by rw [yu8]; exact hk
 unfold sP
 rw [List.getD_eq_getElem?_getD,List.getElem?_eq_getElem h]; rfl
theorem yqg {f:List Pt} {t:Int × Int} {k:Nat} (hk:k<f.length):sP f t k∈f:=(yua t f).mem_iff.1 (List.mem_of_getElem? (yqe hk))
theorem yqj {f:List Pt} {t:Int × Int} {k:Nat} (hk:k<f.length):(yck f t)[k]?=some (sP f t k).1:=by
 unfold yck; rw [List.getElem?_map,yqe hk]; rfl
theorem yqk {f:List Pt} {t:Int × Int} {k:Nat} (hk:k<f.length):(yck f t).getD k 0=(sP f t k).1:=by
 rw [List.getD_eq_getElem?_getD,yqj hk]; rfl
theorem yqd {f:List Pt} (of:okF f) {t:Int × Int} {k:Nat} (hk:k<f.length):gP f (yie f (sP f t k).1)=sP f t k:=zw4 of (yqg hk)
theorem yqf {f:List Pt} (of:okF f) {t:Int × Int} {i k:Nat} (h:i<k) (hk:k<f.length):leads (sP f t i) (sP f t k) t=true:=by
 have ho:=(yub (yb9 of) t).ord
 obtain ⟨a1,a2⟩:=List.getElem?_eq_some_iff.1 (yqe (t:=t) (show i<f.length by omega))
 obtain ⟨b1,b2⟩:=List.getElem?_eq_some_iff.1 (yqe (t:=t) hk)
 have:=List.pairwise_iff_getElem.1 ho i k a1 b1 h
 rw [a2,b2] at this
 exact this
theorem yql {f:List Pt} (of:okF f) {t:Int × Int} {i k:Nat} (h:i<k) (hk:k<f.length):yz5 (sP f t k) t≤yz5 (sP f t i) t:=by
 have:=y2y.1 (yqf of (t:=t) h hk)
 omega
theorem ybg.sP {l:Ls} (ok:ybg l) {k:Nat} (hk:k<l.ord.length):ptL l k=Go.Proofs.YtjhbjjdipmpgjaaGreat.sP l.ck.f l.ck.now k:=by
 have:=ok.sorted hk
 rw [yqe (by rw [← ok.len]; exact hk)] at this
 exact (Option.some.inj this).symm

/-! ### Distances -/
def spot (f:List Pt) (t:Int × Int) (k:Nat):(Int × Int) × Int:=yhk (sP f t k) t
def yxr (f:List Pt) (t:Int × Int) (n:Nat):Prop:=∀ k,k<n→(spot f t k).2=0
instance (f:List Pt) (t:Int × Int) (n:Nat):Decidable (yxr f t n):=inferInstanceAs (Decidable (∀ k,k<n→_))
def zw8 (f:List Pt) (t:Int × Int) (i k:Nat):(Int × Int) × Int:=yvn (spot f t i).1 (spot f t k).1
/-! ### What is told -/
def y80 (f:List Pt) (t:Int × Int):Prop:=∀ i,i<f.length-1→(zw8 f t i (i+1)).2=0
instance (f:List Pt) (t:Int × Int):Decidable (y80 f t):=inferInstanceAs (Decidable (∀ i,i<_→_))
def z5s (f:List Pt) (t:Int × Int):Prop:=∀ k,k<f.length→∀ i,i<k→(zw8 f t i k).2=0
instance (f:List Pt) (t:Int × Int):Decidable (z5s f t):=inferInstanceAs (Decidable (∀ k,k<_→∀ i,i<k→_))
end Go.Proofs.YtjhbjjdipmpgjaaGreat
end
