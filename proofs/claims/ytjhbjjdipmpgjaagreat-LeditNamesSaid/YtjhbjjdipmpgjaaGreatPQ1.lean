/- The engine, parts QA, SB, CP, CD, put together. Conditions: none. -/
import Derived.Test.YtjhbjjdipmpgjaaGreatPD1
import Derived.Test.YtjhbjjdipmpgjaaGreatPK1
import Derived.Test.YtjhbjjdipmpgjaaGreatPA1
set_option linter.unusedVariables false
section
/- Adding two fractions. Conditions: none. -/
set_option maxRecDepth 100000
open Go Go.Eng Go.Proofs
namespace Go.Proofs.YtjhbjjdipmpgjaaGreat

def gD (a b:Int × Int):Int:=(Nat.gcd a.2.toNat b.2.toNat:Nat)
def addV (a b:Int × Int):Int:=a.1 * (b.2 / gD a b)+b.1 * (a.2 / gD a b)
def addH (a b:Int × Int):Int:=(Nat.gcd (gD a b).toNat (absI (addV a b) % gD a b).toNat:Nat)
def addM (a b:Int × Int):(Int × Int) × Int:=if okR a∧okR b then buildM (decide (addV a b<0)) (absI (addV a b) / addH a b) (a.2 / gD a b * (b.2 / addH a b)) else ((0,0),8)


def subM (a b:Int × Int):(Int × Int) × Int:=addM a (-b.1,b.2)
/-! ### Places and gaps -/

/-! ### Sorting by insertion -/
def Srt {α:Type} (lt:α→α→Bool) (l:List α):Prop:=l.Pairwise fun a b=>lt b a=false
theorem srt_unique {α:Type} {lt:α→α→Bool} {S:α→Prop} (an:∀ a b,S a→S b→lt a b=false→lt b a=false→a=b):∀ (xs ys:List α),xs.Perm ys→(∀ x∈xs,S x)→Srt lt xs→Srt lt ys→xs=ys
 | [],ys,hp,_,_,_=>(List.Perm.eq_nil hp.symm).symm
 | x :: xs,[],hp,_,_,_=>by have:=hp.length_eq; simp at this
 | x :: xs,y :: ys,hp,hS,h1,h2=>by
  obtain ⟨a1,a2⟩:=List.pairwise_cons.1 h1
  obtain ⟨b1,b2⟩:=List.pairwise_cons.1 h2
  have e:x=y:=by
   have hx:=hp.mem_iff.1 (List.mem_cons_self (a:=x) (l:=xs))
   have hy:=hp.mem_iff.2 (List.mem_cons_self (a:=y) (l:=ys))
   rcases List.mem_cons.1 hx with rfl | hx
   ·rfl
   ·rcases List.mem_cons.1 hy with rfl | hy'
    ·rfl
    ·exact an _ _ (hS _ List.mem_cons_self) (hS _ hy) (b1 _ hx) (a1 _ hy')
  subst e
  rw [srt_unique an xs ys (List.Perm.cons_inv hp) (fun z hz=>hS z (List.mem_cons_of_mem _ hz)) a2 b2]
theorem Srt.filter {α:Type} {lt:α→α→Bool} {l:List α} (h:Srt lt l) (p:α→Bool):Srt lt (l.filter p):=List.Pairwise.sublist List.filter_sublist h

/-! ### Pairs -/
/-! ### All pairs of indices -/

def sP (f:List Pt) (t:Int × Int) (k:Nat):Pt:=(sortM f t).getD k (0,0,0)
theorem sP_get {f:List Pt} {t:Int × Int} {k:Nat} (hk:k<f.length):(sortM f t)[k]?=some (sP f t k):=by
 have h:k<(sortM f t).length:=by rw [sortM_len]; exact hk
 unfold sP
 rw [List.getD_eq_getElem?_getD,List.getElem?_eq_getElem h]; rfl
theorem sP_mem {f:List Pt} {t:Int × Int} {k:Nat} (hk:k<f.length):sP f t k∈f:=(sortM_perm t f).mem_iff.1 (List.mem_of_getElem? (sP_get hk))
theorem sP_ord {f:List Pt} {t:Int × Int} {k:Nat} (hk:k<f.length):(ordM f t)[k]?=some (sP f t k).1:=by
 unfold ordM; rw [List.getElem?_map,sP_get hk]; rfl
theorem sP_ordD {f:List Pt} {t:Int × Int} {k:Nat} (hk:k<f.length):(ordM f t).getD k 0=(sP f t k).1:=by
 rw [List.getD_eq_getElem?_getD,sP_ord hk]; rfl
theorem sP_find {f:List Pt} (of:okF f) {t:Int × Int} {k:Nat} (hk:k<f.length):gP f (posF f (sP f t k).1)=sP f t k:=gP_of of (sP_mem hk)
theorem sP_leads {f:List Pt} (of:okF f) {t:Int × Int} {i k:Nat} (h:i<k) (hk:k<f.length):leads (sP f t i) (sP f t k) t=true:=by
 have ho:=(sortM_sorted (okF_ids of) t).ord
 obtain ⟨a1,a2⟩:=List.getElem?_eq_some_iff.1 (sP_get (t:=t) (show i<f.length by omega))
 obtain ⟨b1,b2⟩:=List.getElem?_eq_some_iff.1 (sP_get (t:=t) hk)
 have:=List.pairwise_iff_getElem.1 ho i k a1 b1 h
 rw [a2,b2] at this
 exact this
theorem sP_val {f:List Pt} (of:okF f) {t:Int × Int} {i k:Nat} (h:i<k) (hk:k<f.length):valP (sP f t k) t≤valP (sP f t i) t:=by
 have:=leads_iff.1 (sP_leads of (t:=t) h hk)
 omega
theorem okLs.sP {l:Ls} (ok:okLs l) {k:Nat} (hk:k<l.ord.length):ptL l k=Go.Proofs.YtjhbjjdipmpgjaaGreat.sP l.ck.f l.ck.now k:=by
 have:=ok.sorted hk
 rw [sP_get (by rw [← ok.len]; exact hk)] at this
 exact (Option.some.inj this).symm

/-! ### Distances -/
def spot (f:List Pt) (t:Int × Int) (k:Nat):(Int × Int) × Int:=placeM (sP f t k) t
def toldF (f:List Pt) (t:Int × Int) (n:Nat):Prop:=∀ k,k<n→(spot f t k).2=0
instance (f:List Pt) (t:Int × Int) (n:Nat):Decidable (toldF f t n):=inferInstanceAs (Decidable (∀ k,k<n→_))
def gapD (f:List Pt) (t:Int × Int) (i k:Nat):(Int × Int) × Int:=subM (spot f t i).1 (spot f t k).1
/-! ### What is told -/
def nearT (f:List Pt) (t:Int × Int):Prop:=∀ i,i<f.length-1→(gapD f t i (i+1)).2=0
instance (f:List Pt) (t:Int × Int):Decidable (nearT f t):=inferInstanceAs (Decidable (∀ i,i<_→_))
def allT (f:List Pt) (t:Int × Int):Prop:=∀ k,k<f.length→∀ i,i<k→(gapD f t i k).2=0
instance (f:List Pt) (t:Int × Int):Decidable (allT f t):=inferInstanceAs (Decidable (∀ k,k<_→∀ i,i<k→_))
end Go.Proofs.YtjhbjjdipmpgjaaGreat
end
