/- The engine, parts X0, X1, X2, X3, X4, X5, put together. Conditions: none. -/
import Derived.Test.YtbbdplfkiioppaaGreatPRW
import Derived.Test.YtbbdplfkiioppaaGreatVgR04
import Derived.Test.YtbbdplfkiioppaaGreatFs
import Derived.Test.YtbbdplfkiioppaaGreatQB
import Derived.Test.YtbbdplfkiioppaaGreatPS1
import Derived.Test.YtbbdplfkiioppaaGreatPO1
import Derived.Test.YtbbdplfkiioppaaGreatVgPick
import Derived.Test.YtbbdplfkiioppaaGreatVgStd
set_option linter.unusedVariables false
section
/- Sorting by swaps, and all meetings of a field pair by pair, in plain words. Conditions: none. -/
set_option maxRecDepth 100000
open Go Go.Eng Go.Proofs
namespace Go.Proofs.YtbbdplfkiioppaaGreat

/-! ### Swaps of neighbours -/
def swapM (xs:List Pr) (k:Nat):List Pr:=(xs.set k (xs.getD (k-1) zPr)).set (k-1) (xs.getD k zPr)
theorem swapM_get {xs:List Pr} {k:Nat} (h0:0<k) (hk:k<xs.length) (i:Nat):(swapM xs k).getD i zPr=if i=k-1 then xs.getD k zPr else if i=k then xs.getD (k-1) zPr else xs.getD i zPr:=by
 unfold swapM
 rw [List.getD_eq_getElem?_getD,List.getElem?_set]
 by_cases h1:k-1=i
 ·subst h1
  rw [if_pos rfl,if_pos rfl,if_pos (by simp; omega)]; rfl
 ·rw [if_neg h1,if_neg fun e=>h1 e.symm,List.getElem?_set]
  by_cases h2:k=i
  ·subst h2
   rw [if_pos rfl,if_pos rfl,if_pos hk]; rfl
  ·rw [if_neg h2,if_neg fun e=>h2 e.symm,List.getD_eq_getElem?_getD]
theorem set_swap_perm {xs:List Pr} {i k:Nat} (hi:i<xs.length) (hk:k<xs.length) (hne:k≠i):((xs.set k xs[i]).set i xs[k]).Perm xs:=by
 rw [List.perm_iff_count]
 intro x
 have h1:=List.count_set (l:=xs.set k xs[i]) (i:=i) (a:=xs[k]) (b:=x) (by simpa using hi)
 have h2:=List.count_set (l:=xs) (i:=k) (a:=xs[i]) (b:=x) hk
 have h3:(xs.set k xs[i])[i]'(by simpa using hi)=xs[i]:=List.getElem_set_ne hne _
 have q1:xs[i]=x→0<xs.count x:=fun e=>by rw [← e]; exact List.count_pos_iff.2 (List.getElem_mem hi)
 have q2:xs[k]=x→0<xs.count x:=fun e=>by rw [← e]; exact List.count_pos_iff.2 (List.getElem_mem hk)
 rw [h1,h3,h2]
 simp only [beq_iff_eq]
 by_cases a:xs[i]=x <;> by_cases b:xs[k]=x
 ·rw [if_pos a,if_pos b]; have:=q1 a; omega
 ·rw [if_pos a,if_neg b]; have:=q1 a; omega
 ·rw [if_neg a,if_pos b]; have:=q2 b; omega
 ·rw [if_neg a,if_neg b]; omega
theorem swapM_perm {xs:List Pr} {k:Nat} (h0:0<k) (hk:k<xs.length):(swapM xs k).Perm xs:=by
 have e1:xs.getD k zPr=xs[k]:=by simp [List.getD,hk]
 have e2:xs.getD (k-1) zPr=xs[k-1]:=by simp [List.getD,show k-1<xs.length by omega]
 unfold swapM
 rw [e1,e2]
 exact set_swap_perm (by omega) hk (by omega)
def SrtX (xs:List Pr) (i k:Nat):Prop:=∀ a b,a<b→b≤i→b≠k→clP (xs.getD b zPr) (xs.getD a zPr)=false
def SrtN (xs:List Pr) (i:Nat):Prop:=∀ a b,a<b→b<i→clP (xs.getD b zPr) (xs.getD a zPr)=false
theorem SrtN.start {xs:List Pr} {i:Nat} (h:SrtN xs i):SrtX xs i i:=fun a b h1 h2 h3=>h a b h1 (by omega)
theorem mem_getP {xs:List Pr} {k:Nat} (h:k<xs.length):xs.getD k zPr∈xs:=by
 rw [List.getD_eq_getElem?_getD,List.getElem?_eq_getElem h]; exact List.getElem_mem h
theorem SrtX.stop {xs:List Pr} {i k:Nat} (h:SrtX xs i k) (ok:∀ y∈xs,okPr y) (hk:k≤i) (hi:i<xs.length) (hc:k=0∨clP (xs.getD k zPr) (xs.getD (k-1) zPr)=false):SrtN xs (i+1):=by
 intro a b h1 h2
 by_cases e:b=k
 ·subst e
  have hc:=hc.resolve_left (by omega)
  by_cases e2:a=b-1
  ·subst e2; exact hc
  ·exact clP_tr _ _ _ (ok _ (mem_getP (by omega))) (ok _ (mem_getP (by omega))) (ok _ (mem_getP (by omega))) (h a (b-1) (by omega) (by omega) (by omega)) hc
 ·exact h a b h1 (by omega) e
theorem SrtX.swap {xs:List Pr} {i k:Nat} (h:SrtX xs i k) (ok:∀ y∈xs,okPr y) (h0:0<k) (hk:k≤i) (hi:i<xs.length) (hc:clP (xs.getD k zPr) (xs.getD (k-1) zPr)=true):SrtX (swapM xs k) i (k-1):=by
 intro a b h1 h2 h3
 rw [swapM_get h0 (by omega),swapM_get h0 (by omega),if_neg h3]
 by_cases e:b=k
 ·subst e
  rw [if_pos rfl]
  by_cases e2:a=b-1
  ·rw [if_pos e2]; exact clP_asymm _ _ (ok _ (mem_getP (by omega))) (ok _ (mem_getP (by omega))) hc
  ·rw [if_neg e2,if_neg (by omega)]; exact h a (b-1) (by omega) (by omega) (by omega)
 ·rw [if_neg e]
  by_cases e1:a=k-1
  ·rw [if_pos e1]; exact h k b (by omega) h2 e
  ·rw [if_neg e1]
   by_cases e2:a=k
   ·rw [if_pos e2]; exact h (k-1) b (by omega) h2 e
   ·rw [if_neg e2]; exact h a b h1 h2 e
theorem SrtN.done {L xs:List Pr} (h:SrtN xs xs.length) (ok:∀ y∈L,okPr y) (hp:xs.Perm L):xs=sortP L:=by
 refine sortP_of ok hp (List.pairwise_iff_getElem.2 fun a b ha hb hab=>?_)
 have:=h a b hab hb
 rwa [List.getD_eq_getElem?_getD,List.getD_eq_getElem?_getD,List.getElem?_eq_getElem ha,List.getElem?_eq_getElem hb] at this

/-! ### Pairs,one after the other -/
def zPt:Pt:=(0,0,0)
def ptF (f:List Pt) (i:Nat):Pt:=f.getD i zPt
def rowM (f:List Pt) (i k:Nat):List Pr:=(metR (ptF f i) ((f.take k).drop (i+1))).map mtPr
def upM4 (f:List Pt) (i:Nat):List Pr:=(List.range i).flatMap fun j=>(metR (ptF f j) (f.drop (j+1))).map mtPr
theorem rowM_start (f:List Pt) (i:Nat):rowM f i (i+1)=[]:=by
 unfold rowM
 have:(f.take (i+1)).drop (i+1)=[]:=List.drop_eq_nil_of_le (by rw [List.length_take]; omega)
 rw [this]; rfl
theorem metR_snoc (p:Pt) (ps:List Pt) (q:Pt):metR p (ps++[q])=metR p ps++if p.2.2=q.2.2 then [] else [(atP p q,p.1,q.1)]:=by
 unfold metR
 rw [List.filterMap_append]
 congr 1
 by_cases h:p.2.2=q.2.2 <;> simp [h]
theorem rowM_succ {f:List Pt} {i k:Nat} (hi:i<k) (hk:k<f.length):rowM f i (k+1)=rowM f i k++if (ptF f i).2.2=(ptF f k).2.2 then [] else [mtPr (atP (ptF f i) (ptF f k),(ptF f i).1,(ptF f k).1)]:=by
 unfold rowM
 have e:(f.take (k+1)).drop (i+1)=(f.take k).drop (i+1)++[ptF f k]:=by
  rw [List.take_add_one,List.getElem?_eq_getElem hk,List.drop_append_of_le_length (by rw [List.length_take]; omega)]
  unfold ptF; rw [List.getD_eq_getElem?_getD,List.getElem?_eq_getElem hk]; rfl
 rw [e,metR_snoc,List.map_append]
 congr 1
 split <;> rfl
theorem upM4_succ (f:List Pt) (i:Nat):upM4 f (i+1)=upM4 f i++rowM f i f.length:=by
 unfold upM4 rowM
 rw [List.range_succ,List.flatMap_append,List.take_length]; simp
theorem metL_rows:∀ f:List Pt,metL f=(List.range f.length).flatMap fun j=>metR (ptF f j) (f.drop (j+1))
 | []=>rfl
 | p :: ps=>by
  show metR p ps++metL ps=_
  rw [List.length_cons,List.range_succ_eq_map,List.flatMap_cons,List.flatMap_map,metL_rows ps]
  rfl
theorem upM4_end (f:List Pt):upM4 f f.length=(metL f).map mtPr:=by
 rw [metL_rows,List.map_flatMap]; rfl
theorem metR_len (p:Pt) (ps:List Pt):(metR p ps).length≤ps.length:=by unfold metR; exact List.length_filterMap_le _ _
theorem upM4_len (f:List Pt):∀ i,(upM4 f i).length≤i * f.length
 | 0=>by unfold upM4; simp
 | i+1=>by
  rw [upM4_succ,List.length_append,Nat.succ_mul]
  have:=upM4_len f i
  have h2:=metR_len (ptF f i) ((f.take f.length).drop (i+1))
  unfold rowM
  rw [List.length_map]
  rw [List.length_drop,List.length_take] at h2
  omega
theorem rowM_len (f:List Pt) (i k:Nat):(rowM f i k).length≤f.length:=by
 unfold rowM
 rw [List.length_map]
 have h2:=metR_len (ptF f i) ((f.take k).drop (i+1))
 rw [List.length_drop,List.length_take] at h2
 omega

def fM (x:Pr):List Value:=[.int .i64 x.2.2.1,.int .i64 x.2.2.2,.int .i64 x.1,.int .i64 x.2.1]
abbrev mtV (x:Pr):Value:=sI4 x.2.2.1 x.2.2.2 x.1 x.2.1
theorem fM_one:∀ (x:Pr),∀ v∈fM x,v.oneCell'=true:=fun x v hv=>by
 simp [fM] at hv
 rcases hv with rfl | rfl | rfl | rfl <;> rfl
theorem getMt {m:List Pr} {i:Int} (h0:0≤i) (h1:i<m.length):m[i.toNat]?=some (m.getD i.toNat zPr):=by
 have h:i.toNat<m.length:=by omega
 rw [List.getD_eq_getElem?_getD,List.getElem?_eq_getElem h]; rfl
theorem RdM.get {H:Hp} {u:Slc} {m:List Pr} {i:Int} (h:Rd 4 fM H u m) (h0:0≤i) (h1:i<m.length) :
  H.at (eaddr u.a 4 i)=some (.int .i64 (m.getD i.toNat zPr).2.2.1)∧H.at ((eaddr u.a 4 i).add 1)=some (.int .i64 (m.getD i.toNat zPr).2.2.2)∧H.at ((eaddr u.a 4 i).add 2)=some (.int .i64 (m.getD i.toNat zPr).1)∧H.at ((eaddr u.a 4 i).add 3)=some (.int .i64 (m.getD i.toNat zPr).2.1) :=
 ⟨h.at0 h0 (getMt h0 h1) rfl,h.atj h0 (getMt h0 h1) (j:=1) rfl,h.atj h0 (getMt h0 h1) (j:=2) rfl,h.atj h0 (getMt h0 h1) (j:=3) rfl⟩
theorem RdM.getT {H:Hp} {u:Slc} {m:List Pr} {i:Int} (h:Rd 4 fM H u m) (h0:0≤i) (h1:i<m.length) :
  H.at (eaddr u.a 4 i)=some (.int .i64 (m.getD i.toNat zPr).2.2.1)∧H.at ((eaddr u.a 4 i).add 1)=some (.int .i64 (m.getD i.toNat zPr).2.2.2):=⟨(RdM.get h h0 h1).1,(RdM.get h h0 h1).2.1⟩
theorem _root_.Go.Eng.Mine.rdM {e:TypeId} {H0 H:Hp} {u:Slc} {xs:List Pr} (h:Mine 4 fM e H0 H u xs):Rd 4 fM H u xs:=Mine.rd (k:=4) (f:=fM) (fun _=>rfl) h
theorem refBefore4 {H:Hp} {a b:Pr} (oa:okPr a) (ob:okPr b):Qf Tryz.prog F.pelotonref04_Before #[mtV a,mtV b] H (.bool (clP a b)):=by
 refine pelotonref04_Before_vc ⟨_,refCompareR oa ob,fun h=>⟨?_,Hp.le_refl _⟩,fun h=>⟨fun hi=>⟨?_,Hp.le_refl _⟩,fun hi=>⟨?_,Hp.le_refl _⟩⟩⟩
 ·have h:cmpR a.2.2 b.2.2≠0:=by simpa using h
  unfold clP; rw [if_pos h]
 ·have h:cmpR a.2.2 b.2.2=0:=by simpa using h
  have hi:a.1≠b.1:=by simpa using hi
  unfold clP; rw [if_neg (fun e=>e h),if_pos hi]
 ·have h:cmpR a.2.2 b.2.2=0:=by simpa using h
  have hi:a.1=b.1:=by simpa using hi
  unfold clP; rw [if_neg (fun e=>e h),if_neg (fun e=>e hi)]
theorem ptF_get {f:List Pt} {i:Nat} (h:i<f.length):f[i]?=some (ptF f i):=by
 unfold ptF; rw [List.getD_eq_getElem?_getD,List.getElem?_eq_getElem h]; rfl
theorem ptF_mem {f:List Pt} {i:Nat} (h:i<f.length):ptF f i∈f:=List.mem_of_getElem? (ptF_get h)
theorem Mine.setM {e:TypeId} {H0 H:Hp} {u:Slc} {xs:List Pr} {i:Int} (h:Mine 4 fM e H0 H u xs) (h0:0≤i) (h1:i<xs.length) (y:Pr) {Q:Hp→Prop} (q:∀ H',Mine 4 fM e H0 H' u (xs.set i.toNat y)→Chg H H' u→Q H') :
  H.canStore (eaddr u.a 4 i) 0 [.int .i64 y.2.2.1,.int .i64 y.2.2.2,.int .i64 y.1,.int .i64 y.2.1]∧∀ H',H'=H.store (eaddr u.a 4 i) 0 [.int .i64 y.2.2.1,.int .i64 y.2.2.2,.int .i64 y.1,.int .i64 y.2.1]→Q H' :=
 Mine.setE (k:=4) (f:=fM) (vs:=[.int .i64 y.2.2.1,.int .i64 y.2.2.2,.int .i64 y.1,.int .i64 y.2.1]) (y:=y) (fun _=>rfl) h h0 (getMt h0 h1) (by unfold fM; rfl) (Nat.le_refl 4) q
set_option maxHeartbeats 4000000 in
theorem refPairs4 {H:Hp} {w:Slc} {f:List Pt} (hf:Rd 3 fD H w f) (of:okF f) :
  Go.Eng.Fn Tryz.prog F.pelotonref04_Pairs #[vFd w] H fun v H'=>∃ u:Slc,v=u.v∧Hp.le H H'∧Mine 4 fM T.api_Meeting H H' u (metsM f):=by
 have sm:=of.len
 have wn:(w.n:Int)=f.length:=by have:=hf.len; omega
 have bnd:∀ i k,i≤f.length→(upM4 f i++rowM f i k).length≤100000000:=fun i k hi=>by
  rw [List.length_append]
  have h1:=upM4_len f i
  have h2:=rowM_len f i k
  have h3:i * f.length≤64 * 64:=Nat.mul_le_mul (by omega) (by omega)
  omega
 refine pelotonref04_Pairs_vc ?_
 rw [wn]
 refine ⟨fun u n H'=>∃ i:Nat,n=i∧i≤f.length∧Hp.le H H'∧Mine 4 fM T.api_Meeting H H' u (upM4 f i),fun _ n _=>((f.length:Int)-n).toNat,⟨0,rfl,by omega,Hp.le_refl _,.inl ⟨rfl,rfl⟩⟩,?_⟩
 rintro u3 n4 H5 ⟨i,rfl,hi,l5,m5⟩
 refine ⟨fun hn=>?_,fun hn=>?_⟩
 ·have hn:i<f.length:=by have:=of_decide_eq_true hn; omega
  refine ⟨by unfold inI; omega,fun u n H'=>∃ k:Nat,n=k∧i<k∧k≤f.length∧Hp.le H H'∧Mine 4 fM T.api_Meeting H H' u (upM4 f i++rowM f i k),fun _ n _=>((f.length:Int)-n).toNat,⟨i+1,by omega,by omega,by omega,l5,by rw [rowM_start,List.append_nil]; exact m5⟩,?_⟩
  rintro u8 n9 H10 ⟨k,rfl,hik,hk,l10,m10⟩
  refine ⟨fun hm=>?_,fun hm=>?_⟩
  ·have hm:k<f.length:=by have:=of_decide_eq_true hm; omega
   have r10:=hf.le l10
   have g1:=Rd.gD (xs:=f) r10 (i:=(i:Int)) (by omega) (by omega)
   have g2:=Rd.gD (xs:=f) r10 (i:=(k:Int)) (by omega) (by omega)
   rw [Int.toNat_natCast] at g1 g2
   have op:=of.each _ (ptF_mem hn)
   have oq:=of.each _ (ptF_mem hm)
   refine ⟨r10.inS (by omega) (by omega),_,_,_,g1,r10.inS (by omega) (by omega),_,_,_,g2,fun hc=>?_,fun hc=>?_⟩
   ·have hc:(ptF f i).2.2≠(ptF f k).2.2:=bne_iff_ne.1 hc
    refine ⟨_,_,refMet op oq,fun b H20 hb hH=>?_⟩
    refine (append1 (k:=4) (f:=fM) (bytes:=32) (x:=mtPr (atP (ptF f i) (ptF f k),(ptF f i).1,(ptF f k).1)) (by kernel_rfl) (by decide) (fun _=>rfl) fM_one l10 m10 hb hH rfl (bnd i k (by omega)) (by omega)).mono fun v H22 ⟨u,hu,l22,m22,_,_⟩=>⟨u,hu,by unfold inI; omega,⟨k+1,by omega,by omega,by omega,l22,?_⟩,by dsimp only; omega⟩
    rw [rowM_succ hik hm,if_neg hc,← List.append_assoc]; exact m22
   ·have hc:(ptF f i).2.2=(ptF f k).2.2:=bne_eq_false_iff_eq.1 hc
    refine ⟨by unfold inI; omega,⟨k+1,by omega,by omega,by omega,l10,?_⟩,by dsimp only; omega⟩
    rw [rowM_succ hik hm,if_pos hc,List.append_nil]; exact m10
  ·have hm:¬ k<f.length:=by have:=of_decide_eq_false hm; omega
   refine ⟨by unfold inI; omega,⟨i+1,by omega,by omega,l10,?_⟩,by dsimp only; omega⟩
   rw [upM4_succ,show f.length=k by omega]; exact m10
 ·have hn:¬ i<f.length:=by have:=of_decide_eq_false hn; omega
  rw [show i=f.length by omega,upM4_end] at m5
  have okL:=metPr_ok of
  have un:(u3.n:Int)=((metL f).map mtPr).length:=by have:=m5.rdM.len; omega
  have hL:((metL f).map mtPr).length≤100000000:=by
   have:=bnd f.length (f.length+1) (Nat.le_refl _)
   rw [rowM_start,List.append_nil,upM4_end] at this; exact this
  generalize hLL:(metL f).map mtPr=L at m5 okL un hL
  have eM:metsM f=sortP L:=by unfold metsM; rw [hLL]
  rw [un,eM]
  refine ⟨fun n H'=>∃ (j:Nat) (xs:List Pr),n=j∧1≤j∧(j≤L.length∨L.length=0)∧xs.Perm L∧SrtN xs j∧Hp.le H H'∧Mine 4 fM T.api_Meeting H H' u3 xs,fun n _=>((L.length:Int)-n).toNat,⟨1,L,by omega,by omega,by omega,List.Perm.refl _,fun a b h1 h2=>by omega,l5,m5⟩,?_⟩
  rintro n26 H27 ⟨j,xs,rfl,j1,jl,hp,hs,l27,m27⟩
  have xl:=hp.length_eq
  refine ⟨fun hj=>?_,fun hj=>?_⟩
  ·have hj:j<L.length:=by have:=of_decide_eq_true hj; omega
   refine ⟨fun n H'=>∃ (k:Nat) (ys:List Pr),n=k∧k≤j∧ys.Perm L∧SrtX ys j k∧Hp.le H H'∧Mine 4 fM T.api_Meeting H H' u3 ys,fun n _=>n.toNat,⟨j,xs,rfl,Nat.le_refl _,hp,hs.start,l27,m27⟩,?_⟩
   rintro n30 H31 ⟨k,ys,rfl,hkj,hq,hx,l31,m31⟩
   have yl:=hq.length_eq
   have r31:=m31.rdM
   have oky:∀ y∈ys,okPr y:=fun y hy=>okL y (hq.mem_iff.1 hy)
   have e1:((k:Int)-1).toNat=k-1:=by omega
   have gk:=RdM.get r31 (i:=(k:Int)) (by omega) (by omega)
   rw [Int.toNat_natCast] at gk
   refine ⟨fun h=>r31.inS (by omega) (by omega),_,_,_,_,fun _=>gk,fun h=>by unfold inI; omega,fun h=>?_,(ys.getD (k-1) zPr).2.2.1,(ys.getD (k-1) zPr).2.2.2,(ys.getD (k-1) zPr).1,(ys.getD (k-1) zPr).2.1,fun h=>?_,clP (ys.getD k zPr) (ys.getD (k-1) zPr),fun h=>?_,fun h=>?_,fun h=>?_⟩
   ·have h:=of_decide_eq_true h; exact r31.inS (by omega) (by omega)
   ·have h:=of_decide_eq_true h
    have:=RdM.get r31 (i:=(k:Int)-1) (by omega) (by omega)
    rwa [e1] at this
   ·have h:=of_decide_eq_true h
    exact refBefore4 (oky _ (mem_getP (by omega))) (oky _ (mem_getP (by omega)))
   ·rw [Bool.and_eq_true,decide_eq_true_eq] at h
    obtain ⟨h0,hc⟩:=h
    have gk1:=RdM.get r31 (i:=(k:Int)-1) (by omega) (by omega)
    rw [e1] at gk1
    refine ⟨by unfold inI; omega,by unfold inI; omega,r31.inS (by omega) (by omega),_,_,_,_,gk1,r31.inS (by omega) (by omega),_,_,_,_,gk,r31.inS (by omega) (by omega),?_⟩
    refine Mine.setM (i:=(k:Int)) m31 (by omega) (by omega) (ys.getD (k-1) zPr) fun H49 m49 c49=>?_
    rw [Int.toNat_natCast] at m49
    refine ⟨m49.rdM.inS (by omega) (by rw [List.length_set]; omega),?_⟩
    refine Mine.setM (i:=(k:Int)-1) m49 (by omega) (by rw [List.length_set]; omega) (ys.getD k zPr) fun H50 m50 c50=>?_
    rw [e1] at m50
    refine ⟨by unfold inI; omega,⟨k-1,swapM ys k,by omega,by omega,(swapM_perm (by omega) (by omega)).trans hq,hx.swap oky (by omega) hkj (by omega) hc,Hp.le_chg (Hp.le_chg l31 c49 m31.isNew) c50 m49.isNew,m50⟩,by dsimp only; omega⟩
   ·rw [Bool.and_eq_false_iff,decide_eq_false_iff_not] at h
    refine ⟨by unfold inI; omega,⟨j+1,ys,by omega,by omega,by omega,hq,hx.stop oky hkj (by omega) ?_,l31,m31⟩,by dsimp only; omega⟩
    rcases h with h | h
    ·left; omega
    ·exact .inr h
  ·have hj:¬ j<L.length:=by have:=of_decide_eq_false hj; omega
   have hN:SrtN xs xs.length:=fun a b h1 h2=>hs a b h1 (by omega)
   rw [← hN.done okL hp]
   exact ⟨u3,rfl,l27,m27⟩

theorem take_snocP {m:List Pr} {n:Nat} (h:n<m.length):m.take (n+1)=m.take n++[m.getD n zPr]:=by
 rw [List.take_add_one,List.getD_eq_getElem?_getD,List.getElem?_eq_getElem h]; rfl
set_option maxHeartbeats 2000000 in
theorem refBetween4 {H:Hp} {w:Slc} {f:List Pt} {a b:Int × Int} (hf:Rd 3 fD H w f) (of:okF f) (oa:okR a) (ob:okR b) :
  Go.Eng.Fn Tryz.prog F.pelotonref04_Between #[vFd w,raW a,raW b] H fun v H'=>∃ u:Slc,v=u.v∧Hp.le H H'∧Mine 4 fM T.api_Meeting H H' u (betweenM f a b):=by
 refine pelotonref04_Between_vc ((refPairs4 hf of).mono fun v H2 ⟨u3,hv,l2,m2⟩=>⟨u3,hv,?_⟩)
 have okS:=metsM_ok of
 have lenS:(metsM f).length≤100000000:=by
  have h1:(metsM f).length=(upM4 f f.length).length:=by unfold metsM; rw [(sortP_perm _).length_eq,upM4_end]
  have h2:=upM4_len f f.length
  have h3:f.length * f.length≤64 * 64:=Nat.mul_le_mul of.len of.len
  omega
 have un:(u3.n:Int)=(metsM f).length:=by have:=m2.rdM.len; omega
 rw [un]
 unfold betweenM
 generalize metsM f=S at *
 refine ⟨fun u n H'=>0≤n∧n≤S.length∧Hp.le H2 H'∧Mine 4 fM T.api_Meeting H2 H' u ((S.take n.toNat).filter fun x=>inT a b x.2.2),fun _ n _=>((S.length:Int)-n).toNat,⟨Int.le_refl _,by omega,Hp.le_refl _,.inl ⟨rfl,rfl⟩⟩,?_⟩
 rintro u6 n H8 ⟨h0,h1,l8,m8⟩
 refine ⟨fun hn=>?_,fun hn=>?_⟩
 ·have hn:n<S.length:=of_decide_eq_true hn
  have hin:n.toNat<S.length:=by omega
  have r8:=m2.rdM.le l8
  have ox:=okS _ (mem_getP hin)
  have e1:(n+1).toNat=n.toNat+1:=by omega
  have hp:∀ c:Bool,inT a b (S.getD n.toNat zPr).2.2=c→(decide (cmpR (S.getD n.toNat zPr).2.2 a>0)&&decide (cmpR (S.getD n.toNat zPr).2.2 b≤0))=c:=fun c hc=>by
   rw [← hc]
   unfold inT
   congr 1
   rw [← decide_not]
   exact decide_eq_decide.2 (by omega)
  refine ⟨r8.inS h0 hn,_,_,RdM.getT r8 h0 hn,_,refCompareR ox oa,fun _=>r8.inS h0 hn,_,_,fun _=>RdM.getT r8 h0 hn,_,fun _=>refCompareR ox ob,fun hc=>⟨r8.inS h0 hn,_,_,_,_,RdM.get r8 h0 hn,fun c H20 hb hH=>?_⟩,fun hc=>⟨by unfold inI; omega,⟨by omega,by omega,l8,?_⟩,by dsimp only; omega⟩⟩
  ·have hlen:((S.take n.toNat).filter fun x=>inT a b x.2.2).length≤100000000:=by
    have:=List.length_filter_le (fun x:Pr=>inT a b x.2.2) (S.take n.toNat)
    have:=List.length_take_le n.toNat S
    omega
   refine (append1 (k:=4) (f:=fM) (bytes:=32) (x:=S.getD n.toNat zPr) (by kernel_rfl) (by decide) (fun _=>rfl) fM_one l8 m8 hb hH rfl hlen (by omega)).mono fun v H22 ⟨u,hu,l22,m22,_,_⟩=>⟨u,hu,by unfold inI; omega,⟨by omega,by omega,l22,?_⟩,by dsimp only; omega⟩
   have ht:inT a b (S.getD n.toNat zPr).2.2=true:=by
    cases hx:inT a b (S.getD n.toNat zPr).2.2 with
    | true=>rfl
    | false=>rw [hp false hx] at hc; cases hc
   rw [e1,take_snocP hin,List.filter_append,List.filter_cons_of_pos (by exact ht)]; exact m22
  ·have ht:inT a b (S.getD n.toNat zPr).2.2=false:=by
    cases hx:inT a b (S.getD n.toNat zPr).2.2 with
    | false=>rfl
    | true=>rw [hp true hx] at hc; cases hc
   rw [e1,take_snocP hin,List.filter_append,List.filter_cons_of_neg (by rw [ht]; simp),List.filter_nil,List.append_nil]; exact m8
 ·have hn:¬ n<S.length:=of_decide_eq_false hn
  rw [show n.toNat=S.length by omega,List.take_length] at m8
  exact ⟨u6,rfl,Hp.le_trans l2 l8,m8.low l2⟩

/-! ### Leads -/
def fL (x:Ld):List Value:=[.int .i64 x.1.1,.int .i64 x.1.2,.int .i64 x.2]
abbrev ldV (x:Ld):Value:=sI3 x.1.1 x.1.2 x.2
theorem fL_one:∀ (x:Ld),∀ v∈fL x,v.oneCell'=true:=fun x v hv=>by
 simp [fL] at hv
 rcases hv with rfl | rfl | rfl <;> rfl
theorem getLd {m:List Ld} {i:Int} (h0:0≤i) (h1:i<m.length):m[i.toNat]?=some (m.getD i.toNat zLd):=by
 have h:i.toNat<m.length:=by omega
 rw [List.getD_eq_getElem?_getD,List.getElem?_eq_getElem h]; rfl
theorem mem_getL {m:List Ld} {k:Nat} (h:k<m.length):m.getD k zLd∈m:=by
 rw [List.getD_eq_getElem?_getD,List.getElem?_eq_getElem h]; exact List.getElem_mem h
theorem RdLd.get {H:Hp} {u:Slc} {m:List Ld} {i:Int} (h:Rd 3 fL H u m) (h0:0≤i) (h1:i<m.length) :
  H.at (eaddr u.a 3 i)=some (.int .i64 (m.getD i.toNat zLd).1.1)∧H.at ((eaddr u.a 3 i).add 1)=some (.int .i64 (m.getD i.toNat zLd).1.2)∧H.at ((eaddr u.a 3 i).add 2)=some (.int .i64 (m.getD i.toNat zLd).2) :=
 ⟨h.at0 h0 (getLd h0 h1) rfl,h.atj h0 (getLd h0 h1) (j:=1) rfl,h.atj h0 (getLd h0 h1) (j:=2) rfl⟩
theorem RdLd.getT {H:Hp} {u:Slc} {m:List Ld} {i:Int} (h:Rd 3 fL H u m) (h0:0≤i) (h1:i<m.length) :
  H.at (eaddr u.a 3 i)=some (.int .i64 (m.getD i.toNat zLd).1.1)∧H.at ((eaddr u.a 3 i).add 1)=some (.int .i64 (m.getD i.toNat zLd).1.2):=⟨(RdLd.get h h0 h1).1,(RdLd.get h h0 h1).2.1⟩
theorem RdLd.getI {H:Hp} {u:Slc} {m:List Ld} {i:Int} (h:Rd 3 fL H u m) (h0:0≤i) (h1:i<m.length) :
  H.at (((eaddr u.a 3 i).add 2).add 0)=some (.int .i64 (m.getD i.toNat zLd).2):=by
 rw [add_zero']; exact (RdLd.get h h0 h1).2.2
theorem _root_.Go.Eng.Mine.rdLd {e:TypeId} {H0 H:Hp} {u:Slc} {xs:List Ld} (h:Mine 3 fL e H0 H u xs):Rd 3 fL H u xs:=Mine.rd (k:=3) (f:=fL) (fun _=>rfl) h
theorem _root_.Go.Eng.Mine.one {α:Type} {k:Nat} {f:α→List Value} {e:TypeId} {H H':Hp} {b:Nat} {x:α} {cs:Array Value} (hb:H b=none) (hH:H'=H.put b (.cells cs e (0,0))) (hc:cs=(f x).toArray) (hk:(f x).length=k):Mine k f e H H' ⟨some ⟨b,0,none⟩,1,1⟩ [x]:=by
 subst hH hc
 refine .inr ⟨b,hb,rfl,Nat.le_refl _,rfl,_,Hp.put_same _ _ _,by simp [hk],?_⟩
 simp [hk,List.take_of_length_le]
set_option maxHeartbeats 2000000 in
theorem refSame30 {H:Hp} {a b:Slc} {xs ys:List Ld} (ha:Rd 3 fL H a xs) (hb:Rd 3 fL H b ys) (h63:xs.length≤1000000000):Qf Tryz.prog F.pelotonref30_Same #[a.v,b.v] H (.bool (xs==ys)):=by
 have an:(a.n:Int)=xs.length:=by have:=ha.len; omega
 have bn:(b.n:Int)=ys.length:=by have:=hb.len; omega
 refine pelotonref30_Same_vc ?_
 rw [an,bn]
 refine ⟨fun h=>⟨?_,Hp.le_refl _⟩,fun h=>?_⟩
 ·have h:(xs.length:Int)≠ys.length:=bne_iff_ne.1 h
  have:¬ xs=ys:=fun e=>h (by rw [e])
  congr 1; exact (beq_eq_false_iff_ne.2 this).symm
 have h:(xs.length:Int)=ys.length:=bne_eq_false_iff_eq.1 h
 refine upto (N:=(xs.length:Int)) (J:=fun n=>∀ j,j<n.toNat→xs.getD j zLd=ys.getD j zLd) (by omega) (fun j hj=>by simp at hj) fun n h0 h1 hJ=>⟨fun hn=>?_,fun hn=>⟨?_,Hp.le_refl _⟩⟩
 ·have hn:n<xs.length:=of_decide_eq_true hn
  refine ⟨ha.inS h0 hn,_,_,_,RdLd.get ha h0 hn,hb.inS h0 (by omega),_,_,_,RdLd.get hb h0 (by omega),fun hc=>⟨?_,Hp.le_refl _⟩,fun hc=>?_⟩
  ·have:¬ xs=ys:=fun e=>by rw [e] at hc; simp at hc
   congr 1; exact (beq_eq_false_iff_ne.2 this).symm
  ·refine upto.nx h0 hn (by omega) fun j hj=>?_
   by_cases hjn:j<n.toNat
   ·exact hJ j hjn
   ·rw [show j=n.toNat by omega]
    rw [Bool.not_eq_false',Bool.and_eq_true,Bool.and_eq_true,beq_iff_eq,beq_iff_eq,beq_iff_eq] at hc
    exact Prod.ext (Prod.ext hc.1.1 hc.1.2) hc.2
 ·have hn:¬ n<xs.length:=of_decide_eq_false hn
  have:xs=ys:=by
   apply List.ext_getElem?
   intro j
   by_cases hj:j<xs.length
   ·have:=hJ j (by omega)
    rw [List.getD_eq_getElem?_getD,List.getD_eq_getElem?_getD,List.getElem?_eq_getElem hj,List.getElem?_eq_getElem (show j<ys.length by omega)] at this
    rw [List.getElem?_eq_getElem hj,List.getElem?_eq_getElem (show j<ys.length by omega)]
    exact congrArg some this
   ·rw [List.getElem?_eq_none (by omega),List.getElem?_eq_none (by omega)]
  congr 1; exact (beq_iff_eq.2 this).symm

/-! ### Who reigns -/
def ldsM (r:List Ld):Int:=if r.length=0∨ldOk r=false then 8 else 0
theorem ldsM_zero {r:List Ld}:ldsM r=0↔r.length≠0∧ldOk r=true:=by
 unfold ldsM
 split
 ·rename_i h
  constructor
  ·intro h; cases h
  ·rintro ⟨h1,h2⟩; rcases h with h | h
   ·exact absurd h h1
   ·rw [h2] at h; cases h
 ·rename_i h
  refine ⟨fun _=>⟨fun e=>h (.inl e),?_⟩,fun _=>rfl⟩
  cases hx:ldOk r with
  | true=>rfl
  | false=>exact absurd (.inr hx) h
theorem ldsM_bad {r:List Ld} (h:¬ ldOk r=true):ldsM r=8:=by
 unfold ldsM; rw [if_pos]; right
 cases hx:ldOk r with
 | true=>exact absurd hx h
 | false=>rfl
set_option maxHeartbeats 2000000 in
theorem refLeads30 {H:Hp} {u:Slc} {r:List Ld} (hr:Rd 3 fL H u r) (ft:∀ x∈r,fitR x.1) (hl:r.length≤1000000):Qf Tryz.prog F.pelotonref30_Leads #[u.v] H (.int .i64 (ldsM r)):=by
 have un:(u.n:Int)=r.length:=by have:=hr.len; omega
 refine pelotonref30_Leads_vc ?_
 rw [un]
 refine ⟨fun h=>⟨?_,Hp.le_refl _⟩,fun h=>?_⟩
 ·have h:(r.length:Int)=0:=beq_iff_eq.1 h
  unfold ldsM; rw [if_pos (.inl (by omega))]
 have h:(r.length:Int)≠0:=beq_eq_false_iff_ne.1 h
 refine upto (N:=(r.length:Int)) (J:=fun n=>∀ j,j<n.toNat→okR (r.getD j zLd).1) (by omega) (fun j hj=>by simp at hj) fun n h0 h1 hJ=>⟨fun hn=>?_,fun hn=>?_⟩
 ·have hn:n<r.length:=of_decide_eq_true hn
  refine ⟨hr.inS h0 hn,_,_,RdLd.getT hr h0 hn,_,refRCheck (ft _ (mem_getL (by omega))),fun hc=>⟨?_,Hp.le_refl _⟩,fun hc=>?_⟩
  ·rw [ldsM_bad]
   intro hk
   have:=(ldOk_iff.1 hk).1 n.toNat (by omega)
   rw [chkR_ok this] at hc; simp at hc
  ·refine upto.nx h0 hn (by omega) fun j hj=>?_
   by_cases hjn:j<n.toNat
   ·exact hJ j hjn
   ·rw [show j=n.toNat by omega]; exact chkR_zero.1 (bne_eq_false_iff_eq.1 hc)
 have hn:¬ n<r.length:=of_decide_eq_false hn
 have hJ:∀ j,j<r.length→okR (r.getD j zLd).1:=fun j hj=>hJ j (by omega)
 refine ⟨fun n H'=>H'=H∧1≤n∧n≤r.length∧∀ j,j+1<n.toNat→cmpR (r.getD j zLd).1 (r.getD (j+1) zLd).1<0,fun n _=>((r.length:Int)-n).toNat,⟨rfl,by omega,by omega,fun j hj=>by omega⟩,?_⟩
 rintro n H11 ⟨rfl,k0,k1,hK⟩
 refine ⟨fun hn=>?_,fun hn=>⟨?_,Hp.le_refl _⟩⟩
 ·have hn:n<r.length:=of_decide_eq_true hn
  have e1:(n-1).toNat+1=n.toNat:=by omega
  refine ⟨by unfold inI; omega,hr.inS (by omega) (by omega),_,_,RdLd.getT hr (i:=n-1) (by omega) (by omega),hr.inS (by omega) hn,_,_,RdLd.getT hr (i:=n) (by omega) hn,_,refCompareR (hJ _ (by omega)) (hJ _ (by omega)),fun hc=>⟨?_,Hp.le_refl _⟩,fun hc=>⟨by unfold inI; omega,⟨rfl,by omega,by omega,fun j hj=>?_⟩,by dsimp only; omega⟩⟩
  ·have hc:=of_decide_eq_true hc
   rw [ldsM_bad]
   intro hk
   have:=(ldOk_iff.1 hk).2 (n-1).toNat (by omega)
   rw [e1] at this; omega
  ·have hc:=of_decide_eq_false hc
   by_cases hjn:j+1<n.toNat
   ·exact hK j hjn
   ·rw [show j=(n-1).toNat by omega,e1]; omega
 ·have hn:¬ n<r.length:=of_decide_eq_false hn
  rw [ldsM_zero.2 ⟨by omega,ldOk_iff.2 ⟨hJ,fun j hj=>hK j (by omega)⟩⟩]
abbrev whoV (r:List Ld) (t:Int × Int):Value:=.tuple #[.int .i64 (whoM r t).1,.int .i64 (whoM r t).2]
theorem whoM_bad {r:List Ld} {t:Int × Int} (h:ldsM r≠0∨¬ okR t):whoM r t=(0,8):=by
 unfold whoM
 rw [if_pos]
 rcases h with h | h
 ·by_cases h0:r.length=0
  ·exact .inl h0
  ·right; right
   cases hx:ldOk r with
   | false=>rfl
   | true=>exact absurd (ldsM_zero.2 ⟨h0,hx⟩) h
 ·exact .inr (.inl h)
theorem whoM_past {r:List Ld} {t:Int × Int} (h:ldsM r=0) (ot:okR t) (hc:cmpR t (r.getD 0 zLd).1<0):whoM r t=(0,44):=by
 obtain ⟨h1,h2⟩:=ldsM_zero.1 h
 unfold whoM
 rw [if_neg,if_pos hc]
 rintro (h | h | h)
 ·exact h1 h
 ·exact h ot
 ·rw [h2] at h; cases h
theorem whoM_ok {r:List Ld} {t:Int × Int} (h:ldsM r=0) (ot:okR t) (hc:¬ cmpR t (r.getD 0 zLd).1<0):whoM r t=(whoI r t,0):=by
 obtain ⟨h1,h2⟩:=ldsM_zero.1 h
 unfold whoM
 rw [if_neg,if_neg hc]
 rintro (h | h | h)
 ·exact h1 h
 ·exact h ot
 ·rw [h2] at h; cases h
set_option maxHeartbeats 2000000 in
theorem refWho {H:Hp} {u:Slc} {r:List Ld} {t:Int × Int} (hr:Rd 3 fL H u r) (ft:∀ x∈r,fitR x.1) (ht:fitR t) (hl:r.length≤1000000):Qf Tryz.prog F.pelotonref30_Who #[u.v,raW t] H (whoV r t):=by
 have un:(u.n:Int)=r.length:=by have:=hr.len; omega
 unfold whoV
 refine pelotonref30_Who_vc ?_
 rw [un]
 refine ⟨_,refLeads30 hr ft hl,_,fun _=>refRCheck ht,fun hc=>?_,fun hc=>?_⟩
 ·rw [whoM_bad]
  ·exact ⟨rfl,Hp.le_refl _⟩
  ·rw [Bool.or_eq_true,bne_iff_ne,bne_iff_ne] at hc
   rcases hc with hc | hc
   ·exact .inl hc
   ·exact .inr fun o=>hc (chkR_ok o)
 rw [Bool.or_eq_false_iff,bne_eq_false_iff_eq,bne_eq_false_iff_eq] at hc
 obtain ⟨h1,h2⟩:=hc
 have ot:=chkR_zero.1 h2
 obtain ⟨r0,rk⟩:=ldsM_zero.1 h1
 obtain ⟨k1,k2⟩:=ldOk_iff.1 rk
 refine ⟨hr.inS (by omega) (by omega),_,_,RdLd.getT hr (i:=0) (by omega) (by omega),_,refCompareR ot (k1 _ (by show 0<_; omega)),fun hc=>?_,fun hc=>?_⟩
 ·rw [whoM_past h1 ot (of_decide_eq_true hc)]; exact ⟨rfl,Hp.le_refl _⟩
 rw [whoM_ok h1 ot (of_decide_eq_false hc)]
 refine ⟨fun id n H'=>H'=H∧0≤n∧n≤r.length∧id=whoI (r.take n.toNat) t,fun _ n _=>((r.length:Int)-n).toNat,⟨rfl,Int.le_refl _,by omega,rfl⟩,?_⟩
 rintro id n H10 ⟨rfl,h0,hn1,rfl⟩
 refine ⟨fun hn=>?_,fun hn=>⟨?_,Hp.le_refl _⟩⟩
 ·have hn:n<r.length:=of_decide_eq_true hn
  have e1:(n+1).toNat=n.toNat+1:=by omega
  refine ⟨hr.inS h0 hn,_,_,RdLd.getT hr h0 hn,_,refCompareR (k1 _ (by omega)) ot,fun hc=>⟨hr.inS h0 hn,_,RdLd.getI hr h0 hn,by unfold inI; omega,⟨rfl,by omega,by omega,?_⟩,by dsimp only; omega⟩,fun hc=>⟨by unfold inI; omega,⟨rfl,by omega,by omega,?_⟩,by dsimp only; omega⟩⟩
  ·rw [e1,take_snocL (by omega),whoI_snoc,if_pos (of_decide_eq_true hc)]
  ·rw [e1,take_snocL (by omega),whoI_snoc,if_neg (of_decide_eq_false hc)]
 ·have hn:¬ n<r.length:=of_decide_eq_false hn
  rw [show n.toNat=r.length by omega,List.take_length]

theorem kthM_range {l:Ls} {k:Int} (h:(kthM l k).2=0):okLs l∧0≤k∧k<l.ord.length∧(kthM l k).1=l.ord.getD k.toNat 0:=by
 unfold kthM at h ⊢
 by_cases ok:okLs l
 ·rw [if_pos ok] at h ⊢
  by_cases h0:l.ord.length=0
  ·rw [if_pos h0] at h; cases h
  ·rw [if_neg h0] at h ⊢
   by_cases hb:k<0∨k≥l.ord.length
   ·rw [if_pos hb] at h; cases h
   ·rw [if_neg hb]; exact ⟨ok,by omega,by omega,rfl⟩
 ·rw [if_neg ok] at h; cases h
theorem reignM_until {l:Ls} {k:Int} {to:Int × Int} (h:untilL l to≠0):reignM l k to=([],untilL l to):=by
 unfold reignM
 by_cases ok:okLs l
 ·rw [untilL_ok ok] at h ⊢; rw [if_pos ok,if_pos h]
 ·rw [untilL_bad ok,if_neg ok]
theorem untilL_zero {l:Ls} {to:Int × Int} (h:untilL l to=0):okLs l∧untilK l.ck to=0:=by
 by_cases ok:okLs l
 ·rw [untilL_ok ok] at h; exact ⟨ok,h⟩
 ·rw [untilL_bad ok] at h; cases h
theorem reignM_kth {l:Ls} {k:Int} {to:Int × Int} (ok:okLs l) (hu:untilK l.ck to=0) (h:(kthM l k).2≠0):reignM l k to=([],(kthM l k).2):=by
 unfold reignM; rw [if_pos ok,if_neg (fun e=>e hu),if_pos h]
theorem reignM_go {l:Ls} {k:Int} {to:Int × Int} (ok:okLs l) (hu:untilK l.ck to=0) (h:(kthM l k).2=0):reignM l k to=(reignL l k.toNat to,0):=by
 unfold reignM; rw [if_pos ok,if_neg (fun e=>e hu),if_neg (fun e=>e h)]
theorem refLead_len {key:Int × Int→Int} {out:List Ld} {t:Int × Int} (h:out.length≠0):(refLead key out t).length≠0∧(refLead key out t).length≤out.length+1:=by
 unfold refLead
 split
 ·simp
 ·exact ⟨h,by omega⟩
theorem foldLead_len {key:Int × Int→Int}:∀ (ts:List Pr) (out:List Ld),out.length≠0→(ts.foldl (fun o x=>refLead key o x.2.2) out).length≠0∧(ts.foldl (fun o x=>refLead key o x.2.2) out).length≤out.length+ts.length
 | [],out,h=>⟨h,Nat.le_refl _⟩
 | x :: ts,out,h=>by
  obtain ⟨h1,h2⟩:=refLead_len (key:=key) (t:=x.2.2) h
  obtain ⟨h3,h4⟩:=foldLead_len ts (refLead key out x.2.2) h1
  rw [List.foldl_cons,List.length_cons]
  exact ⟨h3,by omega⟩
theorem betweenM_small {f:List Pt} (of:okF f) (a b:Int × Int):(betweenM f a b).length≤4096:=by
 have h0:=List.length_filter_le (fun x:Pr=>inT a b x.2.2) (metsM f)
 have h1:(metsM f).length=(upM4 f f.length).length:=by unfold metsM; rw [(sortP_perm _).length_eq,upM4_end]
 have h2:=upM4_len f f.length
 have h3:f.length * f.length≤64 * 64:=Nat.mul_le_mul of.len of.len
 unfold betweenM
 omega
theorem reignL_small {l:Ls} (ok:okLs l) (ix:Nat) (to:Int × Int):(reignL l ix to).length≤5000:=by
 have h1:=(foldLead_len (key:=keyM l.ck.f ix) (betweenM l.ck.f l.ck.now to) [(l.ck.now,keyM l.ck.f ix l.ck.now)] (by simp)).2
 have h2:=betweenM_small ok.ck.f l.ck.now to
 unfold reignL
 simp at h1
 omega
set_option maxHeartbeats 4000000 in
theorem refReign {H:Hp} {u:Lu} {l:Ls} {k:Int} {to:Int × Int} (r:RdL H u l) (fl:fitL l) (ht:fitR to) :
  Go.Eng.Fn Tryz.prog F.pelotonref30_Reign #[lsV u l,.int .i64 k,raW to] H fun v H'=>∃ s:Slc,v=.tuple #[s.v,.int .i64 (reignM l k to).2]∧Hp.le H H'∧Mine 3 fL T.api_Lead H H' s (reignM l k to).1:=by
 refine pelotonref30_Reign_vc ⟨_,rUntil25 r fl ht,fun h=>?_,fun h=>⟨_,_,refKth r fl,fun h2=>?_,fun h2 b4 H5 hb hH=>?_⟩⟩
 ·rw [reignM_until (bne_iff_ne.1 h)]; exact ⟨zs,rfl,Hp.le_refl _,.inl ⟨rfl,rfl⟩⟩
 ·obtain ⟨ok,hu⟩:=untilL_zero (bne_eq_false_iff_eq.1 h)
  rw [reignM_kth ok hu (bne_iff_ne.1 h2)]; exact ⟨zs,rfl,Hp.le_refl _,.inl ⟨rfl,rfl⟩⟩
 obtain ⟨ok,hu⟩:=untilL_zero (bne_eq_false_iff_eq.1 h)
 have h2:=bne_eq_false_iff_eq.1 h2
 rw [reignM_go ok hu h2]
 obtain ⟨_,k0,k1,ek⟩:=kthM_range h2
 obtain ⟨_,ot,_⟩:=untilK_zero.1 hu
 have l5:Hp.le H H5:=by subst hH; exact Hp.put_le _ _ hb
 have ekey:(kthM l k).1=keyM l.ck.f k.toNat l.ck.now:=by rw [ek]; unfold keyM; rw [← ok.ord]
 have m0:Mine 3 fL T.api_Lead H H5 ⟨some ⟨b4,0,none⟩,1,1⟩ [(l.ck.now,keyM l.ck.f k.toNat l.ck.now)]:=Mine.one (x:=(l.ck.now,keyM l.ck.f k.toNat l.ck.now)) hb hH (by rw [ekey]; rfl) rfl
 have lord:l.ord.length=l.ck.f.length:=by rw [ok.ord,ordM_len]
 refine (refBetween4 (r.k.f.le l5) ok.ck.f ok.ck.now ot).mono fun v H7 ⟨u8,hv,l7,m7⟩=>⟨u8,hv,?_⟩
 have sB:=betweenM_small ok.ck.f l.ck.now to
 have okB:=betweenM_ok ok.ck.f (a:=l.ck.now) (b:=to)
 have un:(u8.n:Int)=(betweenM l.ck.f l.ck.now to).length:=by have:=m7.rdM.len; omega
 rw [un]
 unfold reignL
 generalize betweenM l.ck.f l.ck.now to=B at *
 have len0:∀ n,((B.take n).foldl (fun o x=>refLead (keyM l.ck.f k.toNat) o x.2.2) [(l.ck.now,keyM l.ck.f k.toNat l.ck.now)]).length≠0∧((B.take n).foldl (fun o x=>refLead (keyM l.ck.f k.toNat) o x.2.2) [(l.ck.now,keyM l.ck.f k.toNat l.ck.now)]).length≤5000:=fun n=>by
  obtain ⟨h1,h2⟩:=foldLead_len (key:=keyM l.ck.f k.toNat) (B.take n) [(l.ck.now,keyM l.ck.f k.toNat l.ck.now)] (by simp)
  have:=List.length_take_le n B
  simp at h2
  exact ⟨h1,by omega⟩
 have sep0:Sep u8 ⟨some ⟨b4,0,none⟩,1,1⟩:=(Sep.of m0.isOld m7.isNew).symm
 refine ⟨fun s n H'=>0≤n∧n≤B.length∧Hp.le H H'∧Rd 4 fM H' u8 B∧Old H' u8∧Sep u8 s∧Mine 3 fL T.api_Lead H H' s ((B.take n.toNat).foldl (fun o x=>refLead (keyM l.ck.f k.toNat) o x.2.2) [(l.ck.now,keyM l.ck.f k.toNat l.ck.now)]),fun _ n _=>((B.length:Int)-n).toNat,⟨Int.le_refl _,by omega,Hp.le_trans l5 l7,m7.rdM,m7.isOld,sep0,m0.le l7⟩,?_⟩
 rintro s n H13 ⟨n0,n1,l13,r13,o13,s13,m13⟩
 refine ⟨fun hn=>?_,fun hn=>?_⟩
 ·have hn:n<B.length:=of_decide_eq_true hn
  have hin:n.toNat<B.length:=by omega
  have e1:(n+1).toNat=n.toNat+1:=by omega
  have ox:=(okB _ (mem_getP hin)).1
  have estep:(B.take (n+1).toNat).foldl (fun o x=>refLead (keyM l.ck.f k.toNat) o x.2.2) [(l.ck.now,keyM l.ck.f k.toNat l.ck.now)]=refLead (keyM l.ck.f k.toNat) ((B.take n.toNat).foldl (fun o x=>refLead (keyM l.ck.f k.toNat) o x.2.2) [(l.ck.now,keyM l.ck.f k.toNat l.ck.now)]) (B.getD n.toNat zPr).2.2:=by
   rw [e1,take_snocP hin,List.foldl_append]; rfl
  obtain ⟨len1,len2⟩:=len0 n.toNat
  obtain ⟨out,hout⟩:∃ out,out=(B.take n.toNat).foldl (fun o x=>refLead (keyM l.ck.f k.toNat) o x.2.2) [(l.ck.now,keyM l.ck.f k.toNat l.ck.now)]:=⟨_,rfl⟩
  rw [← hout] at m13 len1 len2 estep
  refine ⟨r13.inS n0 hn,_,_,RdM.getT r13 n0 hn,(refOrdered (r.k.f.le l13) ok.ck.f ox).mono fun v16 H17 ⟨a,hv16,l17,ma⟩=>⟨l17,a,hv16,?_⟩⟩
  have oln:(ordM l.ck.f (B.getD n.toNat zPr).2.2).length=l.ck.f.length:=ordM_len _ _
  have m17:=m13.le l17
  have r17:=r13.le l17
  have sn:(s.n:Int)=out.length:=by have:=m17.rdLd.len; omega
  have el:((s.n:Int)-1).toNat=out.length-1:=by omega
  have gl:=RdLd.getI m17.rdLd (i:=(s.n:Int)-1) (by omega) (by omega)
  rw [el] at gl
  refine ⟨ma.rdI.inS k0 (by omega),_,RdI.get ma.rdI k0 (by omega),by unfold inI; omega,m17.rdLd.inS (by omega) (by omega),_,gl,fun hc=>?_,fun hc=>?_⟩
  ·have hc:=bne_iff_ne.1 hc
   refine ⟨r17.inS n0 hn,_,_,RdM.getT r17 n0 hn,fun b H24 hb24 hH24=>?_⟩
   refine (append1 (k:=3) (f:=fL) (bytes:=24) (x:=((B.getD n.toNat zPr).2.2,keyM l.ck.f k.toNat (B.getD n.toNat zPr).2.2)) (by kernel_rfl) (by decide) (fun _=>rfl) fL_one (Hp.le_trans l13 l17) m17 hb24 hH24 rfl (by omega) (by omega)).mono fun v H26 ⟨w,hw,l26,m26,c26,x26⟩=>⟨w,hw,by unfold inI; omega,⟨by omega,by omega,l26,r17.chg c26 s13,(o13.le l17).chg c26 s13,(s13.symm.ext (o13.le l17) x26).symm,?_⟩,by dsimp only; omega⟩
   rw [estep]
   unfold refLead
   rw [if_pos (show keyM l.ck.f k.toNat (B.getD n.toNat zPr).2.2≠(lastL out).2 from hc)]; exact m26
  ·have hc:=bne_eq_false_iff_eq.1 hc
   refine ⟨by unfold inI; omega,⟨by omega,by omega,Hp.le_trans l13 l17,r17,o13.le l17,s13,?_⟩,by dsimp only; omega⟩
   rw [estep]
   unfold refLead
   rw [if_neg (show ¬ keyM l.ck.f k.toNat (B.getD n.toNat zPr).2.2≠(lastL out).2 from fun e=>e hc)]; exact m17
 ·have hn:¬ n<B.length:=of_decide_eq_false hn
  rw [show n.toNat=B.length by omega,List.take_length] at m13
  exact ⟨s,rfl,l13,m13⟩

/-! ### Who,by the program -/
theorem cmpR_flip (a b:Int × Int):cmpR b a=0-cmpR a b:=(cmpI_neg (x:=a.1 * b.2) (y:=b.1 * a.2)).symm
theorem pickWho1 {H:Hp} {x:Ld} {t:Int × Int} {b:Nat} (hc:Cel H b #[.int .i64 t.1,.int .i64 t.2] T.api_Ratio) (ox:okR x.1) (ot:okR t) :
  Qf Tryz.prog F.pick_Who_1 #[ldV x,.pointer (some ⟨b,0,none⟩)] H (.bool (decide (cmpR x.1 t>0))):=by
 have e:cmpM x.1 t=(cmpR x.1 t,0):=if_pos ⟨ox,ot⟩
 have q:=ratioCmp (H:=H) ox.fit ot.fit
 rw [e] at q
 have c0:H.at ((Addr.mk b 0 none).add 0)=some (.int .i64 t.1):=by rw [add_zero',Cel.at hc]; rfl
 have c1:H.at ((Addr.mk b 0 none).add 1)=some (.int .i64 t.2):=by
  have:(Addr.mk b 0 none).add 1=Addr.mk b 1 none:=rfl
  rw [this,Cel.at hc]; rfl
 exact pick_Who_1_vc ⟨_,_,⟨c0,c1⟩,_,_,q,rfl,Hp.le_refl _⟩
def fiL (p:Ld→Bool) (m:List Ld):Int:=match m.findIdx? p with
 | some i=>(i:Int)
 | none=>-1
theorem fiL_hit {p:Ld→Bool} {m:List Ld} {i:Nat} (hi:i<m.length) (hp:p (m.getD i zLd)=true) (hj:∀ j,j<i→p (m.getD j zLd)=false):fiL p m=i:=by
 have:m.findIdx? p=some i:=by
  rw [List.findIdx?_eq_some_iff_getElem]
  refine ⟨hi,?_,fun j hji=>?_⟩
  ·rw [List.getD_eq_getElem?_getD,List.getElem?_eq_getElem hi] at hp; exact hp
  ·have:=hj j hji
   rw [List.getD_eq_getElem?_getD,List.getElem?_eq_getElem (by omega)] at this
   simpa using this
 unfold fiL; rw [this]
theorem fiL_miss {p:Ld→Bool} {m:List Ld} (hj:∀ j,j<m.length→p (m.getD j zLd)=false):fiL p m = -1:=by
 have:m.findIdx? p=none:=by
  rw [List.findIdx?_eq_none_iff]
  intro x hx
  obtain ⟨j,hl,e⟩:=List.mem_iff_getElem.1 hx
  have:=hj j hl
  rwa [List.getD_eq_getElem?_getD,List.getElem?_eq_getElem hl,Option.getD_some,e] at this
 unfold fiL; rw [this]
theorem fiL_out (p:Ld→Bool) (m:List Ld):(∃ i,fiL p m=(i:Nat)∧i<m.length∧p (m.getD i zLd)=true∧∀ j,j<i→p (m.getD j zLd)=false)∨(fiL p m = -1∧∀ j,j<m.length→p (m.getD j zLd)=false):=by
 cases h:m.findIdx? p with
 | none =>
  right
  refine ⟨by unfold fiL; rw [h],fun j hj=>?_⟩
  rw [List.getD_eq_getElem?_getD,List.getElem?_eq_getElem hj]
  exact List.findIdx?_eq_none_iff.1 h _ (List.getElem_mem hj)
 | some i =>
  left
  obtain ⟨hi,hp,hj⟩:=List.findIdx?_eq_some_iff_getElem.1 h
  refine ⟨i,by unfold fiL; rw [h],hi,?_,fun j hji=>?_⟩
  ·rw [List.getD_eq_getElem?_getD,List.getElem?_eq_getElem hi]; exact hp
  ·rw [List.getD_eq_getElem?_getD,List.getElem?_eq_getElem (by omega)]
   simpa using hj j hji
theorem idxLead {H:Hp} {u:Slc} {m:List Ld} {fv:Value} {p:Ld→Bool} (r:Rd 3 fL H u m) (hf:∀ x∈m,QfV Tryz.prog fv [ldV x] H (.bool (p x))) (hl:m.length≤1000000) :
  Qf Tryz.prog F.slices_IndexFunc_api_Lead_api_Lead #[u.v,fv] H (.int .i64 (fiL p m)):=by
 have wn:(u.n:Int)=m.length:=by have:=r.len; omega
 refine slices_IndexFunc_api_Lead_api_Lead_vc ?_
 rw [wn]
 refine upto (N:=(m.length:Int)) (J:=fun n=>∀ j,j<n.toNat→p (m.getD j zLd)=false) (by omega) (fun j hj=>by simp at hj) fun n h0 h1 hJ=>⟨fun hn=>?_,fun hn=>⟨?_,Hp.le_refl _⟩⟩
 ·have hn:n<m.length:=of_decide_eq_true hn
  have hin:n.toNat<m.length:=by omega
  refine ⟨r.inS h0 hn,_,_,_,RdLd.get r h0 hn,_,hf _ (mem_getL hin),fun hc=>⟨?_,Hp.le_refl _⟩,fun hc=>?_⟩
  ·rw [fiL_hit hin hc hJ,Int.toNat_of_nonneg h0]
  ·refine upto.nx h0 hn (by omega) fun j hj=>?_
   by_cases hjn:j<n.toNat
   ·exact hJ j hjn
   ·rw [show j=n.toNat by omega]; exact hc
 ·have hn:¬ n<m.length:=of_decide_eq_false hn
  rw [fiL_miss fun j hj=>hJ j (by omega)]
set_option maxHeartbeats 4000000 in
theorem pickWho {H:Hp} {u:Slc} {r:List Ld} {t:Int × Int} (hr0:Rd 3 fL H u r) (ft:∀ x∈r,fitR x.1) (ht:fitR t) (hl:r.length≤1000000):Qf Tryz.prog F.pick_Who #[u.v,raW t] H (whoV r t):=by
 have un:(u.n:Int)=r.length:=by have:=hr0.len; omega
 unfold whoV
 refine pick_Who_vc ?_
 rw [un]
 intro b1 H2 hb hH
 have l2:Hp.le H H2:=by subst hH; exact Hp.put_le _ _ hb
 have hr:=hr0.le l2
 have hc:Cel H2 b1 #[.int .i64 t.1,.int .i64 t.2] T.api_Ratio:=by subst hH; exact Cel.put
 have c0:H2.at ((Addr.mk b1 0 none).add 0)=some (.int .i64 t.1):=by rw [add_zero',Cel.at hc]; rfl
 have c1:H2.at ((Addr.mk b1 0 none).add 1)=some (.int .i64 t.2):=by
  have:(Addr.mk b1 0 none).add 1=Addr.mk b1 1 none:=rfl
  rw [this,Cel.at hc]; rfl
 have pos:∀ {c:Bool},(!((r.length:Int)==0||c))=true→0<r.length:=fun {c} h=>by
  rw [Bool.not_eq_true',Bool.or_eq_false_iff,beq_eq_false_iff_ne] at h; omega
 refine ⟨_,_,fun _=>⟨c0,c1⟩,_,fun _=>ratioCheck ht,fun h=>hr.inS (by omega) (by have:=pos h; omega),(r.getD 0 zLd).1.1,(r.getD 0 zLd).1.2,fun h=>RdLd.getT hr (i:=0) (by omega) (by have:=pos h; omega),_,fun h=>ratioCheck (ft _ (mem_getL (pos h))),fun h=>⟨?_,l2⟩,fun h=>?_⟩
 ·rw [whoM_bad]
  rw [Bool.or_eq_true,Bool.or_eq_true,beq_iff_eq,bne_iff_ne,bne_iff_ne] at h
  rcases h with (h | h) | h
  ·left; intro e; exact (ldsM_zero.1 e).1 (by omega)
  ·exact .inr fun o=>h (chkR_ok o)
  ·by_cases h0:r.length=0
   ·left; intro e; exact (ldsM_zero.1 e).1 h0
   ·left; intro e; exact h (chkR_ok ((ldOk_iff.1 (ldsM_zero.1 e).2).1 0 (by omega)))
 rw [Bool.or_eq_false_iff,Bool.or_eq_false_iff,beq_eq_false_iff_ne,bne_eq_false_iff_eq,bne_eq_false_iff_eq] at h
 obtain ⟨⟨h0,h1⟩,h2⟩:=h
 have ot:=chkR_zero.1 h1
 have o0:=chkR_zero.1 h2
 refine ⟨fun n H'=>H'=H2∧1≤n∧n≤r.length∧(∀ j,j<n.toNat→okR (r.getD j zLd).1)∧∀ j,j+1<n.toNat→cmpR (r.getD j zLd).1 (r.getD (j+1) zLd).1<0,fun n _=>((r.length:Int)-n).toNat,⟨rfl,by omega,by omega,fun j hj=>by rw [show j=0 by omega]; exact o0,fun j hj=>by omega⟩,?_⟩
 rintro n H12 ⟨rfl,k0,k1,hJ,hK⟩
 refine ⟨fun hn=>?_,fun hn=>?_⟩
 ·have hn:n<r.length:=of_decide_eq_true hn
  have e1:(n-1).toNat+1=n.toNat:=by omega
  have op:=hJ (n-1).toNat (by omega)
  refine ⟨by unfold inI; omega,hr.inS (by omega) (by omega),_,_,RdLd.getT hr (i:=n-1) (by omega) (by omega),hr.inS (by omega) hn,_,_,RdLd.getT hr (i:=n) (by omega) hn,_,_,ratioCmp op.fit (ft _ (mem_getL (by omega))),fun hx=>⟨?_,l2⟩,fun hx=>?_⟩
  ·rw [whoM_bad]
   left
   intro e
   obtain ⟨g1,g2⟩:=ldOk_iff.1 (ldsM_zero.1 e).2
   have g3:=g2 (n-1).toNat (by omega)
   rw [e1] at g3
   have e2:cmpM (r.getD (n-1).toNat zLd).1 (r.getD n.toNat zLd).1=(cmpR (r.getD (n-1).toNat zLd).1 (r.getD n.toNat zLd).1,0):=if_pos ⟨op,g1 _ (by omega)⟩
   rw [e2] at hx
   rw [Bool.or_eq_true,decide_eq_true_eq,bne_self_eq_false] at hx
   rcases hx with hx | hx
   ·cases hx
   ·omega
  ·rw [Bool.or_eq_false_iff,decide_eq_false_iff_not,bne_eq_false_iff_eq] at hx
   have on:okR (r.getD n.toNat zLd).1:=by
    by_cases o:okR (r.getD n.toNat zLd).1
    ·exact o
    ·have:cmpM (r.getD (n-1).toNat zLd).1 (r.getD n.toNat zLd).1=(0,8):=if_neg fun h=>o h.2
     rw [this] at hx; cases hx.1
   have e2:cmpM (r.getD (n-1).toNat zLd).1 (r.getD n.toNat zLd).1=(cmpR (r.getD (n-1).toNat zLd).1 (r.getD n.toNat zLd).1,0):=if_pos ⟨op,on⟩
   rw [e2] at hx
   refine ⟨by unfold inI; omega,⟨rfl,by omega,by omega,fun j hj=>?_,fun j hj=>?_⟩,by dsimp only; omega⟩
   ·by_cases hjn:j<n.toNat
    ·exact hJ j hjn
    ·rw [show j=n.toNat by omega]; exact on
   ·by_cases hjn:j+1<n.toNat
    ·exact hK j hjn
    ·rw [show j=(n-1).toNat by omega,e1]; have:=hx.2; omega
 ·have hn:¬ n<r.length:=of_decide_eq_false hn
  have rk:ldOk r=true:=ldOk_iff.2 ⟨fun j hj=>hJ j (by omega),fun j hj=>hK j (by omega)⟩
  have hz:ldsM r=0:=ldsM_zero.2 ⟨by omega,rk⟩
  have ok1:=(ldOk_iff.1 rk).1
  have hq:∀ x∈r,QfV Tryz.prog (.func (.func F.pick_Who_1) #[] #[.pointer (some ⟨b1,0,none⟩)]) [ldV x] H12 (.bool (decide (cmpR x.1 t>0))):=fun x hx=>by
   obtain ⟨j,hj,e⟩:=List.mem_iff_getElem.1 hx
   have ox:=ok1 j hj
   rw [List.getD_eq_getElem?_getD,List.getElem?_eq_getElem hj,Option.getD_some,e] at ox
   exact ⟨_,#[],_,rfl,pick_Who_1_callable,pickWho1 hc ox ot⟩
  refine ⟨_,idxLead hr hq hl,fun hi=>⟨?_,l2⟩,fun hi=>⟨fun hm=>?_,fun hm=>?_⟩⟩
  ·rw [beq_iff_eq] at hi
   rcases fiL_out (fun x:Ld=>decide (cmpR x.1 t>0)) r with ⟨i,e,g1,g2,g3⟩ | ⟨e,_⟩
   ·rw [hi] at e
    have e:i=0:=by omega
    subst e
    have g2:=of_decide_eq_true g2
    rw [whoM_past hz ot (by rw [cmpR_flip]; omega)]
   ·rw [hi] at e; cases e
  ·rw [beq_iff_eq] at hm
   rcases fiL_out (fun x:Ld=>decide (cmpR x.1 t>0)) r with ⟨i,e,g1,g2,g3⟩ | ⟨e,g3⟩
   ·rw [hm] at e; omega
   ·refine ⟨by unfold inI; omega,hr.inS (by omega) (by omega),_,RdLd.getI hr (i:=(r.length:Int)-1) (by omega) (by omega),?_,l2⟩
    have g0:=of_decide_eq_false (g3 0 (by omega))
    rw [whoM_ok hz ot (by rw [cmpR_flip]; omega),whoI_first rk ot (n:=r.length) (by omega) (Nat.le_refl _) (fun j hj=>by have:=of_decide_eq_false (g3 j hj); omega) (fun h=>by omega)]
    rw [show ((r.length:Int)-1).toNat=r.length-1 by omega]
  ·rw [beq_eq_false_iff_ne] at hm hi
   rcases fiL_out (fun x:Ld=>decide (cmpR x.1 t>0)) r with ⟨i,e,g1,g2,g3⟩ | ⟨e,_⟩
   ·rw [e] at hm hi ⊢
    refine ⟨by unfold inI; omega,hr.inS (by omega) (by omega),_,RdLd.getI hr (i:=(i:Int)-1) (by omega) (by omega),?_,l2⟩
    have g0:=of_decide_eq_false (g3 0 (by omega))
    rw [whoM_ok hz ot (by rw [cmpR_flip]; omega),whoI_first rk ot (n:=i) (by omega) (by omega) (fun j hj=>by have:=of_decide_eq_false (g3 j hj); omega) (fun h=>of_decide_eq_true g2)]
    rw [show ((i:Int)-1).toNat=i-1 by omega]
   ·exact absurd e hm

theorem unput {Hx:Hp} {L:Nat} {o:Obj} (h:Hx L=some o):∃ H3:Hp,H3 L=none∧Hx=H3.put L o∧∀ k,k≠L→H3 k=Hx k:=by
 refine ⟨fun k=>if k=L then none else Hx k,if_pos rfl,?_,fun k hk=>if_neg hk⟩
 funext k
 by_cases e:k=L
 ·subst e; rw [Hp.put_same,h]
 ·rw [Hp.put_ne _ _ e,if_neg e]
theorem exists_least {Q:Nat→Prop} (h:∃ n,Q n):∃ n,Q n∧∀ m,Q m→n≤m:=by
 obtain ⟨n,hn⟩:=h
 induction n using Nat.strongRecOn with
 | ind n ih =>
  by_cases hm:∃ m,m<n∧Q m
  ·obtain ⟨m,h1,h2⟩:=hm
   exact ih m h1 h2
  ·exact ⟨n,hn,fun m hq=>Nat.le_of_not_lt fun hl=>hm ⟨m,hl,hq⟩⟩
open Classical in
noncomputable def leastQ (Q:Nat→Hp→Prop) (H:Hp):Nat:=if h:∃ n,Q n H then Classical.choose (exists_least h) else 0
theorem leastQ_at {Q:Nat→Hp→Prop} {H:Hp} (h:∃ n,Q n H):Q (leastQ Q H) H:=by
 unfold leastQ; rw [dif_pos h]; exact (Classical.choose_spec (exists_least h)).1
theorem leastQ_le {Q:Nat→Hp→Prop} {H:Hp} {n:Nat} (h:Q n H):leastQ Q H≤n:=by
 unfold leastQ; rw [dif_pos ⟨n,h⟩]; exact (Classical.choose_spec (exists_least ⟨n,h⟩)).2 n h
theorem Slc.v_inj {s t:Slc} (h:s.v=t.v):s=t:=by
 cases s; cases t
 simp only [Slc.v] at h
 injection h with h1 h2 h3
 subst h1 h2 h3; rfl
theorem storeAll {H:Hp} {b:Nat} {cs:Array Value} {T:TypeId} (h:Cel H b cs T) (vs:List Value) (hv:vs.length=cs.size):H.canStore ⟨b,0,none⟩ 0 vs∧H.store ⟨b,0,none⟩ 0 vs=H.put b (.cells vs.toArray T (0,0)):=by
 obtain ⟨can,st⟩:=store_row (b:=b) (off:=0) vs 0 H cs h (by omega)
 refine ⟨can,?_⟩
 rw [st]
 have:cs.toList.drop (0+0+vs.length)=[]:=List.drop_eq_nil_of_le (by rw [Array.length_toList]; omega)
 rw [this]; simp
theorem lsLoads {H:Hp} {b:Nat} {u:Lu} {l:Ls} {T:TypeId} (h:Cel H b (lsC u l) T) :
  H.at ((Addr.mk b 0 none).add 0)=some (.int .i64 l.ck.now.1)∧H.at ((Addr.mk b 0 none).add 1)=some (.int .i64 l.ck.now.2)∧H.at ((Addr.mk b 0 none).add 2)=some u.k.f.v∧H.at ((Addr.mk b 0 none).add 3)=some (.int .i64 l.ck.ct.next) ∧
  H.at ((Addr.mk b 0 none).add 4)=some u.k.cl.v∧H.at ((Addr.mk b 0 none).add 5)=some u.k.u1.v∧H.at ((Addr.mk b 0 none).add 6)=some u.k.u2.v∧H.at ((Addr.mk b 0 none).add 7)=some u.k.u3.v ∧
  H.at ((Addr.mk b 0 none).add 8)=some u.k.u4.v∧H.at ((Addr.mk b 0 none).add 9)=some u.k.u5.v∧H.at ((Addr.mk b 0 none).add 10)=some u.k.d.v∧H.at ((Addr.mk b 0 none).add 11)=some u.o.v∧H.at ((Addr.mk b 0 none).add 12)=some u.n.v:=by
 have g:∀ i v,(lsC u l)[i]?=some v→H.at ((Addr.mk b 0 none).add i)=some v:=fun i v hv=>by
  have:(Addr.mk b 0 none).add i=Addr.mk b i none:=by simp [Addr.add]; exact fun e=>e.symm
  rw [this,Cel.at h,hv]
 exact ⟨g 0 _ rfl,g 1 _ rfl,g 2 _ rfl,g 3 _ rfl,g 4 _ rfl,g 5 _ rfl,g 6 _ rfl,g 7 _ rfl,g 8 _ rfl,g 9 _ rfl,g 10 _ rfl,g 11 _ rfl,g 12 _ rfl⟩
theorem raLoads {H:Hp} {b:Nat} {t:Int × Int} {T:TypeId} (h:Cel H b #[.int .i64 t.1,.int .i64 t.2] T):H.at ((Addr.mk b 0 none).add 0)=some (.int .i64 t.1)∧H.at ((Addr.mk b 0 none).add 1)=some (.int .i64 t.2):=by
 have g:∀ i v,(#[Value.int .i64 t.1,Value.int .i64 t.2])[i]?=some v→H.at ((Addr.mk b 0 none).add i)=some v:=fun i v hv=>by
  have:(Addr.mk b 0 none).add i=Addr.mk b i none:=by simp [Addr.add]; exact fun e=>e.symm
  rw [this,Cel.at h,hv]
 exact ⟨g 0 _ rfl,g 1 _ rfl⟩

/-! ### What is handed round,what holds between two rounds -/
def noHp:Hp:=fun _=>none
theorem noHp_le (H:Hp):Hp.le noHp H:=fun _ _ h=>by cases h
def yL:List (Bool × List Leaf):=[(true,[.int .i64,.int .i64,.sl,.int .i64,.sl,.sl,.sl,.sl,.sl,.sl,.sl,.sl,.sl])]
structure OutS (Hs Hb:Hp) (bo ix:Nat) (ls:List Ls) (H:Hp) (s:Slc):Prop where
 cell:Cel H bo #[s.v] T.s_api_Lead
 mine:Mine 3 fL T.api_Lead Hs H s (ls.foldl (leadS ix) [])
 base:Hp.le Hb H
def InvS (Hs Hb:Hp) (bo ix:Nat) (pre:List (Ls × Hp)) (H:Hp):Prop:=∃ s,OutS Hs Hb bo ix (pre.map (·.1)) H s∧∀ x,pre.getLast?=some x→Hp.le x.2 H∧∀ p,s.a=some p→x.2 p.block=none
structure OkS (Hs:Hp) (bo ix:Nat) (x:Ls × Hp) (vs:List Value) (H:Hp):Prop where
 is:∃ u:Lu,vs=(lsC u x.1).toList∧RdL x.2 u x.1
 fit:fitL x.1
 len:ix<x.1.ord.length
 le:Hp.le x.2 H
 nbo:x.2 bo=none
 ns:∀ s:Slc,Cel H bo #[s.v] T.s_api_Lead→∀ p,s.a=some p→x.2 p.block=none
 dom:∀ k,Hs k≠none→H k≠none
 few:∀ s:Slc,Cel H bo #[s.v] T.s_api_Lead→s.n≤5000
theorem foldS_len (ix:Nat):∀ (ls:List Ls) (out:List Ld),(ls.foldl (leadS ix) out).length≤out.length+ls.length
 | [],out=>Nat.le_refl _
 | l :: ls,out=>by
  have h1:(leadS ix out l).length≤out.length+1:=by
   unfold leadS
   split
   ·simp
   ·omega
  have h2:=foldS_len ix ls (leadS ix out l)
  rw [List.foldl_cons,List.length_cons]; omega
theorem runS_len (to:Int × Int):∀ (n:Nat) (l:Ls),(runS to n l).length≤n+1
 | 0,_=>Nat.le_refl _
 | n+1,l=>by
  unfold runS
  split
  ·have:=runS_len to n (stepL l).1
   rw [List.length_cons]; omega
  ·simp
theorem cel_slc {H:Hp} {b:Nat} {s t:Slc} {T:TypeId} (h:Cel H b #[s.v] T) (h':Cel H b #[t.v] T):s=t:=by
 unfold Cel at h h'
 rw [h] at h'
 exact Slc.v_inj (by injection h' with h1; injection h1 with h2; injection h2 with h3; injection h3)
theorem ofLs (u:Lu) (l:Ls):OfL (yL.flatMap (·.2)) (lsC u l).toList:=fun f h=>h l.ck.now.1 l.ck.now.2 u.k.f l.ck.ct.next u.k.cl u.k.u1 u.k.u2 u.k.u3 u.k.u4 u.k.u5 u.k.d u.o u.n
theorem erased {ls:List Ls}:(ls.map fun l=>(l,noHp)).map (·.1)=ls:=by simp [Function.comp_def]
theorem InvS.of {Hs Hb:Hp} {bo ix:Nat} {ls:List Ls} {H:Hp} {s:Slc} (h:OutS Hs Hb bo ix ls H s):InvS Hs Hb bo ix (ls.map fun l=>(l,noHp)) H:=by
 refine ⟨s,by rw [erased]; exact h,fun x hx=>?_⟩
 obtain ⟨l,_,e⟩:=List.mem_map.1 (List.mem_of_getLast? hx)
 rw [← e]; exact ⟨noHp_le H,fun _ _=>rfl⟩
structure StS (Hs Hb:Hp) (bl bo ix:Nat) (to:Int × Int) (l0:Ls) (H:Hp) (ls:List Ls) (l:Ls) (u:Lu) (G:Hp) (M:Nat) (s:Slc):Prop where
 run:runS to 4096 l0=ls++runS to M l
 sw:swapsM l to≤M
 ok:okLs l
 un:untilK l.ck to=0
 room:Room l.ck (0+3 * swapsM l to)
 gle:Hp.le G H
 box:Cel H bl (lsC u l) T.api_List
 rd:RdL G u l
 gbl:G bl=none
 gbo:G bo=none
 gs:∀ p,s.a=some p→G p.block=none
 out:OutS Hs Hb bo ix ls H s
 len:ix<l.ord.length
set_option maxHeartbeats 4000000 in
theorem stepsIter {Hs Hb:Hp} {bl bt bo ix:Nat} {u0:Lu} {l0:Ls} {to:Int × Int} {G0:Hp} {s0:Slc} (ot:okR to) (hl:Hs bl≠none) (ho:Hs bo≠none) (hbl:Hb bl=none) (hbo:Hb bo=none) (hne:bl≠bo) (hdom:∀ k,k≠bl→k≠bo→Hs k≠none→Hb k≠none)
  (tim:Cel Hb bt #[.int .i64 to.1,.int .i64 to.2] T.api_Ratio) (st0:StS Hs Hb bl bo ix to l0 Hs [] l0 u0 G0 4096 s0) :
  IterOk Tryz.prog (.func (.func F.pick_steps_1) #[] #[.pointer (some ⟨bl,0,none⟩),.pointer (some ⟨bt,0,none⟩)]) Hs ((runS to 4096 l0).map fun l=>(l,noHp)) (InvS Hs Hb bo ix) (OkS Hs bo ix) yL:=by
 refine ⟨_,_,rfl,pick_steps_1_callable,fun L o hL round=>?_⟩
 show Go.Eng.Fn Tryz.prog F.pick_steps_1 #[.func (.yield L) #[] #[],.pointer (some ⟨bl,0,none⟩),.pointer (some ⟨bt,0,none⟩)] (Hs.put L o) _
 obtain ⟨Q,hQ⟩:∃ Q:Nat→Hp→Prop,Q=fun n Hx=>∃ H ls l u G M s,Hx=Hp.put H L o∧H L=none∧n=swapsM l to∧StS Hs Hb bl bo ix to l0 H ls l u G M s:=⟨_,rfl⟩
 refine pick_steps_1_vc ⟨fun Hx=>∃ n,Q n Hx,leastQ Q,⟨swapsM l0 to,by rw [hQ]; exact ⟨Hs,[],l0,u0,G0,4096,s0,rfl,hL,rfl,st0⟩⟩,fun Hx hI=>?_⟩
 have hq:=leastQ_at hI
 generalize hn:leastQ Q Hx=n at hq
 have hq':=hq
 rw [hQ] at hq'
 obtain ⟨H,ls,l,u,G,M,s,rfl,hHL,en,st⟩:=hq'
 have bL:bl≠L:=fun e=>by have:=st.box; unfold Cel at this; rw [e,hHL] at this; cases this
 have boxX:Cel (H.put L o) bl (lsC u l) T.api_List:=by unfold Cel; rw [Hp.put_ne _ _ bL]; exact st.box
 refine ⟨_,_,u.k.f,_,u.k.cl,u.k.u1,u.k.u2,u.k.u3,u.k.u4,u.k.u5,u.k.d,u.o,u.n,lsLoads boxX,?_⟩
 -- the round
 have gp:Hp.le (G.put bl (.cells (lsC u l) T.api_List (0,0))) H:=fun k ob hk=>by
  by_cases e:k=bl
  ·subst e; rw [Hp.put_same] at hk; cases hk; exact st.box
  ·rw [Hp.put_ne _ _ e] at hk; exact st.gle k ob hk
 have R:FnY Tryz.prog L [lsV u l] (H.put L o) fun v Hx=>v=.bool true∧∃ H3,InvS Hs Hb bo ix ((ls.map fun l=>(l,noHp))++[(l,G.put bl (.cells (lsC u l) T.api_List (0,0)))]) H3∧H3 L=none∧Hx=H3.put L o:=by
  refine round (ls.map fun l=>(l,noHp)) (l,G.put bl (.cells (lsC u l) T.api_List (0,0))) (lsC u l).toList H (ofLs u l) (InvS.of st.out) ⟨⟨u,rfl,st.rd.le (Hp.put_le _ _ st.gbl)⟩,st.ok.fit,st.len,gp,?_,fun s' hs' p hp=>?_,fun k hk=>?_,fun s' hs'=>?_⟩ hHL
  ·show Hp.put G bl _ bo=none
   rw [Hp.put_ne _ _ (fun e=>hne e.symm)]; exact st.gbo
  ·have es:=cel_slc st.out.cell hs'
   subst es
   have hnew:=st.out.mine.isNew p hp
   have pb:p.block≠bl:=fun e=>by rw [e] at hnew; exact hl hnew
   show Hp.put G bl _ p.block=none
   rw [Hp.put_ne _ _ pb]
   exact st.gs p hp
  ·by_cases e1:k=bl
   ·subst e1; have:=st.box; unfold Cel at this; rw [this]; simp
   ·by_cases e2:k=bo
    ·subst e2; have:=st.out.cell; unfold Cel at this; rw [this]; simp
    ·have h0:=hdom k e1 e2 hk
     cases hx:Hb k with
     | none=>exact absurd hx h0
     | some ob=>rw [st.out.base k ob hx]; simp
  ·rw [← cel_slc st.out.cell hs']
   have h1:=st.out.mine.rdLd.len
   have h2:=foldS_len ix ls []
   have h3:=runS_len to 4096 l0
   rw [st.run,List.length_append] at h3
   simp at h2
   omega
 refine R.mono fun v H18 ⟨ev,H3,i3,n3,e3⟩=>⟨true,ev,fun _=>?_,fun h=>by cases h⟩
 subst e3
 obtain ⟨s3,o3,g3⟩:=i3
 obtain ⟨g3,gs3⟩:=g3 (l,G.put bl (.cells (lsC u l) T.api_List (0,0))) (by simp)
 have o3:OutS Hs Hb bo ix (ls++[l]) H3 s3:=by rw [List.map_append,erased] at o3; exact o3
 have box3:Cel H3 bl (lsC u l) T.api_List:=g3 bl _ (Hp.put_same _ _ _)
 have gle3:Hp.le G H3:=Hp.le_trans (Hp.put_le _ _ st.gbl) g3
 have x3:Hp.le H3 (H3.put L o):=Hp.put_le _ _ n3
 have gx3:=Hp.le_trans gle3 x3
 have boxX3:Cel (H3.put L o) bl (lsC u l) T.api_List:=box3.le x3
 have done:runS to M l=[l]→∃ H4,InvS Hs Hb bo ix ((runS to 4096 l0).map fun l=>(l,noHp)) H4∧H4 L=none∧H3.put L o=H4.put L o:=fun e=>⟨H3,by rw [st.run,e]; exact InvS.of o3,n3,rfl⟩
 refine ⟨_,_,u.k.f,_,u.k.cl,u.k.u1,u.k.u2,u.k.u3,u.k.u4,u.k.u5,u.k.d,u.o,u.n,lsLoads boxX3,_,_,_,kNext (st.rd.le gx3) st.ok.fit,fun hx=>?_,fun hx=>?_⟩
 ·have hx:=bne_iff_ne.1 hx
  refine done ?_
  cases M with
  | zero=>rfl
  | succ M=>show (if _ then _ else _)=_; rw [if_neg fun h=>hx h.1]
 have hz:=bne_eq_false_iff_eq.1 hx
 have oT:=kNext_fit hz
 have tim3:Cel (H3.put L o) bt #[.int .i64 to.1,.int .i64 to.2] T.api_Ratio:=(tim.le o3.base).le x3
 have q:=ratioCmp (H:=H3.put L o) oT.fit ot.fit
 have ec:cmpM (kNextM l).1 to=(cmpR (kNextM l).1 to,0):=if_pos ⟨oT,ot⟩
 rw [ec] at q
 refine ⟨_,_,raLoads tim3,_,_,q,fun hc=>?_,fun hc=>?_⟩
 ·have hc:=of_decide_eq_true hc
  have hnl:¬ leR (kNextM l).1 to:=fun h=>by have:=cmpR_le.2 h; omega
  refine done ?_
  cases M with
  | zero=>rfl
  | succ M=>show (if _ then _ else _)=_; rw [if_neg fun h=>hnl h.2.1]
 have hc:=of_decide_eq_false hc
 have hle:leR (kNextM l).1 to:=cmpR_le.1 (by omega)
 have sp:=stepped st.ok ot st.room hz hle
 have M0:∃ M',M=M'+1:=⟨M-1,by have:=st.sw; have:=sp.less; omega⟩
 obtain ⟨M',rfl⟩:=M0
 have erun:runS to (M'+1) l=l :: runS to M' (stepL l).1:=by show (if _ then _ else _)=_; rw [if_pos ⟨hz,hle,sp.z⟩]
 refine ⟨_,_,u.k.f,_,u.k.cl,u.k.u1,u.k.u2,u.k.u3,u.k.u4,u.k.u5,u.k.d,u.o,u.n,lsLoads boxX3,?_⟩
 refine (Go.Eng.Fn.frame (klistStep st.rd st.ok.fit) gx3).mono fun v H54 ⟨Hs',⟨w,hv,lG,rw'⟩,le1,nn,le2⟩=>?_
 have l54:Hp.le (H3.put L o) H54:=le2 lG
 have box54:Cel H54 bl (lsC u l) T.api_List:=boxX3.le l54
 obtain ⟨can,sto⟩:=storeAll box54 (lsC w (stepL l).1).toList rfl
 refine ⟨_,_,w.k.f,_,w.k.cl,w.k.u1,w.k.u2,w.k.u3,w.k.u4,w.k.u5,w.k.d,w.o,w.n,_,_,hv,can,fun H70 hH70=>⟨fun hx=>?_,fun hx=>?_⟩⟩
 ·exact absurd sp.z (bne_iff_ne.1 hx)
 have e70:H70=H54.put bl (.cells (lsC w (stepL l).1) T.api_List (0,0)):=hH70.trans sto
 have hL54:H54 L=some o:=l54 L o (Hp.put_same _ _ _)
 have hL70:H70 L=some o:=by rw [e70,Hp.put_ne _ _ fun e=>bL e.symm]; exact hL54
 obtain ⟨H4,n4,e4,same⟩:=unput hL70
 have keep:∀ k ob,k≠bl→H3 k=some ob→H4 k=some ob:=fun k ob hk h3=>by
  have kL:k≠L:=fun e=>by rw [e,n3] at h3; cases h3
  rw [same k kL,e70,Hp.put_ne _ _ hk]
  exact l54 k ob (x3 k ob h3)
 have Hs'L:Hs' L=none:=nn L (by cases hx:G L with
  | none=>rfl
  | some ob=>have:=gle3 L ob hx; rw [n3] at this; cases this) (by rw [Hp.put_same]; simp)
 have Hs'bl:Hs' bl=none:=nn bl st.gbl (by rw [Hp.put_ne _ _ bL]; unfold Cel at box3; rw [box3]; simp)
 have boN:H3 bo≠none:=by have:=o3.cell; unfold Cel at this; rw [this]; simp
 have boL:bo≠L:=fun e=>by rw [e] at boN; exact boN n3
 have Hs'bo:Hs' bo=none:=nn bo st.gbo (by rw [Hp.put_ne _ _ boL]; exact boN)
 have g4:Hp.le Hs' H4:=fun k ob hk=>by
  have kL:k≠L:=fun e=>by rw [e,Hs'L] at hk; cases hk
  have kb:k≠bl:=fun e=>by rw [e,Hs'bl] at hk; cases hk
  rw [same k kL,e70,Hp.put_ne _ _ kb]
  exact le1 k ob hk
 have o4:OutS Hs Hb bo ix (ls++[l]) H4 s3:=by
  refine ⟨keep bo _ (fun e=>hne e.symm) o3.cell,?_,fun k ob hk=>keep k ob (fun e=>by rw [e,hbl] at hk; cases hk) (o3.base k ob hk)⟩
  rcases o3.mine with h | ⟨b,hb,h⟩
  ·exact .inl h
  ·refine .inr ⟨b,hb,h.len,h.cap,h.blk,?_⟩
   obtain ⟨cs,c1,c2,c3⟩:=h.cells
   exact ⟨cs,keep b _ (fun e=>by rw [e] at hb; exact hl hb) c1,c2,c3⟩
 have gs4:∀ p,s3.a=some p→Hs' p.block=none:=fun p hp=>by
  have old:=o3.mine.isOld p hp
  have pL:p.block≠L:=fun e=>by rw [e] at old; exact old n3
  have hnew:=o3.mine.isNew p hp
  have pb:p.block≠bl:=fun e=>by rw [e] at hnew; exact hl hnew
  have h0:Hp.put G bl (.cells (lsC u l) T.api_List (0,0)) p.block=none:=gs3 p hp
  rw [Hp.put_ne _ _ pb] at h0
  exact nn _ h0 (by rw [Hp.put_ne _ _ pL]; exact old)
 have q':Q (swapsM (stepL l).1 to) H70:=by
  rw [hQ]
  refine ⟨H4,ls++[l],(stepL l).1,w,Hs',M',s3,e4,n4,rfl,?_⟩
  refine ⟨?_,?_,sp.ok,sp.unt,sp.room,g4,?_,rw',Hs'bl,Hs'bo,gs4,o4,?_⟩
  ·rw [st.run,erun,List.append_assoc]; rfl
  ·have:=st.sw; have:=sp.less; omega
  ·unfold Cel; rw [same bl bL,e70,Hp.put_same]
  ·have h1:(stepL l).1.ord.length=l.ord.length:=by rw [sp.ok.ord,ordM_len,sp.fe,st.ok.ord,ordM_len]
   rw [h1]; exact st.len
 exact ⟨⟨_,q'⟩,by have:=leastQ_le q'; have:=sp.less; omega⟩

theorem cell1 {H:Hp} {b:Nat} {v:Value} {T:TypeId} (h:Cel H b #[v] T):H.at ((Addr.mk b 0 none).add 0)=some v:=by
 rw [add_zero',Cel.at h]; rfl
theorem reign1 {H:Hp} {u:Lu} {l:Ls} {k:Int} {b:Nat} (hc:Cel H b #[.int .i64 k] T.int) (r:RdL H u l) (k0:0≤k) (k1:k<l.ord.length) :
  Qf Tryz.prog F.pick_Reign_1 #[lsV u l,.pointer (some ⟨b,0,none⟩)] H (.int .i64 (l.ord.getD k.toNat 0)) :=
 pick_Reign_1_vc ⟨_,cell1 hc,r.o.inS k0 k1,_,RdI.get r.o k0 k1,rfl,Hp.le_refl _⟩
theorem lsNow {H:Hp} {b:Nat} {u:Lu} {l:Ls} {T:TypeId} (h:Cel H b (lsC u l) T):H.at ((((Addr.mk b 0 none).add 0).add 0).add 0)=some (.int .i64 l.ck.now.1)∧H.at ((((Addr.mk b 0 none).add 0).add 0).add 1)=some (.int .i64 l.ck.now.2):=by
 obtain ⟨h0,h1,_⟩:=lsLoads h
 rw [add_zero',add_zero']; exact ⟨h0,h1⟩
theorem lsPts {H:Hp} {b:Nat} {u:Lu} {l:Ls} {T:TypeId} (h:Cel H b (lsC u l) T):H.at ((((Addr.mk b 0 none).add 0).add 2).add 0)=some u.k.f.v:=by
 obtain ⟨_,_,h2,_⟩:=lsLoads h
 rw [add_zero',add_zero']; exact h2
theorem chkLs_val {l:Ls} (h:chkLs l≠0):¬ okLs l∧chkLs l=8:=by
 have hn:¬ okLs l:=fun ok=>h (chkLs_ok ok)
 exact ⟨hn,chkLs_bad hn⟩
theorem reignM_bad {l:Ls} {k:Int} {to:Int × Int} (h:¬ okLs l):reignM l k to=([],8):=if_neg h
theorem reignM_un {l:Ls} {k:Int} {to:Int × Int} (ok:okLs l) (h:untilK l.ck to≠0):reignM l k to=([],untilK l.ck to):=by
 unfold reignM; rw [if_pos ok,if_pos h]
theorem untilK_bad {c:Ck} {t:Int × Int} (h:¬ okR t):untilK c t=8:=if_neg fun e=>h e.2
theorem untilK_past {c:Ck} {t:Int × Int} (ok:okK c) (ot:okR t) (h:cmpR t c.now<0):untilK c t=44:=by unfold untilK; rw [if_pos ⟨ok,ot⟩,if_pos h]
set_option maxHeartbeats 8000000 in
theorem pickReign {H:Hp} {u:Lu} {l:Ls} {k:Int} {to:Int × Int} (r:RdL H u l) (fl:fitL l) (ht:fitR to) :
  Go.Eng.Fn Tryz.prog F.pick_Reign #[lsV u l,.int .i64 k,raW to] H fun v H'=>∃ s:Slc,v=.tuple #[s.v,.int .i64 (reignM l k to).2]∧Hp.le H H'∧Mine 3 fL T.api_Lead H H' s (reignM l k to).1:=by
 refine pick_Reign_vc fun b1 H2 hb1 hH2 b3 H4 hb3 hH4 b5 H6 hb5 hH6=>?_
 have l2:Hp.le H H2:=by subst hH2; exact Hp.put_le _ _ hb1
 have l4:Hp.le H2 H4:=by subst hH4; exact Hp.put_le _ _ hb3
 have l6':Hp.le H4 H6:=by subst hH6; exact Hp.put_le _ _ hb5
 have l6:Hp.le H H6:=Hp.le_trans l2 (Hp.le_trans l4 l6')
 have C1:Cel H6 b1 (lsC u l) T.api_List:=Cel.le (Cel.le (by subst hH2; exact Cel.put) l4) l6'
 have C3:Cel H6 b3 #[.int .i64 k] T.int:=Cel.le (by subst hH4; exact Cel.put) l6'
 have C5:Cel H6 b5 #[.int .i64 to.1,.int .i64 to.2] T.api_Ratio:=by subst hH6; exact Cel.put
 have r6:=r.le l6
 refine ⟨_,_,u.k.f,_,u.k.cl,u.k.u1,u.k.u2,u.k.u3,u.k.u4,u.k.u5,u.k.d,u.o,u.n,lsLoads C1,_,klistCheck r6 fl,fun h=>?_,fun h=>?_⟩
 ·obtain ⟨hn,e8⟩:=chkLs_val (bne_iff_ne.1 h)
  rw [reignM_bad hn,e8]; exact ⟨zs,rfl,l6,.inl ⟨rfl,rfl⟩⟩
 have ok:=chkLs_zero.1 (bne_eq_false_iff_eq.1 h)
 have onow:=ok.ck.now
 refine ⟨_,_,raLoads C5,_,_,lsNow C1,_,_,ratioCmp ht onow.fit,fun h=>?_,fun h=>⟨fun hp=>?_,fun hp=>?_⟩⟩
 ·have nt:¬ okR to:=fun ot=>by
   have e:cmpM to l.ck.now=(cmpR to l.ck.now,0):=if_pos ⟨ot,onow⟩
   rw [e] at h; simp at h
  have e:cmpM to l.ck.now=(0,8):=if_neg fun e=>nt e.1
  rw [e,reignM_un ok (by rw [untilK_bad nt]; decide),untilK_bad nt]; exact ⟨zs,rfl,l6,.inl ⟨rfl,rfl⟩⟩
 all_goals
  have ot:okR to:=by
   by_cases ot:okR to
   ·exact ot
   ·have e:cmpM to l.ck.now=(0,8):=if_neg fun e=>ot e.1
    rw [e] at h; simp at h
  have e:cmpM to l.ck.now=(cmpR to l.ck.now,0):=if_pos ⟨ot,onow⟩
  rw [e] at hp
 ·have hp:=of_decide_eq_true hp
  rw [reignM_un ok (by rw [untilK_past ok.ck ot hp]; decide),untilK_past ok.ck ot hp]; exact ⟨zs,rfl,l6,.inl ⟨rfl,rfl⟩⟩
 have hp:=of_decide_eq_false hp
 have hle:leR l.ck.now to:=by
  rcases leR_total l.ck.now to with h | h
  ·exact h
  ·by_cases h':leR l.ck.now to
   ·exact h'
   ·exact absurd (cmpR_lt.2 h') hp
 have hu:untilK l.ck to=0:=untilK_zero.2 ⟨ok.ck,ot,hle⟩
 refine ⟨_,_,u.k.f,_,u.k.cl,u.k.u1,u.k.u2,u.k.u3,u.k.u4,u.k.u5,u.k.d,u.o,u.n,lsLoads C1,_,cell1 C3,_,_,pickKth r6 fl,fun h2=>?_,fun h2=>?_⟩
 ·rw [reignM_kth ok hu (bne_iff_ne.1 h2)]; exact ⟨zs,rfl,l6,.inl ⟨rfl,rfl⟩⟩
 have h2:=bne_eq_false_iff_eq.1 h2
 obtain ⟨_,k0,k1,_⟩:=kthM_range h2
 rw [reignM_go ok hu h2]
 have ht0:timedF l.ck.f l.ck.now=0:=timedF_zero.2 ⟨ok.ck.f,onow⟩
 have B:=built ht0
 have RA:=reign_anew ok hu k.toNat
 refine ⟨_,lsPts C1,_,_,lsNow C1,(klistBuild r6.k.f onow.fit).mono fun v46 H47 ⟨w,hv46,l47,rw47⟩=>?_⟩
 have bz:=B.z; have bok:=B.ok; have bfe:=B.fe; have bnow:=B.now; have bord:=B.ord; have broom:=B.room
 generalize (buildL l.ck.f l.ck.now).2=e2 at hv46 bz
 generalize (buildL l.ck.f l.ck.now).1=m at hv46 rw47 bok bfe bnow bord broom RA
 subst bz
 refine ⟨_,_,w.k.f,_,w.k.cl,w.k.u1,w.k.u2,w.k.u3,w.k.u4,w.k.u5,w.k.d,w.o,w.n,_,hv46,fun b62 H63 hb62 hH63=>?_⟩
 obtain ⟨cs62,s62,C62⟩:∃ cs:Array Value,cs.size=13∧Cel H63 b62 cs T.api_List:=⟨_,rfl,hH63 ▸ Cel.put⟩
 obtain ⟨can62,sto62⟩:=storeAll C62 (lsC w m).toList s62.symm
 refine ⟨can62,fun H64 hH64=>⟨fun h=>(by cases h),fun _ b65 H66 hb65 hH66=>?_⟩⟩
 have e64:H64=H47.put b62 (.cells (lsC w m) T.api_List (0,0)):=by
  rw [hH64]
  refine Eq.trans sto62 ?_
  subst hH63; rw [Hp.put_put]
 have l64:Hp.le H47 H64:=by rw [e64]; exact Hp.put_le _ _ hb62
 refine (Var.new hH66).set _ fun H67 hH67 b68 H69 hb68 hH69=>?_
 have e67:H67=H64.put b65 (.cells #[.func (.func F.pick_Reign_1) #[] #[.pointer (some ⟨b3,0,none⟩)]] 56 (0,0)):=by
  rw [hH67]; subst hH66; rw [Hp.put_put]
 have l67:Hp.le H64 H67:=by rw [e67]; exact Hp.put_le _ _ hb65
 have l69:Hp.le H67 H69:=by subst hH69; exact Hp.put_le _ _ hb68
 have l67a:Hp.le H6 H67:=Hp.le_trans l47 (Hp.le_trans l64 l67)
 have C62':Cel H69 b62 (lsC w m) T.api_List:=Cel.le (Cel.le (by rw [e64]; exact Cel.put) l67) l69
 refine ⟨_,_,w.k.f,_,w.k.cl,w.k.u1,w.k.u2,w.k.u3,w.k.u4,w.k.u5,w.k.d,w.o,w.n,lsLoads C62',_,_,raLoads (C5.le (Hp.le_trans l67a l69)),?_⟩
 refine pick_steps_vc fun bl Ha hbl hHa bt Hs hbt hHs=>⟨_,rfl,fun _=>rfl,?_⟩
 -- the boxes
 have la:Hp.le H69 Ha:=by subst hHa; exact Hp.put_le _ _ hbl
 have ls:Hp.le Ha Hs:=by subst hHs; exact Hp.put_le _ _ hbt
 have l6s:Hp.le H6 Hs:=Hp.le_trans l67a (Hp.le_trans l69 (Hp.le_trans la ls))
 have l67s:Hp.le H67 Hs:=Hp.le_trans l69 (Hp.le_trans la ls)
 have cbl:Cel Hs bl (lsC w m) T.api_List:=Cel.le (by subst hHa; exact Cel.put) ls
 have cbt:Cel Hs bt #[.int .i64 to.1,.int .i64 to.2] T.api_Ratio:=by subst hHs; exact Cel.put
 have cbo:Cel Hs b68 #[(⟨none,0,0⟩:Slc).v] T.s_api_Lead:=Cel.le (Cel.le (by subst hH69; exact Cel.put) la) ls
 have hbl67:H67 bl=none:=by
  cases hx:H67 bl with
  | none=>rfl
  | some o=>have:=l69 bl o hx; rw [hbl] at this; cases this
 have hne:bl≠b68:=fun e=>by
  have:H69 b68≠none:=by subst hH69; rw [Hp.put_same]; simp
  rw [e] at hbl; exact this hbl
 have nbt:bt≠bl∧bt≠b68:=by
  constructor
  ·intro e
   have:Ha bl≠none:=by subst hHa; rw [Hp.put_same]; simp
   rw [e] at hbt; exact this hbt
  ·intro e
   have:Ha b68≠none:=by
    have h69:H69 b68≠none:=by subst hH69; rw [Hp.put_same]; simp
    cases hx:H69 b68 with
    | none=>exact absurd hx h69
    | some o=>rw [la b68 o hx]; simp
   rw [e] at hbt; exact this hbt
 have old67:∀ k ob,H67 k=some ob→hide Hs bl b68 k=some ob:=fun c ob hc=>by
  have n1:c≠bl:=fun e=>by rw [e,hbl67] at hc; cases hc
  have n2:c≠b68:=fun e=>by rw [e,hb68] at hc; cases hc
  rw [hide_ne n1 n2]; exact l67s c ob hc
 have tim:Cel (hide Hs bl b68) bt #[.int .i64 to.1,.int .i64 to.2] T.api_Ratio:=by unfold Cel; rw [hide_ne nbt.1 nbt.2]; exact cbt
 have c65:Cel (hide Hs bl b68) b65 #[.func (.func F.pick_Reign_1) #[] #[.pointer (some ⟨b3,0,none⟩)]] 56:=old67 b65 _ (by rw [e67]; exact Hp.put_same _ _ _)
 have c3:Cel (hide Hs bl b68) b3 #[.int .i64 k] T.int:=old67 b3 _ (l67a b3 _ C3)
 have hide_le:Hp.le (hide Hs bl b68) Hs:=fun c ob hc=>by
  unfold hide at hc
  split at hc
  ·cases hc
  ·exact hc
 have hHs:Hp.le H (hide Hs bl b68):=fun c ob hc=>old67 c ob (l67a c ob (l6 c ob hc))
 have lenm:k.toNat<m.ord.length:=by
  have e1:m.ord.length=l.ord.length:=by rw [bok.ord,ordM_len,bfe,ok.ord,ordM_len]
  omega
 have hm:untilK m.ck to=0:=untilK_zero.2 ⟨bok.ck,ot,by rw [bnow]; exact hle⟩
 have sl:=swapsM_le bok to
 have st0:StS Hs (hide Hs bl b68) bl b68 k.toNat to m Hs [] m w H67 4096 ⟨none,0,0⟩ :=
  ⟨rfl,sl,bok,hm,broom.less (by omega),l67s,cbl,rw47.le (Hp.le_trans l64 l67),hbl67,hb68,fun p hp=>(by cases hp),⟨cbo,.inl ⟨rfl,rfl⟩,hide_le⟩,lenm⟩
 refine ⟨Ls × Hp,_,_,_,stepsIter ot (by unfold Cel at cbl; rw [cbl]; simp) (by unfold Cel at cbo; rw [cbo]; simp) (hide_b _ _ _) (hide_c _ _ _) hne (fun c n1 n2 hc=>by rw [hide_ne n1 n2]; exact hc) tim st0,InvS.of (ls:=[]) st0.out,?_,?_⟩
 · -- one round
  intro pre x n94 n95 u96 n97 u98 u99 u100 u101 u102 u103 u104 u105 u106 H107 hi ho b108 H109 hb108 hH109
  obtain ⟨⟨u',hv,rx⟩,fx,lx,gx,gbo,gns,dom,few⟩:=ho
  simp only [List.cons.injEq,Value.int.injEq,true_and,and_true] at hv
  obtain ⟨rfl,rfl,f1,rfl,f2,f3,f4,f5,f6,f7,f8,f9,f10⟩:=hv
  have f1:=Slc.v_inj f1; have f2:=Slc.v_inj f2; have f3:=Slc.v_inj f3; have f4:=Slc.v_inj f4; have f5:=Slc.v_inj f5
  have f6:=Slc.v_inj f6; have f7:=Slc.v_inj f7; have f8:=Slc.v_inj f8; have f9:=Slc.v_inj f9; have f10:=Slc.v_inj f10
  subst f1 f2 f3 f4 f5 f6 f7 f8 f9 f10
  obtain ⟨cs108,s108,C108⟩:∃ cs:Array Value,cs.size=13∧Cel H109 b108 cs T.api_List:=⟨_,rfl,hH109 ▸ Cel.put⟩
  obtain ⟨can,sto⟩:=storeAll C108 (lsC u' x.1).toList s108.symm
  refine ⟨can,fun H110 hH110=>⟨fun _=>rfl,?_⟩⟩
  have e110:H110=H107.put b108 (.cells (lsC u' x.1) T.api_List (0,0)):=by
   rw [hH110]
   refine Eq.trans sto ?_
   subst hH109; rw [Hp.put_put]
  have l110:Hp.le H107 H110:=by rw [e110]; exact Hp.put_le _ _ hb108
  have C110:Cel H110 b108 (lsC u' x.1) T.api_List:=by rw [e110]; exact Cel.put
  obtain ⟨s,os,_⟩:=hi
  have base:=Hp.le_trans os.base l110
  have q:=reign1 (c3.le base) (rx.le (Hp.le_trans gx l110)) k0 (by omega)
  have celO:Cel H110 b68 #[s.v] T.s_api_Lead:=os.cell.le l110
  have mo:=os.mine.le l110
  generalize hout:(pre.map (·.1)).foldl (leadS k.toNat) []=out at mo
  have sn:(s.n:Int)=out.length:=by have:=mo.rdLd.len; omega
  have s5:=few s os.cell
  have el:((s.n:Int)-1).toNat=out.length-1:=by omega
  refine ⟨_,cell1 (c65.le base),_,_,u'.k.f,_,u'.k.cl,u'.k.u1,u'.k.u2,u'.k.u3,u'.k.u4,u'.k.u5,u'.k.d,u'.o,u'.n,lsLoads C110,_,⟨_,#[],_,rfl,pick_Reign_1_callable,q⟩,s,cell1 celO,s,fun _=>cell1 celO,s,fun _=>cell1 celO,fun _=>by unfold inI; omega,fun hc=>?_,(lastL out).2,fun hc=>?_,fun hc=>?_,fun hc=>?_⟩
  ·rw [Bool.not_eq_true',beq_eq_false_iff_ne] at hc
   exact mo.rdLd.inS (by omega) (by omega)
  ·rw [Bool.not_eq_true',beq_eq_false_iff_ne] at hc
   have:=RdLd.getI mo.rdLd (i:=(s.n:Int)-1) (by omega) (by omega)
   rwa [el] at this
  ·refine ⟨s,cell1 celO,_,_,lsNow C110,fun b133 H134 hb133 hH134=>?_⟩
   have mb:Mine 3 fL T.api_Lead (hide Hs bl b68) H110 s out:=mo.low hide_le
   refine (append1 (k:=3) (f:=fL) (bytes:=24) (x:=(x.1.ck.now,x.1.ord.getD k.toNat 0)) (by kernel_rfl) (by decide) (fun _=>rfl) fL_one base mb hb133 hH134 rfl (by omega) (by omega)).mono fun v135 H136 ⟨t,hv135,l136,m136,ch,ex⟩=>⟨t,hv135,?_⟩
   have sbo:∀ p,s.a=some p→p.block≠b68:=fun p hp e=>by
    have:=mo.isNew p hp
    rw [e] at this; unfold Cel at cbo; rw [cbo] at this; cases this
   have celO2:Var H136 b68 s.v T.s_api_Lead:=by
    have h0:H110 b68≠none:=by unfold Cel at celO; rw [celO]; simp
    show H136 b68=_
    rw [ch b68 h0 sbo]; exact celO
   have tnew:∀ p,t.a=some p→Hs p.block=none:=fun p hp=>by
    rcases ex p hp with h | h
    ·exact mo.isNew p h
    ·cases hx:Hs p.block with
     | none=>rfl
     | some o =>
      have h0:=dom p.block (by rw [hx]; simp)
      cases hy:H107 p.block with
      | none=>exact absurd hy h0
      | some o2=>rw [l110 _ _ hy] at h; cases h
   refine celO2.set _ fun H138 hH138=>?_
   have keep:∀ c ob,c≠b68→H136 c=some ob→H138 c=some ob:=fun c ob hc h=>by rw [hH138,Hp.put_ne _ _ hc]; exact h
   refine ⟨t,⟨by rw [hH138]; exact Cel.put,?_,fun c ob hc=>keep c ob (fun e=>by rw [e,hide_c] at hc; cases hc) (l136 c ob hc)⟩,fun y hy=>?_⟩
   ·rw [List.map_append,List.foldl_append,hout]
    have e1:([x].map (·.1)).foldl (leadS k.toNat) out=out++[(x.1.ck.now,x.1.ord.getD k.toNat 0)]:=by
     show leadS k.toNat out x.1=_
     unfold leadS
     rw [if_pos]
     rw [Bool.or_eq_true,beq_iff_eq,bne_iff_ne] at hc
     rcases hc with hc | hc
     ·left; omega
     ·exact .inr hc
    rw [e1]
    rcases m136 with h | ⟨b,hb,h⟩
    ·exact .inl h
    ·refine .inr ⟨b,tnew _ h.blk,h.len,h.cap,h.blk,?_⟩
     obtain ⟨cs,c1,c2,c3⟩:=h.cells
     refine ⟨cs,keep b _ (fun e=>?_) c1,c2,c3⟩
     have:=tnew _ h.blk
     rw [e] at this; unfold Cel at cbo; rw [cbo] at this; cases this
   ·have:y=x:=by simpa using hy.symm
    subst this
    refine ⟨fun c ob hc=>?_,fun p hp=>?_⟩
    ·refine keep c ob (fun e=>by rw [e,gbo] at hc; cases hc) ?_
     have h110:=Hp.le_trans gx l110 c ob hc
     rw [ch c (by rw [h110]; simp) fun p hp e=>?_]
     ·exact h110
     ·have:=gns s os.cell p hp
      rw [e,hc] at this; cases this
    ·rcases ex p hp with h | h
     ·exact gns s os.cell p h
     ·cases hx:y.2 p.block with
      | none=>rfl
      | some ob=>rw [Hp.le_trans gx l110 _ _ hx] at h; cases h
  ·rw [Bool.or_eq_false_iff,beq_eq_false_iff_ne,bne_eq_false_iff_eq] at hc
   refine ⟨s,⟨celO,?_,base⟩,fun y hy=>?_⟩
   ·rw [List.map_append,List.foldl_append,hout]
    have e1:([x].map (·.1)).foldl (leadS k.toNat) out=out:=by
     show leadS k.toNat out x.1=_
     unfold leadS
     rw [if_neg]
     rintro (h | h)
     ·omega
     ·exact h hc.2
    rw [e1]; exact mo
   ·have:y=x:=by simpa using hy.symm
    subst this
    exact ⟨Hp.le_trans gx l110,fun p hp=>gns s os.cell p hp⟩
 · -- at the end
  rintro H139 ⟨s,os,_⟩
  rw [erased] at os
  have mo:=os.mine
  rw [RA] at mo
  exact ⟨s,cell1 os.cell,s,rfl,Hp.le_trans hHs os.base,mo.low (Hp.le_trans hHs hide_le)⟩
end Go.Proofs.YtbbdplfkiioppaaGreat
end
