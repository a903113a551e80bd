/- The engine, parts QA, SB, CP, CD, put together. Conditions: none. -/
import Derived.Test.YtbbdplfkiioppaaGreatPD1
import Derived.Test.YtbbdplfkiioppaaGreatPK1
import Derived.Test.YtbbdplfkiioppaaGreatVgBase
import Derived.Test.YtbbdplfkiioppaaGreatFs
import Derived.Test.YtbbdplfkiioppaaGreatPA1
set_option linter.unusedVariables false
section
/- Adding two fractions. Conditions: none. -/
set_option maxRecDepth 100000
open Go Go.Eng Go.Proofs
namespace Go.Proofs.YtbbdplfkiioppaaGreat

def gD (a b:Int × Int):Int:=(Nat.gcd a.2.toNat b.2.toNat:Nat)
def addV (a b:Int × Int):Int:=a.1 * (b.2 / gD a b)+b.1 * (a.2 / gD a b)
def addH (a b:Int × Int):Int:=(Nat.gcd (gD a b).toNat (absI (addV a b) % gD a b).toNat:Nat)
def addM (a b:Int × Int):(Int × Int) × Int:=if okR a∧okR b then buildM (decide (addV a b<0)) (absI (addV a b) / addH a b) (a.2 / gD a b * (b.2 / addH a b)) else ((0,0),8)

theorem ratioOver {H:Hp} {c:Bool} {V d:Int} (v0:0≤V) (v1:V<340282366920938463463374607431768211456) (d0:1≤d) (d1:d<18446744073709551616) :
  Qf Tryz.prog F.ratio_wide_over #[.agg #[.bool c,.int .u64 (V / 18446744073709551616),.int .u64 (V % 18446744073709551616)],.int .u64 d] H (.tuple #[.agg #[.bool c,.int .u64 (V / d / 18446744073709551616),.int .u64 (V / d % 18446744073709551616)],.int .u64 (V % d)]):=by
 have h0:0≤V / 18446744073709551616:=by omega
 have h1:V / 18446744073709551616<18446744073709551616:=by omega
 have t0:0≤V / 18446744073709551616 % d:=Int.emod_nonneg _ (by omega)
 have t1:V / 18446744073709551616 % d<d:=Int.emod_lt_of_pos _ (by omega)
 have q0:0≤V / 18446744073709551616 / d:=Int.ediv_nonneg h0 (by omega)
 have q1:V / 18446744073709551616 / d≤V / 18446744073709551616:=Int.ediv_le_self _ h0
 have dv:=div64 (H:=H) (hi:=V / 18446744073709551616 % d) (lo:=V % 18446744073709551616) (y:=d) d0 d1 t0 t1 (by omega) (by omega)
 have e:=Int.mul_ediv_add_emod (V / 18446744073709551616) d
 have eV:V=(V / 18446744073709551616 % d * 18446744073709551616+V % 18446744073709551616)+d * (V / 18446744073709551616 / d * 18446744073709551616):=by
  rw [← Int.mul_assoc]
  generalize d * (V / 18446744073709551616 / d)=Z at *
  omega
 have eq:V / d=(V / 18446744073709551616 % d * 18446744073709551616+V % 18446744073709551616) / d+V / 18446744073709551616 / d * 18446744073709551616:=by
  have this:V / d=((V / 18446744073709551616 % d * 18446744073709551616+V % 18446744073709551616)+d * (V / 18446744073709551616 / d * 18446744073709551616)) / d:=congrArg (· / d) eV
  rw [this,Int.add_mul_ediv_left _ _ (by omega:d≠0)]
 have er:V % d=(V / 18446744073709551616 % d * 18446744073709551616+V % 18446744073709551616) % d:=by
  have this:V % d=((V / 18446744073709551616 % d * 18446744073709551616+V % 18446744073709551616)+d * (V / 18446744073709551616 / d * 18446744073709551616)) % d:=congrArg (· % d) eV
  rw [this,Int.add_mul_emod_self_left]
 have z0:0≤(V / 18446744073709551616 % d * 18446744073709551616+V % 18446744073709551616) / d:=Int.ediv_nonneg (by omega) (by omega)
 have z1:(V / 18446744073709551616 % d * 18446744073709551616+V % 18446744073709551616) / d<18446744073709551616:=Int.ediv_lt_of_lt_mul (by omega) (by omega)
 refine ratio_wide_over_vc ⟨by unfold nz; omega,by unfold nz; omega,_,_,by rw [Int.tmod_eq_emod_of_nonneg h0]; exact dv,?_,Hp.le_refl _⟩
 rw [Int.tdiv_eq_ediv_of_nonneg h0,wrapU_id q0 (by omega),er,eq]
 generalize (V / 18446744073709551616 % d * 18446744073709551616+V % 18446744073709551616) / d=z at *
 generalize V / 18446744073709551616 / d=q at *
 rw [show (z+q * 18446744073709551616) / 18446744073709551616=q by omega,show (z+q * 18446744073709551616) % 18446744073709551616=z by omega]

structure AddB (a b:Int × Int):Prop where
 g0:1≤gD a b
 g1:gD a b≤9223372036854775807
 x0:1≤a.2 / gD a b
 x1:a.2 / gD a b≤9223372036854775807
 y0:1≤b.2 / gD a b
 y1:b.2 / gD a b≤9223372036854775807
 s1:absI (a.1 * (b.2 / gD a b))<85070591730234615865843651857942052864
 s2:absI (b.1 * (a.2 / gD a b))<85070591730234615865843651857942052864
 h0:1≤addH a b
 h1:addH a b≤gD a b
 z0:0≤b.2 / addH a b
 z1:b.2 / addH a b≤9223372036854775807
theorem addB {a b:Int × Int} (oa:okR a) (ob:okR b):AddB a b:=by
 have a1:=oa.d1; have a2:=oa.d2; have a3:=oa.n1; have a4:=oa.n2
 have b1:=ob.d1; have b2:=ob.d2; have b3:=ob.n1; have b4:=ob.n2
 have hg:0<Nat.gcd a.2.toNat b.2.toNat:=Nat.gcd_pos_of_pos_left _ (by omega)
 have ga:Nat.gcd a.2.toNat b.2.toNat≤a.2.toNat:=Nat.gcd_le_left _ (by omega)
 have gb:Nat.gcd a.2.toNat b.2.toNat≤b.2.toNat:=Nat.gcd_le_right _ (by omega)
 have g0:1≤gD a b:=by unfold gD; omega
 have g1:gD a b≤a.2:=by unfold gD; omega
 have g2:gD a b≤b.2:=by unfold gD; omega
 have x0:1≤a.2 / gD a b:=Int.le_ediv_of_mul_le (by omega) (by omega)
 have x1:a.2 / gD a b≤a.2:=Int.ediv_le_self _ (by omega)
 have y0:1≤b.2 / gD a b:=Int.le_ediv_of_mul_le (by omega) (by omega)
 have y1:b.2 / gD a b≤b.2:=Int.ediv_le_self _ (by omega)
 have s1:=absI_mul_le (x:=a.1) (y:=b.2 / gD a b) (m:=9223372036854775807) (n:=9223372036854775807) (absI_le (by omega) (by omega)) (absI_le (by omega) (by omega))
 have s2:=absI_mul_le (x:=b.1) (y:=a.2 / gD a b) (m:=9223372036854775807) (n:=9223372036854775807) (absI_le (by omega) (by omega)) (absI_le (by omega) (by omega))
 have hh:0<Nat.gcd (gD a b).toNat (absI (addV a b) % gD a b).toNat:=Nat.gcd_pos_of_pos_left _ (by omega)
 have hl:Nat.gcd (gD a b).toNat (absI (addV a b) % gD a b).toNat≤(gD a b).toNat:=Nat.gcd_le_left _ (by omega)
 have h0:1≤addH a b:=by unfold addH; omega
 have h1:addH a b≤gD a b:=by unfold addH; omega
 have z0:0≤b.2 / addH a b:=Int.ediv_nonneg (by omega) (by omega)
 have z1:b.2 / addH a b≤b.2:=Int.ediv_le_self _ (by omega)
 exact ⟨g0,by omega,x0,by omega,y0,by omega,by omega,by omega,h0,h1,z0,by omega⟩
theorem sg_pos {n d:Int} (hd:1≤d):n * d≠0→((!(decide (n<0)==decide (d<0)))=true↔n * d<0):=fun hne=>by
 rw [decide_eq_false (by omega:¬ d<0)]
 have:n * d<0↔n<0:=by
  constructor
  ·intro h; rcases Int.lt_or_le n 0 with h' | h'
   ·exact h'
   ·have:=Int.mul_nonneg h' (by omega:0≤d); omega
  ·intro h; exact Int.mul_neg_of_neg_of_pos h (by omega)
 rw [this]; simp

set_option maxHeartbeats 1000000 in
theorem ratioAdd {H:Hp} {a b:Int × Int} (ha:fitR a) (hb:fitR b) :
  Qf Tryz.prog F.ratio_Add #[sI2 a.1 a.2,sI2 b.1 b.2] H (.tuple #[sI2 (addM a b).1.1 (addM a b).1.2,.int .i64 (addM a b).2]):=by
 refine ratio_Add_vc ⟨_,ratioBoth ha hb,fun hc=>?_,fun hc=>?_⟩
 ·have h:¬ (okR a∧okR b):=fun x=>by rw [if_pos x] at hc; simp at hc
  unfold addM; rw [if_neg h,if_neg h]; exact ⟨rfl,Hp.le_refl _⟩
 have ok:okR a∧okR b:=by
  by_cases x:okR a∧okR b
  ·exact x
  ·rw [if_neg x] at hc; simp at hc
 obtain ⟨oa,ob⟩:=ok
 obtain ⟨g0,g1,x0,x1,y0,y1,s1,s2,h0,h1,z0,z1⟩:=addB oa ob
 have a1:=oa.d1; have a2:=oa.d2
 have b1:=ob.d1; have b2:=ob.d2
 have q1:=absI_nonneg (a.1 * (b.2 / gD a b)); have q2:=absI_nonneg (b.1 * (a.2 / gD a b))
 have hg:=ratioGcd (H:=H) (a:=a.2) (b:=b.2) (by omega) (by omega)
 have hg:Qf Tryz.prog F.ratio_gcd #[.int .u64 a.2,.int .u64 b.2] H (.int .u64 (gD a b)):=hg
 have t1:=ratioTimes (H:=H) (a:=a.1) (b:=b.2 / gD a b) oa.fit.1 (by unfold inI; omega)
 have t2:=ratioTimes (H:=H) (a:=b.1) (b:=a.2 / gD a b) ob.fit.1 (by unfold inI; omega)
 have pl:=ratioPlus (H:=H) (c:=!(decide (a.1<0)==decide (b.2 / gD a b<0))) (d:=!(decide (b.1<0)==decide (a.2 / gD a b<0))) q1 (by omega) q2 (by omega)
 obtain ⟨p1,p2⟩:=plusM_val (c:=!(decide (a.1<0)==decide (b.2 / gD a b<0))) (d:=!(decide (b.1<0)==decide (a.2 / gD a b<0))) (v:=a.1 * (b.2 / gD a b)) (w:=b.1 * (a.2 / gD a b)) (sg_pos y0) (sg_pos x0)
 rw [p1] at pl
 have eV:a.1 * (b.2 / gD a b)+b.1 * (a.2 / gD a b)=addV a b:=rfl
 have av:absI (addV a b)≤absI (a.1 * (b.2 / gD a b))+absI (b.1 * (a.2 / gD a b)):=absI_add_le _ _
 have v0:=absI_nonneg (addV a b)
 rw [eV] at pl p2
 have m0:0≤absI (addV a b) % gD a b:=Int.emod_nonneg _ (by omega)
 have hg2:=ratioGcd (H:=H) (a:=gD a b) (b:=absI (addV a b) % gD a b) (by omega) m0
 have hg2:Qf Tryz.prog F.ratio_gcd #[.int .u64 (gD a b),.int .u64 (absI (addV a b) % gD a b)] H (.int .u64 (addH a b)):=hg2
 have es:addM a b=buildM (plusM (!(decide (a.1<0)==decide (b.2 / gD a b<0))) (!(decide (b.1<0)==decide (a.2 / gD a b<0))) (absI (a.1 * (b.2 / gD a b))) (absI (b.1 * (a.2 / gD a b)))).1 (absI (addV a b) / addH a b) (a.2 / gD a b * (b.2 / addH a b)):=by
  unfold addM; rw [if_pos ⟨oa,ob⟩]
  refine buildM_sign fun hne=>?_
  have hz:addV a b≠0:=fun h=>hne (by rw [h]; simp [absI])
  rw [Bool.eq_iff_iff,p2 hz,decide_eq_true_eq]
 rw [es]
 generalize (plusM (!(decide (a.1<0)==decide (b.2 / gD a b<0))) (!(decide (b.1<0)==decide (a.2 / gD a b<0))) (absI (a.1 * (b.2 / gD a b))) (absI (b.1 * (a.2 / gD a b)))).1=S at *
 have o1:=ratioOver (H:=H) (c:=S) (V:=absI (addV a b)) (d:=gD a b) v0 (by omega) g0 (by omega)
 have o2:=ratioOver (H:=H) (c:=S) (V:=absI (addV a b)) (d:=addH a b) v0 (by omega) h0 (by omega)
 have mu:=mul64 (H:=H) (x:=a.2 / gD a b) (y:=b.2 / addH a b) (by omega) (by omega) z0 (by omega)
 have nq:0≤absI (addV a b) / addH a b:=Int.ediv_nonneg v0 (by omega)
 have bd:=ratioBuild (H:=H) (c:=S) (N:=absI (addV a b) / addH a b) (D:=a.2 / gD a b * (b.2 / addH a b)) nq (Int.mul_nonneg (by omega) z0)
 have wg:IntKind.i64.wrap (gD a b)=gD a b:=i64s (by omega) (by omega)
 have wa:wrapU a.2=a.2:=wrapU_id (by omega) (by omega)
 have wb:wrapU b.2=b.2:=wrapU_id (by omega) (by omega)
 have wgu:wrapU (gD a b)=gD a b:=wrapU_id (by omega) (by omega)
 have da:a.2.tdiv (gD a b)=a.2 / gD a b:=Int.tdiv_eq_ediv_of_nonneg (by omega)
 have db:b.2.tdiv (gD a b)=b.2 / gD a b:=Int.tdiv_eq_ediv_of_nonneg (by omega)
 have dh:b.2.tdiv (addH a b)=b.2 / addH a b:=Int.tdiv_eq_ediv_of_nonneg (by omega)
 have wx:wrapU (a.2 / gD a b)=a.2 / gD a b:=wrapU_id (by omega) (by omega)
 have wy:wrapU (b.2 / addH a b)=b.2 / addH a b:=wrapU_id z0 (by omega)
 rw [wa,wb]
 refine ⟨gD a b,hg,?_⟩
 rw [wg,wgu,da,db,wx]
 refine ⟨⟨by unfold nz; omega,by unfold inI; omega⟩,_,_,_,t1,⟨by unfold nz; omega,by unfold inI; omega⟩,_,_,_,t2,_,_,_,pl,_,_,_,_,o1,addH a b,hg2,_,_,_,_,o2,⟨by unfold nz; omega,by unfold inI; omega⟩,by unfold nz; omega,?_⟩
 rw [dh,wy]
 exact ⟨_,_,mu,_,_,_,bd,rfl,Hp.le_refl _⟩


def subM (a b:Int × Int):(Int × Int) × Int:=addM a (-b.1,b.2)
/-! ### Places and gaps -/

/-! ### Sorting by insertion -/
def insG {α:Type} (lt:α→α→Bool) (x:α):List α→List α
 | []=>[x]
 | y :: ys=>if lt x y=true then x :: y :: ys else y :: insG lt x ys
def sortG {α:Type} (lt:α→α→Bool) (l:List α):List α:=l.foldr (insG lt) []
def Srt {α:Type} (lt:α→α→Bool) (l:List α):Prop:=l.Pairwise fun a b=>lt b a=false
theorem insG_perm {α:Type} (lt:α→α→Bool) (x:α):∀ l:List α,(insG lt x l).Perm (x :: l)
 | []=>List.Perm.refl _
 | y :: ys=>by
  unfold insG; split
  ·exact List.Perm.refl _
  ·exact (List.Perm.cons y (insG_perm lt x ys)).trans (List.Perm.swap x y ys)
theorem sortG_perm {α:Type} (lt:α→α→Bool):∀ l:List α,(sortG lt l).Perm l
 | []=>List.Perm.refl _
 | x :: xs=>(insG_perm lt x _).trans (List.Perm.cons x (sortG_perm lt xs))
theorem insG_srt {α:Type} {lt:α→α→Bool} {S:α→Prop} (tr:∀ a b c,S a→S b→S c→lt b a=false→lt c b=false→lt c a=false) (asy:∀ a b,S a→S b→lt a b=true→lt b a=false) (x:α):∀ l:List α,S x→(∀ y∈l,S y)→Srt lt l→Srt lt (insG lt x l)
 | [],_,_,_=>List.pairwise_singleton _ _
 | y :: ys,hx,hl,hs=>by
  obtain ⟨h1,h2⟩:=List.pairwise_cons.1 hs
  have sy:=hl y List.mem_cons_self
  unfold insG; split
  ·rename_i hlt
   refine List.pairwise_cons.2 ⟨fun z hz=>?_,hs⟩
   rcases List.mem_cons.1 hz with rfl | hz
   ·exact asy _ _ hx sy hlt
   ·exact tr x y z hx sy (hl z (List.mem_cons_of_mem _ hz)) (asy _ _ hx sy hlt) (h1 z hz)
  ·rename_i hlt
   refine List.pairwise_cons.2 ⟨fun z hz=>?_,insG_srt tr asy x ys hx (fun z hz=>hl z (List.mem_cons_of_mem _ hz)) h2⟩
   rcases List.mem_cons.1 ((insG_perm lt x ys).mem_iff.1 hz) with rfl | hz
   ·simpa using hlt
   ·exact h1 z hz
theorem sortG_srt {α:Type} {lt:α→α→Bool} {S:α→Prop} (tr:∀ a b c,S a→S b→S c→lt b a=false→lt c b=false→lt c a=false) (asy:∀ a b,S a→S b→lt a b=true→lt b a=false):∀ l:List α,(∀ y∈l,S y)→Srt lt (sortG lt l)
 | [],_=>List.Pairwise.nil
 | x :: xs,h=>insG_srt tr asy x _ (h x List.mem_cons_self) (fun y hy=>h y (List.mem_cons_of_mem _ ((sortG_perm lt xs).mem_iff.1 hy))) (sortG_srt tr asy xs fun y hy=>h y (List.mem_cons_of_mem _ hy))
theorem Srt.filter {α:Type} {lt:α→α→Bool} {l:List α} (h:Srt lt l) (p:α→Bool):Srt lt (l.filter p):=List.Pairwise.sublist List.filter_sublist h

/-! ### Pairs -/
abbrev Pr:=Int × Int × (Int × Int)
def clP (a b:Pr):Bool:=if cmpR a.2.2 b.2.2≠0 then decide (cmpR a.2.2 b.2.2<0) else if a.1≠b.1 then decide (a.1<b.1) else decide (a.2.1<b.2.1)
def okPr (a:Pr):Prop:=okR a.2.2
theorem clP_iff {a b:Pr}:clP a b=true↔¬ leR b.2.2 a.2.2∨(leR a.2.2 b.2.2∧leR b.2.2 a.2.2)∧(a.1<b.1∨a.1=b.1∧a.2.1<b.2.1):=by
 unfold clP
 have l:=cmpR_lt (a:=a.2.2) (b:=b.2.2)
 have e:=cmpR_eq (a:=a.2.2) (b:=b.2.2)
 split
 ·rename_i h1
  rw [decide_eq_true_iff,l]
  constructor
  ·exact .inl
  ·rintro (h | ⟨h,h9⟩)
   ·exact h
   ·exact absurd (e.2 h) h1
 ·rename_i h0
  have h0:cmpR a.2.2 b.2.2=0:=by omega
  have he:=e.1 h0
  split
  ·rw [decide_eq_true_iff]
   constructor
   ·intro h; exact .inr ⟨he,.inl h⟩
   ·rintro (h | ⟨_,h⟩)
    ·exact absurd he.2 h
    ·omega
  ·rw [decide_eq_true_iff]
   constructor
   ·intro h; exact .inr ⟨he,by omega⟩
   ·rintro (h | ⟨_,h⟩)
    ·exact absurd he.2 h
    ·omega
theorem clP_no {a b:Pr}:clP a b=false↔leR b.2.2 a.2.2∧(leR a.2.2 b.2.2→b.1<a.1∨b.1=a.1∧b.2.1≤a.2.1):=by
 rw [Bool.eq_false_iff,ne_eq,clP_iff]
 constructor
 ·intro h
  have h1:leR b.2.2 a.2.2:=Decidable.by_contra fun x=>h (.inl x)
  exact ⟨h1,fun h2=>by
   have:¬ (a.1<b.1∨a.1=b.1∧a.2.1<b.2.1):=fun x=>h (.inr ⟨⟨h2,h1⟩,x⟩)
   omega⟩
 ·rintro ⟨h1,h2⟩ (h | ⟨⟨h,_⟩,h3⟩)
  ·exact h h1
  ·have:=h2 h; omega
theorem clP_tr (a b c:Pr) (ha:okPr a) (hb:okPr b) (hc:okPr c) (h1:clP b a=false) (h2:clP c b=false):clP c a=false:=by
 rw [clP_no] at *
 refine ⟨leR_trans ha hb hc h1.1 h2.1,fun h=>?_⟩
 have x1:=h1.2 (leR_trans hb hc ha h2.1 h)
 have x2:=h2.2 (leR_trans hc ha hb h h1.1)
 omega
theorem clP_asymm (a b:Pr) (_:okPr a) (_:okPr b) (h:clP a b=true):clP b a=false:=by
 rw [clP_iff] at h
 rw [clP_no]
 rcases h with h | ⟨h,h1⟩
 ·exact ⟨(leR_total _ _).resolve_right h,fun x=>absurd x h⟩
 ·exact ⟨h.1,fun _=>by omega⟩
def sortP (l:List Pr):List Pr:=sortG clP l
theorem sortP_perm (l:List Pr):(sortP l).Perm l:=sortG_perm _ _
theorem sortP_srt {l:List Pr} (h:∀ y∈l,okPr y):Srt clP (sortP l):=sortG_srt (S:=okPr) clP_tr clP_asymm l h
/-! ### All pairs of indices -/

def sP (f:List Pt) (t:Int × Int) (k:Nat):Pt:=(sortM f t).getD k (0,0,0)
theorem sP_get {f:List Pt} {t:Int × Int} {k:Nat} (hk:k<f.length):(sortM f t)[k]?=some (sP f t k):=by
 have h:k<(sortM f t).length:=by rw [sortM_len]; exact hk
 unfold sP
 rw [List.getD_eq_getElem?_getD,List.getElem?_eq_getElem h]; rfl
theorem sP_mem {f:List Pt} {t:Int × Int} {k:Nat} (hk:k<f.length):sP f t k∈f:=(sortM_perm t f).mem_iff.1 (List.mem_of_getElem? (sP_get hk))
theorem sP_ord {f:List Pt} {t:Int × Int} {k:Nat} (hk:k<f.length):(ordM f t)[k]?=some (sP f t k).1:=by
 unfold ordM; rw [List.getElem?_map,sP_get hk]; rfl
theorem sP_ordD {f:List Pt} {t:Int × Int} {k:Nat} (hk:k<f.length):(ordM f t).getD k 0=(sP f t k).1:=by
 rw [List.getD_eq_getElem?_getD,sP_ord hk]; rfl
theorem sP_find {f:List Pt} (of:okF f) {t:Int × Int} {k:Nat} (hk:k<f.length):gP f (posF f (sP f t k).1)=sP f t k:=gP_of of (sP_mem hk)
theorem sP_leads {f:List Pt} (of:okF f) {t:Int × Int} {i k:Nat} (h:i<k) (hk:k<f.length):leads (sP f t i) (sP f t k) t=true:=by
 have ho:=(sortM_sorted (okF_ids of) t).ord
 obtain ⟨a1,a2⟩:=List.getElem?_eq_some_iff.1 (sP_get (t:=t) (show i<f.length by omega))
 obtain ⟨b1,b2⟩:=List.getElem?_eq_some_iff.1 (sP_get (t:=t) hk)
 have:=List.pairwise_iff_getElem.1 ho i k a1 b1 h
 rw [a2,b2] at this
 exact this
theorem sP_val {f:List Pt} (of:okF f) {t:Int × Int} {i k:Nat} (h:i<k) (hk:k<f.length):valP (sP f t k) t≤valP (sP f t i) t:=by
 have:=leads_iff.1 (sP_leads of (t:=t) h hk)
 omega
theorem okLs.sP {l:Ls} (ok:okLs l) {k:Nat} (hk:k<l.ord.length):ptL l k=Go.Proofs.YtbbdplfkiioppaaGreat.sP l.ck.f l.ck.now k:=by
 have:=ok.sorted hk
 rw [sP_get (by rw [← ok.len]; exact hk)] at this
 exact (Option.some.inj this).symm

/-! ### Distances -/
def spot (f:List Pt) (t:Int × Int) (k:Nat):(Int × Int) × Int:=placeM (sP f t k) t
def toldF (f:List Pt) (t:Int × Int) (n:Nat):Prop:=∀ k,k<n→(spot f t k).2=0
instance (f:List Pt) (t:Int × Int) (n:Nat):Decidable (toldF f t n):=inferInstanceAs (Decidable (∀ k,k<n→_))
def gapD (f:List Pt) (t:Int × Int) (i k:Nat):(Int × Int) × Int:=subM (spot f t i).1 (spot f t k).1
/-! ### What is told -/
def nearT (f:List Pt) (t:Int × Int):Prop:=∀ i,i<f.length-1→(gapD f t i (i+1)).2=0
instance (f:List Pt) (t:Int × Int):Decidable (nearT f t):=inferInstanceAs (Decidable (∀ i,i<_→_))
def zPr:Pr:=(0,0,(0,0))
def allT (f:List Pt) (t:Int × Int):Prop:=∀ k,k<f.length→∀ i,i<k→(gapD f t i k).2=0
instance (f:List Pt) (t:Int × Int):Decidable (allT f t):=inferInstanceAs (Decidable (∀ k,k<_→∀ i,i<k→_))
end Go.Proofs.YtbbdplfkiioppaaGreat
end
