/- The engine, parts X0, X1, Y0, X2, Y1, Y2, PT, Y3, Y4, put together. Conditions: none. -/
import Derived.Test.YtlbdpklikfddlaaGreatPRW
import Derived.Test.YtlbdpklikfddlaaGreatVgR04
import Derived.Test.YtlbdpklikfddlaaGreatFs
import Derived.Test.YtlbdpklikfddlaaGreatPO1
import Derived.Test.YtlbdpklikfddlaaGreatVgMeet
import Derived.Test.YtlbdpklikfddlaaGreatVgStd
import Derived.Test.YtlbdpklikfddlaaGreatQB
import Derived.Test.YtlbdpklikfddlaaGreatPS1
import Derived.Test.YtlbdpklikfddlaaGreatPL1
import Derived.Test.YtlbdpklikfddlaaGreatVgBase
set_option linter.unusedVariables false
section
/- Sorting by swaps, and all meetings of a field pair by pair, in plain words. Conditions: none. -/
set_option maxRecDepth 100000
open Go Go.Eng Go.Proofs
namespace Go.Proofs.YtlbdpklikfddlaaGreat

/-! ### Swaps of neighbours -/
def swapM (xs:List Pr) (k:Nat):List Pr:=(xs.set k (xs.getD (k-1) zPr)).set (k-1) (xs.getD k zPr)
theorem swapM_get {xs:List Pr} {k:Nat} (h0:0<k) (hk:k<xs.length) (i:Nat):(swapM xs k).getD i zPr=if i=k-1 then xs.getD k zPr else if i=k then xs.getD (k-1) zPr else xs.getD i zPr:=by
 unfold swapM
 rw [List.getD_eq_getElem?_getD,List.getElem?_set]
 by_cases h1:k-1=i
 ·subst h1
  rw [if_pos rfl,if_pos rfl,if_pos (by simp; omega)]; rfl
 ·rw [if_neg h1,if_neg fun e=>h1 e.symm,List.getElem?_set]
  by_cases h2:k=i
  ·subst h2
   rw [if_pos rfl,if_pos rfl,if_pos hk]; rfl
  ·rw [if_neg h2,if_neg fun e=>h2 e.symm,List.getD_eq_getElem?_getD]
def SrtX (xs:List Pr) (i k:Nat):Prop:=∀ a b,a<b→b≤i→b≠k→clP (xs.getD b zPr) (xs.getD a zPr)=false
def SrtN (xs:List Pr) (i:Nat):Prop:=∀ a b,a<b→b<i→clP (xs.getD b zPr) (xs.getD a zPr)=false
theorem SrtN.start {xs:List Pr} {i:Nat} (h:SrtN xs i):SrtX xs i i:=fun a b h1 h2 h3=>h a b h1 (by omega)
theorem mem_getP {xs:List Pr} {k:Nat} (h:k<xs.length):xs.getD k zPr∈xs:=by
 rw [List.getD_eq_getElem?_getD,List.getElem?_eq_getElem h]; exact List.getElem_mem h
theorem SrtX.stop {xs:List Pr} {i k:Nat} (h:SrtX xs i k) (ok:∀ y∈xs,okPr y) (hk:k≤i) (hi:i<xs.length) (hc:k=0∨clP (xs.getD k zPr) (xs.getD (k-1) zPr)=false):SrtN xs (i+1):=by
 intro a b h1 h2
 by_cases e:b=k
 ·subst e
  have hc:=hc.resolve_left (by omega)
  by_cases e2:a=b-1
  ·subst e2; exact hc
  ·exact clP_tr _ _ _ (ok _ (mem_getP (by omega))) (ok _ (mem_getP (by omega))) (ok _ (mem_getP (by omega))) (h a (b-1) (by omega) (by omega) (by omega)) hc
 ·exact h a b h1 (by omega) e
theorem SrtX.swap {xs:List Pr} {i k:Nat} (h:SrtX xs i k) (ok:∀ y∈xs,okPr y) (h0:0<k) (hk:k≤i) (hi:i<xs.length) (hc:clP (xs.getD k zPr) (xs.getD (k-1) zPr)=true):SrtX (swapM xs k) i (k-1):=by
 intro a b h1 h2 h3
 rw [swapM_get h0 (by omega),swapM_get h0 (by omega),if_neg h3]
 by_cases e:b=k
 ·subst e
  rw [if_pos rfl]
  by_cases e2:a=b-1
  ·rw [if_pos e2]; exact clP_asymm _ _ (ok _ (mem_getP (by omega))) (ok _ (mem_getP (by omega))) hc
  ·rw [if_neg e2,if_neg (by omega)]; exact h a (b-1) (by omega) (by omega) (by omega)
 ·rw [if_neg e]
  by_cases e1:a=k-1
  ·rw [if_pos e1]; exact h k b (by omega) h2 e
  ·rw [if_neg e1]
   by_cases e2:a=k
   ·rw [if_pos e2]; exact h (k-1) b (by omega) h2 e
   ·rw [if_neg e2]; exact h a b h1 h2 e
theorem SrtN.done {L xs:List Pr} (h:SrtN xs xs.length) (ok:∀ y∈L,okPr y) (hp:xs.Perm L):xs=sortP L:=by
 refine sortP_of ok hp (List.pairwise_iff_getElem.2 fun a b ha hb hab=>?_)
 have:=h a b hab hb
 rwa [List.getD_eq_getElem?_getD,List.getD_eq_getElem?_getD,List.getElem?_eq_getElem ha,List.getElem?_eq_getElem hb] at this

/-! ### Pairs,one after the other -/
def zPt:Pt:=(0,0,0)
def ptF (f:List Pt) (i:Nat):Pt:=f.getD i zPt
def rowM (f:List Pt) (i k:Nat):List Pr:=(metR (ptF f i) ((f.take k).drop (i+1))).map mtPr
def upM4 (f:List Pt) (i:Nat):List Pr:=(List.range i).flatMap fun j=>(metR (ptF f j) (f.drop (j+1))).map mtPr
theorem upM4_succ (f:List Pt) (i:Nat):upM4 f (i+1)=upM4 f i++rowM f i f.length:=by
 unfold upM4 rowM
 rw [List.range_succ,List.flatMap_append,List.take_length]; simp
theorem metL_rows:∀ f:List Pt,metL f=(List.range f.length).flatMap fun j=>metR (ptF f j) (f.drop (j+1))
 | []=>rfl
 | p :: ps=>by
  show metR p ps++metL ps=_
  rw [List.length_cons,List.range_succ_eq_map,List.flatMap_cons,List.flatMap_map,metL_rows ps]
  rfl
theorem upM4_end (f:List Pt):upM4 f f.length=(metL f).map mtPr:=by
 rw [metL_rows,List.map_flatMap]; rfl
theorem metR_len (p:Pt) (ps:List Pt):(metR p ps).length≤ps.length:=by unfold metR; exact List.length_filterMap_le _ _
theorem upM4_len (f:List Pt):∀ i,(upM4 f i).length≤i * f.length
 | 0=>by unfold upM4; simp
 | i+1=>by
  rw [upM4_succ,List.length_append,Nat.succ_mul]
  have:=upM4_len f i
  have h2:=metR_len (ptF f i) ((f.take f.length).drop (i+1))
  unfold rowM
  rw [List.length_map]
  rw [List.length_drop,List.length_take] at h2
  omega

def fM (x:Pr):List Value:=[.int .i64 x.2.2.1,.int .i64 x.2.2.2,.int .i64 x.1,.int .i64 x.2.1]
abbrev mtV (x:Pr):Value:=sI4 x.2.2.1 x.2.2.2 x.1 x.2.1
theorem fM_one:∀ (x:Pr),∀ v∈fM x,v.oneCell'=true:=fun x v hv=>by
 simp [fM] at hv
 rcases hv with rfl | rfl | rfl | rfl <;> rfl
theorem getMt {m:List Pr} {i:Int} (h0:0≤i) (h1:i<m.length):m[i.toNat]?=some (m.getD i.toNat zPr):=by
 have h:i.toNat<m.length:=by omega
 rw [List.getD_eq_getElem?_getD,List.getElem?_eq_getElem h]; rfl
theorem RdM.get {H:Hp} {u:Slc} {m:List Pr} {i:Int} (h:Rd 4 fM H u m) (h0:0≤i) (h1:i<m.length) :
  H.at (eaddr u.a 4 i)=some (.int .i64 (m.getD i.toNat zPr).2.2.1)∧H.at ((eaddr u.a 4 i).add 1)=some (.int .i64 (m.getD i.toNat zPr).2.2.2)∧H.at ((eaddr u.a 4 i).add 2)=some (.int .i64 (m.getD i.toNat zPr).1)∧H.at ((eaddr u.a 4 i).add 3)=some (.int .i64 (m.getD i.toNat zPr).2.1) :=
 ⟨h.at0 h0 (getMt h0 h1) rfl,h.atj h0 (getMt h0 h1) (j:=1) rfl,h.atj h0 (getMt h0 h1) (j:=2) rfl,h.atj h0 (getMt h0 h1) (j:=3) rfl⟩
theorem _root_.Go.Eng.Mine.rdM {e:TypeId} {H0 H:Hp} {u:Slc} {xs:List Pr} (h:Mine 4 fM e H0 H u xs):Rd 4 fM H u xs:=Mine.rd (k:=4) (f:=fM) (fun _=>rfl) h
theorem ptF_get {f:List Pt} {i:Nat} (h:i<f.length):f[i]?=some (ptF f i):=by
 unfold ptF; rw [List.getD_eq_getElem?_getD,List.getElem?_eq_getElem h]; rfl
theorem ptF_mem {f:List Pt} {i:Nat} (h:i<f.length):ptF f i∈f:=List.mem_of_getElem? (ptF_get h)
end Go.Proofs.YtlbdpklikfddlaaGreat
end
section
/- slices.SortFunc on meetings; the order of meetings. Conditions: none. -/
set_option maxRecDepth 100000
open Go Go.Eng Go.Proofs
open Go.Shelf Go.RowKit Go.Lib Go.Sort
namespace Go.Proofs.YtlbdpklikfddlaaGreat

theorem meetLater {H:Hp} {a b:Int × Int} (ha:fitR a) (hb:fitR b):Qf Tryz.prog F.meet_later #[raW a,raW b] H (.int .i64 (cmpM a b).1) :=
 meet_later_vc ⟨_,_,ratioCmp ha hb,rfl,Hp.le_refl _⟩
def or3 (a b c:Int):Int:=if a≠0 then a else if b≠0 then b else c
theorem cmpOr3 {H:Hp} {u:Slc} {a b c:Int} (r:RdI H u [a,b,c]):Qf Tryz.prog F.cmp_Or_int #[u.v] H (.int .i64 (or3 a b c)):=by
 have un:(u.n:Int)=3:=by have:=r.len; simp at this; omega
 refine cmp_Or_int_vc ?_
 rw [un]
 refine upto (N:=3) (J:=fun n=>(0<n→a=0)∧(1<n→b=0)∧(2<n→c=0)) (by omega) ⟨fun h=>by omega,fun h=>by omega,fun h=>by omega⟩ fun n h0 h1 hJ=>⟨fun hn=>?_,fun hn=>⟨?_,Hp.le_refl _⟩⟩
 ·have hn:n<3:=of_decide_eq_true hn
  have g:=RdI.get r h0 (by simp; omega)
  refine ⟨r.inS h0 (by simp; omega),_,g,fun hc=>⟨?_,Hp.le_refl _⟩,fun hc=>?_⟩
  ·have hc:=bne_iff_ne.1 hc
   have:n=0∨n=1∨n=2:=by omega
   unfold or3
   rcases this with rfl | rfl | rfl
   ·have hc:a≠0:=hc
    rw [if_pos hc]; rfl
   ·have hc:b≠0:=hc
    rw [if_neg (fun e=>e (hJ.1 (by omega))),if_pos hc]; rfl
   ·rw [if_neg (fun e=>e (hJ.1 (by omega))),if_neg (fun e=>e (hJ.2.1 (by omega)))]; rfl
  ·have hc:=bne_eq_false_iff_eq.1 hc
   have:n=0∨n=1∨n=2:=by omega
   refine upto.nx h0 hn (by omega) ?_
   rcases this with rfl | rfl | rfl
   ·exact ⟨fun _=>hc,fun h=>by omega,fun h=>by omega⟩
   ·exact ⟨fun _=>hJ.1 (by omega),fun _=>hc,fun h=>by omega⟩
   ·exact ⟨fun _=>hJ.1 (by omega),fun _=>hJ.2.1 (by omega),fun _=>hc⟩
 ·have hn:¬ n<3:=of_decide_eq_false hn
  unfold or3
  rw [if_neg (fun e=>e (hJ.1 (by omega))),if_neg (fun e=>e (hJ.2.1 (by omega))),hJ.2.2 (by omega)]
def cfM (x y:Pr):Int:=or3 (cmpR x.2.2 y.2.2) (cmpI x.1 y.1) (cmpI x.2.1 y.2.1)
theorem meetOrder {H:Hp} {x y:Pr} (ox:okPr x) (oy:okPr y):Qf Tryz.prog F.meet_order #[mtV x,mtV y] H (.int .i64 (cfM x y)):=by
 have e:cmpM x.2.2 y.2.2=(cmpR x.2.2 y.2.2,0):=if_pos ⟨ox,oy⟩
 have q:=meetLater (H:=H) (a:=x.2.2) (b:=y.2.2) (okR.fit ox) (okR.fit oy)
 rw [e] at q
 refine meet_order_vc ⟨_,q,_,compare_int,_,compare_int,fun b H5 hb hH=>?_⟩
 have l5:Hp.le H H5:=Hp.le_new (Hp.le_refl _) hb hH
 have r:RdI H5 ⟨some ⟨b,0,none⟩,3,3⟩ [cmpR x.2.2 y.2.2,cmpI x.1 y.1,cmpI x.2.1 y.2.1]:=rdConst (k:=1) (f:=fI) (fun _=>rfl) hH rfl rfl
 have q2:=cmpOr3 r
 exact ⟨_,q2,rfl,l5⟩
theorem cmpI_neg0 {a b:Int}:decide (cmpI a b<0)=decide (a<b):=by
 unfold cmpI
 by_cases h:a<b
 ·rw [if_pos h]; simp [h]
 ·rw [if_neg h]
  split <;> simp [h]
theorem cmpI_zero0 {a b:Int}:cmpI a b=0↔a=b:=by
 unfold cmpI
 by_cases h:a<b
 ·rw [if_pos h]; omega
 ·rw [if_neg h]
  split <;> omega
theorem cfM_lt {x y:Pr}:decide (cfM x y<0)=clP x y:=by
 unfold cfM or3 clP
 by_cases h:cmpR x.2.2 y.2.2≠0
 ·rw [if_pos h,if_pos h]
 ·rw [if_neg h,if_neg h]
  by_cases h1:x.1≠y.1
  ·rw [if_pos h1,if_pos (fun e=>h1 (cmpI_zero0.1 e)),cmpI_neg0]
  ·rw [if_neg h1,if_neg (fun e=>e (cmpI_zero0.2 (Decidable.not_not.1 h1))),cmpI_neg0]

section
variable {L:List Pr}
abbrev PrIn (L:List Pr):={x:Pr // x∈L}
def encM (x:PrIn L):List Value:=fM x.1
def cfMin (x y:PrIn L):Int:=cfM x.1 y.1
theorem lt_M (x y:PrIn L):ltOf (cfMin (L:=L)) x y=clP x.1 y.1:=by
 unfold ltOf cfMin; exact cfM_lt
theorem swo_M (ok:∀ x∈L,okPr x):SWO (ltOf (cfMin (L:=L))) where
 irrefl x:=by rw [lt_M,clP_irrefl]
 trans x y z h1 h2:=by
  rw [lt_M] at *
  have ox:=ok _ x.2; have oy:=ok _ y.2; have oz:=ok _ z.2
  have n:=clP_tr z.1 y.1 x.1 oz oy ox
  by_cases e:x.1=z.1
  ·rw [e] at h1
   rw [clP_asymm _ _ oz oy h1] at h2; cases h2
  ·refine clP_less ox oz e ?_
   have a1:=clP_asymm _ _ ox oy h1
   have a2:=clP_asymm _ _ oy oz h2
   exact clP_tr x.1 y.1 z.1 ox oy oz a1 a2
 ntrans x y z h1 h2:=by
  rw [lt_M] at *
  exact clP_tr z.1 y.1 x.1 (ok _ z.2) (ok _ y.2) (ok _ x.2) h2 h1
theorem tot_M (ok:∀ x∈L,okPr x) (x y:PrIn L) (h1:ltOf (cfMin (L:=L)) x y=false) (h2:ltOf (cfMin (L:=L)) y x=false):x=y:=by
 rw [lt_M] at h1 h2
 exact Subtype.ext (clP_anti _ _ (ok _ x.2) (ok _ y.2) h1 h2)
theorem heap_sortM [Inhabited (PrIn L)] {w:World} {b k m:Nat} {d:Array (PrIn L)} {os:Array Obj} (hk:k<w.heap.size) :
  (sortWorldK encM 4 w b 0 m d os).heap[k]?=(w.heap.modify b (onCells (putCells id 0 (flatK encM 4 d))))[k]?:=by
 unfold sortWorldK putRowK putRow mapBlock
 rw [heap_grow_old _ _ (by simpa using hk)]
 rfl
theorem cmpMt [Inhabited (PrIn L)] (ok:∀ x∈L,okPr x) {w:World} {b size:Nat} :
  CmpLays Tryz.prog F.meet_order #[] encM 4 (cfMin (L:=L)) b 0 size w:=by
 intro m os dk hs x y
 generalize sortWorldK encM 4 w b 0 m dk os=W
 have hv:View W (fun _=>none):=fun c o hc=>by cases hc
 refine (meetOrder (H:=fun _=>none) (ok _ x.2) (ok _ y.2) W hv).mono fun e w' ⟨v,H',he,tr,hv',hl⟩=>?_
 subst hv'
 exact ⟨he,tr.grown hv hl⟩
end
theorem aggMt:∀ w,(isAgg (Tryz.sortMt_ren.t 24)).run Tryz.prog w=.ok true w:=fun w=>by
 rw [Go.Eng.run_isAgg (t:=Tryz.sortMt_ren.t 24) (P:=Tryz.prog) (x:=(Tryz.prog.underlying 74).getD (.struct #[])) (by kernel_rfl)]
 exact congrArg (fun b=>Result.ok b w) (show aggT Tryz.prog (Tryz.sortMt_ren.t 24)=true by kernel_rfl)
theorem sizeMt:∀ w,(Go.sizeOf (Tryz.sortMt_ren.t 24)).run Tryz.prog w=.ok 4 w:=fun w=>by
 rw [Go.Eng.run_sizeOf (t:=Tryz.sortMt_ren.t 24) (P:=Tryz.prog) (x:=(Tryz.prog.underlying 74).getD (.struct #[])) (by kernel_rfl)]
 exact congrArg (fun b=>Result.ok b w) (show Tryz.prog.cellsOf (Tryz.sortMt_ren.t 24)=4 by kernel_rfl)
theorem SrtN_pair {xs:List Pr} (h:xs.Pairwise fun x y=>clP y x=false):SrtN xs xs.length:=fun a b hab hb=>by
 have:=List.pairwise_iff_getElem.1 h a b (by omega) hb hab
 rw [List.getD_eq_getElem?_getD,List.getD_eq_getElem?_getD,List.getElem?_eq_getElem hb,List.getElem?_eq_getElem (show a<xs.length by omega)]
 exact this

set_option maxHeartbeats 2000000 in
theorem sortMts {H0 H:Hp} {u:Slc} {L:List Pr} {e:TypeId} (ok:∀ x∈L,okPr x) (hbig:L.length<4611686018427387904) (hu:Mine 4 fM e H0 H u L) :
  Go.Eng.Fn Tryz.prog F.slices_SortFunc_api_Meeting_api_Meeting #[u.v,.func (.func F.meet_order) #[] #[]] H fun v H'=>v=.tuple #[]∧Mine 4 fM e H0 H' u (sortP L)∧Chg H H' u:=by
 have hlen:=hu.rdM.len
 by_cases hne:L=[]
 ·subst hne
  intro w hv
  have hn:u.n=0:=by simpa using hlen
  rw [show u.v=.slice u.a 0 u.c by unfold Slc.v; rw [hn]]
  refine (AnyF.slices_SortFunc_none Tryz.sortMt u.a u.c _ w).mono fun e1 w' ⟨he,hw⟩=>⟨_,H,he,by rw [hw]; exact Tr.refl hv,rfl,?_,fun _ _ _=>rfl⟩
  exact hu
 obtain ⟨p0,hp0⟩:=List.exists_mem_of_ne_nil L hne
 haveI:Inhabited (PrIn L):=⟨⟨p0,hp0⟩⟩
 rcases hu with ⟨_,h⟩ | ⟨b,hb0,own⟩
 ·exact absurd h hne
 obtain ⟨cs,hcs,hsz,htake⟩:=own.cells
 have hba:=own.blk
 have hcap:=own.cap
 intro w hv
 have hw:=hv b _ hcs
 have hblk:b<w.heap.size:=(Array.getElem?_eq_some_iff.1 hw).1
 have hds:L.attach.toArray.size=L.length:=by simp
 have hcell:∀ j,j<L.length * 4→cs[j]?=(L.flatMap fM)[j]?:=fun j hj=>by
  rw [← htake,List.getElem?_take,if_pos hj]; simp
 have hfl:∀ (s:List Pr) (dd:Array (PrIn L)),dd.toList.map (·.1)=s→∀ j,j<s.length * 4→(s.flatMap fM)[j]?=some (flatK encM 4 dd)[j]! := fun s dd hdd j hj=>by
  have hl:dd.size=s.length:=by rw [← hdd]; simp
  have hq:j / 4<s.length:=Nat.div_lt_of_lt_mul (by omega)
  have hg:s[j / 4]?=some (dd[j / 4]!).1:=by
   rw [← hdd,List.getElem?_map,getElem!_pos dd (j / 4) (by omega)]
   simp [show j / 4<dd.size by omega]
  rw [get_flatK _ _ _ _ (by omega)]
  have hm:(fM (dd[j / 4]!).1)[j % 4]?=some ((encM dd[j / 4]!)[j % 4]!):=by
   have h3:j % 4<(fM (dd[j / 4]!).1).length:=Nat.mod_lt _ (by omega)
   show _=some ((fM (dd[j / 4]!).1)[j % 4]!)
   rw [getElem!_pos (fM (dd[j / 4]!).1) (j % 4) h3]
   exact List.getElem?_eq_getElem h3
  have:=flatMap_get (k:=4) (f:=fM) (fun _=>rfl) hg hm
  rwa [Nat.div_add_mod' j 4] at this
 have hatt:L.attach.toArray.toList.map (·.1)=L:=by show L.attach.map Subtype.val=L; exact List.attach_map_subtype_val L
 have hH:HoldsK encM 4 w b 0 L.attach.toArray:=by
  intro j hj
  rw [size_flatK,hds] at hj
  have h1:=hfl L L.attach.toArray hatt j hj
  rw [Nat.zero_add]
  refine ⟨?_,?_⟩
  ·unfold World.cell?
   simp only [hw]
   show cs[j]?=_
   rw [hcell j hj,h1]; rfl
  ·unfold World.frozen?
   simp only [hw]
   simp
 have hcmp:=cmpMt (L:=L) (b:=b) (w:=w) (size:=L.attach.toArray.size) ok
 have eg:∀ args w,(callFunc F.meet_order args).run Tryz.prog w=.ok (.enter F.meet_order args) w:=enters_of Tryz.func141 (by kernel_rfl) rfl
 have hcon:=AnyQ.slices_SortFunc_total Tryz.sortMt 4 aggMt sizeMt encM (fun _=>rfl) (fun x v hv=>fM_one x.1 v hv) (cfMin (L:=L)) (swo_M ok) F.meet_order #[] b 0 u.c L.attach.toArray w eg hcmp hH hblk (by rw [hds]; exact hbig) (tot_M ok)
 rw [hds] at hcon
 rw [show u.v=.slice (some ⟨b,0,none⟩) L.length u.c by unfold Slc.v; rw [hba,hlen]]
 refine hcon.mono fun e1 w' ⟨he,n,os,hw'⟩=>?_
 generalize hS:(L.attach.toArray.toList.mergeSort fun x y=>!(ltOf (cfMin (L:=L))) y x)=S at hw'
 have hs1:S.Perm L.attach.toArray.toList:=by rw [← hS]; exact List.mergeSort_perm _ _
 have hpm:=hs1.map (fun x:PrIn L=>x.1)
 rw [hatt] at hpm
 have hso:(S.map (·.1)).Pairwise fun x y=>clP y x=false:=by
  rw [List.pairwise_map]
  have:=List.pairwise_mergeSort (le:=fun x y:PrIn L=>!(ltOf (cfMin (L:=L))) y x) (fun a b c h1 h2=>?_) (fun a b=>?_) L.attach.toArray.toList
  ·rw [hS] at this
   refine this.imp fun h=>?_
   rw [lt_M] at h; simpa using h
  ·rw [lt_M] at *
   simp only [Bool.not_eq_true'] at *
   exact clP_tr a.1 b.1 c.1 (ok _ a.2) (ok _ b.2) (ok _ c.2) h1 h2
  ·rw [lt_M,lt_M]
   cases h:clP b.1 a.1 with
   | false=>rfl
   | true=>rw [clP_asymm _ _ (ok _ b.2) (ok _ a.2) h]; rfl
 have hse:S.map (·.1)=sortP L:=SrtN.done (SrtN_pair hso) ok hpm
 have hSl:S.length=L.length:=by have:=hs1.length_eq; simpa using this
 have hdS:S.toArray.toList.map (·.1)=sortP L:=by rw [← hse]
 have hcsz:(putCells id 0 (flatK encM 4 S.toArray) cs).size=cs.size:=by simp [putCells]
 have hl1:(sortP L).length=L.length:=by rw [← hse,List.length_map,hSl]
 have hnew:∀ k,k<w.heap.size→w'.heap[k]?=if k=b then some (.cells (putCells id 0 (flatK encM 4 S.toArray) cs) e (0,0)) else w.heap[k]?:=fun k hk=>by
  rw [hw',heap_sortM hk,Array.getElem?_modify]
  split
  ·rename_i e2; subst e2; rw [if_pos rfl,hw]; rfl
  ·rename_i e2; rw [if_neg (fun e3=>e2 e3.symm)]
 have hsize:w.heap.size≤w'.heap.size:=by
  rw [hw']; unfold sortWorldK putRowK; rw [size_grow,size_putRow]; exact Nat.le_add_right _ _
 refine ⟨_,Hp.put H b (.cells (putCells id 0 (flatK encM 4 S.toArray) cs) e (0,0)),he,⟨fun k o hk=>?_,fun k hk hn=>?_,fun k hk=>?_,hsize,by rw [hw']; rfl,by rw [hw']; rfl,by rw [hw']; rfl,by rw [hw']; show w.drawn≤w.drawn+n; omega⟩,rfl,.inr ⟨b,hb0,?_⟩,fun k hk hp=>?_⟩
 ·unfold Hp.put at hk
  split at hk
  ·rename_i e2; subst e2; cases hk; rw [hnew k hblk,if_pos rfl]
  ·rename_i e2
   have h0:=hv k o hk
   rw [hnew k (Array.getElem?_eq_some_iff.1 h0).1,if_neg e2]; exact h0
 ·rw [hnew k hk,if_neg (fun e2=>by subst e2; rw [hcs] at hn; cases hn)]
 ·unfold Hp.put at hk
  split at hk
  ·rename_i e2; subst e2; left; rw [hcs]; simp
  ·exact .inl hk
 ·refine ⟨by rw [hl1]; exact own.len,own.cap,own.blk,putCells id 0 (flatK encM 4 S.toArray) cs,by simp [Hp.put],by rw [hcsz]; exact hsz,?_⟩
  refine List.ext_getElem? fun j=>?_
  rw [List.getElem?_take]
  split
  ·rename_i hj
   rw [hfl _ S.toArray hdS j hj]
   have hjc:j<cs.size:=by
    rw [hsz]; rw [hl1] at hj
    have:=own.len; have:L.length * 4≤u.c * 4:=Nat.mul_le_mul_right 4 (by omega)
    omega
   rw [Array.getElem?_toList]
   unfold putCells
   rw [Array.getElem?_mapIdx,Array.getElem?_eq_getElem hjc,Option.map_some,if_pos ⟨Nat.zero_le _,by rw [size_flatK]; simp [hSl]; rw [hl1] at hj; omega⟩]
   simp
  ·rename_i hj
   exact (List.getElem?_eq_none (by rw [flatMap_len (k:=4) (fun _=>rfl)]; omega)).symm
 ·rw [Hp.put_ne]
  intro e2; subst e2; exact hp _ hba rfl


theorem storeAll {H:Hp} {b:Nat} {cs:Array Value} {T:TypeId} (h:Cel H b cs T) (vs:List Value) (hv:vs.length=cs.size):H.canStore ⟨b,0,none⟩ 0 vs∧H.store ⟨b,0,none⟩ 0 vs=H.put b (.cells vs.toArray T (0,0)):=by
 obtain ⟨can,st⟩:=store_row (b:=b) (off:=0) vs 0 H cs h (by omega)
 refine ⟨can,?_⟩
 rw [st]
 have:cs.toList.drop (0+0+vs.length)=[]:=List.drop_eq_nil_of_le (by rw [Array.length_toList]; omega)
 rw [this]; simp
theorem put_put' {H:Hp} {b:Nat} {o o':Obj}:(H.put b o).put b o'=H.put b o':=by
 funext k; unfold Hp.put; split <;> rfl
/-! ### Pairs,in plain Lean -/
def rowPr (f:List Pt) (i k:Nat):List (Pt × Pt):=((f.drop (i+1)).take k).map fun q=>(ptF f i,q)
def prsN (f:List Pt) (i:Nat):List (Pt × Pt):=(List.range i).flatMap fun j=>(f.drop (j+1)).map fun q=>(ptF f j,q)
theorem prsN_succ (f:List Pt) (i:Nat):prsN f (i+1)=prsN f i++(f.drop (i+1)).map fun q=>(ptF f i,q):=by
 unfold prsN; rw [List.range_succ,List.flatMap_append]; simp
theorem rowPr_all {f:List Pt} {i k:Nat} (h:(f.drop (i+1)).length≤k):rowPr f i k=(f.drop (i+1)).map fun q=>(ptF f i,q):=by
 unfold rowPr; rw [List.take_of_length_le h]
theorem rowPr_succ {f:List Pt} {i k:Nat} {q:Pt} (h:(f.drop (i+1))[k]?=some q):rowPr f i (k+1)=rowPr f i k++[(ptF f i,q)]:=by
 unfold rowPr; rw [take_succ h,List.map_append]; rfl
def metOf (x:Pt × Pt):Option Pr:=if x.1.2.2=x.2.2.2 then none else some (mtPr (atP x.1 x.2,x.1.1,x.2.1))
theorem metR_of (p:Pt) (ps:List Pt):(metR p ps).map mtPr=(ps.map fun q=>(p,q)).filterMap metOf:=by
 unfold metR
 rw [List.map_filterMap,List.filterMap_map]
 congr 1
 funext q
 unfold metOf
 simp only [Function.comp]
 split <;> rfl
theorem mets_of (f:List Pt):(prsN f f.length).filterMap metOf=(metL f).map mtPr:=by
 rw [metL_rows,List.map_flatMap]
 unfold prsN
 rw [List.filterMap_flatMap]
 congr 1
 funext j
 exact (metR_of _ _).symm
theorem meetZero {p q:Pt} (op:okP p) (oq:okP q) (h:p.2.2≠q.2.2):(makeM (p.2.1-q.2.1) (q.2.2-p.2.2)).2=0:=by
 rcases Int.lt_or_gt_of_ne h with hl | hl
 ·obtain ⟨x,y,g,_,hm,_⟩:=meet_parts op oq hl
  rw [hm]
 ·rw [makeM_neg (show q.2.2-p.2.2≠0 by omega),show -(p.2.1-q.2.1)=q.2.1-p.2.1 by omega,show -(q.2.2-p.2.2)=p.2.2-q.2.2 by omega]
  obtain ⟨x,y,g,_,hm,_⟩:=meet_parts oq op (show q.2.2<p.2.2 from hl)
  rw [hm]
theorem courseSame {H:Hp} {p q:Pt} (hp:okP p) (hq:okP q) (hne:p.1≠q.1) (hb:p.2.2=q.2.2):Qf Tryz.prog F.course_Meet #[ptW p,ptW q] H (.tuple #[raW (0,0),.int .i64 6]):=by
 have h2:twoM p q (0,1)=0:=twoM_zero.2 ⟨hp,hq,ok01,hne⟩
 refine course_Meet_vc ⟨_,courseTwo (p:=p) (q:=q) (t:=(0,1)) ok01.fit,fun hc=>?_,fun hc=>⟨fun he=>⟨rfl,Hp.le_refl _⟩,fun he=>?_⟩⟩
 ·rw [h2] at hc; simp at hc
 ·exact absurd hb (by simpa using he)

/-! ### The iterator -/
def hideB (H:Hp) (b:Nat):Hp:=fun k=>if k=b then none else H k
theorem hideB_le {H:Hp} {b:Nat}:Hp.le (hideB H b) H:=fun k o h=>by
 unfold hideB at h
 split at h
 ·cases h
 ·exact h
theorem le_hideB {H H':Hp} {b:Nat} (h:Hp.le H H') (hb:H b=none):Hp.le H (hideB H' b):=fun k o hk=>by
 unfold hideB
 rw [if_neg fun e=>by rw [e,hb] at hk; cases hk]
 exact h k o hk
structure InvP (B:Hp) (b3:Nat) (pre:List (Pt × Pt)) (H:Hp) (s:Slc):Prop where
 le:Hp.le B H
 vr:Var H b3 s.v T.s_api_Meeting
 ms:Mine 4 fM T.api_Meeting B H s (pre.filterMap metOf)
 ne:∀ p,s.a=some p→p.block≠b3
def OkP (f:List Pt) (b3:Nat) (x:Pt × Pt) (vs:List Value) (H:Hp):Prop:=vs=[.int .i64 x.1.1,.int .i64 x.1.2.1,.int .i64 x.1.2.2,.int .i64 x.2.1,.int .i64 x.2.2.1,.int .i64 x.2.2.2]∧x.1∈f∧x.2∈f∧x.1.1≠x.2.1∧∀ s:Slc,Var H b3 s.v T.s_api_Meeting→s.n≤10000
theorem Slc.v_inj {s t:Slc} (h:s.v=t.v):s=t:=by
 cases s; cases t
 simp only [Slc.v] at h
 injection h with h1 h2 h3
 subst h1 h2 h3; rfl
theorem var_slc {H:Hp} {b:Nat} {s t:Slc} {T:TypeId} (h1:Var H b s.v T) (h2:Var H b t.v T):s=t:=by
 have a:=h1.at; rw [h2.at] at a
 exact Slc.v_inj (Option.some.inj a).symm
theorem prsN_len (f:List Pt):∀ i,(prsN f i).length≤i * f.length
 | 0=>by simp [prsN]
 | i+1=>by
  rw [prsN_succ,List.length_append,List.length_map,List.length_drop]
  have:=prsN_len f i
  rw [Nat.add_mul,Nat.one_mul]; omega
theorem rowPr_len (f:List Pt) (i k:Nat):(rowPr f i k).length≤f.length:=by
 unfold rowPr; rw [List.length_map,List.length_take,List.length_drop]; omega
theorem ofPts (x:Pt × Pt):OfL (cfg91.yp.flatMap (·.2)) [.int .i64 x.1.1,.int .i64 x.1.2.1,.int .i64 x.1.2.2,.int .i64 x.2.1,.int .i64 x.2.2.1,.int .i64 x.2.2.2]:=fun f h=>h x.1.1 x.1.2.1 x.1.2.2 x.2.1 x.2.2.1 x.2.2.2

set_option maxHeartbeats 4000000 in
theorem pairsIter {Hs B:Hp} {bp b3:Nat} {w:Slc} {f:List Pt} (of:okF f) (r:Rd 3 fD B w f) (hc:Cel B bp #[w.v] 24) (st:∃ s,InvP B b3 [] Hs s) :
  IterOk Tryz.prog (.func (.func F.meet_pairs_1) #[] #[.pointer (some ⟨bp,0,none⟩)]) Hs (prsN f f.length) (fun pre H=>∃ s,InvP B b3 pre H s) (OkP f b3) cfg91.yp:=by
 refine ⟨_,_,rfl,⟨_,Tryz.func200,by kernel_rfl⟩,fun L o hL round=>?_⟩
 show Go.Eng.Fn Tryz.prog F.meet_pairs_1 #[.func (.yield L) #[] #[],.pointer (some ⟨bp,0,none⟩)] (Hs.put L o) _
 have lf:=of.small
 have wn:w.n=f.length:=r.len
 have wc:w.n≤w.c:=r.cap
 have box:∀ {H:Hp},Hp.le B H→H L=none→(H.put L o).at (((Addr.mk bp 0 none).add 0).add 0)=some w.v:=fun {H} hl hn=>by
  rw [add_zero',add_zero',Cel.at ((hc.le hl).le (Hp.put_le _ _ hn))]; rfl
 have hK:Tryz.prog.cellsOf 112=3:=by kernel_rfl
 obtain ⟨s0,i0⟩:=st
 refine meet_pairs_1_vc ⟨w,box i0.le hL,fun n Hx=>∃ i H,n=(i:Nat)∧i≤f.length∧Hx=Hp.put H L o∧H L=none∧∃ s,InvP B b3 (prsN f i) H s,fun n _=>((f.length:Int)-n).toNat,⟨0,Hs,rfl,by omega,rfl,hL,s0,i0⟩,?_⟩
 rintro n4 Hx ⟨i,H,rfl,hi,rfl,hn,s,iv⟩
 refine ⟨fun h=>?_,fun h=>?_⟩
 ·have h:i<f.length:=by have:=of_decide_eq_true h; omega
  have rx:Rd 3 fD (H.put L o) w f:=(r.le iv.le).le (Hp.put_le _ _ hn)
  have g:=Rd.gD (xs:=f) rx (i:=(i:Int)) (by omega) (by omega)
  rw [Int.toNat_natCast] at g
  have ei:((i:Int)+1).toNat=i+1:=by omega
  refine ⟨rx.inS (by omega) (by omega),_,_,_,g,w,box iv.le hn,by unfold inI; omega,⟨by omega,by omega,by omega,by omega⟩,?_⟩
  rw [hK,ei]
  have dl:(f.drop (i+1)).length=f.length-(i+1):=List.length_drop
  have iv0:InvP B b3 (prsN f i++rowPr f i 0) H s:=by
   have e0:rowPr f i 0=[]:=by simp [rowPr]
   rw [e0,List.append_nil]; exact iv
  refine ⟨fun n Hx=>∃ k H,n=(k:Nat)∧k≤f.length-(i+1)∧Hx=Hp.put H L o∧H L=none∧∃ s,InvP B b3 (prsN f i++rowPr f i k) H s,fun n _=>(((f.length-(i+1):Nat):Int)-n).toNat,⟨0,H,rfl,by omega,rfl,hn,s,iv0⟩,?_⟩
  rintro n12 Hy ⟨k,H2,rfl,hk,rfl,hn2,s2,iv2⟩
  refine ⟨fun h2=>?_,fun h2=>?_⟩
  ·have h2:k<f.length-(i+1):=by have:=of_decide_eq_true h2; rw [wn] at this; omega
   have ry:Rd 3 fD (H2.put L o) w f:=(r.le iv2.le).le (Hp.put_le _ _ hn2)
   have rs:=ry.sub (l:=(i:Int)+1) (hi:=(w.n:Int)) (m:=(w.c:Int)) (by omega) (by omega) (by omega) (by omega)
   rw [ei,Int.toNat_natCast,Int.toNat_natCast,wn,List.take_length] at rs
   have gk:=Rd.gD (xs:=f.drop (i+1)) rs (i:=(k:Int)) (by omega) (by omega)
   have is:=rs.inS (i:=(k:Int)) (by omega) (by omega)
   rw [Int.toNat_natCast] at gk
   have hq:(f.drop (i+1))[k]?=some ((f.drop (i+1)).getD k (0,0,0)):=by rw [List.getD_eq_getElem?_getD,List.getElem?_eq_getElem (by omega)]; rfl
   generalize (f.drop (i+1)).getD k (0,0,0)=q at gk hq
   have mp:ptF f i∈f:=ptF_mem h
   have mq:q∈f:=List.mem_of_mem_drop (List.mem_of_getElem? hq)
   have hne:(ptF f i).1≠q.1:=by
    have hp:=List.pairwise_iff_getElem.1 (okF_ids of)
    rw [List.getElem?_drop] at hq
    obtain ⟨b1,b2⟩:=List.getElem?_eq_some_iff.1 hq
    have:=hp i (i+1+k) h b1 (by omega)
    rw [b2] at this
    have e:f[i]=ptF f i:=by have:=ptF_get h; rw [List.getElem?_eq_getElem h] at this; exact Option.some.inj this
    rwa [e] at this
   have bnd:∀ s':Slc,Var H2 b3 s'.v T.s_api_Meeting→s'.n≤10000:=fun s' hs'=>by
    rw [var_slc hs' iv2.vr]
    have h1:=iv2.ms.rdM.len
    have h2:=List.length_filterMap_le metOf (prsN f i++rowPr f i k)
    rw [List.length_append] at h2
    have h3:=prsN_len f i
    have h4:=rowPr_len f i k
    have h5:i * f.length≤64 * 64:=Nat.mul_le_mul (by have:=of.len; omega) of.len
    have:=of.len
    omega
   rw [wn]
   refine ⟨is,_,_,_,gk,?_⟩
   have R:FnY Tryz.prog L [sI3 (ptF f i).1 (ptF f i).2.1 (ptF f i).2.2,sI3 q.1 q.2.1 q.2.2] (H2.put L o) fun v Hx=>v=.bool true∧∃ H3,(∃ s,InvP B b3 ((prsN f i++rowPr f i k)++[(ptF f i,q)]) H3 s)∧H3 L=none∧Hx=H3.put L o :=
    round (prsN f i++rowPr f i k) (ptF f i,q) _ H2 (ofPts (ptF f i,q)) ⟨s2,iv2⟩ ⟨rfl,mp,mq,hne,bnd⟩ hn2
   refine R.mono fun v H18 ⟨ev,H3,i3,n3,e3⟩=>⟨true,ev,fun h=>by simp at h,fun _=>⟨by unfold inI; omega,⟨k+1,H3,by omega,by omega,e3,n3,?_⟩,by dsimp only; omega⟩⟩
   rw [rowPr_succ hq,← List.append_assoc]; exact i3
  ·have h2:¬ k<f.length-(i+1):=by have:=of_decide_eq_false h2; rw [wn] at this; omega
   refine ⟨by unfold inI; omega,⟨i+1,H2,by omega,by omega,rfl,hn2,s2,?_⟩,by dsimp only; omega⟩
   rw [prsN_succ,← rowPr_all (k:=k) (by omega)]; exact iv2
 ·have h:¬ i<f.length:=by have:=of_decide_eq_false h; omega
  have e:i=f.length:=by omega
  subst e
  exact ⟨H,⟨s,iv⟩,hn,rfl⟩

theorem cel3 {H:Hp} {b:Nat} {x y z:Value} {T:TypeId} (h:Cel H b #[x,y,z] T):H.at ((Addr.mk b 0 none).add 0)=some x∧H.at ((Addr.mk b 0 none).add 1)=some y∧H.at ((Addr.mk b 0 none).add 2)=some z:=by
 have e1:(Addr.mk b 0 none).add 1=Addr.mk b 1 none:=rfl
 have e2:(Addr.mk b 0 none).add 2=Addr.mk b 2 none:=rfl
 rw [add_zero',e1,e2,Cel.at h,Cel.at h,Cel.at h]
 exact ⟨rfl,rfl,rfl⟩
theorem cel2 {H:Hp} {b:Nat} {x y:Value} {T:TypeId} (h:Cel H b #[x,y] T):H.at ((Addr.mk b 0 none).add 0)=some x∧H.at ((Addr.mk b 0 none).add 1)=some y:=by
 have e1:(Addr.mk b 0 none).add 1=Addr.mk b 1 none:=rfl
 rw [add_zero',e1,Cel.at h,Cel.at h]
 exact ⟨rfl,rfl⟩
theorem mets_few {f:List Pt} (of:okF f):((metL f).map mtPr).length≤4096:=by
 have sm:=of.len
 rw [← upM4_end]
 have:=upM4_len f f.length
 have:f.length * f.length≤64 * 64:=Nat.mul_le_mul (by omega) (by omega)
 omega
set_option maxHeartbeats 4000000 in
theorem meetAllL {H:Hp} {w:Slc} {f:List Pt} (hf:Rd 3 fD H w f) (of:okF f) :
  Go.Eng.Fn Tryz.prog F.meet_all #[vFd w] H fun v H'=>∃ u:Slc,v=u.v∧Hp.le H H'∧Mine 4 fM T.api_Meeting H H' u (metsM f):=by
 have sm:=of.len
 refine meet_all_vc fun b1 H2 hb1 hH2 b3 H4 hb3 hH4=>?_
 have l2:Hp.le H H2:=Hp.le_new (Hp.le_refl _) hb1 hH2
 have l4':Hp.le H2 H4:=Hp.le_new (Hp.le_refl _) hb3 hH4
 have C1:Cel H4 b1 #[w.v] 24:=Cel.le (by subst hH2; exact Cel.put) l4'
 have nb3:H b3=none:=by
  cases hx:H b3 with
  | none=>rfl
  | some o=>rw [l2 _ _ hx] at hb3; cases hb3
 refine ⟨w,by rw [add_zero',Cel.at C1]; rfl,meet_pairs_vc fun bp H7 hbp hH7=>⟨_,rfl,fun _=>rfl,Pt × Pt,prsN f f.length,OkP f b3,fun pre H=>∃ s,InvP (hideB H7 b3) b3 pre H s,?_⟩⟩
 have l7':Hp.le H4 H7:=Hp.le_new (Hp.le_refl _) hbp hH7
 have l7:Hp.le H H7:=Hp.le_trans l2 (Hp.le_trans l4' l7')
 have V4:Var H4 b3 (⟨none,0,0⟩:Slc).v T.s_api_Meeting:=Var.new hH4
 have V7:=V4.le l7'
 have lB:Hp.le H (hideB H7 b3):=le_hideB l7 nb3
 have nB:(hideB H7 b3) b3=none:=by unfold hideB; rw [if_pos rfl]
 have hbp3:bp≠b3:=fun e=>by subst e; unfold Var Cel at V4; rw [V4] at hbp; cases hbp
 have CB:Cel (hideB H7 b3) bp #[w.v] 24:=by
  unfold Cel hideB
  rw [if_neg hbp3,hH7]; exact Hp.put_same _ _ _
 have i0:InvP (hideB H7 b3) b3 [] H7 ⟨none,0,0⟩:=⟨hideB_le,V7,.inl ⟨rfl,rfl⟩,fun p hp=>by cases hp⟩
 refine ⟨pairsIter of (hf.le lB) CB ⟨_,i0⟩,⟨_,i0⟩,?_,?_⟩
 ·rintro pre x n15 n16 n17 n18 n19 n20 H21 ⟨s,iv⟩ ⟨evs,m1,m2,hne,hbd⟩ b22 H23 hb22 hH23
  simp only [List.cons.injEq,Value.int.injEq,true_and,and_true] at evs
  obtain ⟨rfl,rfl,rfl,rfl,rfl,rfl⟩:=evs
  have o1:=of.each _ m1
  have o2:=of.each _ m2
  have C23:Cel H23 b22 #[.int .i64 0,.int .i64 0,.int .i64 0] 112:=by subst hH23; exact Cel.put
  obtain ⟨can,sto⟩:=storeAll C23 [.int .i64 x.1.1,.int .i64 x.1.2.1,.int .i64 x.1.2.2] rfl
  refine ⟨can,fun H24 hH24=>?_⟩
  rw [sto,hH23,put_put'] at hH24
  have l24:Hp.le H21 H24:=Hp.le_new (Hp.le_refl _) hb22 hH24
  have C24:Cel H24 b22 #[.int .i64 x.1.1,.int .i64 x.1.2.1,.int .i64 x.1.2.2] 112:=by subst hH24; exact Cel.put
  intro b25 H26 hb25 hH26
  have C26:Cel H26 b25 #[.int .i64 0,.int .i64 0,.int .i64 0] 112:=by subst hH26; exact Cel.put
  obtain ⟨can,sto⟩:=storeAll C26 [.int .i64 x.2.1,.int .i64 x.2.2.1,.int .i64 x.2.2.2] rfl
  refine ⟨can,fun H27 hH27=>?_⟩
  rw [sto,hH26,put_put'] at hH27
  have l27:Hp.le H24 H27:=Hp.le_new (Hp.le_refl _) hb25 hH27
  have C27:Cel H27 b25 #[.int .i64 x.2.1,.int .i64 x.2.2.1,.int .i64 x.2.2.2] 112:=by subst hH27; exact Cel.put
  have C27a:=C24.le l27
  refine ⟨fun _=>rfl,_,_,_,cel3 C27a,_,_,_,cel3 C27,?_⟩
  have fin:∀ t:Int × Int,∀ b37 H38,H27 b37=none→H38=H27.put b37 (.cells #[.int .i64 0,.int .i64 0] 26)→H38.canStore (Addr.mk b37 0 none) 0 [.int .i64 t.1,.int .i64 t.2]∧∀ H39,H39=H38.store (Addr.mk b37 0 none) 0 [.int .i64 t.1,.int .i64 t.2]→Hp.le H27 H39∧Cel H39 b37 #[.int .i64 t.1,.int .i64 t.2] 26:=fun t b37 H38 hb hH=>by
   have C38:Cel H38 b37 #[.int .i64 0,.int .i64 0] 26:=by subst hH; exact Cel.put
   obtain ⟨can,sto⟩:=storeAll C38 [.int .i64 t.1,.int .i64 t.2] rfl
   refine ⟨can,fun H39 hH39=>?_⟩
   rw [sto,hH,put_put'] at hH39
   exact ⟨Hp.le_new (Hp.le_refl _) hb hH39,by subst hH39; exact Cel.put⟩
  by_cases hsp:x.1.2.2=x.2.2.2
  ·refine ⟨0,0,6,courseSame o1 o2 hne hsp,fun b37 H38 hb37 hH38=>?_⟩
   obtain ⟨can,f39⟩:=fin (0,0) b37 H38 hb37 hH38
   refine ⟨can,fun H39 hH39=>⟨fun h=>by simp at h,fun _=>?_⟩⟩
   obtain ⟨l39,_⟩:=f39 H39 hH39
   have l2139:=Hp.le_trans l24 (Hp.le_trans l27 l39)
   have e:(pre++[x]).filterMap metOf=pre.filterMap metOf:=by
    rw [List.filterMap_append]
    have:[x].filterMap metOf=[]:=by simp [metOf,hsp]
    rw [this,List.append_nil]
   exact ⟨s,Hp.le_trans iv.le l2139,iv.vr.le l2139,by rw [e]; exact iv.ms.le l2139,iv.ne⟩
  ·have q:=courseMeet (H:=H27) o1 o2 hne hsp
   rw [meetZero o1 o2 hsp] at q
   refine ⟨(atP x.1 x.2).1,(atP x.1 x.2).2,0,q,fun b37 H38 hb37 hH38=>?_⟩
   obtain ⟨can,f39⟩:=fin (atP x.1 x.2) b37 H38 hb37 hH38
   refine ⟨can,fun H39 hH39=>⟨fun _=>?_,fun h=>by simp at h⟩⟩
   obtain ⟨l39,C39⟩:=f39 H39 hH39
   have l2139:=Hp.le_trans l24 (Hp.le_trans l27 l39)
   have V39:=iv.vr.le l2139
   have m39:=iv.ms.le l2139
   have lB39:=Hp.le_trans iv.le l2139
   have g1:=(cel3 (C27a.le l39)).1
   have g2:=(cel3 (C27.le l39)).1
   have z1:((Addr.mk b22 0 none).add 0).add 0=(Addr.mk b22 0 none).add 0:=rfl
   have z2:((Addr.mk b25 0 none).add 0).add 0=(Addr.mk b25 0 none).add 0:=rfl
   refine ⟨s,V39.at,_,_,cel2 C39,_,by rw [z1]; exact g1,_,by rw [z2]; exact g2,fun b45 H46 hb45 hH46=>?_⟩
   have e:(pre++[x]).filterMap metOf=pre.filterMap metOf++[mtPr (atP x.1 x.2,x.1.1,x.2.1)]:=by
    rw [List.filterMap_append]
    have:[x].filterMap metOf=[mtPr (atP x.1 x.2,x.1.1,x.2.1)]:=by simp [metOf,hsp]
    rw [this]
   have fewp:(pre.filterMap metOf).length≤100000000:=by have h1:=iv.ms.rdM.len; have h2:=hbd s iv.vr; omega
   refine (append1 (k:=4) (f:=fM) (bytes:=32) (x:=mtPr (atP x.1 x.2,x.1.1,x.2.1)) (by kernel_rfl) (by decide) (fun _=>rfl) fM_one lB39 m39 hb45 hH46 rfl fewp (by omega)).mono fun v H48 ⟨u,hv,l48,m48,c48,x48⟩=>⟨u,hv,?_⟩
   have V48:=V39.chg c48 iv.ne
   have nu:∀ p,u.a=some p→p.block≠b3:=fun p hp=>by
    rcases x48 p hp with h | h
    ·exact iv.ne p h
    ·intro e3; rw [e3] at h; unfold Var Cel at V39; rw [V39] at h; cases h
   refine Var.set V48 u.v fun H50 hH50=>⟨u,by subst hH50; exact Hp.le_put l48 nB,Var.new hH50,?_,nu⟩
   rw [e,hH50]
   exact m48.chg (v:=⟨some ⟨b3,0,none⟩,1,1⟩) (fun c _ hc=>Hp.put_ne _ _ fun e3=>hc ⟨b3,0,none⟩ rfl e3.symm) (fun p q hp hq=>by cases hq; exact nu p hp)
 ·rintro H51 ⟨s,iv⟩
  have ms:=iv.ms
  rw [mets_of] at ms
  have few:=mets_few of
  refine ⟨s,iv.vr.at,(sortMts (metPr_ok of) (by omega) ms).mono fun v H54 ⟨hv,m54,c54⟩=>⟨hv,s,(iv.vr.chg c54 iv.ne).at,s,rfl,Hp.le_trans lB (Hp.le_chg iv.le c54 ms.isNew),?_⟩⟩
  exact m54.low lB

theorem filter_takeD {α:Type} {p:α→Bool}:∀ {l:List α},(l.Pairwise fun x y=>p y=true→p x=true)→l.filter p=l.take (l.countP p)∧l.filter (fun x=>!p x)=l.drop (l.countP p)
 | [],_=>⟨rfl,rfl⟩
 | x :: l,h=>by
  obtain ⟨h1,h2⟩:=List.pairwise_cons.1 h
  obtain ⟨i1,i2⟩:=filter_takeD h2
  cases e:p x with
  | true =>
   rw [List.countP_cons_of_pos e,List.filter_cons_of_pos e,List.filter_cons_of_neg (by rw [e]; simp),i1,i2]
   exact ⟨rfl,rfl⟩
  | false =>
   have z:l.countP p=0:=List.countP_eq_zero.2 fun y hy hp=>by have:=h1 y hy hp; rw [e] at this; cases this
   rw [List.countP_cons_of_neg (by rw [e]; simp),z,List.filter_cons_of_neg (by rw [e]; simp),List.filter_cons_of_pos (by rw [e]; rfl)]
   rw [z] at i1 i2
   rw [i1,i2]; exact ⟨rfl,rfl⟩
def cntT (f:List Pt) (t:Int × Int):Nat:=(metsM f).countP fun x=>decide (cmpR x.2.2 t≤0)
theorem metsM_down {f:List Pt} (of:okF f) {t:Int × Int} (ot:okR t):(metsM f).Pairwise fun x y=>decide (cmpR y.2.2 t≤0)=true→decide (cmpR x.2.2 t≤0)=true :=
 List.Pairwise.imp_of_mem (fun {x y} hx hy h hq=>by
  rw [decide_eq_true_eq,cmpR_le] at hq ⊢
  exact leR_trans (metsM_ok of x hx) (metsM_ok of y hy) ot (clP_no.1 h).1 hq) (metsM_srt of)
theorem cntT_le {f:List Pt} (of:okF f) {a b:Int × Int} (oa:okR a) (ob:okR b) (h:leR a b):cntT f a≤cntT f b:=by
 refine List.countP_mono_left fun x hx hp=>?_
 rw [decide_eq_true_eq,cmpR_le] at hp ⊢
 exact leR_trans (metsM_ok of x hx) oa ob hp h
theorem cntT_len (f:List Pt) (t:Int × Int):cntT f t≤(metsM f).length:=List.countP_le_length
theorem between_part {f:List Pt} (of:okF f) {a b:Int × Int} (oa:okR a) (ob:okR b) (h:leR a b):betweenM f a b=((metsM f).take (cntT f b)).drop (cntT f a):=by
 obtain ⟨b1,_⟩:=filter_takeD (metsM_down of ob)
 have hs:=(metsM_down of oa).sublist (List.take_sublist (cntT f b) (metsM f))
 obtain ⟨_,a2⟩:=filter_takeD hs
 have ec:((metsM f).take (cntT f b)).countP (fun x=>decide (cmpR x.2.2 a≤0))=cntT f a:=by
  unfold cntT
  rw [← b1,List.countP_filter]
  refine List.countP_congr fun x hx=>?_
  have ox:=metsM_ok of x hx
  rw [Bool.and_eq_true,decide_eq_true_eq,decide_eq_true_eq,cmpR_le,cmpR_le]
  exact ⟨fun hh=>hh.1,fun hh=>⟨hh,leR_trans ox oa ob hh h⟩⟩
 rw [ec] at a2
 rw [← a2]
 unfold cntT
 rw [← b1,List.filter_filter]
 rfl
theorem metL_len:∀ f:List Pt,2 * (metL f).length≤f.length * f.length
 | []=>Nat.le_refl _
 | p :: f=>by
  have ih:=metL_len f
  have h1:(metR p f).length≤f.length:=List.length_filterMap_le _ _
  show 2 * (metR p f++metL f).length≤(f.length+1) * (f.length+1)
  have e:(f.length+1) * (f.length+1)=f.length * f.length+2 * f.length+1:=by rw [Nat.add_mul,Nat.mul_add]; omega
  rw [List.length_append]
  omega
theorem metsM_len (f:List Pt):(metsM f).length=(metL f).length:=by
 unfold metsM
 rw [(sortP_perm _).length_eq,List.length_map]
theorem metsM_small {f:List Pt} (of:okF f):(metsM f).length≤2048:=by
 have h:=metL_len f
 have l:=of.len
 have:=Nat.mul_le_mul l l
 rw [metsM_len]; omega

theorem behind1 {H:Hp} {x:Pr} {t:Int × Int} (ox:okPr x) (ot:okR t):QfV Tryz.prog (.func (.func F.meet_behind_1) #[] #[]) [mtV x,raW t] H (.int .i64 (if cmpR x.2.2 t≤0 then -1 else 1)):=by
 have e:cmpM x.2.2 t=(cmpR x.2.2 t,0):=if_pos ⟨ox,ot⟩
 have q:=meetLater (H:=H) (a:=x.2.2) (b:=t) (okR.fit ox) (okR.fit ot)
 rw [e] at q
 refine ⟨F.meet_behind_1,#[],_,rfl,⟨_,Tryz.func143,by kernel_rfl⟩,meet_behind_1_vc ⟨_,q,fun h=>?_,fun h=>?_⟩⟩
 ·have h:=of_decide_eq_true h
  rw [if_neg (by dsimp only at h; omega)]; exact ⟨rfl,Hp.le_refl _⟩
 ·have h:=of_decide_eq_false h
  rw [if_pos (by dsimp only at h; omega)]; exact ⟨rfl,Hp.le_refl _⟩
set_option maxHeartbeats 1000000 in
theorem meetBehind {H:Hp} {u:Slc} {l:List Pr} {t:Int × Int} (r:Rd 4 fM H u l) (ok:∀ x∈l,okPr x) (ot:okR t) (down:l.Pairwise fun x y=>decide (cmpR y.2.2 t≤0)=true→decide (cmpR x.2.2 t≤0)=true) (hl:l.length≤100000000) :
  Qf Tryz.prog F.meet_behind #[u.v,raW t] H (.int .i64 (l.countP fun x=>decide (cmpR x.2.2 t≤0):Nat)):=by
 have un:(u.n:Int)=l.length:=by have:=r.len; omega
 have gm:∀ {k:Nat},k<l.length→l.getD k zPr∈l:=fun h=>mem_getP h
 have dn:∀ {i j:Nat},i<j→j<l.length→cmpR (l.getD j zPr).2.2 t≤0→cmpR (l.getD i zPr).2.2 t≤0:=fun {i j} hij hj h=>by
  have:=List.pairwise_iff_getElem.1 down i j (by omega) hj hij
  rw [decide_eq_true_eq,decide_eq_true_eq] at this
  rw [List.getD_eq_getElem?_getD,List.getElem?_eq_getElem hj] at h
  rw [List.getD_eq_getElem?_getD,List.getElem?_eq_getElem (show i<l.length by omega)]
  exact this h
 have cnt:∀ n:Nat,n≤l.length→(∀ k,k<n→cmpR (l.getD k zPr).2.2 t≤0)→(∀ k,n≤k→k<l.length→¬ cmpR (l.getD k zPr).2.2 t≤0)→l.countP (fun x=>decide (cmpR x.2.2 t≤0))=n:=fun n hn h1 h2=>by
  rw [← List.take_append_drop n l,List.countP_append]
  have a:(l.take n).countP (fun x=>decide (cmpR x.2.2 t≤0))=(l.take n).length:=by
   rw [List.countP_eq_length]
   intro x hx
   obtain ⟨k,hk,e⟩:=List.mem_take_iff_getElem.1 hx
   have:=h1 k (by omega)
   rw [List.getD_eq_getElem?_getD,List.getElem?_eq_getElem (by omega),Option.getD_some,e] at this
   exact decide_eq_true this
  have b:(l.drop n).countP (fun x=>decide (cmpR x.2.2 t≤0))=0:=by
   rw [List.countP_eq_zero]
   intro x hx
   obtain ⟨k,hk,e⟩:=List.mem_iff_getElem.1 hx
   rw [List.length_drop] at hk
   have:=h2 (n+k) (by omega) (by omega)
   rw [List.getD_eq_getElem?_getD,List.getElem?_eq_getElem (by omega),Option.getD_some] at this
   rw [List.getElem_drop] at e
   rw [e] at this
   simpa using this
  rw [a,b,List.length_take]; omega
 have S:Qf Tryz.prog F.slices_BinarySearchFunc_api_Meeting_api_Meeting_api_Ratio #[u.v,raW t,.func (.func F.meet_behind_1) #[] #[]] H (.tuple #[.int .i64 (l.countP fun x=>decide (cmpR x.2.2 t≤0):Nat),.bool false]):=by
  refine slices_BinarySearchFunc_api_Meeting_api_Meeting_api_Ratio_vc ?_
  rw [un]
  refine ⟨fun i j H'=>H'=H∧0≤i∧i≤j∧j≤l.length∧(∀ k,k<i.toNat→cmpR (l.getD k zPr).2.2 t≤0)∧∀ k,j.toNat≤k→k<l.length→¬ cmpR (l.getD k zPr).2.2 t≤0,fun i j _=>(j-i).toNat,⟨rfl,Int.le_refl _,by omega,by omega,fun k hk=>by simp at hk,fun k h1 h2=>by omega⟩,?_⟩
  rintro i j H5 ⟨rfl,i0,ij,jl,hA,hB⟩
  refine ⟨fun h=>?_,fun h=>?_⟩
  ·have h:=of_decide_eq_true h
   rw [mid_eq i0 h (by omega)]
   have m0:0≤(i+j) / 2:=by omega
   have m1:(i+j) / 2<l.length:=by omega
   have om:=ok _ (gm (k:=((i+j) / 2).toNat) (by omega))
   refine ⟨by unfold inI; omega,by unfold nn; omega,r.inS m0 m1,_,_,_,_,RdM.get r m0 m1,_,behind1 om ot,fun hc=>?_,fun hc=>?_⟩
   ·have hc:cmpR (l.getD ((i+j) / 2).toNat zPr).2.2 t≤0:=by
     by_cases h3:cmpR (l.getD ((i+j) / 2).toNat zPr).2.2 t≤0
     ·exact h3
     ·rw [if_neg h3] at hc; simp at hc
    refine ⟨by unfold inI; omega,⟨rfl,by omega,by omega,jl,fun k hk=>?_,hB⟩,by dsimp only; omega⟩
    rcases Nat.lt_or_ge k ((i+j) / 2).toNat with h4 | h4
    ·exact dn h4 (by omega) hc
    ·rw [show k=((i+j) / 2).toNat by omega]; exact hc
   ·have hc:¬ cmpR (l.getD ((i+j) / 2).toNat zPr).2.2 t≤0:=fun h3=>by rw [if_pos h3] at hc; simp at hc
    refine ⟨⟨rfl,i0,by omega,by omega,hA,fun k h4 h5 h6=>?_⟩,by dsimp only; omega⟩
    rcases Nat.lt_or_ge ((i+j) / 2).toNat k with h7 | h7
    ·exact hc (dn h7 h5 h6)
    ·rw [show k=((i+j) / 2).toNat by omega] at h6; exact hc h6
  ·have h:=of_decide_eq_false h
   have hij:i=j:=by omega
   subst hij
   have ec:=cnt i.toNat (by omega) hA hB
   by_cases hi:i<l.length
   ·have oi:=ok _ (gm (k:=i.toNat) (by omega))
    refine ⟨fun _=>r.inS i0 hi,_,_,_,_,fun _=>RdM.get r i0 hi,_,fun _=>behind1 oi ot,?_,Hp.le_refl _⟩
    rw [ec,Int.toNat_of_nonneg i0]
    congr 3
    split <;> simp
   ·refine ⟨fun h=>absurd (of_decide_eq_true h) hi,0,0,0,0,fun h=>absurd (of_decide_eq_true h) hi,0,fun h=>absurd (of_decide_eq_true h) hi,?_,Hp.le_refl _⟩
    rw [ec,Int.toNat_of_nonneg i0,decide_eq_false hi]; rfl
 exact meet_behind_vc ⟨_,false,S,rfl,Hp.le_refl _⟩

def fRa (x:Int × Int):List Value:=[.int .i64 x.1,.int .i64 x.2]
theorem RdRa.get {H:Hp} {u:Slc} {m:List (Int × Int)} {i:Int} {x:Int × Int} (h:Rd 2 fRa H u m) (h0:0≤i) (hx:m[i.toNat]?=some x) :
  H.at (eaddr u.a 2 i)=some (.int .i64 x.1)∧H.at ((eaddr u.a 2 i).add 1)=some (.int .i64 x.2):=by
 exact ⟨h.at0 h0 hx rfl,h.atj h0 hx (j:=1) rfl⟩
theorem meetCheck {H:Hp} {w u:Slc} {f:List Pt} {a b:Int × Int} (hf:Rd 3 fD H w f) (of:okF f) (oa:okR a) (ob:okR b) (hab:leR a b) (r:Rd 2 fRa H u [a,b]):Qf Tryz.prog F.meet_check #[vFd w,u.v] H (.int .i64 0):=by
 have un:(u.n:Int)=2:=by have:=r.len; simp at this; omega
 refine meet_check_vc ?_
 rw [un]
 refine ⟨0,by have:=fieldCheck (H:=H) hf; rwa [chkF_zero.2 of] at this,fun h=>by simp at h,fun _=>?_⟩
 refine upto (N:=2) (J:=fun _=>True) (by omega) trivial fun n h0 h1 _=>⟨fun hn=>?_,fun hn=>?_⟩
 ·have hn:n<2:=of_decide_eq_true hn
  have h2:n=0∨n=1:=by omega
  have:∃ x,[a,b][n.toNat]?=some x∧okR x:=by
   rcases h2 with rfl | rfl
   ·exact ⟨a,rfl,oa⟩
   ·exact ⟨b,rfl,ob⟩
  obtain ⟨x,hx,ox⟩:=this
  refine ⟨r.inS h0 (by simp; omega),_,_,RdRa.get r h0 hx,0,by have:=ratioCheck (H:=H) (okR.fit ox); rwa [chkR_ok ox] at this,fun h=>by simp at h,fun _=>upto.nx h0 hn (by omega) trivial⟩
 ·have e:cmpM a b=(cmpR a b,0):=if_pos ⟨oa,ob⟩
  have q:=meetLater (H:=H) (okR.fit oa) (okR.fit ob)
  rw [e] at q
  have hle:=cmpR_le.2 hab
  refine ⟨fun _=>r.inS (by omega) (by simp),a.1,a.2,fun _=>RdRa.get (i:=0) r (by omega) rfl,fun _=>r.inS (by omega) (by simp),b.1,b.2,fun _=>RdRa.get (i:=1) r (by omega) rfl,_,fun _=>q,fun h=>?_,fun _=>⟨rfl,Hp.le_refl _⟩⟩
  simp only [Bool.and_eq_true,decide_eq_true_eq] at h
  omega
theorem meetAll {H:Hp} {w:Slc} {f:List Pt} {a b:Int × Int} (hf:Rd 3 fD H w f) (of:okF f) (oa:okR a) (ob:okR b) (hab:leR a b) :
  Go.Eng.Fn Tryz.prog F.meet_All #[vFd w,raW a,raW b] H fun v H'=>∃ u:Slc,v=.tuple #[u.v,.int .i64 0]∧Hp.le H H'∧Rd 4 fM H' u (betweenM f a b):=by
 refine meet_All_vc fun b1 H2 hb1 hH2=>?_
 have l2:Hp.le H H2:=Hp.le_new (Hp.le_refl _) hb1 hH2
 have r2:Rd 2 fRa H2 ⟨some ⟨b1,0,none⟩,2,2⟩ [a,b]:=rdConst (k:=2) (f:=fRa) (fun _=>rfl) hH2 rfl rfl
 have qc:=meetCheck (hf.le l2) of oa ob hab r2
 refine ⟨0,qc,fun h=>by simp at h,fun _=>(meetAllL (hf.le l2) of).mono fun v H5 ⟨u,hv,l5,m5⟩=>⟨u,hv,?_⟩⟩
 have r5:=m5.rdM
 have sm:=metsM_small of
 have okm:=metsM_ok of
 have q1:=meetBehind r5 okm oa (metsM_down of oa) (by omega)
 have q2:=meetBehind r5 okm ob (metsM_down of ob) (by omega)
 have h1:=cntT_le of oa ob hab
 have h2:=cntT_len f b
 have un:=r5.len
 have uc:=r5.cap
 have hK:Tryz.prog.cellsOf 74=4:=by kernel_rfl
 refine ⟨_,q1,_,q2,?_,?_⟩
 ·show okSl ((cntT f a:Nat):Int) ((cntT f b:Nat):Int) ((cntT f b:Nat):Int) (u.c:Int)
  exact ⟨by omega,by omega,by omega,by omega⟩
 ·have rs:=r5.sub (l:=((cntT f a:Nat):Int)) (hi:=((cntT f b:Nat):Int)) (m:=((cntT f b:Nat):Int)) (by omega) (by omega) (by omega) (by omega)
  rw [hK]
  refine ⟨⟨subA u.a 4 ((cntT f a:Nat):Int) ((cntT f b:Nat):Int),((cntT f b:Nat):Int).toNat-((cntT f a:Nat):Int).toNat,((cntT f b:Nat):Int).toNat-((cntT f a:Nat):Int).toNat⟩,rfl,Hp.le_trans l2 l5,?_⟩
  rw [between_part of oa ob hab]
  rw [Int.toNat_natCast,Int.toNat_natCast] at rs ⊢
  exact rs
end Go.Proofs.YtlbdpklikfddlaaGreat
end
