/- The engine, parts X0, X1, Y0, put together. Conditions: none. -/
import Derived.Test.YtlbdpklikfddlaaGreatPRW
import Derived.Test.YtlbdpklikfddlaaGreatVgR04
import Derived.Test.YtlbdpklikfddlaaGreatFs
import Derived.Test.YtlbdpklikfddlaaGreatPO1
import Derived.Test.YtlbdpklikfddlaaGreatVgMeet
import Derived.Test.YtlbdpklikfddlaaGreatVgStd
set_option linter.unusedVariables false
section
/- Sorting by swaps, and all meetings of a field pair by pair, in plain words. Conditions: none. -/
set_option maxRecDepth 100000
open Go Go.Eng Go.Proofs
namespace Go.Proofs.YtlbdpklikfddlaaGreat

/-! ### Swaps of neighbours -/
def swapM (xs:List Pr) (k:Nat):List Pr:=(xs.set k (xs.getD (k-1) zPr)).set (k-1) (xs.getD k zPr)
theorem swapM_get {xs:List Pr} {k:Nat} (h0:0<k) (hk:k<xs.length) (i:Nat):(swapM xs k).getD i zPr=if i=k-1 then xs.getD k zPr else if i=k then xs.getD (k-1) zPr else xs.getD i zPr:=by
 unfold swapM
 rw [List.getD_eq_getElem?_getD,List.getElem?_set]
 by_cases h1:k-1=i
 ·subst h1
  rw [if_pos rfl,if_pos rfl,if_pos (by simp; omega)]; rfl
 ·rw [if_neg h1,if_neg fun e=>h1 e.symm,List.getElem?_set]
  by_cases h2:k=i
  ·subst h2
   rw [if_pos rfl,if_pos rfl,if_pos hk]; rfl
  ·rw [if_neg h2,if_neg fun e=>h2 e.symm,List.getD_eq_getElem?_getD]
def SrtX (xs:List Pr) (i k:Nat):Prop:=∀ a b,a<b→b≤i→b≠k→clP (xs.getD b zPr) (xs.getD a zPr)=false
def SrtN (xs:List Pr) (i:Nat):Prop:=∀ a b,a<b→b<i→clP (xs.getD b zPr) (xs.getD a zPr)=false
theorem SrtN.start {xs:List Pr} {i:Nat} (h:SrtN xs i):SrtX xs i i:=fun a b h1 h2 h3=>h a b h1 (by omega)
theorem mem_getP {xs:List Pr} {k:Nat} (h:k<xs.length):xs.getD k zPr∈xs:=by
 rw [List.getD_eq_getElem?_getD,List.getElem?_eq_getElem h]; exact List.getElem_mem h
theorem SrtX.stop {xs:List Pr} {i k:Nat} (h:SrtX xs i k) (ok:∀ y∈xs,okPr y) (hk:k≤i) (hi:i<xs.length) (hc:k=0∨clP (xs.getD k zPr) (xs.getD (k-1) zPr)=false):SrtN xs (i+1):=by
 intro a b h1 h2
 by_cases e:b=k
 ·subst e
  have hc:=hc.resolve_left (by omega)
  by_cases e2:a=b-1
  ·subst e2; exact hc
  ·exact clP_tr _ _ _ (ok _ (mem_getP (by omega))) (ok _ (mem_getP (by omega))) (ok _ (mem_getP (by omega))) (h a (b-1) (by omega) (by omega) (by omega)) hc
 ·exact h a b h1 (by omega) e
theorem SrtX.swap {xs:List Pr} {i k:Nat} (h:SrtX xs i k) (ok:∀ y∈xs,okPr y) (h0:0<k) (hk:k≤i) (hi:i<xs.length) (hc:clP (xs.getD k zPr) (xs.getD (k-1) zPr)=true):SrtX (swapM xs k) i (k-1):=by
 intro a b h1 h2 h3
 rw [swapM_get h0 (by omega),swapM_get h0 (by omega),if_neg h3]
 by_cases e:b=k
 ·subst e
  rw [if_pos rfl]
  by_cases e2:a=b-1
  ·rw [if_pos e2]; exact clP_asymm _ _ (ok _ (mem_getP (by omega))) (ok _ (mem_getP (by omega))) hc
  ·rw [if_neg e2,if_neg (by omega)]; exact h a (b-1) (by omega) (by omega) (by omega)
 ·rw [if_neg e]
  by_cases e1:a=k-1
  ·rw [if_pos e1]; exact h k b (by omega) h2 e
  ·rw [if_neg e1]
   by_cases e2:a=k
   ·rw [if_pos e2]; exact h (k-1) b (by omega) h2 e
   ·rw [if_neg e2]; exact h a b h1 h2 e
theorem SrtN.done {L xs:List Pr} (h:SrtN xs xs.length) (ok:∀ y∈L,okPr y) (hp:xs.Perm L):xs=sortP L:=by
 refine sortP_of ok hp (List.pairwise_iff_getElem.2 fun a b ha hb hab=>?_)
 have:=h a b hab hb
 rwa [List.getD_eq_getElem?_getD,List.getD_eq_getElem?_getD,List.getElem?_eq_getElem ha,List.getElem?_eq_getElem hb] at this

/-! ### Pairs,one after the other -/
def zPt:Pt:=(0,0,0)
def ptF (f:List Pt) (i:Nat):Pt:=f.getD i zPt
def rowM (f:List Pt) (i k:Nat):List Pr:=(metR (ptF f i) ((f.take k).drop (i+1))).map mtPr
def upM4 (f:List Pt) (i:Nat):List Pr:=(List.range i).flatMap fun j=>(metR (ptF f j) (f.drop (j+1))).map mtPr
theorem upM4_succ (f:List Pt) (i:Nat):upM4 f (i+1)=upM4 f i++rowM f i f.length:=by
 unfold upM4 rowM
 rw [List.range_succ,List.flatMap_append,List.take_length]; simp
theorem metL_rows:∀ f:List Pt,metL f=(List.range f.length).flatMap fun j=>metR (ptF f j) (f.drop (j+1))
 | []=>rfl
 | p :: ps=>by
  show metR p ps++metL ps=_
  rw [List.length_cons,List.range_succ_eq_map,List.flatMap_cons,List.flatMap_map,metL_rows ps]
  rfl
theorem upM4_end (f:List Pt):upM4 f f.length=(metL f).map mtPr:=by
 rw [metL_rows,List.map_flatMap]; rfl
theorem metR_len (p:Pt) (ps:List Pt):(metR p ps).length≤ps.length:=by unfold metR; exact List.length_filterMap_le _ _
theorem upM4_len (f:List Pt):∀ i,(upM4 f i).length≤i * f.length
 | 0=>by unfold upM4; simp
 | i+1=>by
  rw [upM4_succ,List.length_append,Nat.succ_mul]
  have:=upM4_len f i
  have h2:=metR_len (ptF f i) ((f.take f.length).drop (i+1))
  unfold rowM
  rw [List.length_map]
  rw [List.length_drop,List.length_take] at h2
  omega

def fM (x:Pr):List Value:=[.int .i64 x.2.2.1,.int .i64 x.2.2.2,.int .i64 x.1,.int .i64 x.2.1]
abbrev mtV (x:Pr):Value:=sI4 x.2.2.1 x.2.2.2 x.1 x.2.1
theorem fM_one:∀ (x:Pr),∀ v∈fM x,v.oneCell'=true:=fun x v hv=>by
 simp [fM] at hv
 rcases hv with rfl | rfl | rfl | rfl <;> rfl
theorem getMt {m:List Pr} {i:Int} (h0:0≤i) (h1:i<m.length):m[i.toNat]?=some (m.getD i.toNat zPr):=by
 have h:i.toNat<m.length:=by omega
 rw [List.getD_eq_getElem?_getD,List.getElem?_eq_getElem h]; rfl
theorem RdM.get {H:Hp} {u:Slc} {m:List Pr} {i:Int} (h:Rd 4 fM H u m) (h0:0≤i) (h1:i<m.length) :
  H.at (eaddr u.a 4 i)=some (.int .i64 (m.getD i.toNat zPr).2.2.1)∧H.at ((eaddr u.a 4 i).add 1)=some (.int .i64 (m.getD i.toNat zPr).2.2.2)∧H.at ((eaddr u.a 4 i).add 2)=some (.int .i64 (m.getD i.toNat zPr).1)∧H.at ((eaddr u.a 4 i).add 3)=some (.int .i64 (m.getD i.toNat zPr).2.1) :=
 ⟨h.at0 h0 (getMt h0 h1) rfl,h.atj h0 (getMt h0 h1) (j:=1) rfl,h.atj h0 (getMt h0 h1) (j:=2) rfl,h.atj h0 (getMt h0 h1) (j:=3) rfl⟩
theorem _root_.Go.Eng.Mine.rdM {e:TypeId} {H0 H:Hp} {u:Slc} {xs:List Pr} (h:Mine 4 fM e H0 H u xs):Rd 4 fM H u xs:=Mine.rd (k:=4) (f:=fM) (fun _=>rfl) h
theorem ptF_get {f:List Pt} {i:Nat} (h:i<f.length):f[i]?=some (ptF f i):=by
 unfold ptF; rw [List.getD_eq_getElem?_getD,List.getElem?_eq_getElem h]; rfl
theorem ptF_mem {f:List Pt} {i:Nat} (h:i<f.length):ptF f i∈f:=List.mem_of_getElem? (ptF_get h)
end Go.Proofs.YtlbdpklikfddlaaGreat
end
section
/- slices.SortFunc on meetings; the order of meetings. Conditions: none. -/
set_option maxRecDepth 100000
open Go Go.Eng Go.Proofs
open Go.Shelf Go.RowKit Go.Lib Go.Sort
namespace Go.Proofs.YtlbdpklikfddlaaGreat

theorem meetLater {H:Hp} {a b:Int × Int} (ha:fitR a) (hb:fitR b):Qf Tryz.prog F.meet_later #[raW a,raW b] H (.int .i64 (cmpM a b).1) :=
 meet_later_vc ⟨_,_,ratioCmp ha hb,rfl,Hp.le_refl _⟩
def or3 (a b c:Int):Int:=if a≠0 then a else if b≠0 then b else c
theorem cmpOr3 {H:Hp} {u:Slc} {a b c:Int} (r:RdI H u [a,b,c]):Qf Tryz.prog F.cmp_Or_int #[u.v] H (.int .i64 (or3 a b c)):=by
 have un:(u.n:Int)=3:=by have:=r.len; simp at this; omega
 refine cmp_Or_int_vc ?_
 rw [un]
 refine upto (N:=3) (J:=fun n=>(0<n→a=0)∧(1<n→b=0)∧(2<n→c=0)) (by omega) ⟨fun h=>by omega,fun h=>by omega,fun h=>by omega⟩ fun n h0 h1 hJ=>⟨fun hn=>?_,fun hn=>⟨?_,Hp.le_refl _⟩⟩
 ·have hn:n<3:=of_decide_eq_true hn
  have g:=RdI.get r h0 (by simp; omega)
  refine ⟨r.inS h0 (by simp; omega),_,g,fun hc=>⟨?_,Hp.le_refl _⟩,fun hc=>?_⟩
  ·have hc:=bne_iff_ne.1 hc
   have:n=0∨n=1∨n=2:=by omega
   unfold or3
   rcases this with rfl | rfl | rfl
   ·have hc:a≠0:=hc
    rw [if_pos hc]; rfl
   ·have hc:b≠0:=hc
    rw [if_neg (fun e=>e (hJ.1 (by omega))),if_pos hc]; rfl
   ·rw [if_neg (fun e=>e (hJ.1 (by omega))),if_neg (fun e=>e (hJ.2.1 (by omega)))]; rfl
  ·have hc:=bne_eq_false_iff_eq.1 hc
   have:n=0∨n=1∨n=2:=by omega
   refine upto.nx h0 hn (by omega) ?_
   rcases this with rfl | rfl | rfl
   ·exact ⟨fun _=>hc,fun h=>by omega,fun h=>by omega⟩
   ·exact ⟨fun _=>hJ.1 (by omega),fun _=>hc,fun h=>by omega⟩
   ·exact ⟨fun _=>hJ.1 (by omega),fun _=>hJ.2.1 (by omega),fun _=>hc⟩
 ·have hn:¬ n<3:=of_decide_eq_false hn
  unfold or3
  rw [if_neg (fun e=>e (hJ.1 (by omega))),if_neg (fun e=>e (hJ.2.1 (by omega))),hJ.2.2 (by omega)]
def cfM (x y:Pr):Int:=or3 (cmpR x.2.2 y.2.2) (cmpI x.1 y.1) (cmpI x.2.1 y.2.1)
theorem meetOrder {H:Hp} {x y:Pr} (ox:okPr x) (oy:okPr y):Qf Tryz.prog F.meet_order #[mtV x,mtV y] H (.int .i64 (cfM x y)):=by
 have e:cmpM x.2.2 y.2.2=(cmpR x.2.2 y.2.2,0):=if_pos ⟨ox,oy⟩
 have q:=meetLater (H:=H) (a:=x.2.2) (b:=y.2.2) (okR.fit ox) (okR.fit oy)
 rw [e] at q
 refine meet_order_vc ⟨_,q,_,compare_int,_,compare_int,fun b H5 hb hH=>?_⟩
 have l5:Hp.le H H5:=Hp.le_new (Hp.le_refl _) hb hH
 have r:RdI H5 ⟨some ⟨b,0,none⟩,3,3⟩ [cmpR x.2.2 y.2.2,cmpI x.1 y.1,cmpI x.2.1 y.2.1]:=rdConst (k:=1) (f:=fI) (fun _=>rfl) hH rfl rfl
 have q2:=cmpOr3 r
 exact ⟨_,q2,rfl,l5⟩
theorem cmpI_neg0 {a b:Int}:decide (cmpI a b<0)=decide (a<b):=by
 unfold cmpI
 by_cases h:a<b
 ·rw [if_pos h]; simp [h]
 ·rw [if_neg h]
  split <;> simp [h]
theorem cmpI_zero0 {a b:Int}:cmpI a b=0↔a=b:=by
 unfold cmpI
 by_cases h:a<b
 ·rw [if_pos h]; omega
 ·rw [if_neg h]
  split <;> omega
theorem cfM_lt {x y:Pr}:decide (cfM x y<0)=clP x y:=by
 unfold cfM or3 clP
 by_cases h:cmpR x.2.2 y.2.2≠0
 ·rw [if_pos h,if_pos h]
 ·rw [if_neg h,if_neg h]
  by_cases h1:x.1≠y.1
  ·rw [if_pos h1,if_pos (fun e=>h1 (cmpI_zero0.1 e)),cmpI_neg0]
  ·rw [if_neg h1,if_neg (fun e=>e (cmpI_zero0.2 (Decidable.not_not.1 h1))),cmpI_neg0]

section
variable {L:List Pr}
abbrev PrIn (L:List Pr):={x:Pr // x∈L}
def encM (x:PrIn L):List Value:=fM x.1
def cfMin (x y:PrIn L):Int:=cfM x.1 y.1
theorem lt_M (x y:PrIn L):ltOf (cfMin (L:=L)) x y=clP x.1 y.1:=by
 unfold ltOf cfMin; exact cfM_lt
theorem swo_M (ok:∀ x∈L,okPr x):SWO (ltOf (cfMin (L:=L))) where
 irrefl x:=by rw [lt_M,clP_irrefl]
 trans x y z h1 h2:=by
  rw [lt_M] at *
  have ox:=ok _ x.2; have oy:=ok _ y.2; have oz:=ok _ z.2
  have n:=clP_tr z.1 y.1 x.1 oz oy ox
  by_cases e:x.1=z.1
  ·rw [e] at h1
   rw [clP_asymm _ _ oz oy h1] at h2; cases h2
  ·refine clP_less ox oz e ?_
   have a1:=clP_asymm _ _ ox oy h1
   have a2:=clP_asymm _ _ oy oz h2
   exact clP_tr x.1 y.1 z.1 ox oy oz a1 a2
 ntrans x y z h1 h2:=by
  rw [lt_M] at *
  exact clP_tr z.1 y.1 x.1 (ok _ z.2) (ok _ y.2) (ok _ x.2) h2 h1
theorem tot_M (ok:∀ x∈L,okPr x) (x y:PrIn L) (h1:ltOf (cfMin (L:=L)) x y=false) (h2:ltOf (cfMin (L:=L)) y x=false):x=y:=by
 rw [lt_M] at h1 h2
 exact Subtype.ext (clP_anti _ _ (ok _ x.2) (ok _ y.2) h1 h2)
theorem heap_sortM [Inhabited (PrIn L)] {w:World} {b k m:Nat} {d:Array (PrIn L)} {os:Array Obj} (hk:k<w.heap.size) :
  (sortWorldK encM 4 w b 0 m d os).heap[k]?=(w.heap.modify b (onCells (putCells id 0 (flatK encM 4 d))))[k]?:=by
 unfold sortWorldK putRowK putRow mapBlock
 rw [heap_grow_old _ _ (by simpa using hk)]
 rfl
theorem cmpMt [Inhabited (PrIn L)] (ok:∀ x∈L,okPr x) {w:World} {b size:Nat} :
  CmpLays Tryz.prog F.meet_order #[] encM 4 (cfMin (L:=L)) b 0 size w:=by
 intro m os dk hs x y
 generalize sortWorldK encM 4 w b 0 m dk os=W
 have hv:View W (fun _=>none):=fun c o hc=>by cases hc
 refine (meetOrder (H:=fun _=>none) (ok _ x.2) (ok _ y.2) W hv).mono fun e w' ⟨v,H',he,tr,hv',hl⟩=>?_
 subst hv'
 exact ⟨he,tr.grown hv hl⟩
end
theorem aggMt:∀ w,(isAgg (Tryz.sortMt_ren.t 24)).run Tryz.prog w=.ok true w:=fun w=>by
 rw [Go.Eng.run_isAgg (t:=Tryz.sortMt_ren.t 24) (P:=Tryz.prog) (x:=(Tryz.prog.underlying 74).getD (.struct #[])) (by kernel_rfl)]
 exact congrArg (fun b=>Result.ok b w) (show aggT Tryz.prog (Tryz.sortMt_ren.t 24)=true by kernel_rfl)
theorem sizeMt:∀ w,(Go.sizeOf (Tryz.sortMt_ren.t 24)).run Tryz.prog w=.ok 4 w:=fun w=>by
 rw [Go.Eng.run_sizeOf (t:=Tryz.sortMt_ren.t 24) (P:=Tryz.prog) (x:=(Tryz.prog.underlying 74).getD (.struct #[])) (by kernel_rfl)]
 exact congrArg (fun b=>Result.ok b w) (show Tryz.prog.cellsOf (Tryz.sortMt_ren.t 24)=4 by kernel_rfl)
theorem SrtN_pair {xs:List Pr} (h:xs.Pairwise fun x y=>clP y x=false):SrtN xs xs.length:=fun a b hab hb=>by
 have:=List.pairwise_iff_getElem.1 h a b (by omega) hb hab
 rw [List.getD_eq_getElem?_getD,List.getD_eq_getElem?_getD,List.getElem?_eq_getElem hb,List.getElem?_eq_getElem (show a<xs.length by omega)]
 exact this

set_option maxHeartbeats 2000000 in
theorem sortMts {H0 H:Hp} {u:Slc} {L:List Pr} {e:TypeId} (ok:∀ x∈L,okPr x) (hbig:L.length<4611686018427387904) (hu:Mine 4 fM e H0 H u L) :
  Go.Eng.Fn Tryz.prog F.slices_SortFunc_api_Meeting_api_Meeting #[u.v,.func (.func F.meet_order) #[] #[]] H fun v H'=>v=.tuple #[]∧Mine 4 fM e H0 H' u (sortP L)∧Chg H H' u:=by
 have hlen:=hu.rdM.len
 by_cases hne:L=[]
 ·subst hne
  intro w hv
  have hn:u.n=0:=by simpa using hlen
  rw [show u.v=.slice u.a 0 u.c by unfold Slc.v; rw [hn]]
  refine (AnyF.slices_SortFunc_none Tryz.sortMt u.a u.c _ w).mono fun e1 w' ⟨he,hw⟩=>⟨_,H,he,by rw [hw]; exact Tr.refl hv,rfl,?_,fun _ _ _=>rfl⟩
  exact hu
 obtain ⟨p0,hp0⟩:=List.exists_mem_of_ne_nil L hne
 haveI:Inhabited (PrIn L):=⟨⟨p0,hp0⟩⟩
 rcases hu with ⟨_,h⟩ | ⟨b,hb0,own⟩
 ·exact absurd h hne
 obtain ⟨cs,hcs,hsz,htake⟩:=own.cells
 have hba:=own.blk
 have hcap:=own.cap
 intro w hv
 have hw:=hv b _ hcs
 have hblk:b<w.heap.size:=(Array.getElem?_eq_some_iff.1 hw).1
 have hds:L.attach.toArray.size=L.length:=by simp
 have hcell:∀ j,j<L.length * 4→cs[j]?=(L.flatMap fM)[j]?:=fun j hj=>by
  rw [← htake,List.getElem?_take,if_pos hj]; simp
 have hfl:∀ (s:List Pr) (dd:Array (PrIn L)),dd.toList.map (·.1)=s→∀ j,j<s.length * 4→(s.flatMap fM)[j]?=some (flatK encM 4 dd)[j]! := fun s dd hdd j hj=>by
  have hl:dd.size=s.length:=by rw [← hdd]; simp
  have hq:j / 4<s.length:=Nat.div_lt_of_lt_mul (by omega)
  have hg:s[j / 4]?=some (dd[j / 4]!).1:=by
   rw [← hdd,List.getElem?_map,getElem!_pos dd (j / 4) (by omega)]
   simp [show j / 4<dd.size by omega]
  rw [get_flatK _ _ _ _ (by omega)]
  have hm:(fM (dd[j / 4]!).1)[j % 4]?=some ((encM dd[j / 4]!)[j % 4]!):=by
   have h3:j % 4<(fM (dd[j / 4]!).1).length:=Nat.mod_lt _ (by omega)
   show _=some ((fM (dd[j / 4]!).1)[j % 4]!)
   rw [getElem!_pos (fM (dd[j / 4]!).1) (j % 4) h3]
   exact List.getElem?_eq_getElem h3
  have:=flatMap_get (k:=4) (f:=fM) (fun _=>rfl) hg hm
  rwa [Nat.div_add_mod' j 4] at this
 have hatt:L.attach.toArray.toList.map (·.1)=L:=by show L.attach.map Subtype.val=L; exact List.attach_map_subtype_val L
 have hH:HoldsK encM 4 w b 0 L.attach.toArray:=by
  intro j hj
  rw [size_flatK,hds] at hj
  have h1:=hfl L L.attach.toArray hatt j hj
  rw [Nat.zero_add]
  refine ⟨?_,?_⟩
  ·unfold World.cell?
   simp only [hw]
   show cs[j]?=_
   rw [hcell j hj,h1]; rfl
  ·unfold World.frozen?
   simp only [hw]
   simp
 have hcmp:=cmpMt (L:=L) (b:=b) (w:=w) (size:=L.attach.toArray.size) ok
 have eg:∀ args w,(callFunc F.meet_order args).run Tryz.prog w=.ok (.enter F.meet_order args) w:=enters_of Tryz.func141 (by kernel_rfl) rfl
 have hcon:=AnyQ.slices_SortFunc_total Tryz.sortMt 4 aggMt sizeMt encM (fun _=>rfl) (fun x v hv=>fM_one x.1 v hv) (cfMin (L:=L)) (swo_M ok) F.meet_order #[] b 0 u.c L.attach.toArray w eg hcmp hH hblk (by rw [hds]; exact hbig) (tot_M ok)
 rw [hds] at hcon
 rw [show u.v=.slice (some ⟨b,0,none⟩) L.length u.c by unfold Slc.v; rw [hba,hlen]]
 refine hcon.mono fun e1 w' ⟨he,n,os,hw'⟩=>?_
 generalize hS:(L.attach.toArray.toList.mergeSort fun x y=>!(ltOf (cfMin (L:=L))) y x)=S at hw'
 have hs1:S.Perm L.attach.toArray.toList:=by rw [← hS]; exact List.mergeSort_perm _ _
 have hpm:=hs1.map (fun x:PrIn L=>x.1)
 rw [hatt] at hpm
 have hso:(S.map (·.1)).Pairwise fun x y=>clP y x=false:=by
  rw [List.pairwise_map]
  have:=List.pairwise_mergeSort (le:=fun x y:PrIn L=>!(ltOf (cfMin (L:=L))) y x) (fun a b c h1 h2=>?_) (fun a b=>?_) L.attach.toArray.toList
  ·rw [hS] at this
   refine this.imp fun h=>?_
   rw [lt_M] at h; simpa using h
  ·rw [lt_M] at *
   simp only [Bool.not_eq_true'] at *
   exact clP_tr a.1 b.1 c.1 (ok _ a.2) (ok _ b.2) (ok _ c.2) h1 h2
  ·rw [lt_M,lt_M]
   cases h:clP b.1 a.1 with
   | false=>rfl
   | true=>rw [clP_asymm _ _ (ok _ b.2) (ok _ a.2) h]; rfl
 have hse:S.map (·.1)=sortP L:=SrtN.done (SrtN_pair hso) ok hpm
 have hSl:S.length=L.length:=by have:=hs1.length_eq; simpa using this
 have hdS:S.toArray.toList.map (·.1)=sortP L:=by rw [← hse]
 have hcsz:(putCells id 0 (flatK encM 4 S.toArray) cs).size=cs.size:=by simp [putCells]
 have hl1:(sortP L).length=L.length:=by rw [← hse,List.length_map,hSl]
 have hnew:∀ k,k<w.heap.size→w'.heap[k]?=if k=b then some (.cells (putCells id 0 (flatK encM 4 S.toArray) cs) e (0,0)) else w.heap[k]?:=fun k hk=>by
  rw [hw',heap_sortM hk,Array.getElem?_modify]
  split
  ·rename_i e2; subst e2; rw [if_pos rfl,hw]; rfl
  ·rename_i e2; rw [if_neg (fun e3=>e2 e3.symm)]
 have hsize:w.heap.size≤w'.heap.size:=by
  rw [hw']; unfold sortWorldK putRowK; rw [size_grow,size_putRow]; exact Nat.le_add_right _ _
 refine ⟨_,Hp.put H b (.cells (putCells id 0 (flatK encM 4 S.toArray) cs) e (0,0)),he,⟨fun k o hk=>?_,fun k hk hn=>?_,fun k hk=>?_,hsize,by rw [hw']; rfl,by rw [hw']; rfl,by rw [hw']; rfl,by rw [hw']; show w.drawn≤w.drawn+n; omega⟩,rfl,.inr ⟨b,hb0,?_⟩,fun k hk hp=>?_⟩
 ·unfold Hp.put at hk
  split at hk
  ·rename_i e2; subst e2; cases hk; rw [hnew k hblk,if_pos rfl]
  ·rename_i e2
   have h0:=hv k o hk
   rw [hnew k (Array.getElem?_eq_some_iff.1 h0).1,if_neg e2]; exact h0
 ·rw [hnew k hk,if_neg (fun e2=>by subst e2; rw [hcs] at hn; cases hn)]
 ·unfold Hp.put at hk
  split at hk
  ·rename_i e2; subst e2; left; rw [hcs]; simp
  ·exact .inl hk
 ·refine ⟨by rw [hl1]; exact own.len,own.cap,own.blk,putCells id 0 (flatK encM 4 S.toArray) cs,by simp [Hp.put],by rw [hcsz]; exact hsz,?_⟩
  refine List.ext_getElem? fun j=>?_
  rw [List.getElem?_take]
  split
  ·rename_i hj
   rw [hfl _ S.toArray hdS j hj]
   have hjc:j<cs.size:=by
    rw [hsz]; rw [hl1] at hj
    have:=own.len; have:L.length * 4≤u.c * 4:=Nat.mul_le_mul_right 4 (by omega)
    omega
   rw [Array.getElem?_toList]
   unfold putCells
   rw [Array.getElem?_mapIdx,Array.getElem?_eq_getElem hjc,Option.map_some,if_pos ⟨Nat.zero_le _,by rw [size_flatK]; simp [hSl]; rw [hl1] at hj; omega⟩]
   simp
  ·rename_i hj
   exact (List.getElem?_eq_none (by rw [flatMap_len (k:=4) (fun _=>rfl)]; omega)).symm
 ·rw [Hp.put_ne]
  intro e2; subst e2; exact hp _ hba rfl
end Go.Proofs.YtlbdpklikfddlaaGreat
end
