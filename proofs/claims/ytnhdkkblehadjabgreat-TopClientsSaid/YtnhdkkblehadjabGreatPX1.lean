/- The engine, parts XS, SL, SG, put together. Conditions: none. -/
import Derived.Test.YtnhdkkblehadjabGreatFs
import Derived.Shelf.Strconv.Itoa0
import Derived.Shelf.SlSortCmp.NoneTotal
import Derived.Test.YtnhdkkblehadjabGreatPL3
set_option linter.unusedVariables false
section
/- bits.Len64 of the library, laid in plain words. Conditions: none. -/
namespace Go.Proofs
open Go.Shelf
def Tryz.len64_ren:Go.Shelf.Ren:=⟨fun|129=>196|n=>n,fun|53=>131|3=>3|4=>4|46=>245|5=>5|9=>9|n=>n,fun|n=>n⟩
theorem Tryz.len64:Go.Proofs.Lays.n129 Tryz.prog Tryz.len64_ren:={
 mixed:=by kernel_rfl
 f129:=Tryz.func196.trans (congrArg some (by kernel_rfl))
 t3:=Tryz.underlying3
 a3:=Tryz.isAgg3
 z3:=Tryz.sizeOf3
 v3:=Tryz.zeroValue3
 t4:=Tryz.underlying4
 a4:=Tryz.isAgg4
 z4:=Tryz.sizeOf4
 v4:=Tryz.zeroValue4
 t5:=Tryz.underlying5
 a5:=Tryz.isAgg5
 z5:=Tryz.sizeOf5
 v5:=Tryz.zeroValue5
 t9:=Tryz.underlying9
 a9:=Tryz.isAgg9
 z9:=Tryz.sizeOf9
 v9:=Tryz.zeroValue9
 t46:=Tryz.underlying245
 a46:=Tryz.isAgg245
 z46:=Tryz.sizeOf245
 v46:=Tryz.zeroValue245
 t53:=Tryz.underlying131
 a53:=Tryz.isAgg131
 z53:=Tryz.sizeOf131
 v53:=Tryz.zeroValue131 }
end Go.Proofs
end
section
/- slices.SortFunc at points,meetings and fractions,laid in plain words. Conditions: none. -/
namespace Go.Proofs
open Go.Shelf
def Tryz.sortPt_ren:Go.Shelf.Ren:=⟨fun|6=>110|15=>134|14=>165|28=>195|29=>196|20=>206|21=>207|22=>208|23=>209|24=>210|25=>211|26=>212|27=>213|46=>242|47=>228|48=>229|49=>243|50=>244|57=>256|n=>n,fun|22=>22|24=>57|25=>211|3=>3|39=>245|0=>0|53=>310|55=>131|4=>4|46=>304|45=>303|50=>194|5=>5|9=>9|66=>337|70=>341|76=>355|77=>356|n=>n,fun|n=>n⟩
theorem Tryz.sortPt:Go.Proofs.SlLaysF0.n6 Tryz.prog Tryz.sortPt_ren:={
 mixed:=by kernel_rfl
 f6:=⟨Tryz.f110.name,by decide,Tryz.func110.trans (congrArg some (by kernel_rfl))⟩
 f14:=⟨Tryz.f165.name,by decide,Tryz.func165.trans (congrArg some (by kernel_rfl))⟩
 f15:=Tryz.func134.trans (congrArg some (by kernel_rfl))
 f20:=⟨Tryz.f206.name,by decide,Tryz.func206.trans (congrArg some (by kernel_rfl))⟩
 f21:=⟨Tryz.f207.name,by decide,Tryz.func207.trans (congrArg some (by kernel_rfl))⟩
 f22:=⟨Tryz.f208.name,by decide,Tryz.func208.trans (congrArg some (by kernel_rfl))⟩
 f23:=⟨Tryz.f209.name,by decide,Tryz.func209.trans (congrArg some (by kernel_rfl))⟩
 f24:=⟨Tryz.f210.name,by decide,Tryz.func210.trans (congrArg some (by kernel_rfl))⟩
 f25:=⟨Tryz.f211.name,by decide,Tryz.func211.trans (congrArg some (by kernel_rfl))⟩
 f26:=⟨Tryz.f212.name,by decide,Tryz.func212.trans (congrArg some (by kernel_rfl))⟩
 f27:=⟨Tryz.f213.name,by decide,Tryz.func213.trans (congrArg some (by kernel_rfl))⟩
 f28:=Tryz.func195.trans (congrArg some (by kernel_rfl))
 f29:=Tryz.func196.trans (congrArg some (by kernel_rfl))
 f46:=⟨Tryz.f242.name,by decide,Tryz.func242.trans (congrArg some (by kernel_rfl))⟩
 f47:=Tryz.func228.trans (congrArg some (by kernel_rfl))
 f48:=Tryz.func229.trans (congrArg some (by kernel_rfl))
 f49:=⟨Tryz.f243.name,by decide,Tryz.func243.trans (congrArg some (by kernel_rfl))⟩
 f50:=⟨Tryz.f244.name,by decide,Tryz.func244.trans (congrArg some (by kernel_rfl))⟩
 f57:=⟨Tryz.f256.name,by decide,Tryz.func256.trans (congrArg some (by kernel_rfl))⟩
 t0:=Tryz.underlying0
 a0:=Tryz.isAgg0
 z0:=Tryz.sizeOf0
 v0:=Tryz.zeroValue0
 t3:=Tryz.underlying3
 a3:=Tryz.isAgg3
 z3:=Tryz.sizeOf3
 v3:=Tryz.zeroValue3
 t4:=Tryz.underlying4
 a4:=Tryz.isAgg4
 z4:=Tryz.sizeOf4
 v4:=Tryz.zeroValue4
 t5:=Tryz.underlying5
 a5:=Tryz.isAgg5
 z5:=Tryz.sizeOf5
 v5:=Tryz.zeroValue5
 t9:=Tryz.underlying9
 a9:=Tryz.isAgg9
 z9:=Tryz.sizeOf9
 v9:=Tryz.zeroValue9
 t22:=Tryz.underlying22
 a22:=Tryz.isAgg22
 z22:=Tryz.sizeOf22
 v22:=Tryz.zeroValue22
 t25:=Tryz.underlying211
 a25:=Tryz.isAgg211
 z25:=Tryz.sizeOf211
 v25:=Tryz.zeroValue211
 t39:=Tryz.underlying245
 a39:=Tryz.isAgg245
 z39:=Tryz.sizeOf245
 v39:=Tryz.zeroValue245
 t45:=Tryz.underlying303
 a45:=Tryz.isAgg303
 z45:=Tryz.sizeOf303
 v45:=Tryz.zeroValue303
 t46:=Tryz.underlying304
 a46:=Tryz.isAgg304
 z46:=Tryz.sizeOf304
 v46:=Tryz.zeroValue304
 t50:=Tryz.underlying194
 a50:=Tryz.isAgg194
 z50:=Tryz.sizeOf194
 v50:=Tryz.zeroValue194
 t53:=Tryz.underlying310
 a53:=Tryz.isAgg310
 z53:=Tryz.sizeOf310
 v53:=Tryz.zeroValue310
 t55:=Tryz.underlying131
 a55:=Tryz.isAgg131
 z55:=Tryz.sizeOf131
 v55:=Tryz.zeroValue131
 t66:=Tryz.underlying337
 a66:=Tryz.isAgg337
 z66:=Tryz.sizeOf337
 v66:=Tryz.zeroValue337
 t70:=Tryz.underlying341
 a70:=Tryz.isAgg341
 z70:=Tryz.sizeOf341
 v70:=Tryz.zeroValue341
 t76:=Tryz.underlying355
 a76:=Tryz.isAgg355
 z76:=Tryz.sizeOf355
 v76:=Tryz.zeroValue355
 t77:=Tryz.underlying356
 a77:=Tryz.isAgg356
 z77:=Tryz.sizeOf356
 v77:=Tryz.zeroValue356 }
def Tryz.sortMt_ren:Go.Shelf.Ren:=⟨fun|6=>137|15=>134|14=>198|28=>195|29=>196|20=>201|21=>232|22=>233|23=>234|24=>235|25=>236|26=>237|27=>238|46=>251|47=>228|48=>229|49=>252|50=>253|57=>258|n=>n,fun|22=>71|24=>112|25=>183|3=>3|39=>245|0=>0|53=>310|55=>131|4=>4|46=>304|45=>303|50=>194|5=>5|9=>9|66=>337|70=>341|76=>355|77=>356|n=>n,fun|n=>n⟩
theorem Tryz.sortMt:Go.Proofs.SlLaysF0.n6 Tryz.prog Tryz.sortMt_ren:={
 mixed:=by kernel_rfl
 f6:=⟨Tryz.f137.name,by decide,Tryz.func137.trans (congrArg some (by kernel_rfl))⟩
 f14:=⟨Tryz.f198.name,by decide,Tryz.func198.trans (congrArg some (by kernel_rfl))⟩
 f15:=Tryz.func134.trans (congrArg some (by kernel_rfl))
 f20:=⟨Tryz.f201.name,by decide,Tryz.func201.trans (congrArg some (by kernel_rfl))⟩
 f21:=⟨Tryz.f232.name,by decide,Tryz.func232.trans (congrArg some (by kernel_rfl))⟩
 f22:=⟨Tryz.f233.name,by decide,Tryz.func233.trans (congrArg some (by kernel_rfl))⟩
 f23:=⟨Tryz.f234.name,by decide,Tryz.func234.trans (congrArg some (by kernel_rfl))⟩
 f24:=⟨Tryz.f235.name,by decide,Tryz.func235.trans (congrArg some (by kernel_rfl))⟩
 f25:=⟨Tryz.f236.name,by decide,Tryz.func236.trans (congrArg some (by kernel_rfl))⟩
 f26:=⟨Tryz.f237.name,by decide,Tryz.func237.trans (congrArg some (by kernel_rfl))⟩
 f27:=⟨Tryz.f238.name,by decide,Tryz.func238.trans (congrArg some (by kernel_rfl))⟩
 f28:=Tryz.func195.trans (congrArg some (by kernel_rfl))
 f29:=Tryz.func196.trans (congrArg some (by kernel_rfl))
 f46:=⟨Tryz.f251.name,by decide,Tryz.func251.trans (congrArg some (by kernel_rfl))⟩
 f47:=Tryz.func228.trans (congrArg some (by kernel_rfl))
 f48:=Tryz.func229.trans (congrArg some (by kernel_rfl))
 f49:=⟨Tryz.f252.name,by decide,Tryz.func252.trans (congrArg some (by kernel_rfl))⟩
 f50:=⟨Tryz.f253.name,by decide,Tryz.func253.trans (congrArg some (by kernel_rfl))⟩
 f57:=⟨Tryz.f258.name,by decide,Tryz.func258.trans (congrArg some (by kernel_rfl))⟩
 t0:=Tryz.underlying0
 a0:=Tryz.isAgg0
 z0:=Tryz.sizeOf0
 v0:=Tryz.zeroValue0
 t3:=Tryz.underlying3
 a3:=Tryz.isAgg3
 z3:=Tryz.sizeOf3
 v3:=Tryz.zeroValue3
 t4:=Tryz.underlying4
 a4:=Tryz.isAgg4
 z4:=Tryz.sizeOf4
 v4:=Tryz.zeroValue4
 t5:=Tryz.underlying5
 a5:=Tryz.isAgg5
 z5:=Tryz.sizeOf5
 v5:=Tryz.zeroValue5
 t9:=Tryz.underlying9
 a9:=Tryz.isAgg9
 z9:=Tryz.sizeOf9
 v9:=Tryz.zeroValue9
 t22:=Tryz.underlying71
 a22:=Tryz.isAgg71
 z22:=Tryz.sizeOf71
 v22:=Tryz.zeroValue71
 t25:=Tryz.underlying183
 a25:=Tryz.isAgg183
 z25:=Tryz.sizeOf183
 v25:=Tryz.zeroValue183
 t39:=Tryz.underlying245
 a39:=Tryz.isAgg245
 z39:=Tryz.sizeOf245
 v39:=Tryz.zeroValue245
 t45:=Tryz.underlying303
 a45:=Tryz.isAgg303
 z45:=Tryz.sizeOf303
 v45:=Tryz.zeroValue303
 t46:=Tryz.underlying304
 a46:=Tryz.isAgg304
 z46:=Tryz.sizeOf304
 v46:=Tryz.zeroValue304
 t50:=Tryz.underlying194
 a50:=Tryz.isAgg194
 z50:=Tryz.sizeOf194
 v50:=Tryz.zeroValue194
 t53:=Tryz.underlying310
 a53:=Tryz.isAgg310
 z53:=Tryz.sizeOf310
 v53:=Tryz.zeroValue310
 t55:=Tryz.underlying131
 a55:=Tryz.isAgg131
 z55:=Tryz.sizeOf131
 v55:=Tryz.zeroValue131
 t66:=Tryz.underlying337
 a66:=Tryz.isAgg337
 z66:=Tryz.sizeOf337
 v66:=Tryz.zeroValue337
 t70:=Tryz.underlying341
 a70:=Tryz.isAgg341
 z70:=Tryz.sizeOf341
 v70:=Tryz.zeroValue341
 t76:=Tryz.underlying355
 a76:=Tryz.isAgg355
 z76:=Tryz.sizeOf355
 v76:=Tryz.zeroValue355
 t77:=Tryz.underlying356
 a77:=Tryz.isAgg356
 z77:=Tryz.sizeOf356
 v77:=Tryz.zeroValue356 }
def Tryz.sortRt_ren:Go.Shelf.Ren:=⟨fun|6=>74|15=>134|14=>133|28=>195|29=>196|20=>187|21=>188|22=>189|23=>190|24=>191|25=>192|26=>193|27=>194|46=>227|47=>228|48=>229|49=>230|50=>231|57=>250|n=>n,fun|22=>78|24=>26|25=>82|3=>3|39=>245|0=>0|53=>310|55=>131|4=>4|46=>304|45=>303|50=>194|5=>5|9=>9|66=>337|70=>341|76=>355|77=>356|n=>n,fun|n=>n⟩
theorem Tryz.sortRt:Go.Proofs.SlLaysF0.n6 Tryz.prog Tryz.sortRt_ren:={
 mixed:=by kernel_rfl
 f6:=⟨Tryz.f74.name,by decide,Tryz.func74.trans (congrArg some (by kernel_rfl))⟩
 f14:=⟨Tryz.f133.name,by decide,Tryz.func133.trans (congrArg some (by kernel_rfl))⟩
 f15:=Tryz.func134.trans (congrArg some (by kernel_rfl))
 f20:=⟨Tryz.f187.name,by decide,Tryz.func187.trans (congrArg some (by kernel_rfl))⟩
 f21:=⟨Tryz.f188.name,by decide,Tryz.func188.trans (congrArg some (by kernel_rfl))⟩
 f22:=⟨Tryz.f189.name,by decide,Tryz.func189.trans (congrArg some (by kernel_rfl))⟩
 f23:=⟨Tryz.f190.name,by decide,Tryz.func190.trans (congrArg some (by kernel_rfl))⟩
 f24:=⟨Tryz.f191.name,by decide,Tryz.func191.trans (congrArg some (by kernel_rfl))⟩
 f25:=⟨Tryz.f192.name,by decide,Tryz.func192.trans (congrArg some (by kernel_rfl))⟩
 f26:=⟨Tryz.f193.name,by decide,Tryz.func193.trans (congrArg some (by kernel_rfl))⟩
 f27:=⟨Tryz.f194.name,by decide,Tryz.func194.trans (congrArg some (by kernel_rfl))⟩
 f28:=Tryz.func195.trans (congrArg some (by kernel_rfl))
 f29:=Tryz.func196.trans (congrArg some (by kernel_rfl))
 f46:=⟨Tryz.f227.name,by decide,Tryz.func227.trans (congrArg some (by kernel_rfl))⟩
 f47:=Tryz.func228.trans (congrArg some (by kernel_rfl))
 f48:=Tryz.func229.trans (congrArg some (by kernel_rfl))
 f49:=⟨Tryz.f230.name,by decide,Tryz.func230.trans (congrArg some (by kernel_rfl))⟩
 f50:=⟨Tryz.f231.name,by decide,Tryz.func231.trans (congrArg some (by kernel_rfl))⟩
 f57:=⟨Tryz.f250.name,by decide,Tryz.func250.trans (congrArg some (by kernel_rfl))⟩
 t0:=Tryz.underlying0
 a0:=Tryz.isAgg0
 z0:=Tryz.sizeOf0
 v0:=Tryz.zeroValue0
 t3:=Tryz.underlying3
 a3:=Tryz.isAgg3
 z3:=Tryz.sizeOf3
 v3:=Tryz.zeroValue3
 t4:=Tryz.underlying4
 a4:=Tryz.isAgg4
 z4:=Tryz.sizeOf4
 v4:=Tryz.zeroValue4
 t5:=Tryz.underlying5
 a5:=Tryz.isAgg5
 z5:=Tryz.sizeOf5
 v5:=Tryz.zeroValue5
 t9:=Tryz.underlying9
 a9:=Tryz.isAgg9
 z9:=Tryz.sizeOf9
 v9:=Tryz.zeroValue9
 t22:=Tryz.underlying78
 a22:=Tryz.isAgg78
 z22:=Tryz.sizeOf78
 v22:=Tryz.zeroValue78
 t25:=Tryz.underlying82
 a25:=Tryz.isAgg82
 z25:=Tryz.sizeOf82
 v25:=Tryz.zeroValue82
 t39:=Tryz.underlying245
 a39:=Tryz.isAgg245
 z39:=Tryz.sizeOf245
 v39:=Tryz.zeroValue245
 t45:=Tryz.underlying303
 a45:=Tryz.isAgg303
 z45:=Tryz.sizeOf303
 v45:=Tryz.zeroValue303
 t46:=Tryz.underlying304
 a46:=Tryz.isAgg304
 z46:=Tryz.sizeOf304
 v46:=Tryz.zeroValue304
 t50:=Tryz.underlying194
 a50:=Tryz.isAgg194
 z50:=Tryz.sizeOf194
 v50:=Tryz.zeroValue194
 t53:=Tryz.underlying310
 a53:=Tryz.isAgg310
 z53:=Tryz.sizeOf310
 v53:=Tryz.zeroValue310
 t55:=Tryz.underlying131
 a55:=Tryz.isAgg131
 z55:=Tryz.sizeOf131
 v55:=Tryz.zeroValue131
 t66:=Tryz.underlying337
 a66:=Tryz.isAgg337
 z66:=Tryz.sizeOf337
 v66:=Tryz.zeroValue337
 t70:=Tryz.underlying341
 a70:=Tryz.isAgg341
 z70:=Tryz.sizeOf341
 v70:=Tryz.zeroValue341
 t76:=Tryz.underlying355
 a76:=Tryz.isAgg355
 z76:=Tryz.sizeOf355
 v76:=Tryz.zeroValue355
 t77:=Tryz.underlying356
 a77:=Tryz.isAgg356
 z77:=Tryz.sizeOf356
 v77:=Tryz.zeroValue356 }
end Go.Proofs
end
section
/- Slices sorted by the library,lifted to slices of one's own. Conditions: none. -/
set_option maxRecDepth 100000
open Go Go.Eng Go.Proofs
open Go.Shelf Go.RowKit Go.Lib Go.Sort
namespace Go.Proofs.YtnhdkkblehadjabGreat

theorem _root_.Go.Eng.Tr.grown{w w':World}{H H':Hp}(hv:z2k w H)(ht:Tr w H w' H')(hl:Hp.le H H'):∃q os,w'=grow (w.drewN q) os:=by
 refine⟨w'.drawn-w.drawn,w'.heap.extract w.heap.size w'.heap.size,?_⟩
 have hd:=ht.drawn
 have hh:w'.heap=w.heap++w'.heap.extract w.heap.size w'.heap.size:=by
  apply Array.ext_getElem?
  intro k
  have hs:=ht.size
  rw[Array.getElem?_append]
  split
  ·rename_i hk
   cases hx:H k with
   | none=>exact ht.frame k hk hx
   | some o=>rw[ht.view k o (hl k o hx),hv k o hx]
  ·rename_i hk
   rw[Array.getElem?_extract]
   split
   ·congr 1;omega
   ·exact Array.getElem?_eq_none (by omega)
 have h1:=ht.os;have h2:=ht.tape;have h3:=ht.output
 unfold grow World.drewN
 cases w;cases w'
 simp only at hh hd h1 h2 h3 ⊢
 subst h1;subst h2;subst h3
 rw[← hh]
 congr 1
 omega

abbrev InL{α:Type}(L:List α):={x:α // x∈L}
section
variable {α:Type} {f:α->List Value} {k:Nat} {L:List α}
def zrv(f:α->List Value)(x:InL L):List Value:=f x.1
def cfL(cf:α->α->Int)(x y:InL L):Int:=cf x.1 y.1
theorem y2c[Inhabited (InL L)]{w:World}{b c m:Nat}{d:Array (InL L)}{os:Array Obj}(hc:c<w.heap.size) :
  (sortWorldK (zrv f) k w b 0 m d os).heap[c]?=(w.heap.modify b (onCells (putCells id 0 (flatK (zrv f) k d))))[c]?:=by
 unfold sortWorldK putRowK putRow mapBlock
 rw[heap_grow_old _ _ (by simpa using hc)]
 rfl
theorem zxy[Inhabited (InL L)](hk:∀x,(f x).length=k)(hk0:0<k){s:List α}{dd:Array (InL L)}(hd:dd.toList.map (·.1)=s){j:Nat}(hj:j<s.length*k):(s.flatMap f)[j]?=some (flatK (zrv f) k dd)[j]! := by
 have hl:dd.size=s.length:=by rw[← hd];simp
 have hq:j/k<s.length:=Nat.div_lt_of_lt_mul (by rw[Nat.mul_comm];exact hj)
 have hg:s[j/k]?=some (dd[j/k]!).1:=by
  rw[← hd,List.getElem?_map,getElem!_pos dd (j/k) (by omega)]
  simp[show j/k<dd.size by omega]
 rw[get_flatK _ _ _ _ (by rw[hl];exact hj)]
 have hm:(f (dd[j/k]!).1)[j%k]?=some ((zrv f dd[j/k]!)[j%k]!):=by
  have h3:j%k<(f (dd[j/k]!).1).length:=by rw[hk];exact Nat.mod_lt _ hk0
  show _=some ((f (dd[j/k]!).1)[j%k]!)
  rw[getElem!_pos (f (dd[j/k]!).1) (j%k) h3]
  exact List.getElem?_eq_getElem h3
 have:=zxz (k:=k) (f:=f) hk hg hm
 rwa [Nat.div_add_mod' j k] at this
theorem z8v:L.attach.toArray.toList.map (·.1)=L:=by show L.attach.map Subtype.val=L;exact List.attach_map_subtype_val L
section
variable [Inhabited (InL L)] {H0 H:Hp} {u:Slc} {e:TypeId} {b:Nat} {w w':World}
theorem y2v(hk:∀x,(f x).length=k)(hk0:0<k)(own:Own k f e H b u L)(hv:z2k w H):HoldsK (zrv f) k w b 0 L.attach.toArray/\b<w.heap.size:=by
 obtain⟨cs,hcs,hsz,htake⟩:=own.cells
 have hw:=hv b _ hcs
 refine⟨λj hj=>?_,(Array.getElem?_eq_some_iff.1 hw).1⟩
 have hds:L.attach.toArray.size=L.length:=by simp
 rw[size_flatK,hds] at hj
 have h1:=zxy (f:=f) hk hk0 z8v hj
 rw[Nat.zero_add]
 refine⟨?_,?_⟩
 ·unfold World.cell?
  simp only[hw]
  show cs[j]?=_
  rw[← htake,List.getElem?_take,if_pos hj,Array.getElem?_toList] at h1
  exact h1
 ·unfold World.frozen?
  simp only[hw]
  simp
theorem y7v(hk:∀x,(f x).length=k)(hk0:0<k)(own:Own k f e H b u L)(hb0:H0 b=none)(hv:z2k w H){d:Array (InL L)}(hd:d.toList.Perm L.attach){n:Nat}{os:Array Obj}(hw':w'=sortWorldK (zrv f) k w b 0 n d os) :
  ∃H',Tr w H w' H'/\Mine k f e H0 H' u (d.toList.map (·.1))/\Chg H H' u:=by
 obtain⟨cs,hcs,hsz,htake⟩:=own.cells
 have hw:=hv b _ hcs
 have hblk:b<w.heap.size:=(Array.getElem?_eq_some_iff.1 hw).1
 have hba:=own.blk
 have hcap:=own.cap
 have hdl:d.size=L.length:=by have:=hd.length_eq;simpa using this
 have hcsz:(putCells id 0 (flatK (zrv f) k d) cs).size=cs.size:=by simp[putCells]
 have hl1:(d.toList.map (·.1)).length=L.length:=by rw[List.length_map];simpa using hdl
 have hnew:∀c,c<w.heap.size->w'.heap[c]?=if c=b then some (.cells (putCells id 0 (flatK (zrv f) k d) cs) e (0,0)) else w.heap[c]?:=λc hc=>by
  rw[hw',y2c hc,Array.getElem?_modify]
  split
  ·rename_i e2;subst e2;rw[if_pos rfl,hw];rfl
  ·rename_i e2;rw[if_neg (λe3=>e2 e3.symm)]
 have hsize:w.heap.size<=w'.heap.size:=by
  rw[hw'];unfold sortWorldK putRowK;rw[size_grow,size_putRow];exact Nat.le_add_right _ _
 refine⟨Hp.put H b (.cells (putCells id 0 (flatK (zrv f) k d) cs) e (0,0)),⟨λc o hc=>?_,λc hc hn=>?_,λc hc=>?_,hsize,by rw[hw'];rfl,by rw[hw'];rfl,by rw[hw'];rfl,by rw[hw'];show w.drawn<=w.drawn+n;omega⟩,.inr ⟨b,hb0,?_⟩,λc hc hp=>?_⟩
 ·unfold Hp.put at hc
  split at hc
  ·rename_i e2;subst e2;cases hc;rw[hnew c hblk,if_pos rfl]
  ·rename_i e2
   have h0:=hv c o hc
   rw[hnew c (Array.getElem?_eq_some_iff.1 h0).1,if_neg e2];exact h0
 ·rw[hnew c hc,if_neg (λe2=>by subst e2;rw[hcs] at hn;cases hn)]
 ·unfold Hp.put at hc
  split at hc
  ·rename_i e2;subst e2;left;rw[hcs];simp
  ·exact .inl hc
 ·refine⟨by rw[hl1];exact own.len,own.cap,own.blk,putCells id 0 (flatK (zrv f) k d) cs,by simp[Hp.put],by rw[hcsz];exact hsz,?_⟩
  refine List.ext_getElem? λj=>?_
  rw[List.getElem?_take]
  split
  ·rename_i hj
   rw[zxy hk hk0 rfl hj]
   have hjc:j<cs.size:=by
    rw[hsz];rw[hl1] at hj
    have:=own.len;have:L.length*k<=u.c*k:=Nat.mul_le_mul_right k (by omega)
    omega
   rw[Array.getElem?_toList]
   unfold putCells
   rw[Array.getElem?_mapIdx,Array.getElem?_eq_getElem hjc,Option.map_some,if_pos ⟨Nat.zero_le _,by rw[size_flatK,hdl];rw[hl1] at hj;omega⟩]
   simp
  ·rename_i hj
   exact(List.getElem?_eq_none (by rw[zy0 hk];omega)).symm
 ·rw[Hp.put_ne]
  intro e2;subst e2;exact hp _ hba rfl
theorem znf{P:Program}{g:Nat}{cb:Array Value}{cf:α->α->Int}{Hc:Hp}{size:Nat}(own:Own k f e H b u L)(hv:z2k w H)(hHc:∀c o,Hc c=some o->H c=some o/\c≠b)
  (q:∀x∈L,∀y∈L,Qf P g (#[.agg (f x).toArray,.agg (f y).toArray]++cb) Hc (.int .i64 (cf x y))):CmpLays P g cb (zrv f) k (cfL (L:=L) cf) b 0 size w:=by
 intro m os dk hs x y
 have hvW:z2k (sortWorldK (zrv f) k w b 0 m dk os) Hc:=λc o hc=>by
  obtain⟨h1,h2⟩:=hHc c o hc
  have h0:=hv c o h1
  rw[y2c (Array.getElem?_eq_some_iff.1 h0).1,Array.getElem?_modify,if_neg (Ne.symm h2)];exact h0
 generalize sortWorldK (zrv f) k w b 0 m dk os=W at hvW ⊢
 refine(q x.1 x.2 y.1 y.2 W hvW).mono λe w' ⟨v,H',he,tr,hv',hl⟩=>?_
 subst hv'
 exact⟨he,tr.grown hvW hl⟩
end
theorem x08[Inhabited (InL L)]{cf:α->α->Int}{d':Array (InL L)}(hp:PermIn 0 L.length L.attach.toArray d')(hs:SortedIn (ltOf (cfL cf)) 0 L.length d'):d'.toList.Perm L.attach/\(d'.toList.map (·.1)).Perm L/\(d'.toList.map (·.1)).Pairwise λx y=>¬ cf y x<0:=by
 obtain⟨z,_,pm⟩:=hp
 have hds:L.attach.toArray.size=L.length:=by simp
 rw[hds] at z
 have p1:d'.toList.Perm L.attach:=by
  rw[show d'.extract 0 L.length=d' by rw[← z];simp,show L.attach.toArray.extract 0 L.length=L.attach.toArray by simp[List.take_of_length_le]] at pm
  exact pm
 refine⟨p1,?_,?_⟩
 ·have:=p1.map (λx:InL L=>x.1)
  rw[List.attach_map_subtype_val] at this;exact this
 ·refine List.pairwise_map.2 (List.pairwise_iff_getElem.2 λi j hi hj hij=>?_)
  have:=hs i j (Nat.zero_le _) hij (by rw[← z];simpa using hj)
  rw[getElem!_pos d' i (by simpa using hi),getElem!_pos d' j (by simpa using hj)] at this
  unfold ltOf cfL at this
  rw[decide_eq_false_iff_not] at this
  simpa using this
theorem yzs{P:Program}{ρ:Ren}(LL:SlLaysF0.n6 P ρ)(aE:∀w,(isAgg (ρ.t 24)).run P w=.ok true w)(zE:∀w,(Go.sizeOf (ρ.t 24)).run P w=.ok k w)(hk:∀x,(f x).length=k)(hk0:0<k)(h1:∀x,∀v∈f x,v.oneCell'=true)
  {g:Nat} {cb:Array Value} {cf:α->α->Int} {H0 H Hc:Hp} {u:Slc} {e:TypeId} (eg:∀args w,(callFunc g args).run P w=.ok (.enter g args) w) (hbig:L.length<4611686018427387904) (hO:SWO (ltOf (cfL (L:=L) cf)))
  (hu:Mine k f e H0 H u L) (hHc:∀c o,Hc c=some o->H c=some o/\∀p,u.a=some p->p.block≠c) (q:∀x∈L,∀y∈L,Qf P g (#[.agg (f x).toArray,.agg (f y).toArray]++cb) Hc (.int .i64 (cf x y))) :
  Go.Eng.Fn P (ρ.f 6) #[u.v,.func (.func g) #[] cb] H λv H'=>v=.tuple #[]/\∃S:List α,S.Perm L/\(S.Pairwise λx y=>¬ cf y x<0)/\Mine k f e H0 H' u S/\Chg H H' u:=by
 have hlen:=(Mine.rd hk hu).len
 by_cases hne:L=[]
 ·subst hne
  intro w hv
  have hn:u.n=0:=by simpa using hlen
  rw[show u.v=.slice u.a 0 u.c by unfold Slc.v;rw[hn]]
  refine(AnyF.slices_SortFunc_none LL u.a u.c _ w).mono λe1 w' ⟨he,hw⟩=>⟨_,H,he,by rw[hw];exact Tr.refl hv,rfl,[],.refl _,.nil,hu,λ_ _ _=>rfl⟩
 obtain⟨p0,hp0⟩:=List.exists_mem_of_ne_nil L hne
 haveI:Inhabited (InL L):=⟨⟨p0,hp0⟩⟩
 rcases hu with⟨_,h⟩|⟨b,hb0,own⟩
 ·exact absurd h hne
 have hba:=own.blk
 intro w hv
 obtain⟨hH,hblk⟩:=y2v hk hk0 own hv
 have hds:L.attach.toArray.size=L.length:=by simp
 have hcon:=AnyQ.slices_SortFunc LL k aE zE (zrv f) (λx=>hk x.1) (λx v hv=>h1 x.1 v hv) (cfL cf) hO g cb b 0 u.c L.attach.toArray w eg (znf own hv (λc o hc=>⟨(hHc c o hc).1,λe2=>(hHc c o hc).2 _ hba e2.symm⟩) q) hH hblk (by rw[hds];exact hbig)
 rw[hds] at hcon
 rw[show u.v=.slice (some ⟨b,0,none⟩) L.length u.c by unfold Slc.v;rw[hba,hlen]]
 refine hcon.mono λe1 w' ⟨he,d',n,os,hp,hs,hw'⟩=>?_
 obtain⟨p1,p2,sr⟩:=x08 hp hs
 obtain⟨H',tr,m,c⟩:=y7v hk hk0 own hb0 hv p1 hw'
 exact⟨_,H',he,tr,rfl,_,p2,sr,m,c⟩
theorem y4k{P:Program}{ρ:Ren}(LL:SlLaysF0.n20 P ρ)(aE:∀w,(isAgg (ρ.t 24)).run P w=.ok true w)(zE:∀w,(Go.sizeOf (ρ.t 24)).run P w=.ok k w)(hk:∀x,(f x).length=k)(hk0:0<k)(h1:∀x,∀v∈f x,v.oneCell'=true)
  {g:Nat} {cb:Array Value} {cf:α->α->Int} {H0 H Hc:Hp} {u:Slc} {e:TypeId} (eg:∀args w,(callFunc g args).run P w=.ok (.enter g args) w) (hbig:L.length<4611686018427387904) (hO:SWO (ltOf (cfL (L:=L) cf))) (hne:L≠[])
  (hu:Mine k f e H0 H u L) (hHc:∀c o,Hc c=some o->H c=some o/\∀p,u.a=some p->p.block≠c) (q:∀x∈L,∀y∈L,Qf P g (#[.agg (f x).toArray,.agg (f y).toArray]++cb) Hc (.int .i64 (cf x y))) :
  Go.Eng.Fn P (ρ.f 20) #[u.v,.int .i64 0,.int .i64 L.length,.func (.func g) #[] cb] H λv H'=>v=.tuple #[]/\∃S:List α,S.Perm L/\(S.Pairwise λx y=>¬ cf y x<0)/\Mine k f e H0 H' u S/\Chg H H' u:=by
 have hlen:=(Mine.rd hk hu).len
 obtain⟨p0,hp0⟩:=List.exists_mem_of_ne_nil L hne
 haveI:Inhabited (InL L):=⟨⟨p0,hp0⟩⟩
 rcases hu with⟨_,h⟩|⟨b,hb0,own⟩
 ·exact absurd h hne
 have hba:=own.blk
 intro w hv
 obtain⟨hH,hblk⟩:=y2v hk hk0 own hv
 have hds:L.attach.toArray.size=L.length:=by simp
 have hcon:=AnyQ.insertionSortCmpFunc LL k aE zE (zrv f) (λx=>hk x.1) (λx v hv=>h1 x.1 v hv) (cfL cf) g cb b 0 u.c 0 L.length L.attach.toArray w eg (znf own hv (λc o hc=>⟨(hHc c o hc).1,λe2=>(hHc c o hc).2 _ hba e2.symm⟩) q) hH hblk (by omega) (by omega) (by rw[hds];exact hbig)
 rw[hds] at hcon
 rw[show u.v=.slice (some ⟨b,0,none⟩) L.length u.c by unfold Slc.v;rw[hba,hlen]]
 refine hcon.mono λe1 w' ⟨he,n,os,hw'⟩=>?_
 obtain⟨hp,hs⟩:=insertionSort_holds (lt:=ltOf (cfL (L:=L) cf)) hO L.attach.toArray 0 L.length (by omega) (by omega)
 obtain⟨p1,p2,sr⟩:=x08 hp hs
 obtain⟨H',tr,m,c⟩:=y7v hk hk0 own hb0 hv p1 hw'
 exact⟨_,H',he,tr,rfl,_,p2,sr,m,c⟩
end
end Go.Proofs.YtnhdkkblehadjabGreat
end
