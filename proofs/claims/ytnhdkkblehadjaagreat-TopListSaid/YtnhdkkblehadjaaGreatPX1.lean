/- The engine, parts XS, SL, SG, put together. Conditions: none. -/
import Derived.Shelf.Strconv.Itoa0
import Derived.Shelf.SlSortCmp.NoneTotal
import Derived.Test.YtnhdkkblehadjaaGreatPL3
open Array renaming getElem?_eq_some_iff->Qa,getElem?_toList->Qb,getElem?_modify->Qc
open List renaming getElem?_take->Qd,attach_map_subtype_val->Qe
set_option linter.unusedVariables false
section
namespace Go.Proofs
open Go.Shelf
def Tryz.len64_ren:Go.Shelf.Ren:=⟨fun|129=>223|n=>n,fun|53=>124|3=>3|4=>4|46=>267|5=>5|9=>9|n=>n,fun|n=>n⟩
theorem Tryz.len64:Go.Proofs.Lays.n129 Tryz.prog Tryz.len64_ren:={
 mixed:=by kernel_rfl
 f129:=Tryz.func223.trans (congrArg some (by kernel_rfl))
 t3:=Tryz.underlying3
 a3:=Tryz.isAgg3
 z3:=Tryz.sizeOf3
 v3:=Tryz.zeroValue3
 t4:=Tryz.underlying4
 a4:=Tryz.isAgg4
 z4:=Tryz.sizeOf4
 v4:=Tryz.zeroValue4
 t5:=Tryz.underlying5
 a5:=Tryz.isAgg5
 z5:=Tryz.sizeOf5
 v5:=Tryz.zeroValue5
 t9:=Tryz.underlying9
 a9:=Tryz.isAgg9
 z9:=Tryz.sizeOf9
 v9:=Tryz.zeroValue9
 t46:=Tryz.underlying267
 a46:=Tryz.isAgg267
 z46:=Tryz.sizeOf267
 v46:=Tryz.zeroValue267
 t53:=Tryz.underlying124
 a53:=Tryz.isAgg124
 z53:=Tryz.sizeOf124
 v53:=Tryz.zeroValue124 }
def Tryz.lenW_ren:Go.Shelf.Ren:=⟨fun|125=>170|128=>222|129=>223|n=>n,fun|46=>267|3=>3|51=>313|53=>124|4=>4|5=>5|9=>9|n=>n,fun|n=>n⟩
theorem Tryz.lenW:Go.Proofs.Lays.n125 Tryz.prog Tryz.lenW_ren:={
 mixed:=by kernel_rfl
 f125:=Tryz.func170.trans (congrArg some (by kernel_rfl))
 f128:=Tryz.func222.trans (congrArg some (by kernel_rfl))
 f129:=Tryz.func223.trans (congrArg some (by kernel_rfl))
 t3:=Tryz.underlying3
 a3:=Tryz.isAgg3
 z3:=Tryz.sizeOf3
 v3:=Tryz.zeroValue3
 t4:=Tryz.underlying4
 a4:=Tryz.isAgg4
 z4:=Tryz.sizeOf4
 v4:=Tryz.zeroValue4
 t5:=Tryz.underlying5
 a5:=Tryz.isAgg5
 z5:=Tryz.sizeOf5
 v5:=Tryz.zeroValue5
 t9:=Tryz.underlying9
 a9:=Tryz.isAgg9
 z9:=Tryz.sizeOf9
 v9:=Tryz.zeroValue9
 t46:=Tryz.underlying267
 a46:=Tryz.isAgg267
 z46:=Tryz.sizeOf267
 v46:=Tryz.zeroValue267
 t51:=Tryz.underlying313
 a51:=Tryz.isAgg313
 z51:=Tryz.sizeOf313
 v51:=Tryz.zeroValue313
 t53:=Tryz.underlying124
 a53:=Tryz.isAgg124
 z53:=Tryz.sizeOf124
 v53:=Tryz.zeroValue124 }
end Go.Proofs
end
section
namespace Go.Proofs
open Go.Shelf
def Tryz.sortPt_ren:Go.Shelf.Ren:=⟨fun|6=>112|15=>170|14=>169|28=>222|29=>223|20=>214|21=>215|22=>216|23=>217|24=>218|25=>219|26=>220|27=>221|46=>254|47=>255|48=>256|49=>257|50=>258|57=>277|n=>n,fun|22=>22|24=>28|25=>197|3=>3|39=>267|0=>0|53=>313|55=>124|4=>4|46=>318|45=>317|50=>100|5=>5|9=>9|66=>354|70=>358|76=>372|77=>373|n=>n,fun|n=>n⟩
theorem Tryz.sortPt:Go.Proofs.SlLaysF0.n6 Tryz.prog Tryz.sortPt_ren:={
 mixed:=by kernel_rfl
 f6:=⟨Tryz.f112.name,by decide,Tryz.func112.trans (congrArg some (by kernel_rfl))⟩
 f14:=⟨Tryz.f169.name,by decide,Tryz.func169.trans (congrArg some (by kernel_rfl))⟩
 f15:=Tryz.func170.trans (congrArg some (by kernel_rfl))
 f20:=⟨Tryz.f214.name,by decide,Tryz.func214.trans (congrArg some (by kernel_rfl))⟩
 f21:=⟨Tryz.f215.name,by decide,Tryz.func215.trans (congrArg some (by kernel_rfl))⟩
 f22:=⟨Tryz.f216.name,by decide,Tryz.func216.trans (congrArg some (by kernel_rfl))⟩
 f23:=⟨Tryz.f217.name,by decide,Tryz.func217.trans (congrArg some (by kernel_rfl))⟩
 f24:=⟨Tryz.f218.name,by decide,Tryz.func218.trans (congrArg some (by kernel_rfl))⟩
 f25:=⟨Tryz.f219.name,by decide,Tryz.func219.trans (congrArg some (by kernel_rfl))⟩
 f26:=⟨Tryz.f220.name,by decide,Tryz.func220.trans (congrArg some (by kernel_rfl))⟩
 f27:=⟨Tryz.f221.name,by decide,Tryz.func221.trans (congrArg some (by kernel_rfl))⟩
 f28:=Tryz.func222.trans (congrArg some (by kernel_rfl))
 f29:=Tryz.func223.trans (congrArg some (by kernel_rfl))
 f46:=⟨Tryz.f254.name,by decide,Tryz.func254.trans (congrArg some (by kernel_rfl))⟩
 f47:=Tryz.func255.trans (congrArg some (by kernel_rfl))
 f48:=Tryz.func256.trans (congrArg some (by kernel_rfl))
 f49:=⟨Tryz.f257.name,by decide,Tryz.func257.trans (congrArg some (by kernel_rfl))⟩
 f50:=⟨Tryz.f258.name,by decide,Tryz.func258.trans (congrArg some (by kernel_rfl))⟩
 f57:=⟨Tryz.f277.name,by decide,Tryz.func277.trans (congrArg some (by kernel_rfl))⟩
 t0:=Tryz.underlying0
 a0:=Tryz.isAgg0
 z0:=Tryz.sizeOf0
 v0:=Tryz.zeroValue0
 t3:=Tryz.underlying3
 a3:=Tryz.isAgg3
 z3:=Tryz.sizeOf3
 v3:=Tryz.zeroValue3
 t4:=Tryz.underlying4
 a4:=Tryz.isAgg4
 z4:=Tryz.sizeOf4
 v4:=Tryz.zeroValue4
 t5:=Tryz.underlying5
 a5:=Tryz.isAgg5
 z5:=Tryz.sizeOf5
 v5:=Tryz.zeroValue5
 t9:=Tryz.underlying9
 a9:=Tryz.isAgg9
 z9:=Tryz.sizeOf9
 v9:=Tryz.zeroValue9
 t22:=Tryz.underlying22
 a22:=Tryz.isAgg22
 z22:=Tryz.sizeOf22
 v22:=Tryz.zeroValue22
 t25:=Tryz.underlying197
 a25:=Tryz.isAgg197
 z25:=Tryz.sizeOf197
 v25:=Tryz.zeroValue197
 t39:=Tryz.underlying267
 a39:=Tryz.isAgg267
 z39:=Tryz.sizeOf267
 v39:=Tryz.zeroValue267
 t45:=Tryz.underlying317
 a45:=Tryz.isAgg317
 z45:=Tryz.sizeOf317
 v45:=Tryz.zeroValue317
 t46:=Tryz.underlying318
 a46:=Tryz.isAgg318
 z46:=Tryz.sizeOf318
 v46:=Tryz.zeroValue318
 t50:=Tryz.underlying100
 a50:=Tryz.isAgg100
 z50:=Tryz.sizeOf100
 v50:=Tryz.zeroValue100
 t53:=Tryz.underlying313
 a53:=Tryz.isAgg313
 z53:=Tryz.sizeOf313
 v53:=Tryz.zeroValue313
 t55:=Tryz.underlying124
 a55:=Tryz.isAgg124
 z55:=Tryz.sizeOf124
 v55:=Tryz.zeroValue124
 t66:=Tryz.underlying354
 a66:=Tryz.isAgg354
 z66:=Tryz.sizeOf354
 v66:=Tryz.zeroValue354
 t70:=Tryz.underlying358
 a70:=Tryz.isAgg358
 z70:=Tryz.sizeOf358
 v70:=Tryz.zeroValue358
 t76:=Tryz.underlying372
 a76:=Tryz.isAgg372
 z76:=Tryz.sizeOf372
 v76:=Tryz.zeroValue372
 t77:=Tryz.underlying373
 a77:=Tryz.isAgg373
 z77:=Tryz.sizeOf373
 v77:=Tryz.zeroValue373 }
def Tryz.sortMt_ren:Go.Shelf.Ren:=⟨fun|6=>137|15=>170|14=>193|28=>222|29=>223|20=>235|21=>236|22=>237|23=>238|24=>239|25=>240|26=>241|27=>242|46=>261|47=>255|48=>256|49=>262|50=>263|57=>278|n=>n,fun|22=>57|24=>103|25=>231|3=>3|39=>267|0=>0|53=>313|55=>124|4=>4|46=>318|45=>317|50=>100|5=>5|9=>9|66=>354|70=>358|76=>372|77=>373|n=>n,fun|n=>n⟩
theorem Tryz.sortMt:Go.Proofs.SlLaysF0.n6 Tryz.prog Tryz.sortMt_ren:={
 mixed:=by kernel_rfl
 f6:=⟨Tryz.f137.name,by decide,Tryz.func137.trans (congrArg some (by kernel_rfl))⟩
 f14:=⟨Tryz.f193.name,by decide,Tryz.func193.trans (congrArg some (by kernel_rfl))⟩
 f15:=Tryz.func170.trans (congrArg some (by kernel_rfl))
 f20:=⟨Tryz.f235.name,by decide,Tryz.func235.trans (congrArg some (by kernel_rfl))⟩
 f21:=⟨Tryz.f236.name,by decide,Tryz.func236.trans (congrArg some (by kernel_rfl))⟩
 f22:=⟨Tryz.f237.name,by decide,Tryz.func237.trans (congrArg some (by kernel_rfl))⟩
 f23:=⟨Tryz.f238.name,by decide,Tryz.func238.trans (congrArg some (by kernel_rfl))⟩
 f24:=⟨Tryz.f239.name,by decide,Tryz.func239.trans (congrArg some (by kernel_rfl))⟩
 f25:=⟨Tryz.f240.name,by decide,Tryz.func240.trans (congrArg some (by kernel_rfl))⟩
 f26:=⟨Tryz.f241.name,by decide,Tryz.func241.trans (congrArg some (by kernel_rfl))⟩
 f27:=⟨Tryz.f242.name,by decide,Tryz.func242.trans (congrArg some (by kernel_rfl))⟩
 f28:=Tryz.func222.trans (congrArg some (by kernel_rfl))
 f29:=Tryz.func223.trans (congrArg some (by kernel_rfl))
 f46:=⟨Tryz.f261.name,by decide,Tryz.func261.trans (congrArg some (by kernel_rfl))⟩
 f47:=Tryz.func255.trans (congrArg some (by kernel_rfl))
 f48:=Tryz.func256.trans (congrArg some (by kernel_rfl))
 f49:=⟨Tryz.f262.name,by decide,Tryz.func262.trans (congrArg some (by kernel_rfl))⟩
 f50:=⟨Tryz.f263.name,by decide,Tryz.func263.trans (congrArg some (by kernel_rfl))⟩
 f57:=⟨Tryz.f278.name,by decide,Tryz.func278.trans (congrArg some (by kernel_rfl))⟩
 t0:=Tryz.underlying0
 a0:=Tryz.isAgg0
 z0:=Tryz.sizeOf0
 v0:=Tryz.zeroValue0
 t3:=Tryz.underlying3
 a3:=Tryz.isAgg3
 z3:=Tryz.sizeOf3
 v3:=Tryz.zeroValue3
 t4:=Tryz.underlying4
 a4:=Tryz.isAgg4
 z4:=Tryz.sizeOf4
 v4:=Tryz.zeroValue4
 t5:=Tryz.underlying5
 a5:=Tryz.isAgg5
 z5:=Tryz.sizeOf5
 v5:=Tryz.zeroValue5
 t9:=Tryz.underlying9
 a9:=Tryz.isAgg9
 z9:=Tryz.sizeOf9
 v9:=Tryz.zeroValue9
 t22:=Tryz.underlying57
 a22:=Tryz.isAgg57
 z22:=Tryz.sizeOf57
 v22:=Tryz.zeroValue57
 t25:=Tryz.underlying231
 a25:=Tryz.isAgg231
 z25:=Tryz.sizeOf231
 v25:=Tryz.zeroValue231
 t39:=Tryz.underlying267
 a39:=Tryz.isAgg267
 z39:=Tryz.sizeOf267
 v39:=Tryz.zeroValue267
 t45:=Tryz.underlying317
 a45:=Tryz.isAgg317
 z45:=Tryz.sizeOf317
 v45:=Tryz.zeroValue317
 t46:=Tryz.underlying318
 a46:=Tryz.isAgg318
 z46:=Tryz.sizeOf318
 v46:=Tryz.zeroValue318
 t50:=Tryz.underlying100
 a50:=Tryz.isAgg100
 z50:=Tryz.sizeOf100
 v50:=Tryz.zeroValue100
 t53:=Tryz.underlying313
 a53:=Tryz.isAgg313
 z53:=Tryz.sizeOf313
 v53:=Tryz.zeroValue313
 t55:=Tryz.underlying124
 a55:=Tryz.isAgg124
 z55:=Tryz.sizeOf124
 v55:=Tryz.zeroValue124
 t66:=Tryz.underlying354
 a66:=Tryz.isAgg354
 z66:=Tryz.sizeOf354
 v66:=Tryz.zeroValue354
 t70:=Tryz.underlying358
 a70:=Tryz.isAgg358
 z70:=Tryz.sizeOf358
 v70:=Tryz.zeroValue358
 t76:=Tryz.underlying372
 a76:=Tryz.isAgg372
 z76:=Tryz.sizeOf372
 v76:=Tryz.zeroValue372
 t77:=Tryz.underlying373
 a77:=Tryz.isAgg373
 z77:=Tryz.sizeOf373
 v77:=Tryz.zeroValue373 }
end Go.Proofs
end
section
set_option maxRecDepth 100000
open Go Go.Eng Go.Proofs
open Go.Shelf Go.RowKit Go.Lib Go.Sort
namespace Go.Proofs.YtnhdkkblehadjaaGreat
variable{w:World}{P:Program}
theorem _root_.Go.Eng.Tr.grown{w':World}{H H':Hp}(hv:z2i w H)(ht:Tr w H w' H')(hl:Hp.le H H'):∃q os,w'=grow (w.drewN q) os:=by
 refine⟨w'.drawn-w.drawn,w'.heap.extract w.heap.size w'.heap.size,?_⟩;have hd:=ht.drawn;have hh:w'.heap=w.heap++w'.heap.extract w.heap.size w'.heap.size:=by
  apply Array.ext_getElem?;intro k;have hs:=ht.size;rw[Array.getElem?_append];split
  ·rename_i hk;cases hx:H k with
   | none=>exact ht.frame k hk hx
   | some o=>rw[ht.view k o (hl k o hx),hv k o hx]
  ·rename_i hk;rw[Array.getElem?_extract];split
   ·congr 1;omega
   ·exact Array.getElem?_eq_none (by omega)
 have h1:=ht.os;have h2:=ht.tape;have h3:=ht.output;unfold grow World.drewN;cases w;cases w';simp only at hh hd h1 h2 h3 ⊢;subst h1;subst h2;subst h3;rw[← hh];congr 1;omega
abbrev InL{α:Type}(L:List α):={x:α // x∈L}
section
variable{α:Type}{f:α->List Value}{k:Nat}{L:List α}
def zu8(f:α->List Value)(x:InL L):List Value:=f x.1
def cfL(cf:α->α->Int)(x y:InL L):Int:=cf x.1 y.1
theorem y4k[Inhabited (InL L)]{b c m:Nat}{d:Array (InL L)}{os:Array Obj}(hc:c<w.heap.size) :
  (sortWorldK (zu8 f) k w b 0 m d os).heap[c]?=(w.heap.modify b (onCells (putCells id 0 (flatK (zu8 f) k d))))[c]?:=by
 unfold sortWorldK putRowK putRow mapBlock;rw[heap_grow_old _ _ (by simpa using hc)];rfl
theorem y04[Inhabited (InL L)](hk:∀x,(f x).length=k)(hk0:0<k){s:List α}{dd:Array (InL L)}(hd:dd.toList.map (·.1)=s){j:Nat}(hj:j<s.length*k):(s.flatMap f)[j]?=some (flatK (zu8 f) k dd)[j]! := by
 have hl:dd.size=s.length:=by rw[← hd];simp
 have hq:j/k<s.length:=Nat.div_lt_of_lt_mul (by rw[Nat.mul_comm];exact hj);have hg:s[j/k]?=some (dd[j/k]!).1:=by
  rw[← hd,List.getElem?_map,getElem!_pos dd (j/k) (by omega)];simp[show j/k<dd.size by omega]
 rw[get_flatK _ _ _ _ (by rw[hl];exact hj)];have hm:(f (dd[j/k]!).1)[j%k]?=some ((zu8 f dd[j/k]!)[j%k]!):=by
  have h3:j%k<(f (dd[j/k]!).1).length:=by rw[hk];exact Nat.mod_lt _ hk0
  show _=some ((f (dd[j/k]!).1)[j%k]!);rw[getElem!_pos (f (dd[j/k]!).1) (j%k) h3];exact List.getElem?_eq_getElem h3
 have:=y05 (k:=k) (f:=f) hk hg hm;rwa [Nat.div_add_mod' j k] at this
theorem z8k:L.attach.toArray.toList.map (·.1)=L:=by show L.attach.map Subtype.val=L;exact Qe L
section
variable [Inhabited (InL L)]{H0 H:Hp}{u:Slc}{e:TypeId}{b:Nat}{w w':World}
theorem y53(hk:∀x,(f x).length=k)(hk0:0<k)(own:Own k f e H b u L)(hv:z2i w H):HoldsK (zu8 f) k w b 0 L.attach.toArray/\b<w.heap.size:=by
 obtain⟨cs,hcs,hsz,htake⟩:=own.cells;have hw:=hv b _ hcs;refine⟨λj hj=>?_,(Qa.1 hw).1⟩;have hds:L.attach.toArray.size=L.length:=by simp
 rw[size_flatK,hds] at hj;have h1:=y04 (f:=f) hk hk0 z8k hj;rw[Nat.zero_add];refine⟨?_,?_⟩
 ·unfold World.cell?;simp only[hw];show cs[j]?=_;rw[← htake,Qd,Zp hj,Qb] at h1;exact h1
 ·unfold World.frozen?;simp only[hw];simp
theorem yax(hk:∀x,(f x).length=k)(hk0:0<k)(own:Own k f e H b u L)(hb0:H0 b=none)(hv:z2i w H){d:Array (InL L)}(hd:d.toList.Perm L.attach){n:Nat}{os:Array Obj}(hw':w'=sortWorldK (zu8 f) k w b 0 n d os) :
  ∃H',Tr w H w' H'/\Mine k f e H0 H' u (d.toList.map (·.1))/\Chg H H' u:=by
 obtain⟨cs,hcs,hsz,htake⟩:=own.cells;have hw:=hv b _ hcs;have hblk:b<w.heap.size:=(Qa.1 hw).1;have hba:=own.blk;have hcap:=own.cap;have hdl:d.size=L.length:=by have:=hd.length_eq;simpa using this
 have hcsz:(putCells id 0 (flatK (zu8 f) k d) cs).size=cs.size:=by simp[putCells]
 have hl1:(d.toList.map (·.1)).length=L.length:=by rw[List.length_map];simpa using hdl
 have hnew:∀c,c<w.heap.size->w'.heap[c]?=if c=b then some (.cells (putCells id 0 (flatK (zu8 f) k d) cs) e (0,0)) else w.heap[c]?:=λc hc=>by
  rw[hw',y4k hc,Qc];split
  ·rename_i e2;subst e2;rw[Zp rfl,hw];rfl
  ·rename_i e2;rw[Zn (λe3=>e2 e3.symm)]
 have hsize:w.heap.size<=w'.heap.size:=by
  rw[hw'];unfold sortWorldK putRowK;rw[size_grow,size_putRow];exact Nat.le_add_right _ _
 refine⟨Hp.put H b (.cells (putCells id 0 (flatK (zu8 f) k d) cs) e (0,0)),⟨λc o hc=>?_,λc hc hn=>?_,λc hc=>?_,hsize,by rw[hw'];rfl,by rw[hw'];rfl,by rw[hw'];rfl,by rw[hw'];show w.drawn<=w.drawn+n;omega⟩,.inr ⟨b,hb0,?_⟩,λc hc hp=>?_⟩
 ·unfold Hp.put at hc;split at hc
  ·rename_i e2;subst e2;cases hc;rw[hnew c hblk,Zp rfl]
  ·rename_i e2;have h0:=hv c o hc;rw[hnew c (Qa.1 h0).1,Zn e2];exact h0
 ·rw[hnew c hc,Zn (λe2=>by subst e2;rw[hcs] at hn;cases hn)]
 ·unfold Hp.put at hc;split at hc
  ·rename_i e2;subst e2;left;rw[hcs];simp
  ·exact .inl hc
 ·refine⟨by rw[hl1];exact own.len,own.cap,own.blk,putCells id 0 (flatK (zu8 f) k d) cs,by simp[Hp.put],by rw[hcsz];exact hsz,?_⟩;refine List.ext_getElem? λj=>?_
  rw[Qd];split
  ·rename_i hj;rw[y04 hk hk0 rfl hj];have hjc:j<cs.size:=by
    rw[hsz];rw[hl1] at hj;have:=own.len;have:L.length*k<=u.c*k:=Nat.mul_le_mul_right k (by omega);omega
   rw[Qb];unfold putCells;rw[Array.getElem?_mapIdx,Array.getElem?_eq_getElem hjc,Option.map_some,Zp ⟨Nat.zero_le _,by rw[size_flatK,hdl];rw[hl1] at hj;omega⟩];simp
  ·rename_i hj;exact(List.getElem?_eq_none (by rw[y06 hk];omega)).symm
 ·rw[Hp.put_ne];intro e2;subst e2;exact hp _ hba rfl
theorem zoz{g:Nat}{cb:Array Value}{cf:α->α->Int}{Hc:Hp}{size:Nat}(own:Own k f e H b u L)(hv:z2i w H)(hHc:∀c o,Hc c=some o->H c=some o/\c≠b)
  (q:∀x∈L,∀y∈L,Qf P g (#[.agg (f x).toArray,.agg (f y).toArray]++cb) Hc (vi (cf x y))):CmpLays P g cb (zu8 f) k (cfL (L:=L) cf) b 0 size w:=by
 intro m os dk hs x y;have hvW:z2i (sortWorldK (zu8 f) k w b 0 m dk os) Hc:=λc o hc=>by
  obtain⟨h1,h2⟩:=hHc c o hc;have h0:=hv c o h1;rw[y4k (Qa.1 h0).1,Qc,Zn (Ne.symm h2)];exact h0
 generalize sortWorldK (zu8 f) k w b 0 m dk os=W at hvW ⊢;refine(q x.1 x.2 y.1 y.2 W hvW).mono λe w' ⟨v,H',he,tr,hv',hl⟩=>?_
 subst hv';exact⟨he,tr.grown hvW hl⟩
end
theorem x51[Inhabited (InL L)]{cf:α->α->Int}{d':Array (InL L)}(hp:PermIn 0 L.length L.attach.toArray d')(hs:SortedIn (ltOf (cfL cf)) 0 L.length d'):d'.toList.Perm L.attach/\(d'.toList.map (·.1)).Perm L/\(d'.toList.map (·.1)).Pairwise λx y=>¬ cf y x<0:=by
 obtain⟨z,_,pm⟩:=hp;have hds:L.attach.toArray.size=L.length:=by simp
 rw[hds] at z;have p1:d'.toList.Perm L.attach:=by
  rw[show d'.extract 0 L.length=d' by rw[← z];simp,show L.attach.toArray.extract 0 L.length=L.attach.toArray by simp[List.take_of_length_le]] at pm;exact pm
 refine⟨p1,?_,?_⟩
 ·have:=p1.map (λx:InL L=>x.1);rw[Qe] at this;exact this
 ·refine List.pairwise_map.2 (List.pairwise_iff_getElem.2 λi j hi hj hij=>?_);have:=hs i j (Nat.zero_le _) hij (by rw[← z];simpa using hj);rw[getElem!_pos d' i (by simpa using hi),getElem!_pos d' j (by simpa using hj)] at this;unfold ltOf cfL at this;rw[Zt] at this;simpa using this
theorem x4j{ρ:Ren}(LL:SlLaysF0.n6 P ρ)(aE:∀w,(isAgg (ρ.t 24)).run P w=.ok true w)(zE:∀w,(Go.sizeOf (ρ.t 24)).run P w=.ok k w)(hk:∀x,(f x).length=k)(hk0:0<k)(h1:∀x,∀v∈f x,v.oneCell'=true)
  {g:Nat} {cb:Array Value} {cf:α->α->Int} {H0 H Hc:Hp} {u:Slc} {e:TypeId} (eg:∀args w,(callFunc g args).run P w=.ok (.enter g args) w) (hbig:L.length<4611686018427387904) (hO:SWO (ltOf (cfL (L:=L) cf)))
  (hu:Mine k f e H0 H u L) (hHc:∀c o,Hc c=some o->H c=some o/\∀p,u.a=some p->p.block≠c) (q:∀x∈L,∀y∈L,Qf P g (#[.agg (f x).toArray,.agg (f y).toArray]++cb) Hc (vi (cf x y))) :
  Go.Eng.Fn P (ρ.f 6) #[u.v,.func (.func g) #[] cb] H λv H'=>v=.tuple #[]/\∃S:List α,S.Perm L/\(S.Pairwise λx y=>¬ cf y x<0)/\Mine k f e H0 H' u S/\Chg H H' u:=by
 have hlen:=(Mine.rd hk hu).len;by_cases hne:L=[]
 ·subst hne;intro w hv;have hn:u.n=0:=by simpa using hlen
  rw[show u.v=.slice u.a 0 u.c by unfold Slc.v;rw[hn]];refine(AnyF.slices_SortFunc_none LL u.a u.c _ w).mono λe1 w' ⟨he,hw⟩=>⟨_,H,he,by rw[hw];exact Tr.refl hv,rfl,[],.refl _,.nil,hu,λ_ _ _=>rfl⟩
 obtain⟨p0,hp0⟩:=List.exists_mem_of_ne_nil L hne;haveI:Inhabited (InL L):=⟨⟨p0,hp0⟩⟩;rcases hu with⟨_,h⟩|⟨b,hb0,own⟩
 ·exact absurd h hne
 have hba:=own.blk;intro w hv;obtain⟨hH,hblk⟩:=y53 hk hk0 own hv;have hds:L.attach.toArray.size=L.length:=by simp
 have hcon:=AnyQ.slices_SortFunc LL k aE zE (zu8 f) (λx=>hk x.1) (λx v hv=>h1 x.1 v hv) (cfL cf) hO g cb b 0 u.c L.attach.toArray w eg (zoz own hv (λc o hc=>⟨(hHc c o hc).1,λe2=>(hHc c o hc).2 _ hba e2.symm⟩) q) hH hblk (by rw[hds];exact hbig);rw[hds] at hcon;rw[show u.v=.slice (some ⟨b,0,none⟩) L.length u.c by unfold Slc.v;rw[hba,hlen]];refine hcon.mono λe1 w' ⟨he,d',n,os,hp,hs,hw'⟩=>?_
 obtain⟨p1,p2,sr⟩:=x51 hp hs;obtain⟨H',tr,m,c⟩:=yax hk hk0 own hb0 hv p1 hw';exact⟨_,H',he,tr,rfl,_,p2,sr,m,c⟩
end
