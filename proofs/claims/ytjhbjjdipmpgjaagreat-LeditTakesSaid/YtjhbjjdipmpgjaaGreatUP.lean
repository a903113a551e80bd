/- The builtin copy on rows; slices.overlaps on slices of different blocks; slices.Insert. Conditions: none. -/
import Derived.Test.YtjhbjjdipmpgjaaGreatE5
import Derived.Laws.Externs
set_option linter.unusedVariables false
namespace Go.Eng

theorem znr {P:Program} {t t2 ty e k:TypeId} {x:TypeDesc} {cs:Array Bool} (ht:P.underlying t=some (.slice e)) (he:P.underlying e=some x) (hK:P.cellsOf e=k)
  {H:Hp} {b off n c:Nat} {cells:Array Value} {T:TypeId} (hb:H b=some (.cells cells T (0,0))) {q:Addr} {m c':Nat} {vs:List Value} (hl:vs.length=m.min n * k)
  (hvs:∀ j v,vs[j]?=some v→H.at (q.add j)=some v) (hone:∀ v∈vs,v.oneCell'=true) (hsz:off+vs.length≤cells.size) :
  z1e P (z8b .copy #[t,t2] ty cs [.slice (some ⟨b,off,none⟩) n c,.slice (some q) m c']) H fun v H'=>v=.int .i64 (m.min n:Nat) ∧
   H'=H.put b (.cells (cells.toList.take off++vs++cells.toList.drop (off+vs.length)).toArray T (0,0)):=by
 intro w hv
 have hld:=run_loadCells_list (P:=P) w q vs (fun j v h=>hv.cell (hvs j v h))
 have hst:=run_storeCells_at (P:=P) b off T vs 0 cells w (hv b _ hb) (by omega) hone
 simp only [Nat.add_zero] at hst
 refine ⟨.int .i64 (m.min n:Nat),w.setRow b (cells.toList.take off++vs++cells.toList.drop (off+vs.length)).toArray,_,.inl ?_,Tr.setRow hv hb _,rfl,rfl⟩
 have hcp:(Builtin.copy_ #[t,t2] ty #[.slice (some ⟨b,off,none⟩) n c,.slice (some q) m c']).run P w=.ok (.int .i64 (m.min n:Nat)) (w.setRow b (cells.toList.take off++vs++cells.toList.drop (off+vs.length)).toArray):=by
  unfold Builtin.copy_
  simp only [List.getElem?_toArray,List.getElem?_cons_zero,List.getElem?_cons_succ]
  rw [Sem.run_bind,run_underlying ht,Result.andThen_ok]
  simp only []
  rw [Sem.run_bind,show (Builtin.lenOf (.slice (some q) m c')).run P w=.ok m w from rfl,Result.andThen_ok]
  rw [Sem.run_bind,run_sizeOf he,Result.andThen_ok,hK]
  rw [Sem.run_bind,show Builtin.firstCells k (m.min n) (.slice (some q) m c')=loadCells q (m.min n * k) from rfl,← hl,hld,Result.andThen_ok]
  simp only []
  rw [Sem.run_bind]
  rw [hst,Result.andThen_ok]
  rfl
 simp [z8b,Go.builtin,hcp]

theorem yda {P:Program} {f:FuncId} {fn:Func} {t e:TypeId} {x:TypeDesc} {rs:Array TypeId} (hf:P.funcs[f]?=some fn) (hname:(fn.name== "runtime.NumGoroutine")=false) (hb:fn.body.isNone=true) (hn:Extern.findNext fn=none)
  (he:Extern.find fn=some (Extern.SlicesOverlaps.overlaps #[t,t] rs)) (ht:P.underlying t=some (.slice e)) (hx:P.underlying e=some x)
  {H:Hp} {a b:Addr} {la ca lb cb:Nat} {c1 c2:Array Value} {T1 T2:TypeId} (h1:H a.block=some (.cells c1 T1 (0,0))) (h2:H b.block=some (.cells c2 T2 (0,0))) (hne:a.block≠b.block) :
  OpQ P (callFunc f #[.slice (some a) la ca,.slice (some b) lb cb]) H (.bool false):=by
 intro w hv
 have w1:=hv _ _ h1
 have w2:=hv _ _ h2
 rw [run_callFunc_extern hf hname hb hn he]
 have fr:∀ {q:Addr} {c:Array Value} {T:TypeId},w.heap[q.block]?=some (.cells c T (0,0))→(frozen q).run P w=.ok false w:=fun {q c T} hq=>by
  simp [frozen,Sem.run,World.frozen?,hq]
 have sh:∀ {r:Nat} {c:Array Value} {T:TypeId},w.heap[r]?=some (.cells c T (0,0))→(shape r).run P w=.ok (some (T,c.size)) w:=fun {r c T} hq=>by
  simp [shape,Sem.run,World.shape?,hq]
 have vw:∀ {q:Addr} {c:Array Value} {T:TypeId},w.heap[q.block]?=some (.cells c T (0,0))→(noView q).run P w=.ok () w:=fun {q c T} hq=>by
  simp [noView,viewAt,Sem.run_bind,sh hq,Result.andThen]
 have st:∀ {q:Addr} {c:Array Value} {T:TypeId},w.heap[q.block]?=some (.cells c T (0,0))→(stringish q).run P w=.ok false w:=fun {q c T} hq=>by
  simp [stringish,Sem.run_bind,fr hq,sh hq,Result.andThen,fr (q:={ block:=q.block,off:=c.size }) hq]
 have mb:(mayBeOne a b).run P w=.ok false w:=by
  simp [mayBeOne,Sem.run_bind,st w1,st w2,sh w1,sh w2,Result.andThen]
 have hne':(a.block != b.block)=true:=bne_iff_ne.2 hne
 have hbe:(a.block==b.block)=false:=beq_eq_false_iff_ne.2 hne
 have:(Extern.SlicesOverlaps.overlaps #[t,t] rs #[.slice (some a) la ca,.slice (some b) lb cb]).run P w=.ok (.bool false) w:=by
  change (Bind.bind (underlying t) _).run P w=_
  rw [Sem.run_bind,run_underlying ht,Result.andThen_ok]
  change (Bind.bind (sizeOf e) _).run P w=_
  rw [Sem.run_bind,run_sizeOf hx,Result.andThen_ok]
  dsimp only
  split
  ·rfl
  ·simp [Sem.run_bind,fr w1,fr w2,vw w1,vw w2,mb,hne',hbe,Result.andThen]
 rw [this]; rfl

theorem z6r {P:Program} {t t3 ty e:TypeId} {i:TypeInfo} {z:Value} {cs:Array Bool} (ht:P.underlying t=some (.slice e)) (h3:P.underlying t3=some (.int .i64)) (hi:P.info? e=some i) (hz:i.zero=some z) (hzs:z.cells.size=i.size)
  {H:Hp} {p:Addr} {n c:Nat} {olds:List Value} (hlo:olds.length=n * i.size) (holds:∀ j v,olds[j]?=some v→H.at (p.add j)=some v) {m:Nat} (h0:0<m * i.size)
  (hg:c<n+m) (h63:n+m≤9223372036854775807) (hb:(n+m) * i.bytes≤140737488355328) :
  z1e P (z8b .append #[t,t3] ty cs [.slice (some p) n c,.int .i64 (m:Int)]) H (z0q e (olds++(Builtin.zeroCells z.cells m).toList) (n+m) i.size H):=by
 intro w hv
 have hn:¬ (n+m≤c):=by omega
 have h63':¬ (9223372036854775807<((n:Int)+(m:Int))):=by omega
 have h48':¬ (281474976710656<Builtin.nextslicecap (n+m) c * i.bytes):=by have:=growslice_fits hg hb; omega
 have hfo:=run_firstCells_some (P:=P) w.drew i.size n p n c olds hlo (by simpa using fun j v h=>hv.cell (holds j v h))
 have hw:IntKind.i64.wrap (m:Int)=m:=by rw [x0k ⟨by omega,by omega⟩]
 have hneg:¬ ((m:Int)<0):=by omega
 have hmb:m * i.bytes≤140737488355328:=Nat.le_trans (Nat.mul_le_mul_right _ (by omega)) hb
 have hb48:¬ (281474976710656<(m:Int) * (i.bytes:Int)):=by
  have:((m * i.bytes:Nat):Int)=(m:Int) * (i.bytes:Int):=Int.natCast_mul _ _
  omega
 have hm0:¬ (m * i.size=0):=by omega
 obtain ⟨hn0,htr⟩:=Tr.drewAlloc hv (.cells (olds.toArray++Builtin.zeroCells z.cells m++Builtin.zeroCells z.cells (grownCap w (n+m) c e-(n+m))) e)
 have hr:(Builtin.append_ #[t,t3] ty #[.slice (some p) n c,.int .i64 (m:Int)]).run P w=.ok (.slice (some ⟨w.heap.size,0,none⟩) (n+m) (grownCap w (n+m) c e))
   (w.drew.alloc (.cells (olds.toArray++Builtin.zeroCells z.cells m++Builtin.zeroCells z.cells (grownCap w (n+m) c e-(n+m))) e)):=by
  simp [Builtin.append_,run_underlying ht,run_underlying h3,asInt,asIntOf,sizeOf,typeInfo,zeroValue,hi,hz,hw,hneg,hb48,hm0,hn,h63',h48',Question.forced,hfo,newRow,grownCap]
 refine ⟨_,_,_,.inl (by simp [z8b,Go.builtin,hr]),htr,w.heap.size,grownCap w (n+m) c e,(Builtin.zeroCells z.cells (grownCap w (n+m) c e-(n+m))).toList,hn0,grownCap_ge w _ _ e,rfl,by rw [x0s,hzs],?_⟩
 congr 2
 simp

/-! ### Parts of a row overwritten -/
def ovr (C:List Value) (a:Nat) (B:List Value):List Value:=C.take a++B++C.drop (a+B.length)
theorem ydd {C B:List Value} {a:Nat} (h:a+B.length≤C.length):(ovr C a B).length=C.length:=by
 unfold ovr
 rw [List.length_append,List.length_append,List.length_take,List.length_drop]; omega
theorem ydb {C B E:List Value} {a:Nat} (h:a+B.length+E.length≤C.length):(ovr (ovr C a B) (a+B.length) E).take (a+B.length+E.length)=C.take a++B++E:=by
 have hl:(C.take a++B).length=a+B.length:=by rw [List.length_append,List.length_take]; omega
 have e1:(ovr C a B).take (a+B.length)=C.take a++B:=by unfold ovr; rw [← hl]; exact List.take_left
 unfold ovr at e1 ⊢
 rw [e1]
 have h2:(C.take a++B++E).length=a+B.length+E.length:=by rw [List.length_append,hl]
 rw [← h2]; exact List.take_left
theorem ydc {C B E:List Value} {a:Nat} (h:a+B.length+E.length≤C.length):(ovr (ovr C (a+B.length) E) a B).take (a+B.length+E.length)=C.take a++B++E:=by
 have e1:(ovr C (a+B.length) E).take a=C.take a:=by
  unfold ovr
  rw [List.append_assoc,List.take_append_of_le_length (by rw [List.length_take]; omega),List.take_take,Nat.min_eq_left (by omega)]
 have e2:(ovr C (a+B.length) E).drop (a+B.length)=E++C.drop (a+B.length+E.length):=by
  have hl:(C.take (a+B.length)).length=a+B.length:=by rw [List.length_take]; omega
  unfold ovr
  rw [List.append_assoc]
  exact List.drop_left' hl
 generalize ovr C (a+B.length) E=D at e1 e2 ⊢
 unfold ovr
 rw [e1,e2,← List.append_assoc]
 have h2:(C.take a++B++E).length=a+B.length+E.length:=by rw [List.length_append,List.length_append,List.length_take]; omega
 rw [← h2]; exact List.take_left
end Go.Eng

/-! ### slices.Insert of one element,into a slice of one's own -/
namespace Go.Eng
theorem yvl {b off k l m:Nat} (h:m≠l):yvk (some ⟨b,off,none⟩) k (l:Int) (m:Int)=some ⟨b,off+l * k,none⟩:=by
 unfold yvk
 rw [Int.toNat_natCast,Int.toNat_natCast,if_neg h]
 simp [Addr.add_lit]

section
variable {α:Type} {k:Nat} {f:α→List Value} {P:Program} {t t3 ty ty1 e bytes:Nat} {cs:Array Bool} {H0 H:Hp} {s:Slc} {xs:List α} {i:Int}

theorem y0f (hS:yrw P t e k bytes=true) (hk0:0<k) (hk:∀ x,(f x).length=k) (h1c:∀ x,∀ v∈f x,v.oneCell'=true) (hK:P.cellsOf e=k) (h3:P.underlying t3=some (.int .i64)) {te:TypeDesc} (hte:P.underlying e=some te) {fo fr:FuncId}
    (hno:∀ {a b:Addr} {la ca lb cb:Nat} {c1 c2:Array Value} {T1 T2:TypeId},H a.block=some (.cells c1 T1 (0,0))→H b.block=some (.cells c2 T2 (0,0))→a.block≠b.block→OpQ P (callFunc fo #[.slice (some a) la ca,.slice (some b) lb cb]) H (.bool false))
    (hl:Hp.le H0 H) (h:Mine k f e H0 H s xs) (h0:0≤i) (hi:i≤xs.length) {bv:Nat} {x:α} {T:TypeId} (hv:H bv=some (.cells (f x).toArray T (0,0))) (hvo:∀ p,s.a=some p→p.block≠bv)
    (hlen:xs.length≤100000000) (hby:bytes≤1000000) {post:Value→Hp→Prop}
    (q:∀ u H',Hp.le H0 H'→Mine k f e H0 H' u (xs.take i.toNat++x :: xs.drop i.toNat)→Chg H H' s→Ext H s u→post u.v H') {v:Slc} (ev:v=⟨some ⟨bv,0,none⟩,1,1⟩) :
    ybn i (s.n:Int) (s.c:Int) (s.c:Int)∧(((v.n:Int)==0)=true→post s.v H)∧(((v.n:Int)==0)=false →
      ((i==(s.n:Int))=true→z1e P (z8b .append #[t,t] ty cs [s.v,v.v]) H fun v1 H2=>∃ u3:Slc,v1=u3.v∧post u3.v H2) ∧
      ((i==(s.n:Int))=false→inI ((s.n:Int)+(v.n:Int))∧(decide ((s.n:Int)+(v.n:Int)>(s.c:Int))=true→ybn 0 i (s.c:Int) (s.c:Int)∧inI ((s.n:Int)+(v.n:Int))∧inI ((s.n:Int)+(v.n:Int)-i) ∧
        z1e P (z8b .append #[t,t3] ty cs [.slice (yvk s.a (P.cellsOf e) 0 (s.c:Int)) (i.toNat-Int.toNat 0) ((s.c:Int).toNat-Int.toNat 0),.int .i64 ((s.n:Int)+(v.n:Int)-i)]) H fun v4 H5=>∃ u6:Slc,v4=u6.v∧ybn i (u6.n:Int) (u6.c:Int) (u6.c:Int) ∧
          z1e P (z8b .copy #[t,t] ty1 cs [.slice (yvk u6.a (P.cellsOf e) i (u6.c:Int)) ((u6.n:Int).toNat-i.toNat) ((u6.c:Int).toNat-i.toNat),v.v]) H5 fun v7 H8=>∃ n9:Int,v7=.int .i64 n9∧inI (i+(v.n:Int))∧ybn (i+(v.n:Int)) (u6.n:Int) (u6.c:Int) (u6.c:Int)∧ybn i (s.n:Int) (s.c:Int) (s.c:Int) ∧
            z1e P (z8b .copy #[t,t] ty1 cs [.slice (yvk u6.a (P.cellsOf e) (i+(v.n:Int)) (u6.c:Int)) ((u6.n:Int).toNat-(i+(v.n:Int)).toNat) ((u6.c:Int).toNat-(i+(v.n:Int)).toNat),.slice (yvk s.a (P.cellsOf e) i (s.c:Int)) ((s.n:Int).toNat-i.toNat) ((s.c:Int).toNat-i.toNat)]) H8
              fun v10 H11=>∃ n12:Int,v10=.int .i64 n12∧post u6.v H11) ∧
       (decide ((s.n:Int)+(v.n:Int)>(s.c:Int))=false→inI ((s.n:Int)+(v.n:Int))∧ybn 0 ((s.n:Int)+(v.n:Int)) (s.c:Int) (s.c:Int)∧inI (i+(v.n:Int)) ∧
        ybn (i+(v.n:Int)) ((((s.n:Int)+(v.n:Int)).toNat-Int.toNat 0:Nat):Int) (((s.c:Int).toNat-Int.toNat 0:Nat):Int) (((s.c:Int).toNat-Int.toNat 0:Nat):Int)∧∃ c13:Bool,
        OpQ P (callFunc fo #[v.v,.slice (yvk (yvk s.a (P.cellsOf e) 0 (s.c:Int)) (P.cellsOf e) (i+(v.n:Int)) (((s.c:Int).toNat-Int.toNat 0:Nat):Int)) (((((s.n:Int)+(v.n:Int)).toNat-Int.toNat 0:Nat):Int).toNat-(i+(v.n:Int)).toNat) ((((s.c:Int).toNat-Int.toNat 0:Nat):Int).toNat-(i+(v.n:Int)).toNat)]) H (.bool c13) ∧
        ((!c13)=true→inI (i+(v.n:Int))∧ybn (i+(v.n:Int)) ((((s.n:Int)+(v.n:Int)).toNat-Int.toNat 0:Nat):Int) (((s.c:Int).toNat-Int.toNat 0:Nat):Int) (((s.c:Int).toNat-Int.toNat 0:Nat):Int)∧ybn i ((((s.n:Int)+(v.n:Int)).toNat-Int.toNat 0:Nat):Int) (((s.c:Int).toNat-Int.toNat 0:Nat):Int) (((s.c:Int).toNat-Int.toNat 0:Nat):Int) ∧
          z1e P (z8b .copy #[t,t] ty1 cs [.slice (yvk (yvk s.a (P.cellsOf e) 0 (s.c:Int)) (P.cellsOf e) (i+(v.n:Int)) (((s.c:Int).toNat-Int.toNat 0:Nat):Int)) (((((s.n:Int)+(v.n:Int)).toNat-Int.toNat 0:Nat):Int).toNat-(i+(v.n:Int)).toNat) ((((s.c:Int).toNat-Int.toNat 0:Nat):Int).toNat-(i+(v.n:Int)).toNat),
              .slice (yvk (yvk s.a (P.cellsOf e) 0 (s.c:Int)) (P.cellsOf e) i (((s.c:Int).toNat-Int.toNat 0:Nat):Int)) (((((s.n:Int)+(v.n:Int)).toNat-Int.toNat 0:Nat):Int).toNat-i.toNat) ((((s.c:Int).toNat-Int.toNat 0:Nat):Int).toNat-i.toNat)])
            H fun v14 H15=>∃ n16:Int,v14=.int .i64 n16∧ybn i ((((s.n:Int)+(v.n:Int)).toNat-Int.toNat 0:Nat):Int) (((s.c:Int).toNat-Int.toNat 0:Nat):Int) (((s.c:Int).toNat-Int.toNat 0:Nat):Int) ∧
            z1e P (z8b .copy #[t,t] ty1 cs [.slice (yvk (yvk s.a (P.cellsOf e) 0 (s.c:Int)) (P.cellsOf e) i (((s.c:Int).toNat-Int.toNat 0:Nat):Int)) (((((s.n:Int)+(v.n:Int)).toNat-Int.toNat 0:Nat):Int).toNat-i.toNat) ((((s.c:Int).toNat-Int.toNat 0:Nat):Int).toNat-i.toNat),v.v]) H15
              fun v17 H18=>∃ n19:Int,v17=.int .i64 n19∧post (.slice (yvk s.a (P.cellsOf e) 0 (s.c:Int)) (((s.n:Int)+(v.n:Int)).toNat-Int.toNat 0) ((s.c:Int).toNat-Int.toNat 0)) H18) ∧
        ((!c13)=false→ybn (s.n:Int) ((((s.n:Int)+(v.n:Int)).toNat-Int.toNat 0:Nat):Int) (((s.c:Int).toNat-Int.toNat 0:Nat):Int) (((s.c:Int).toNat-Int.toNat 0:Nat):Int) ∧
          z1e P (z8b .copy #[t,t] ty1 cs [.slice (yvk (yvk s.a (P.cellsOf e) 0 (s.c:Int)) (P.cellsOf e) (s.n:Int) (((s.c:Int).toNat-Int.toNat 0:Nat):Int)) (((((s.n:Int)+(v.n:Int)).toNat-Int.toNat 0:Nat):Int).toNat-(s.n:Int).toNat) ((((s.c:Int).toNat-Int.toNat 0:Nat):Int).toNat-(s.n:Int).toNat),v.v]) H
            fun v20 H21=>∃ n22:Int,v20=.int .i64 n22∧ybn i ((((s.n:Int)+(v.n:Int)).toNat-Int.toNat 0:Nat):Int) (((s.c:Int).toNat-Int.toNat 0:Nat):Int) (((s.c:Int).toNat-Int.toNat 0:Nat):Int) ∧
            Fn P fr #[.slice (yvk (yvk s.a (P.cellsOf e) 0 (s.c:Int)) (P.cellsOf e) i (((s.c:Int).toNat-Int.toNat 0:Nat):Int)) (((((s.n:Int)+(v.n:Int)).toNat-Int.toNat 0:Nat):Int).toNat-i.toNat) ((((s.c:Int).toNat-Int.toNat 0:Nat):Int).toNat-i.toNat),.int .i64 (v.n:Int)] H21
              fun v23 H24=>v23=.tuple #[]∧post (.slice (yvk s.a (P.cellsOf e) 0 (s.c:Int)) (((s.n:Int)+(v.n:Int)).toNat-Int.toNat 0) ((s.c:Int).toNat-Int.toNat 0)) H24)))):=by
  subst ev
  obtain ⟨ti,z,h1,h2,h3',h4,h5,h6⟩:=yrx hS
  have hrd:=h.rd hk
  have hn:=hrd.len
  have hc:=hrd.cap
  have hvrd:Rd k f H ⟨some ⟨bv,0,none⟩,1,1⟩ [x]:=by
    refine ⟨rfl,Nat.le_refl _,fun _=>rfl,fun j y hj jj w hw=>?_⟩
    have hj0:j=0:=by
      have:=(List.getElem?_eq_some_iff.1 hj).1
      simp at this; exact this
    subst hj0
    simp at hj; subst hj
    simp only [zpw,Int.toNat_natCast,Nat.zero_mul,add_zero',Addr.add_lit,Nat.zero_add]
    have e1:(f x).toArray[jj]?=some w:=by simpa using hw
    simp [Hp.at,hv,e1]
  have hby2:(xs.length+1) * bytes≤140737488355328:=by
    calc (xs.length+1) * bytes≤100000001 * 1000000:=Nat.mul_le_mul (by omega) hby
      _≤_:=by omega
  have hnat:∃ I:Nat,i=I:=⟨i.toNat,by omega⟩
  obtain ⟨I,rfl⟩:=hnat
  simp only [Int.toNat_natCast] at q ⊢
  have eN:((s.n:Int)+((1:Nat):Int))=((s.n+1:Nat):Int):=by omega
  have eI:((I:Int)+((1:Nat):Int))=((I+1:Nat):Int):=by omega
  have eM:(((s.n+1:Nat):Int)-(I:Int))=((s.n+1-I:Nat):Int):=by omega
  rw [eN,eI,eM]
  simp only [Int.toNat_natCast,Int.toNat_zero,Nat.sub_zero,hK]
  refine ⟨⟨by omega,by omega,by omega,by omega⟩,fun hz=>absurd hz (by decide),fun _=>⟨fun he=>?_,fun hne=>?_⟩⟩
  · -- at the end
    have hI:I=xs.length:=by simp at he; omega
    refine (z6o (ys:=[x]) hS hk0 hk h1c hl h hvrd (by simp) (by simpa using hby2) (by simp; omega)).mono fun v H' ⟨u',g1,g2,g3,g4,g5⟩=>⟨u',g1,q u' H' g2 (by rw [hI,List.take_length,List.drop_length]; exact g3) g4 g5⟩
  · have hlt:I<xs.length:=by simp at hne; omega
    rcases h with ⟨rfl,rfl⟩ | ⟨b,hb0,o1,o2,o3,cells,o4,o5,o6⟩
    · simp at hlt
    have hmm:Mine k f e H0 H s xs:=.inr ⟨b,hb0,o1,o2,o3,cells,o4,o5,o6⟩
    have hbv:b≠bv:=hvo _ o3
    have hfl:=zv4 hk (xs.drop I)
    have hdl:(xs.drop I).length=xs.length-I:=List.length_drop
    have htl:(xs.take I).length=I:=by rw [List.length_take]; omega
    have hft:=zv4 hk (xs.take I)
    rw [hdl] at hfl
    rw [htl] at hft
    have hall:xs.flatMap f=(xs.take I).flatMap f++(xs.drop I).flatMap f:=by rw [← List.flatMap_append,List.take_append_drop]
    have hcell:∀ j v,((xs.drop I).flatMap f)[j]?=some v→H.at ⟨b,I * k+j,none⟩=some v:=fun j v hj=>by
      have:=Rd.cells hk hk0 hrd (p:=⟨b,0,none⟩) o3 (I * k+j) v (by rw [hall,List.getElem?_append_right (by omega),hft,Nat.add_sub_cancel_left]; exact hj)
      simpa [Addr.add_lit] using this
    have hone:∀ v∈(xs.drop I).flatMap f,v.oneCell'=true:=fun v hv=>by
      obtain ⟨y,_,hy⟩:=List.mem_flatMap.1 hv; exact h1c y v hy
    have hxl:(xs.take I++x :: xs.drop I).length=xs.length+1:=by simp; omega
    have hxf:(xs.take I++x :: xs.drop I).flatMap f=(xs.take I).flatMap f++f x++(xs.drop I).flatMap f:=by rw [List.flatMap_append,List.flatMap_cons,List.append_assoc]
    have hmul:I * k+k+(xs.length-I) * k=(xs.length+1) * k:=by
      rw [← Nat.succ_mul,← Nat.add_mul]; congr 1; omega
    have hI1:(I+1) * k=I * k+k:=Nat.succ_mul I k
    rw [o3,yvm,yvl (show s.c≠I by omega),Nat.zero_add]
    refine ⟨⟨by omega,by omega⟩,fun hg=>?_,fun hr=>?_⟩
    · -- it grows
      have hg':s.c<s.n+1:=by simp at hg; omega
      refine ⟨⟨by omega,by omega,by omega,by omega⟩,⟨by omega,by omega⟩,⟨by omega,by omega⟩,?_⟩
      have hti:(I+(s.n+1-I))=xs.length+1:=by omega
      refine (z6r (P:=P) (ty:=ty) (cs:=cs) (p:=⟨b,0,none⟩) (n:=I) (c:=s.c) (olds:=(xs.take I).flatMap f) (m:=s.n+1-I) h1 h3 h2 h3' h4 (by rw [hft,h5]) (fun j v hj=>?_) (by rw [h5]; exact Nat.mul_pos (by omega) hk0) (by omega) (by omega) (by rw [hti,h6]; exact hby2)).mono fun v4 H5 ⟨b',cap,rest,g1,g2,g3,g4,g5⟩=>?_
      · exact Rd.cells hk hk0 hrd (p:=⟨b,0,none⟩) o3 j v (by rw [hall,List.getElem?_append_left (by have:=(List.getElem?_eq_some_iff.1 hj).1; exact this)]; exact hj)
      rw [hti] at g2 g3 g4
      refine ⟨⟨some ⟨b',0,none⟩,xs.length+1,cap⟩,g3,⟨by omega,by show (I:Int)≤((xs.length+1:Nat):Int); omega,by show ((xs.length+1:Nat):Int)≤(cap:Int); omega,by omega⟩,?_⟩
      have hle5:Hp.le H H5:=by rw [g5]; exact Hp.put_le _ _ g1
      show z1e P (z8b .copy #[t,t] ty1 cs [.slice (yvk (some ⟨b',0,none⟩) k (I:Int) (cap:Int)) (xs.length+1-I) (cap-I),.slice (some ⟨bv,0,none⟩) 1 1]) H5 _
      rw [yvl (show cap≠I by omega),Nat.zero_add]
      have hzl:(Builtin.zeroCells z.cells (s.n+1-I)).toList.length=(s.n+1-I) * k:=by rw [x0s,h4,h5]
      have hC:((xs.take I).flatMap f++(Builtin.zeroCells z.cells (s.n+1-I)).toList++rest).length=cap * k:=by
        rw [List.length_append,List.length_append,hft,hzl,g4,h5,← Nat.add_mul,← Nat.add_mul]; congr 1; omega
      generalize hCC:(xs.take I).flatMap f++(Builtin.zeroCells z.cells (s.n+1-I)).toList++rest=C at g5 hC
      have hCt:C.take (I * k)=(xs.take I).flatMap f:=by rw [← hCC,List.append_assoc,List.take_left' hft]
      have hcapk:(xs.length+1) * k≤cap * k:=Nat.mul_le_mul_right _ g2
      have hmin1:Nat.min 1 (xs.length+1-I)=1:=Nat.min_eq_left (by omega)
      refine (znr (P:=P) (ty:=ty1) (cs:=cs) (b:=b') (off:=I * k) (n:=xs.length+1-I) (c:=cap-I) (cells:=C.toArray) (T:=e) (q:=⟨bv,0,none⟩) (m:=1) (c':=1) (vs:=f x) h1 hte hK (by rw [g5]; exact Hp.put_same _ _ _) (by rw [hk,hmin1,Nat.one_mul]) (fun j v hj=>?_) (h1c x) (by rw [hk,List.size_toArray,hC]; omega)).mono fun v7 H8 ⟨g7,g8⟩=>?_
      · have:=Rd.cells hk hk0 (hvrd.le hle5) (p:=⟨bv,0,none⟩) rfl j v (by simpa using hj)
        simpa [Addr.add_lit] using this
      refine ⟨_,g7,⟨by omega,by omega⟩,⟨by omega,by show ((I+1:Nat):Int)≤((xs.length+1:Nat):Int); omega,by show ((xs.length+1:Nat):Int)≤(cap:Int); omega,by omega⟩,⟨by omega,by omega,by omega,by omega⟩,?_⟩
      have g8':H8=H.put b' (.cells (ovr C (I * k) (f x)).toArray e (0,0)):=by
        rw [g8,g5,Hp.put_put]; rfl
      show z1e P (z8b .copy #[t,t] ty1 cs [.slice (yvk (some ⟨b',0,none⟩) k ((I+1:Nat):Int) (cap:Int)) (xs.length+1-(I+1)) (cap-(I+1)),.slice (some ⟨b,I * k,none⟩) (s.n-I) (s.c-I)]) H8 _
      rw [yvl (show cap≠I+1 by omega),Nat.zero_add]
      have hle8:Hp.le H H8:=by rw [g8']; exact Hp.put_le _ _ g1
      have hol:=ydd (C:=C) (B:=f x) (a:=I * k) (by rw [hk,hC]; omega)
      have hmin2:Nat.min (s.n-I) (xs.length+1-(I+1))=xs.length-I:=by rw [show s.n-I=xs.length+1-(I+1) by omega]; show min _ _=_; omega
      refine (znr (P:=P) (ty:=ty1) (cs:=cs) (b:=b') (off:=(I+1) * k) (n:=xs.length+1-(I+1)) (c:=cap-(I+1)) (cells:=(ovr C (I * k) (f x)).toArray) (T:=e) (q:=⟨b,I * k,none⟩) (m:=s.n-I) (c':=s.c-I) (vs:=(xs.drop I).flatMap f) h1 hte hK (by rw [g8']; exact Hp.put_same _ _ _) (by rw [hfl,hmin2]) (fun j v hj=>?_) hone (by rw [hfl,List.size_toArray,hol,hC,hI1]; omega)).mono fun v10 H11 ⟨g10,g11⟩=>⟨_,g10,?_⟩
      · have:=Hp.at_le hle8 (hcell j v hj)
        simpa [Addr.add_lit] using this
      have g11':H11=H.put b' (.cells (ovr (ovr C (I * k) (f x)) (I * k+(f x).length) ((xs.drop I).flatMap f)).toArray e (0,0)):=by
        rw [g11,g8',Hp.put_put,hk,← hI1]; rfl
      have hbn:H0 b'=none:=by
        cases hx:H0 b' with
        | none=>rfl
        | some o=>rw [hl b' o hx] at g1; cases g1
      have hfin:=ydb (C:=C) (B:=f x) (E:=(xs.drop I).flatMap f) (a:=I * k) (by rw [hk,hfl,hC]; omega)
      have hol2:=ydd (C:=ovr C (I * k) (f x)) (B:=(xs.drop I).flatMap f) (a:=I * k+(f x).length) (by rw [hk,hfl,hol,hC]; omega)
      refine q ⟨some ⟨b',0,none⟩,xs.length+1,cap⟩ H11 (by rw [g11']; exact Hp.le_put hl hbn) (.inr ⟨b',hbn,?_,g2,rfl,_,by rw [g11']; exact Hp.put_same _ _ _,?_,?_⟩) (fun c hc _=>?_) (fun p hp=>.inr ?_)
      · rw [hxl]
      · rw [List.size_toArray,hol2,hol,hC]
      · rw [hxl,hxf]
        show (ovr (ovr C (I * k) (f x)) (I * k+(f x).length) ((xs.drop I).flatMap f)).take _=_
        rw [← hCt,← hfin]
        congr 1
        rw [hk,hfl]; omega
      · rw [g11']; exact Hp.put_ne _ _ fun e=>hc (e ▸ g1)
      · cases hp; exact g1
    · -- there is room
      have hr':s.n+1≤s.c:=by simp at hr; omega
      have hck:cells.size=s.c * k:=o5
      have hcl:cells.toList.length=s.c * k:=by rw [Array.length_toList,o5]
      have hcapk:(xs.length+1) * k≤s.c * k:=Nat.mul_le_mul_right _ (by omega)
      rw [yvl (show s.c≠I+1 by omega),Nat.zero_add]
      refine ⟨⟨by omega,by omega⟩,⟨by omega,by omega,by omega,by omega⟩,⟨by omega,by omega⟩,⟨by omega,by omega,by omega,by omega⟩,false,?_,fun _=>⟨⟨by omega,by omega⟩,⟨by omega,by omega,by omega,by omega⟩,⟨by omega,by omega,by omega,by omega⟩,?_⟩,fun hf=>absurd hf (by decide)⟩
      · exact hno (a:=⟨bv,0,none⟩) (b:=⟨b,(I+1) * k,none⟩) hv o4 fun e=>hbv e.symm
      have hmin2:Nat.min (s.n+1-I) (s.n+1-(I+1))=xs.length-I:=by show min _ _=_; omega
      refine (znr (P:=P) (ty:=ty1) (cs:=cs) (b:=b) (off:=(I+1) * k) (n:=s.n+1-(I+1)) (c:=s.c-(I+1)) (cells:=cells) (T:=e) (q:=⟨b,I * k,none⟩) (m:=s.n+1-I) (c':=s.c-I) (vs:=(xs.drop I).flatMap f) h1 hte hK o4 (by rw [hfl,hmin2]) (fun j v hj=>?_) hone (by rw [hfl,hck,hI1]; omega)).mono fun v14 H15 ⟨g14,g15⟩=>⟨_,g14,⟨by omega,by omega,by omega,by omega⟩,?_⟩
      · have:=hcell j v hj
        simpa [Addr.add_lit] using this
      have g15':H15=H.put b (.cells (ovr cells.toList ((I+1) * k) ((xs.drop I).flatMap f)).toArray e (0,0)):=g15
      have hol:=ydd (C:=cells.toList) (B:=(xs.drop I).flatMap f) (a:=(I+1) * k) (by rw [hfl,hcl,hI1]; omega)
      have hv15:H15 bv=some (.cells (f x).toArray T (0,0)):=by rw [g15',Hp.put_ne _ _ hbv.symm]; exact hv
      have hmin1:Nat.min 1 (s.n+1-I)=1:=Nat.min_eq_left (by omega)
      refine (znr (P:=P) (ty:=ty1) (cs:=cs) (b:=b) (off:=I * k) (n:=s.n+1-I) (c:=s.c-I) (cells:=(ovr cells.toList ((I+1) * k) ((xs.drop I).flatMap f)).toArray) (T:=e) (q:=⟨bv,0,none⟩) (m:=1) (c':=1) (vs:=f x) h1 hte hK (by rw [g15']; exact Hp.put_same _ _ _) (by rw [hk,hmin1,Nat.one_mul]) (fun j v hj=>?_) (h1c x) (by rw [hk,List.size_toArray,hol,hcl]; omega)).mono fun v17 H18 ⟨g17,g18⟩=>⟨_,g17,?_⟩
      · have e1:(f x).toArray[j]?=some v:=by simpa using hj
        simp [Hp.at,Addr.add_lit,hv15,e1]
      have g18':H18=H.put b (.cells (ovr (ovr cells.toList (I * k+(f x).length) ((xs.drop I).flatMap f)) (I * k) (f x)).toArray e (0,0)):=by
        have e1:(I+1) * k=I * k+(f x).length:=by rw [hk,hI1]
        rw [g18,g15',Hp.put_put,e1]; rfl
      have hfin:=ydc (C:=cells.toList) (B:=f x) (E:=(xs.drop I).flatMap f) (a:=I * k) (by rw [hk,hfl,hcl]; omega)
      have hCt:cells.toList.take (I * k)=(xs.take I).flatMap f:=by
        have:=congrArg (List.take (I * k)) o6
        rw [List.take_take,Nat.min_eq_left (Nat.mul_le_mul_right _ (by omega)),hall,List.take_left' hft] at this
        exact this
      have hol2:=ydd (C:=ovr cells.toList (I * k+(f x).length) ((xs.drop I).flatMap f)) (B:=f x) (a:=I * k) (by rw [hk,← hI1,hol,hcl]; omega)
      refine q ⟨some ⟨b,0,none⟩,s.n+1,s.c⟩ H18 (by rw [g18']; exact Hp.le_put hl hb0) (.inr ⟨b,hb0,?_,hr',rfl,_,by rw [g18']; exact Hp.put_same _ _ _,?_,?_⟩) (fun c hc hne=>?_) (fun p hp=>.inl (by rw [o3]; exact hp))
      · rw [hxl]; show s.n+1=_; omega
      · rw [List.size_toArray,hol2,hk,← hI1,hol,hcl]
      · rw [hxl,hxf]
        show (ovr (ovr cells.toList (I * k+(f x).length) ((xs.drop I).flatMap f)) (I * k) (f x)).take _=_
        rw [← hCt,← hfin]
        congr 1
        rw [hk,hfl]; omega
      · rw [g18']; exact Hp.put_ne _ _ fun e=>hne _ o3 e.symm
end
end Go.Eng
