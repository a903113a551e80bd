/- The engine, parts EngH, EngI, EngJ, EngK, EngL, put together. Conditions: none. -/
import Derived.Test.YtjhbjjdipmpgjaaGreatE1
set_option linter.unusedVariables false
section
/- The engine, part H: the other operations mean their forms; all together. Conditions: none. -/
namespace Go.Eng
section
variable {P:Program} {n:Nat} {ds:List Nat} {o:Oper} {env:Env} {pr:z1i} {ids:Nat→Nat} {a:Act} {H:Hp} {w:World} {B:Nat} {g:Gd}

theorem y9a {wr:Bool} {t:TypeId} {x:Operand} {kd:IntKind} {z:Int} (hE:z0m n ds env pr ids a) (hg:gH a.tmps g) (ho:o.op=.unOp .neg t x) (hx:env.ev g x=some (.lit (.int kd z))) :
  NFm P n ds o env pr ids a H w B (yb2 g (z6s wr g true kd (0-z))):=by
 cases hb:z6s wr g true kd (0-z) with
 | none=>trivial
 | some r =>
  obtain ⟨ob,v⟩:=r
  intro hob
  refine ⟨v,?_,SlV.lit⟩
  have e1:a.eval x=.int kd z:=hE.ev hg hx
  simp only [execOp,ho]
  rw [e1,z6t hb hob]
  simp [Op.unary,Op.intArith]

theorem y90 {s t:TypeId} {x:Operand} (hE:z0m n ds env pr ids a) (hg:gH a.tmps g) (ho:o.op=.convert s t x):NFm P n ds o env pr ids a H w B (zno P g true s t (env.ev g x)):=by
 unfold zno
 split
 ·rename_i ks' kd ks z hs ht hx
  have e1:a.eval x=.int ks z:=hE.ev hg hx
  have r:(execOp a.eval o).run P w=.ok (.value (.int kd (kd.wrap z))) w:=by
   simp only [execOp,ho]
   rw [e1]
   simp [convert,run_underlying hs,run_underlying ht,Conv.intToInt]
  split
  ·intro hob
   have h1:=zzj (hob _ rfl)
   exact ⟨_,r,fun g1 v0 h=>by cases h; rw [x0k h1]; rfl⟩
  ·exact fun _=>⟨_,r,fun g1 v0 h=>by cases h; rw [x0m]; rfl⟩
  ·exact fun _=>⟨_,r,SlV.lit⟩
 ·trivial

theorem y9s {gb:Bool} {s t:TypeId} {x:Option V0}:NFs g pr (zno P g gb s t x):=by
 unfold zno
 split
 ·split <;> exact SlS.lit
 ·trivial

theorem zvc {t:TypeId} {f i:Nat} (h:zvb P t f=some i) (p:Addr):(Instr.fieldAt t (.pointer (some p)) f).run P w=.ok (.pointer (some (p.add i))) w:=by
 unfold zvb at h
 split at h
 ·rename_i fs hu
  split at h
  ·rename_i fd hf
   split at h
   ·cases h
   ·rename_i hz
    cases h
    have hz':P.cellsOf fd.type≠0:=fun e=>by rw [e] at hz; simp at hz
    have hi:∃ x,P.info? fd.type=some x:=by
     cases hx:P.info? fd.type with
     | none=>simp [Program.cellsOf,hx] at hz'
     | some x=>exact ⟨x,rfl⟩
    obtain ⟨x,hx⟩:=hi
    have hsz:x.size≠0:=by simpa [Program.cellsOf,hx] using hz'
    simp [Instr.fieldAt,run_underlying hu,hf,Instr.sureAddr,fieldPlace,sizeOf,typeInfo,hx,hsz]
  ·cases h
 ·cases h

theorem y91 {t:TypeId} {x:Operand} {f:Nat} (hE:z0m n ds env pr ids a) (hg:gH a.tmps g) (ho:o.op=.fieldAddr t x f) :
  NFm P n ds o env pr ids a H w B (match zvb P t f,env.ev g x with
   | some i,some (.ptr j off)=>.pu none (some (g,.ptr j (off+i)))
   | some i,some (.lit (.pointer (some a)))=>.pu none (some (g,.lit (.pointer (some (a.add i)))))
   | _,_=>.bad):=by
 split
 ·rename_i i j off hf hx
  intro _
  have e1:a.eval x=.pointer (some ⟨ids j,off,none⟩):=hE.ev hg hx
  refine ⟨_,?_,fun g1 v0 h=>by cases h; rfl⟩
  simp only [execOp,ho]
  rw [e1]
  simp [zvc hf,z3n,V0.val]
 ·rename_i i p hf hx
  intro _
  have e1:a.eval x=.pointer (some p):=hE.ev hg hx
  refine ⟨_,?_,SlV.lit⟩
  simp only [execOp,ho]
  rw [e1]
  simp [zvc hf]
 ·trivial

theorem y9u {gb:Bool} {t:TypeId} {x i:Operand} (hE:z0m n ds env pr ids a):NFs g pr (zzc P g gb t (env.ev g x) (env.ev g i)):=by
 unfold zzc
 split
 ·rename_i j off k m hx hi
  split
  ·split
   ·exact SlS.ptr (hE.evk hx)
   ·trivial
  ·trivial
 ·split
  ·split
   ·exact SlS.lit
   ·trivial
  ·trivial
 ·trivial

theorem yrq {t:TypeId} (h:P.cellsOf t≠0) (w:World):(sizeOf t).run P w=.ok (P.cellsOf t) w:=by
 cases hx:P.info? t with
 | none=>simp [Program.cellsOf,hx] at h
 | some x=>simp [sizeOf,typeInfo,hx,Program.cellsOf]

theorem y94 {t:TypeId} {x i:Operand} (hE:z0m n ds env pr ids a) (hg:gH a.tmps g) (ho:o.op=.indexAddr t x i) :
  NFm P n ds o env pr ids a H w B (zzc P g true t (env.ev g x) (env.ev g i)):=by
 unfold zzc
 split
 ·rename_i j off k z hx hi
  split
  ·rename_i len s m hf
   split
   ·rename_i hm
    intro _
    simp only [Bool.and_eq_true,Bool.not_eq_true'] at hm
    unfold y0p at hf
    split at hf
    ·rename_i l e hu
     cases hf
     have hlt:m<len:=by have:=hm.1; simp only [Nat.blt] at this; exact Nat.le_of_ble_eq_true this
     have hz:P.cellsOf e≠0:=fun h=>by rw [h] at hm; simp at hm
     have e1:a.eval x=.pointer (some ⟨ids j,off,none⟩):=hE.ev hg hx
     have e2:a.eval i=.int k (Int.ofNat m):=hE.ev hg hi
     refine ⟨_,?_,fun g1 v0 h=>by cases h; rfl⟩
     simp only [execOp,ho]
     rw [e1,e2]
     have hb:0≤(m:Int)∧(m:Int)<(len:Int):=⟨by omega,by omega⟩
     simp [Instr.indexAt,asIntOf,run_underlying hu,Instr.sureAddr,yrq hz,hb,z3n,V0.val]
     intro h; omega
    ·cases hf
   ·trivial
  ·trivial
 ·rename_i p len cp k z hx hi
  split
  ·rename_i e hu
   split
   ·rename_i hz
    intro hob
    obtain ⟨h1,h2,h3⟩:=zzj (hob _ rfl)
    have e1:a.eval x=.slice p len cp:=hE.ev hg hx
    have e2:a.eval i=.int k z:=hE.ev hg hi
    have hz':P.cellsOf e≠0:=fun h=>by rw [h] at hz; simp at hz
    cases p with
    | none=>simp at h3
    | some p =>
     refine ⟨_,?_,SlV.lit⟩
     simp only [execOp,ho]
     rw [e1,e2]
     simp [Instr.indexAt,asIntOf,run_underlying hu,h1,h2,yrq hz',zpw]
   ·trivial
  ·trivial
 ·trivial

theorem y95 {C:Cfg} {t e:TypeId} {len:Nat} {x i:Operand} {cs:Array Value} {k:IntKind} {z:Int} (hE:z0m n ds env pr ids a) (hg:gH a.tmps g) (ho:o.op=.index t x i)
  (hu:C.P.underlying t=some (.array len e)) (hx:env.ev g x=some (.lit (.agg cs))) (hi:env.ev g i=some (.lit (.int k z)))
  (hs:((z56 C.P e||Nat.beq (C.P.cellsOf e) 1)&&zy4 C.P e&&!(Nat.beq (C.P.cellsOf e) 0))=true) :
  NFm C.P n ds o env pr ids a H w B (.px (leaves C.P 9 e) (fun vs=>imp true (ybe z len cs.toList (C.P.cellsOf e) vs) g)
     fun vs=>some (g,.lit (mkV (z56 C.P e) vs))):=by
 intro vs _ hob
 obtain ⟨h1,h2,h3,h4⟩:=zzj hob
 simp only [Bool.and_eq_true,Bool.or_eq_true,Nat.beq_iff,Bool.not_eq_true'] at hs
 obtain ⟨⟨hs,hu'⟩,hz⟩:=hs
 obtain ⟨u,hu'⟩:=zy5 hu'
 have hz':C.P.cellsOf e≠0:=fun h=>by rw [h] at hz; simp at hz
 have e1:a.eval x=.agg cs:=hE.ev hg hx
 have e2:a.eval i=.int k z:=hE.ev hg hi
 have hp:ydz C.P e cs (z.toNat * C.P.cellsOf e)=some (mkV (z56 C.P e) vs):=by
  unfold ydz
  cases ha:z56 C.P e with
  | true =>
   simp only [mkV]
   congr 2
   apply Array.ext'
   rw [← h3]
   simp [List.take_drop]
  | false =>
   have hc:C.P.cellsOf e=1:=hs.resolve_left (by simp [ha])
   rw [hc] at h3 h4 ⊢
   obtain ⟨v,rfl⟩:=List.length_eq_one_iff.1 h4
   simp only [mkV]
   have h5:((cs.toList.drop (z.toNat * 1)).take 1)[0]?=some v:=by rw [h3]; rfl
   rw [List.getElem?_take] at h5
   simp at h5 ⊢
   exact h5
 refine ⟨_,?_,SlV.lit⟩
 simp only [execOp,ho]
 rw [e1,e2]
 simp [Instr.index,asIntOf,run_underlying hu,h1,h2,yrq hz',yq2 hp hu']

theorem ycf {d z:Int} {x:Option Operand} (hE:z0m n ds env pr ids a) (hg:gH a.tmps g) (h:ycd env g d x=some z) :
  (x=none∧z=d)∨∃ y k,x=some y∧a.eval y=.int k z:=by
 unfold ycd at h
 split at h
 ·cases h; exact .inl ⟨rfl,rfl⟩
 ·rename_i y
  split at h
  ·rename_i k m hy
   cases h
   exact .inr ⟨y,k,rfl,hE.ev hg hy⟩
  ·cases h

theorem yq4 {len cp:Nat} {lo hi mx:Option Operand} {l h m:Int} (hE:z0m n ds env pr ids a) (hg:gH a.tmps g) (hl:ycd env g 0 lo=some l) (hh:ycd env g len hi=some h) (hm:ycd env g cp mx=some m)
  (hb:(hi.isSome||!mx.isSome)=true) (h0:0≤l) (h1:l≤h) (h2:h≤m) (h3:m≤cp) :
  (Instr.sliceBounds true len cp (lo.map a.eval) (hi.map a.eval) (mx.map a.eval)).run P w=.ok (l.toNat,h.toNat,m.toNat) w:=by
 have sb:∀ (k:IntKind) (z:Int) (y:Nat) (c:BoundsCode),0≤z→z≤y→(Instr.sliceBound (.int k z) y c).run P w=.ok z.toNat w:=by
  intro k z y c a1 a2
  simp [Instr.sliceBound,asIntOf,a1,a2]
 unfold Instr.sliceBounds
 rcases ycf hE hg hm with ⟨rfl,rfl⟩ | ⟨ym,km,rfl,em⟩
 ·rcases ycf hE hg hh with ⟨rfl,rfl⟩ | ⟨yh,kh,rfl,eh⟩
  ·rcases ycf hE hg hl with ⟨rfl,rfl⟩ | ⟨yl,kl,rfl,el⟩
   ·simp
   ·simp only [Option.map_none,Option.map_some,el,Sem.run_bind,Sem.run_pure,Result.andThen_ok]
    rw [sb _ _ _ _ h0 h1]; simp
  ·rcases ycf hE hg hl with ⟨rfl,rfl⟩ | ⟨yl,kl,rfl,el⟩
   ·simp only [Option.map_none,Option.map_some,eh,Sem.run_bind,Sem.run_pure,Result.andThen_ok]
    rw [sb _ _ _ _ (by omega) h2]; simp
   ·simp only [Option.map_none,Option.map_some,eh,el,Sem.run_bind,Sem.run_pure,Result.andThen_ok]
    rw [sb _ _ _ _ (by omega) h2,Result.andThen_ok,sb _ _ _ _ h0 (by omega)]; simp
 ·rcases ycf hE hg hh with ⟨rfl,rfl⟩ | ⟨yh,kh,rfl,eh⟩
  ·simp at hb
  ·rcases ycf hE hg hl with ⟨rfl,rfl⟩ | ⟨yl,kl,rfl,el⟩
   ·simp only [Option.map_none,Option.map_some,eh,em,Sem.run_bind,Sem.run_pure,Result.andThen_ok]
    rw [sb _ _ _ _ (by omega) h3,Result.andThen_ok,sb _ _ _ _ (by omega) (by omega)]; simp
   ·simp only [Option.map_some,eh,el,em,Sem.run_bind,Sem.run_pure]
    rw [sb _ _ _ _ (by omega) h3,Result.andThen_ok,sb _ _ _ _ (by omega) (by omega),Result.andThen_ok,sb _ _ _ _ h0 (by omega)]; simp

theorem y9j {t e:TypeId} {x:Operand} {lo hi mx:Option Operand} {p:Option Addr} {len cp:Nat} {l h m:Int} (hE:z0m n ds env pr ids a) (hg:gH a.tmps g) (ho:o.op=.slice t x lo hi mx)
  (hu:P.underlying t=some (.slice e)) (hx:env.ev g x=some (.lit (.slice p len cp)))
  (hl:ycd env g 0 lo=some l) (hh:ycd env g len hi=some h) (hm:ycd env g cp mx=some m) (hb:((hi.isSome||!mx.isSome)&&!(Nat.beq (P.cellsOf e) 0))=true) :
  NFm P n ds o env pr ids a H w B (.pu (some (imp true (ybn l h m cp) g)) (some (g,.lit (.slice (yvk p (P.cellsOf e) l m) (h.toNat-l.toNat) (m.toNat-l.toNat))))):=by
 intro hob
 obtain ⟨h0,h1,h2,h3⟩:=zzj (hob _ rfl)
 simp only [Bool.and_eq_true,Bool.not_eq_true'] at hb
 have hz':P.cellsOf e≠0:=fun h=>by rw [h] at hb; simp at hb
 have e1:a.eval x=.slice p len cp:=hE.ev hg hx
 have hsb:=yq4 (P:=P) (w:=w) hE hg hl hh hm hb.1 h0 h1 h2 h3
 refine ⟨_,?_,SlV.lit⟩
 simp only [execOp,ho]
 rw [e1]
 simp [Instr.sliceAt,run_underlying hu,Instr.slice,hsb,yrq hz',yvk]

theorem ypx {f:FuncId} {fn:Func} {args:Array Value} (hN:z1b P) (hf:P.funcs[f]?=some fn) (hb:fn.body.isSome=true):(callFunc f args).run P w=.ok (.enter f args) w:=by
 have:=hN f fn hf hb
 have h1:fn.name≠ "runtime.NumGoroutine":=by simpa using this
 have h2:fn.body≠none:=by intro e; rw [e] at hb; cases hb
 simp [callFunc,hf,h1,h2]

theorem y8z {C:Cfg} {c:Call} {x:Operand} {args:List Value} {sh:Shp} (hN:z1b C.P) (hE:z0m n ds env pr ids a) (hv:z24 w H) (hg:gH a.tmps g) (ho:o.op=.call c) (hc:c.callee=.value x)
  (ha:opsv env g c.args.toList=some args):NFm C.P n ds o env pr ids a H w B (za4 C g true x args sh env):=by
 have hargs:c.args.map a.eval=args.toArray:=by
  apply Array.ext'
  rw [Array.toList_map]
  exact hE.opsv hg ha
 have hrun:∀ (f:FuncId) (fn:Func) (first cap:Array Value),a.eval x=.func (.func f) first cap→C.P.funcs[f]?=some fn→fn.body.isSome=true →
   (execOp a.eval o).run C.P w=.ok (.enter f (first++args.toArray++cap)) w:=by
  intro f fn first cap hf h1 h2
  simp only [execOp,ho,resolve,hc,hargs,hf]
  simp [Deferred.ofValue,invoke,ypx hN h1 h2]
 have quiet:∀ (f:FuncId) (ar:Array Value) (v:Value),Qf C.P f ar H v→Calls C.P f ar w fun e w'=>∃ u,e=.returned u∧SlV ids (some (g,.lit v)) u∧Tr w H w' H:=by
  intro f ar v hq
  refine (hq w hv).mono fun e w' ⟨v',H',he,ht,hvv,hle⟩=>⟨v',he,?_,ht.forget hle⟩
  subst hvv
  exact SlV.lit
 unfold za4
 split
 ·rename_i f
  split
  ·rename_i fn hfn
   split
   ·rename_i hbody
    have hr:=hrun f fn #[] #[] rfl hfn hbody
    simp only [Array.empty_append,Array.append_empty] at hr
    split
    ·intro vs _ hob
     exact .inr ⟨f,args.toArray,hr,quiet f _ _ (zzj hob)⟩
    ·split
     ·split <;> exact hr
     ·split <;> first | trivial | exact hr
   ·split
    ·intro vs _ hob
     have hq:=zzj hob w hv
     refine .inl ⟨_,?_,SlV.lit⟩
     have e1:a.eval (.func f)=.func (.func f) #[] #[]:=rfl
     simp only [execOp,ho,resolve,hc,hargs,e1]
     simp [Deferred.ofValue,invoke,hq]
    ·trivial
  ·trivial
 ·split
  ·split
   ·rename_i l p q hF
    split
    ·rename_i h1 h2
     have e1:p=#[]:=Array.eq_empty_of_size_eq_zero h1
     have e2:q=#[]:=Array.eq_empty_of_size_eq_zero h2
     subst e1; subst e2
     have eF:a.eval x=.func (.yield l) #[] #[]:=hE.ev hg hF
     show (execOp a.eval o).run C.P w=_
     simp only [execOp,ho,resolve,hc,hargs,eF]
     simp [Deferred.ofValue,invoke]
    ·trivial
   ·trivial
  split
  ·rename_i F hF
   have eF:a.eval x=F:=hE.ev hg hF
   split
   ·intro vs _ hob
    obtain ⟨f,first,cap,hF',⟨fn,h1,h2⟩,hq⟩:=zzj hob
    exact .inr ⟨f,_,hrun f fn first cap (by rw [eF,hF']) h1 h2,quiet f _ _ hq⟩
   ·split
    ·intro f first cap hF' ⟨fn,h1,h2⟩
     exact hrun f fn first cap (by rw [eF,hF']) h1 h2
    ·trivial
  ·trivial

theorem y9r {C:Cfg} {gb:Bool} {x:Operand} {args:List Value} {sh:Shp}:NFs g pr (za4 C g gb x args sh env):=by
 unfold za4
 split
 ·split
  ·split
   ·split
    ·exact fun _=>SlS.lit
    ·split
     ·split <;> first | rfl | exact ⟨rfl,rfl⟩
     ·split <;> first | trivial | rfl
   ·split
    ·exact fun _=>SlS.lit
    ·trivial
  ·trivial
 ·split
  ·(repeat' split) <;> first | trivial | rfl
  ·split
   ·split
    ·exact fun _=>SlS.lit
    ·split
     ·rfl
     ·trivial
   ·trivial

end
end Go.Eng
end
section
/- The engine,part I: all operations together. Conditions: none. -/
namespace Go.Eng
section
variable {P:Program} {n:Nat} {ds:List Nat} {o:Oper} {env:Env} {pr:z1i} {ids:Nat→Nat} {a:Act} {H:Hp} {w:World} {B:Nat} {g:Gd}

theorem x0v (m s:Nat) (z:List Value) (hz:z.length=s) (hs:0<s) :
  (List.replicate m z).flatten=(List.range (m * s)).map fun i=>z.toArray[i % z.toArray.size]! := by
 induction m with
 | zero=>simp
 | succ m ih =>
  rw [List.replicate_succ',List.flatten_append,ih,Nat.succ_mul,List.range_add,List.map_append]
  congr 1
  simp only [List.flatten_cons,List.flatten_nil,List.append_nil,List.map_map]
  apply List.ext_getElem?
  intro i
  by_cases hi:i<s
  ·have hi':i<z.length:=by omega
   have e:(m * s+i) % z.length=i:=by
    rw [hz,Nat.mul_comm,Nat.mul_add_mod,Nat.mod_eq_of_lt hi]
   simp [hi,hi',e]
  ·rw [List.getElem?_eq_none (by omega),List.getElem?_eq_none (by simp; omega)]

theorem y98 {t e:TypeId} {l c:Operand} {m m':Int} {i:TypeInfo} {z:Value} (hE:z0m n ds env pr ids a) (hg:gH a.tmps g) (ho:o.op=.makeSlice t l c)
  (hl:env.ev g l=some (.lit (.int .i64 m))) (hc:env.ev g c=some (.lit (.int .i64 m'))) (hu:P.underlying t=some (.slice e)) (hi:P.info? e=some i) (hz:i.zero=some z) (hst:(Nat.blt 0 i.size&&Nat.blt 0 i.bytes&&Nat.beq z.cells.size i.size)=true) :
  NFm P n ds o env pr ids a H w B (.al (some (ybi m m' i.bytes))
          (fun b=>some ([],.lit (.slice (some ⟨b,0,none⟩) m.toNat m.toNat))) (.cells (List.replicate m.toNat z.cells.toList).flatten.toArray e (0,0))):=by
 intro hob
 obtain ⟨rfl,h0,h1⟩:=hob _ rfl
 simp only [Bool.and_eq_true,Nat.beq_iff,Nat.blt,Nat.ble_eq] at hst
 obtain ⟨⟨h2,h3⟩,h4⟩:=hst
 have e1:a.eval l=.int .i64 m:=hE.ev hg hl
 have e2:a.eval c=.int .i64 m:=hE.ev hg hc
 have hbm:m≤m * i.bytes:=by
  have:(1:Int)≤i.bytes:=by omega
  calc m=m * 1:=by omega
   _≤m * i.bytes:=Int.mul_le_mul_of_nonneg_left this h0
 have hw:IntKind.i64.wrap m=m:=x0k ⟨by omega,by omega⟩
 refine ⟨_,?_,fun g1 v0 h=>by cases h; rfl⟩
 simp only [execOp,ho]
 rw [e1,e2]
 have hb:¬ ((i.bytes:Int) * m>2 ^ 48):=by rw [Int.mul_comm]; simp; omega
 have hneg:¬ m<0:=by omega
 have hzc:=x0v m.toNat i.size z.cells.toList (by simpa using h4) h2
 have hrow:(List.replicate m.toNat z.cells.toList).flatten.toArray=(Array.range (m.toNat * i.size)).map (z.cells[· % z.cells.size]!):=by
  rw [hzc]
  apply Array.ext'
  simp
 rw [hrow]
 have hn0:i.size≠0:=by omega
 by_cases hm0:m.toNat=0
 ·have:m=0:=by omega
  subst this
  simp [Instr.makeSlice,run_underlying hu,asInt,asIntOf,typeInfo,hi,hw,sizeOf,newRow]
  have hr0:Array.range 0=#[]:=rfl
  exact ⟨rfl,by rw [hr0]; simp⟩
 ·have hm1:¬ m.toNat * i.size=0:=by
   intro h; rcases Nat.mul_eq_zero.1 h with h | h <;> omega
  have hm2:¬ m≤0:=by omega
  have hb':¬ 281474976710656<(i.bytes:Int) * m:=by rw [Int.mul_comm]; omega
  simp [Instr.makeSlice,run_underlying hu,asInt,asIntOf,typeInfo,hi,hw,hneg,sizeOf,newRow,zeroValue,hz]
  rw [if_neg hb',if_neg hm1]; rfl

theorem y9q {C:Cfg} {c:Call} {b:Builtin}:NFs g pr (za3 C env g o c b):=by
 unfold za3
 split <;> first
  | trivial
  | exact SlS.lit
  | (split <;> first | trivial | rfl | (split <;> first | trivial | exact SlS.lit))

theorem y8y {C:Cfg} {c:Call} {b:Builtin} (hE:z0m n ds env pr ids a) (hg:gH a.tmps g) (ho:o.op=.call c) (hc:c.callee=.builtin b) :
  NFm C.P n ds o env pr ids a H w B (za3 C env g o c b):=by
 have hargs:∀ {args:List Value},opsv env g c.args.toList=some args→c.args.map a.eval=args.toArray:=by
  intro args ha
  apply Array.ext'
  rw [Array.toList_map]
  exact hE.opsv hg ha
 unfold za3
 split
 ·rename_i p m cp ha
  split
  ·rename_i t ht
   split
   ·rename_i e hu
    intro _
    refine ⟨_,?_,SlV.lit⟩
    simp only [execOp,ho,resolve,hc,hargs ha]
    simp [invoke,Go.builtin,Builtin.len_,ht,run_underlying hu,goInt]
   ·trivial
  ·trivial
 ·rename_i p m cp ha
  split
  ·rename_i t ht
   split
   ·rename_i e hu
    intro _
    refine ⟨_,?_,SlV.lit⟩
    simp only [execOp,ho,resolve,hc,hargs ha]
    simp [invoke,Go.builtin,Builtin.cap_,ht,run_underlying hu,goInt]
   ·trivial
  ·trivial
 ·rename_i ka x kb y ha
  intro _
  refine ⟨_,?_,SlV.lit⟩
  simp only [execOp,ho,resolve,hc,hargs ha]
  simp [invoke,Go.builtin,Builtin.min_,Builtin.min2]
 ·rename_i ka x kb y kc z ha
  intro _
  refine ⟨_,?_,SlV.lit⟩
  simp only [execOp,ho,resolve,hc,hargs ha]
  simp [invoke,Go.builtin,Builtin.min_,Builtin.min2]
 ·rename_i ka x kb y ha
  intro _
  refine ⟨_,?_,SlV.lit⟩
  simp only [execOp,ho,resolve,hc,hargs ha]
  simp [invoke,Go.builtin,Builtin.max_,Builtin.max2]
 ·rename_i ka x kb y kc z ha
  intro _
  refine ⟨_,?_,SlV.lit⟩
  simp only [execOp,ho,resolve,hc,hargs ha]
  simp [invoke,Go.builtin,Builtin.max_,Builtin.max2]
 all_goals first
  | trivial
  | (rename_i vs ha; split <;> first | trivial | (show execOp a.eval o=_; simp only [execOp,ho,resolve,hc,hargs ha]; rfl))

theorem y97 {t:TypeId} {x i:Operand} {ok gb:Bool} {xv iv:Value} {sh:Shp} (hE:z0m n ds env pr ids a) (hv:z24 w H) (hg:gH a.tmps g) (hgb:gb=true) (ho:o.op=.lookup t x i ok)
  (hx:env.ev g x=some (.lit xv)) (hi:env.ev g i=some (.lit iv)) :
  NFm P n ds o env pr ids a H w B (.rd sh.leaves (fun vs H=>imp gb (OpQ P (yr6 (Instr.lookup t xv iv ok)) H (sh.mk vs)) g) fun vs=>some (g,.lit (sh.mk vs))):=by
 intro vs _ hob
 subst hgb
 left
 refine ⟨_,?_,SlV.lit⟩
 have e1:a.eval x=xv:=hE.ev hg hx
 have e2:a.eval i=iv:=hE.ev hg hi
 simp only [execOp,ho]
 rw [e1,e2]
 exact zzj hob w hv

theorem y9l {t:TypeId} {m x y:Operand} {mv xv yv:Value} {sh:Shp} (hE:z0m n ds env pr ids a) (hg:gH a.tmps g) (ho:o.op=.mapUpdate t m x y)
  (hm:env.ev g m=some (.lit mv)) (hx:env.ev g x=some (.lit xv)) (hy:env.ev g y=some (.lit yv)):NFm P n ds o env pr ids a H w B (.ef (yr5 (Instr.mapUpdate t mv xv yv)) sh):=by
 have e1:a.eval m=mv:=hE.ev hg hm
 have e2:a.eval x=xv:=hE.ev hg hx
 have e3:a.eval y=yv:=hE.ev hg hy
 show execOp a.eval o=_
 simp only [execOp,ho]
 rw [e1,e2,e3]; rfl

theorem y9e {x:Operand} {xv:Value} {sh:Shp} (hE:z0m n ds env pr ids a) (hg:gH a.tmps g) (hx:env.ev g x=some (.lit xv)) :
  (∀ t,o.op=.range t x→NFm P n ds o env pr ids a H w B (.ef (yr6 (Instr.range t xv)) sh))∧(∀ b,o.op=.next x b→NFm P n ds o env pr ids a H w B (.ef (yr6 (Instr.next xv b o.type)) sh)) ∧
  (o.op=.entry x→NFm P n ds o env pr ids a H w B (.ef (yr6 (Instr.entry xv)) sh)):=by
 have e1:a.eval x=xv:=hE.ev hg hx
 refine ⟨fun t ho=>?_,fun b ho=>?_,fun ho=>?_⟩ <;> (show execOp a.eval o=_; simp only [execOp,ho]; rw [e1]; rfl)

theorem y9d {t:TypeId} {x:Operand} {b:Bool} (hE:z0m n ds env pr ids a) (hg:gH a.tmps g) (ho:o.op=.unOp .not t x) (hx:env.ev g x=some (.lit (.bool b))) :
  NFm P n ds o env pr ids a H w B (.pu none (some (g,.lit (.bool !b)))):=by
 intro _
 have e1:a.eval x=.bool b:=hE.ev hg hx
 refine ⟨_,?_,SlV.lit⟩
 simp only [execOp,ho]
 rw [e1]
 simp [Op.unary]

theorem y92 {t:TypeId} {x:Operand} {f i j off:Nat} (hE:z0m n ds env pr ids a) (hg:gH a.tmps g) (ho:o.op=.fieldAddr t x f) (hf:zvb P t f=some i) (hx:env.ev g x=some (.ptr j off)) :
  NFm P n ds o env pr ids a H w B (.pu none (some (g,.ptr j (off+i)))):=by
 have:=y91 (P:=P) (H:=H) (w:=w) (B:=B) hE hg ho
 simpa only [hf,hx] using this

theorem y93 {t:TypeId} {x:Operand} {f i:Nat} {p:Addr} (hE:z0m n ds env pr ids a) (hg:gH a.tmps g) (ho:o.op=.fieldAddr t x f) (hf:zvb P t f=some i) (hx:env.ev g x=some (.lit (.pointer (some p)))) :
  NFm P n ds o env pr ids a H w B (.pu none (some (g,.lit (.pointer (some (p.add i)))))):=by
 have:=y91 (P:=P) (H:=H) (w:=w) (B:=B) hE hg ho
 simpa only [hf,hx] using this

theorem ya0 {C:Cfg} {gb:Bool} (hE:z0m n ds env pr ids a):NFs g pr (ybq C env g gb o):=by
 unfold ybq
 (repeat' split) <;> first
  | trivial
  | exact y9w hE
  | exact y9y hE
  | exact ya2
  | exact y9z
  | exact y9s
  | exact y9u hE
  | exact y9v
  | exact ya4
  | exact y9x
  | exact ya1
  | exact ya3
  | exact y9r
  | exact y9q
  | exact SlS.lit
  | exact (fun _=>SlS.lit)
  | exact ⟨rfl,fun _=>SlS.lit⟩
  | exact SlS.ptr (z0m.evk (v:=.ptr _ _) hE ‹env.ev _ _=some (V0.ptr _ _)›)
  | rfl

theorem y9f {C:Cfg} (hN:z1b C.P) (hE:z0m n ds env pr ids a) (hP:z1j ds pr ids H w B) (hv:z24 w H) (hB:B≤w.heap.size) (hg:gH a.tmps g) :
  NFm C.P n ds o env pr ids a H w B (ybq C env g true o):=by
 unfold ybq
 (repeat' split) <;> rename_i ho <;> first
  | trivial
  | exact y99 hE hg (.inl (by assumption))
  | exact y99 hE hg (.inr (by assumption))
  | exact y9c hE hg (by assumption)
  | exact y9h hE hg (by assumption)
  | exact y8x hE hg (by assumption) (by assumption) (by assumption)
  | exact y9a hE hg (by assumption) (by assumption)
  | exact y90 hE hg (by assumption)
  | exact y94 hE hg (by assumption)
  | exact y96 hE hP hv hg (by assumption)
  | exact y9k hE hP hv hg (by assumption)
  | exact y9j hE hg (by assumption) (by assumption) (by assumption) (by assumption) (by assumption) (by assumption) (by assumption)
  | exact y98 hE hg (by assumption) (by assumption) (by assumption) (by assumption) (by assumption) (by assumption) (by assumption)
  | exact y95 hE hg (by assumption) (by assumption) (by assumption) (by assumption) (by assumption)
  | exact y8z hN hE hv hg (by assumption) (by assumption) (by assumption)
  | exact y8y hE hg (by assumption) (by assumption)
  | exact y9g hE hP hv hB hg (.inl ⟨_,by assumption⟩)
  | exact y9g hE hP hv hB hg (.inr ⟨_,_,by assumption⟩)
  | exact y9b hE hg (by simp [*]) fun ρ _ _ h=>y8j ρ (.inl ⟨_,by assumption⟩) h
  | exact y9b hE hg (by simp [*]) fun ρ _ _ h=>y8j ρ (.inr ⟨_,_,by assumption⟩) h
  | exact y9b hE hg (by simp [*]) fun ρ _ _ h=>y8k ρ (by assumption) h
  | exact y9b hE hg (by simp [*]) fun ρ _ _ h=>y8i ρ (by assumption) h
  | exact y9i hE hg (by simp [*])
  | exact y97 hE hv hg rfl (by assumption) (by assumption) (by assumption)
  | exact y9l hE hg (by assumption) (by assumption) (by assumption) (by assumption)
  | exact (y9e hE hg (by assumption)).1 _ (by assumption)
  | exact (y9e hE hg (by assumption)).2.1 _ (by assumption)
  | exact (y9e hE hg (by assumption)).2.2 (by assumption)
  | exact y9d hE hg (by assumption) (by assumption)
  | exact y92 hE hg (by assumption) (by assumption) (by assumption)
  | exact y93 hE hg (by assumption) (by assumption) (by assumption)

end
end Go.Eng
end
section
/- The engine,part J: one operation of a region. Conditions: none. -/
namespace Go.Eng

def dOk (n:Nat) (g:Gd):Option Tmp→Bool
 | some d=>Nat.blt d n&&!y6b d g
 | none=>true

def yjt (env:Env) (dst:Option Tmp) (x:Sl):Env :=
 match dst with
 | some d=>env.put d x
 | none=>env

def yv9 (C:Cfg) (draw:Bool) (ops:Array Oper) (i:Nat) (k:St→Hp→Prop) (st:St) (H:Hp):Prop :=
 match ops[i]? with
 | none=>False
 | some o=>match zio ops (ops.size+1) o with
  | none=>False
  | some g=>match st.env.gb g,dOk C.n g o.dst with
   | some gb,true=>NF.vc C.P draw (fun x pr H'=>k ⟨yjt st.env o.dst x,pr⟩ H') st.priv H (ybq C st.env g gb o)
   | _,_=>False

theorem zr5:∀ {ls:List z0x} {f:List Value→Prop},exL ls f→∃ vs,vs.length=ls.length∧f vs
 | [],f,h=>⟨[],rfl,h⟩
 | .int k :: ls,f,⟨x,h⟩=>let ⟨vs,h1,h2⟩:=zr5 (ls:=ls) h; ⟨_,by simp [h1],h2⟩
 | .bool :: ls,f,⟨x,h⟩=>let ⟨vs,h1,h2⟩:=zr5 (ls:=ls) h; ⟨_,by simp [h1],h2⟩
 | .sl :: ls,f,⟨x,h⟩=>let ⟨vs,h1,h2⟩:=zr5 (ls:=ls) h; ⟨_,by simp [h1],h2⟩
 | .ptr :: ls,f,⟨x,h⟩=>let ⟨vs,h1,h2⟩:=zr5 (ls:=ls) h; ⟨_,by simp [h1],h2⟩
 | .mp :: ls,f,⟨x,h⟩=>let ⟨vs,h1,h2⟩:=zr5 (ls:=ls) h; ⟨_,by simp [h1],h2⟩
 | .val :: ls,f,⟨x,h⟩=>let ⟨vs,h1,h2⟩:=zr5 (ls:=ls) h; ⟨_,by simp [h1],h2⟩

theorem yaz {ob:Option Prop} {q:Prop} (h:yaw ob q):(∀ p,ob=some p→p)∧q:=by
 cases ob with
 | none=>exact ⟨(fun _ h'=>by cases h'),h⟩
 | some p=>exact ⟨(fun _ h'=>by cases h'; exact h.1),h.2⟩

def z05 (gb:Bool):NF→Prop
 | .ag b _ _=>b=gb
 | .cg b _ _ _ _=>b=gb
 | _=>True
theorem z4a (C:Cfg) (env:Env) (g:Gd) (gb:Bool) (o:Oper):z05 gb (ybq C env g gb o):=by
 unfold ybq
 (repeat' split) <;> first
  | trivial
  | rfl
  | (unfold y8f; (repeat' split) <;> first | trivial | rfl)
  | (unfold y79; split <;> trivial)
  | (unfold ya5; (repeat' split) <;> trivial)
  | (unfold yhc; (repeat' split) <;> trivial)
  | (unfold yb2; split <;> trivial)
  | (unfold zno; (repeat' split) <;> trivial)
  | (unfold zzc; (repeat' split) <;> trivial)
  | (unfold yji; (repeat' split) <;> trivial)
  | (unfold za3; (repeat' split) <;> trivial)
  | (unfold y4s; (repeat' split) <;> trivial)
  | (unfold yvg; (repeat' split) <;> trivial)
  | (unfold yde; (repeat' split) <;> trivial)
  | (unfold za4; (repeat' split) <;> first | trivial | rfl)

def Fz (ro:Option Nat):Fence:={ Fence.wide with round:=ro }
theorem za6 {ro:Option Nat} {P:Program} {f:FuncId} {args:Array Value} {w:World} {R:Ending→World→Prop} (h:Calls P f args w R):CallsIn (Fz ro) (0-1) P f args w R :=
 callsIn_wide.2 h
theorem x0r {ro:Option Nat} {P:Program} {l:Nat} {f:FuncId} {tmps:Array Value} {assign body:Code} {w:World} {R:Ending→World→Prop} (h:RoundIn Fence.wide 0 P l f tmps assign body w R):RoundIn (Fz ro) (0-1) P l f tmps assign body w R:=h

def Kt (n:Nat) (ds:List Nat) (w0:World) (H0:Hp) (k:St→Hp→Prop) (a:Act) (w:World):Prop:=∃ st H,Sim n ds w0 H0 st H a w∧k st H

section
variable {C:Cfg} {ds:List Nat} {ro:Option Nat} {o:Oper} {env:Env} {pr:z1i} {ids:Nat→Nat} {a:Act} {H:Hp} {w w0:World} {H0:Hp} {g:Gd} {k:St→Hp→Prop}

theorem yr4 {o:Oper} {ρ:Operand→Value} (h:∀ c,o.op≠.defer c):o.semAt (Fz ro).round ρ=execOp ρ o:=by
 exact Oper.semAt_eq ro ρ o h
theorem ya8 {o:Oper} {env:Env} {g:Gd} {gb:Bool} {c:Call} (h:o.op=.defer c):ybq C env g gb o=.bad:=by
 unfold ybq; rw [h]

theorem ztp {v:Value} {x:Sl} {pr':z1i} {ids':Nat→Nat} {H':Hp} {w':World} (hd:dOk C.n g o.dst=true) (hE:z0m C.n ds env pr' ids' a) (hP:z1j ds pr' ids' H' w' w0.heap.size) (hT:Tr w0 H0 w' H')
  (hs:SlS g pr' x) (hv:gH a.tmps g→SlV ids' x v) (hn:¬ gH a.tmps g→v=undef) (hk:k ⟨yjt env o.dst x,pr'⟩ H'):Kt C.n ds w0 H0 k (a.put o.dst v) w':=by
 refine ⟨_,H',⟨ids',?_,hP,hT⟩,hk⟩
 cases ho:o.dst with
 | none=>exact hE
 | some d =>
  rw [ho] at hd
  simp only [dOk,Bool.and_eq_true,Bool.not_eq_true'] at hd
  have hlt:d<C.n:=by have:=hd.1; simp only [Nat.blt] at this; exact Nat.le_of_ble_eq_true this
  refine hE.put hlt fun g1 v0 hx=>?_
  obtain ⟨rfl,hkn⟩:=hs g1 v0 hx
  exact ⟨hd.2,fun h=>hv h g1 v0 hx,hn,hkn⟩

theorem ybu {draw:Bool} {Q:Exit→Act→World→Prop} (hN:z1b C.P) (hE:z0m C.n ds env pr ids a) (hP:z1j ds pr ids H w w0.heap.size) (hT:Tr w0 H0 w H) (hg:gH a.tmps g) (hd:dOk C.n g o.dst=true)
  (h:NF.vc C.P draw (fun x pr H'=>k ⟨yjt env o.dst x,pr⟩ H') pr H (ybq C env g true o)):o.wpIn (Fz ro) 0 C.P a w (Kt C.n ds w0 H0 k) Q:=by
 have hs:=ya0 (g:=g) (pr:=pr) (o:=o) (gb:=true) (C:=C) hE
 have hm:=y9f (o:=o) hN hE hP hT.view hT.size hg
 have hgt:=z4a C env g true o
 have hsem:o.semAt (Fz ro).round a.eval=execOp a.eval o:=yr4 fun c hc=>by
  rw [ya8 hc] at h; exact h
 rw [show o.wpIn (Fz ro) 0 C.P a w (Kt C.n ds w0 H0 k) Q=((∀ f,o.about C.P w a.eval=some f→(Fz ro).fn f)∧o.uponIn (Fz ro) 0 C.P a (Kt C.n ds w0 H0 k) Q ((execOp a.eval o).run C.P w)) by unfold Oper.wpIn; rw [hsem]]
 revert h hs hm hgt
 generalize ybq C env g true o=nf
 intro h hs hm hgt
 have fin {v:Value} {x:Sl} {pr':z1i} {ids':Nat→Nat} {H':Hp} {w':World} (hE':z0m C.n ds env pr' ids' a) (hP':z1j ds pr' ids' H' w' w0.heap.size) (hT':Tr w0 H0 w' H')
   (hs:SlS g pr' x) (hv:SlV ids' x v) (hk:k ⟨yjt env o.dst x,pr'⟩ H'):Kt C.n ds w0 H0 k (a.put o.dst v) w' :=
  ztp hd hE' hP' hT' hs (fun _=>hv) (fun hn=>absurd hg hn) hk
 refine ⟨fun _ _=>trivial,?_⟩
 cases nf with
 | bad=>exact h.elim
 | pu ob x =>
  obtain ⟨ho,hk⟩:=yaz h
  obtain ⟨v,hr,hv⟩:=hm ho
  rw [hr]; exact fin hE hP hT hs hv hk
 | px ls ob x =>
  obtain ⟨vs,hl,ho,hk⟩:=zr5 h
  obtain ⟨v,hr,hv⟩:=hm vs hl ho
  rw [hr]; exact fin hE hP hT (hs vs) hv hk
 | rd ls ob x =>
  obtain ⟨vs,hl,ho,hk⟩:=zr5 h
  rcases hm vs hl ho with ⟨v,hr,hv⟩ | ⟨f,args,hr,hc⟩
  ·rw [hr]; exact fin hE hP hT (hs vs) hv hk
  ·rw [hr,Oper.uponIn_enter]
   refine ⟨fun h=>(by cases h),za6 ?_⟩
   refine hc.mono fun e w' ⟨v,he,hv,ht⟩=>?_
   subst he
   exact fin hE (hP.tr ht) (hT.trans ht) (hs vs) hv hk
 | ow f =>
  simp only [NF.vc] at h
  cases hf:f pr with
  | none=>simp [hf] at h
  | some y =>
   obtain ⟨x,pr'⟩:=y
   simp only [hf] at h
   obtain ⟨v,w',ids',hr,hv',ht,hP',hE',hv⟩:=hm x pr' hf
   have hs':=(hs x pr' hf).1
   rcases hr with hr | ⟨hr,rfl⟩
   ·rw [hr]; exact fin hE' hP' (ht w0 H0 rfl hT) hs' hv h
   ·rw [hr]; exact fin hE' hP' (ht w0 H0 rfl hT) hs' hv h
 | al c x ob =>
  obtain ⟨ho,hk⟩:=yaz h
  obtain ⟨v,hr,hv⟩:=hm ho
  obtain ⟨hn,ht⟩:=Tr.alloc hT.view ob
  rw [hr]; exact fin hE (hP.tr ht) (hT.trans ht) (hs.2 _) hv (hk _ _ hn rfl)
 | ag gb x ob =>
  obtain ⟨v,hr,hv⟩:=hm
  obtain ⟨hn,ht⟩:=Tr.alloc hT.view ob
  have hgb:gb=true:=hgt
  rw [hr]; exact fin hE (hP.tr ht) (hT.trans ht) (hs _) hv (h.1 hgb _ _ hn rfl)
 | cf g0 f args sh =>
  rw [show (execOp a.eval o).run C.P w=_ from hm,Oper.uponIn_enter]
  refine ⟨fun h=>(by cases h),za6 ?_⟩
  refine (h w hT.view).mono fun e w' ⟨v,H',he,ht,hq⟩=>?_
  subst he
  obtain ⟨_,hq⟩:=yaz hq
  obtain ⟨vs,_,rfl,hk⟩:=zr5 hq
  have hs':g=[]∧g0=[]:=hs
  obtain ⟨rfl,rfl⟩:=hs'
  exact fin hE (hP.tr ht) (hT.trans ht) SlS.lit SlV.lit hk
 | cg gb g0 f args sh =>
  rw [show (execOp a.eval o).run C.P w=_ from hm,Oper.uponIn_enter]
  refine ⟨fun h=>(by cases h),za6 ?_⟩
  have hgb:gb=true:=hgt
  refine (h.1 hgb w hT.view).mono fun e w' ⟨v,H',he,ht,hq⟩=>?_
  subst he
  obtain ⟨_,hq⟩:=yaz hq
  obtain ⟨vs,_,rfl,hk⟩:=zr5 hq
  have hs':g0=g:=hs
  subst hs'
  exact fin hE (hP.tr ht) (hT.trans ht) SlS.lit SlV.lit hk
 | ce f args sh =>
  rw [show (execOp a.eval o).run C.P w=_ from hm,Oper.uponIn_enter]
  refine ⟨fun h=>(by cases h),za6 ?_⟩
  refine (h w hT.view).mono fun e w' ⟨v,H',he,ht,hq⟩=>?_
  subst he
  obtain ⟨vs,_,rfl,hk⟩:=zr5 hq
  have hs':g=[]:=hs
  subst hs'
  exact fin hE (hP.tr ht) (hT.trans ht) SlS.lit SlV.lit hk
 | cy l args sh =>
  obtain ⟨fn,tmps,assign,body,hr,hR⟩:=h w hT.view
  rw [show (execOp a.eval o).run C.P w=_ from hm,hr,Oper.uponIn_round]
  refine ⟨fun h=>(by cases h),x0r (hR.mono fun e w' ⟨v,H',he,ht,hq⟩=>?_)⟩
  subst he
  obtain ⟨vs,_,rfl,hk⟩:=zr5 hq
  have hs':g=[]:=hs
  subst hs'
  exact fin hE (hP.tr ht) (hT.trans ht) SlS.lit SlV.lit hk
 | cv F args sh =>
  obtain ⟨f,first,cap,hF,hcl,hfn⟩:=h
  rw [hm f first cap hF hcl,Oper.uponIn_enter]
  refine ⟨fun h=>(by cases h),za6 ?_⟩
  refine (hfn w hT.view).mono fun e w' ⟨v,H',he,ht,hq⟩=>?_
  subst he
  obtain ⟨_,hq⟩:=yaz hq
  obtain ⟨vs,_,rfl,hk⟩:=zr5 hq
  have hs':g=[]:=hs
  subst hs'
  exact fin hE (hP.tr ht) (hT.trans ht) SlS.lit SlV.lit hk
 | ef s sh =>
  obtain ⟨v,w',H',hr,ht,hq⟩:=h w hT.view
  obtain ⟨vs,_,rfl,hk⟩:=zr5 hq
  have hs':g=[]:=hs
  subst hs'
  have hm':execOp a.eval o=s:=hm
  rw [hm']
  rcases hr with hr | ⟨hr,hu⟩
  ·rw [hr]; exact fin hE (hP.tr ht) (hT.trans ht) SlS.lit SlV.lit hk
  ·rw [hr,Oper.uponIn_skip,← hu]; exact fin hE (hP.tr ht) (hT.trans ht) SlS.lit SlV.lit hk
 | st ad vs =>
  obtain ⟨w',hr,ht⟩:=hm h.1
  rw [hr,Oper.uponIn_skip]; exact fin hE (hP.tr ht) (hT.trans ht) SlS.none SlV.none (h.2 _ rfl)

theorem ybt {draw gb:Bool} (hgf:gb=false) (hE:z0m C.n ds env pr ids a) (hP:z1j ds pr ids H w w0.heap.size) (hT:Tr w0 H0 w H) (hg:¬ gH a.tmps g) (hd:dOk C.n g o.dst=true)
  (h:NF.vc C.P draw (fun x pr H'=>k ⟨yjt env o.dst x,pr⟩ H') pr H (ybq C env g gb o)):Kt C.n ds w0 H0 k (a.put o.dst undef) w:=by
 have hs:=ya0 (g:=g) (pr:=pr) (o:=o) (gb:=gb) (C:=C) hE
 have hne:g≠[]:=fun e=>hg (by subst e; simp [gH])
 subst hgf
 have hgt:=z4a C env g false o
 revert h hs hgt
 generalize ybq C env g false o=nf
 intro h hs hgt
 have fin {x:Sl} (hs:SlS g pr x) (hk:k ⟨yjt env o.dst x,pr⟩ H):Kt C.n ds w0 H0 k (a.put o.dst undef) w :=
  ztp hd hE hP hT hs (fun h=>absurd h hg) (fun _=>rfl) hk
 cases nf with
 | bad=>exact h.elim
 | pu ob x=>exact fin hs (yaz h).2
 | px ls ob x=>obtain ⟨vs,_,_,hk⟩:=zr5 h; exact fin (hs vs) hk
 | rd ls ob x=>obtain ⟨vs,_,_,hk⟩:=zr5 h; exact fin (hs vs) hk
 | ow f =>
  simp only [NF.vc] at h
  cases hf:f pr with
  | none=>simp [hf] at h
  | some y =>
   obtain ⟨x,pr'⟩:=y
   simp only [hf] at h
   obtain ⟨h1,h2⟩:=hs x pr' hf
   have:=h2 hne
   subst this
   exact fin h1 h
 | al c x ob=>exact absurd hs.1 hne
 | ag gb' x ob=>exact fin (hs 0) (h.2 hgt)
 | cf g0 f args sh=>exact absurd hs.1 hne
 | cg gb' g0 f args sh =>
  have hs':g0=g:=hs
  subst hs'
  exact fin SlS.lit (h.2 hgt)
 | ce f args sh=>exact absurd hs hne
 | cy l args sh=>exact absurd hs hne
 | cv F args sh=>exact absurd hs hne
 | ef s sh=>exact absurd hs hne
 | st ad vs=>exact absurd hs hne

end

theorem yvd {C:Cfg} {ds:List Nat} {ro:Option Nat} {draw:Bool} {ops:Array Oper} {i:Nat} {k:St→Hp→Prop} {st:St} {H H0:Hp} {a:Act} {w w0:World} {Q:Exit→Act→World→Prop} (hN:z1b C.P)
  (h:yv9 C draw ops i k st H) (hs:Sim C.n ds w0 H0 st H a w):wpOpIn (Fz ro) 0 C.P ops Q i (Kt C.n ds w0 H0 k) a w:=by
 unfold yv9 at h
 unfold wpOpIn
 cases ho:ops[i]? with
 | none=>simp [ho] at h
 | some o =>
  simp only [ho] at h ⊢
  cases hc:zio ops (ops.size+1) o with
  | none=>simp [hc] at h
  | some g =>
   simp only [hc] at h
   obtain ⟨ids,hE,hP,hT⟩:=hs
   cases hb:st.env.gb g with
   | none=>simp [hb] at h
   | some gb =>
    cases hd:dOk C.n g o.dst with
    | false=>simp [hb,hd] at h
    | true =>
     simp only [hb,hd] at h
     have hw:=hE.wanted hc hb
     have hgb:=hE.gb hb
     by_cases hg:gH a.tmps g
     ·rw [if_pos (hw.2 hg)]
      have:=hgb.1 hg
      subst this
      exact ybu hN hE hP hT hg hd h
     ·rw [if_neg (fun h'=>hg (hw.1 h'))]
      exact ⟨fun _ _=>trivial,ybt (by cases hx:gb with | false=>rfl | true=>exact absurd (hgb.2 hx) hg) hE hP hT hg hd h⟩

end Go.Eng
end
section
/- The engine,part K: operations of a region whose order is open may change places. Conditions: none. -/
namespace Go.Eng

theorem FnY.mono {P:Program} {l:Nat} {args:List Value} {H:Hp} {post post':Value→Hp→Prop} (h:FnY P l args H post) (hp:∀ v H',post v H'→post' v H'):FnY P l args H post' :=
 fun w hv=>(h w hv).mono fun _ _ ⟨v,H',he,ht,hq⟩=>⟨v,H',he,ht,hp v H' hq⟩
theorem FnY.live {P:Program} {l:Nat} {args:List Value} {H:Hp} {post:Value→Hp→Prop} (h:FnY P l args H post) (hx:Ex H):∃ v H1,post v H1∧Ex H1:=by
 obtain ⟨w,hv⟩:=hx
 obtain ⟨_,_,_,_,_,_,hR⟩:=h w hv
 obtain ⟨e,w',⟨v,H',_,ht,hq⟩,_⟩:=hR default [] (room_wide _)
 exact ⟨v,H',hq,w',ht.view⟩
theorem zr2:∀ {ls:List z0x} {f f':List Value→Prop},exL ls f→(∀ vs,f vs→f' vs)→exL ls f'
 | [],_,_,h,hf=>hf _ h
 | .int _ :: ls,_,_,⟨x,h⟩,hf=>⟨x,zr2 (ls:=ls) h fun vs=>hf _⟩
 | .bool :: ls,_,_,⟨x,h⟩,hf=>⟨x,zr2 (ls:=ls) h fun vs=>hf _⟩
 | .sl :: ls,_,_,⟨x,h⟩,hf=>⟨x,zr2 (ls:=ls) h fun vs=>hf _⟩
 | .ptr :: ls,_,_,⟨x,h⟩,hf=>⟨x,zr2 (ls:=ls) h fun vs=>hf _⟩
 | .mp :: ls,_,_,⟨x,h⟩,hf=>⟨x,zr2 (ls:=ls) h fun vs=>hf _⟩
 | .val :: ls,_,_,⟨x,h⟩,hf=>⟨x,zr2 (ls:=ls) h fun vs=>hf _⟩

theorem zr4:∀ {ls:List z0x} {f:List Value→Prop} {p:Prop},p∧exL ls f→exL ls fun vs=>p∧f vs
 | _,_,_,⟨hp,h⟩=>zr2 h fun _ hv=>⟨hp,hv⟩

theorem zr6:∀ {ls:List z0x} {ls':List z0x} {f:List Value→List Value→Prop},(exL ls fun vs=>exL ls' fun us=>f vs us)→exL ls' fun us=>exL ls fun vs=>f vs us
 | [],_,_,h=>h
 | .int _ :: ls,_,_,⟨x,h⟩=>zr2 (zr6 (ls:=ls) h) fun _ h'=>⟨x,h'⟩
 | .bool :: ls,_,_,⟨x,h⟩=>zr2 (zr6 (ls:=ls) h) fun _ h'=>⟨x,h'⟩
 | .sl :: ls,_,_,⟨x,h⟩=>zr2 (zr6 (ls:=ls) h) fun _ h'=>⟨x,h'⟩
 | .ptr :: ls,_,_,⟨x,h⟩=>zr2 (zr6 (ls:=ls) h) fun _ h'=>⟨x,h'⟩
 | .mp :: ls,_,_,⟨x,h⟩=>zr2 (zr6 (ls:=ls) h) fun _ h'=>⟨x,h'⟩
 | .val :: ls,_,_,⟨x,h⟩=>zr2 (zr6 (ls:=ls) h) fun _ h'=>⟨x,h'⟩

theorem yay {ob:Option Prop} {p q:Prop} (h:yaw ob p) (hq:p→q):yaw ob q:=by
 cases ob with
 | none=>exact hq h
 | some r=>exact ⟨h.1,hq h.2⟩

theorem yax {ob:Option Prop} {q:Prop} (ho:∀ p,ob=some p→p) (hq:q):yaw ob q:=by
 cases ob with
 | none=>exact hq
 | some p=>exact ⟨ho p rfl,hq⟩

theorem yvh {p:Addr}:∀ (vs:List Value) (i:Nat) (H:Hp),Ex H→Hp.canStore H p i vs→Ex (H.store p i vs)
 | [],_,_,h,_=>h
 | v :: vs,i,H,⟨w,hv⟩,⟨⟨_,_,_,hb,hs,_,_⟩,hr⟩ =>
  yvh vs (i+1) _ ⟨_,(yy6 (v:=v) hv hb hs).view⟩ (za8 vs (i+1) hr)

theorem ykf {H:Hp} {b:Nat} (ob:Obj) (h:Ex H) (hb:H b=none):Ex (H.put b ob):=by
 obtain ⟨w,hv⟩:=h
 -- a world with room up to b
 refine ⟨{ w with heap:=(w.heap++Array.replicate (b+1-w.heap.size) (default:Obj)).setIfInBounds b ob },fun k o hk=>?_⟩
 simp only [Hp.put] at hk
 have hlt:b<(w.heap++Array.replicate (b+1-w.heap.size) (default:Obj)).size:=by simp; omega
 split at hk
 ·rename_i e
  subst e
  cases hk
  rw [Array.getElem?_setIfInBounds]; simp; omega
 ·rename_i e
  rw [Array.getElem?_setIfInBounds_ne (fun h=>e h.symm)]
  have:=hv k o hk
  have hk':=(Array.getElem?_eq_some_iff.1 this).1
  rw [Array.getElem?_append_left hk']; exact this

section
variable {P:Program} {draw:Bool} {K K':Kop} {pr pr':z1i} {H:Hp}

def isH:NF→Bool
 | .ow _=>false
 | _=>true

theorem yzh {nf:NF} (h:nf.vc P draw K pr H) (hx:Ex H) (hk:∀ s p H',Ex H'→K s p H'→K' s p H'):nf.vc P draw K' pr H:=by
 cases nf with
 | bad=>exact h
 | pu ob x=>exact yay h (hk _ _ _ hx)
 | px ls ob x=>exact zr2 h fun vs h'=>⟨h'.1,hk _ _ _ hx h'.2⟩
 | rd ls ob x=>exact zr2 h fun vs h'=>⟨h'.1,hk _ _ _ hx h'.2⟩
 | ow f =>
  simp only [NF.vc] at h ⊢
  cases hf:f pr with
  | none=>simp [hf] at h
  | some y=>simp only [hf] at h ⊢; exact hk _ _ _ hx h
 | al c x ob=>exact yay h fun h' b H1 hb e=>hk _ _ _ (e ▸ ykf ob hx hb) (h' b H1 hb e)
 | ag gb x ob=>exact ⟨fun e b H1 hb e'=>hk _ _ _ (e' ▸ ykf ob hx hb) (h.1 e b H1 hb e'),fun e=>hk _ _ _ hx (h.2 e)⟩
 | cf g0 f args sh =>
  intro w hv
  exact (h w hv).mono fun e w' ⟨v,H',he,ht,hq⟩=>⟨v,H',he,ht,yay hq fun hq=>zr2 hq fun vs hq=>⟨hq.1,hk _ _ _ ⟨w',ht.view⟩ hq.2⟩⟩
 | cg gb g0 f args sh=>exact ⟨fun e w hv=>(h.1 e w hv).mono fun e w' ⟨v,H',he,ht,hq⟩=>⟨v,H',he,ht,yay hq fun hq=>zr2 hq fun vs hq=>⟨hq.1,hk _ _ _ ⟨w',ht.view⟩ hq.2⟩⟩,fun e=>hk _ _ _ hx (h.2 e)⟩
 | ce f args sh =>
  intro w hv
  exact (h w hv).mono fun e w' ⟨v,H',he,ht,hq⟩=>⟨v,H',he,ht,zr2 hq fun vs hq=>⟨hq.1,hk _ _ _ ⟨w',ht.view⟩ hq.2⟩⟩
 | cy l args sh =>
  intro w hv
  exact (h w hv).mono fun e w' ⟨v,H',he,ht,hq⟩=>⟨v,H',he,ht,zr2 hq fun vs hq=>⟨hq.1,hk _ _ _ ⟨w',ht.view⟩ hq.2⟩⟩
 | cv F args sh =>
  obtain ⟨f,first,cap,hF,hc,h⟩:=h
  refine ⟨f,first,cap,hF,hc,fun w hv=>?_⟩
  exact (h w hv).mono fun e w' ⟨v,H',he,ht,hq⟩=>⟨v,H',he,ht,yay hq fun hq=>zr2 hq fun vs hq=>⟨hq.1,hk _ _ _ ⟨w',ht.view⟩ hq.2⟩⟩
 | ef s sh =>
  intro w hv
  obtain ⟨v,w',H',hr,ht,hq⟩:=h w hv
  exact ⟨v,w',H',hr,ht,zr2 hq fun vs hq=>⟨hq.1,hk _ _ _ ⟨w',ht.view⟩ hq.2⟩⟩
 | st ad vs=>exact ⟨h.1,fun H1 e=>hk _ _ _ (e ▸ yvh vs 0 H hx h.1) (h.2 H1 e)⟩

theorem yzj {nf:NF} (hh:isH nf=true) (h:nf.vc P draw K pr H) (hx:Ex H) (hk:∀ s H',Ex H'→K s pr H'→K' s pr' H'):nf.vc P draw K' pr' H:=by
 cases nf with
 | bad=>exact h
 | pu ob x=>exact yay h (hk _ _ hx)
 | px ls ob x=>exact zr2 h fun vs h'=>⟨h'.1,hk _ _ hx h'.2⟩
 | rd ls ob x=>exact zr2 h fun vs h'=>⟨h'.1,hk _ _ hx h'.2⟩
 | ow f=>cases hh
 | al c x ob=>exact yay h fun h' b H1 hb e=>hk _ _ (e ▸ ykf ob hx hb) (h' b H1 hb e)
 | ag gb x ob=>exact ⟨fun e b H1 hb e'=>hk _ _ (e' ▸ ykf ob hx hb) (h.1 e b H1 hb e'),fun e=>hk _ _ hx (h.2 e)⟩
 | cf g0 f args sh =>
  intro w hv
  exact (h w hv).mono fun e w' ⟨v,H',he,ht,hq⟩=>⟨v,H',he,ht,yay hq fun hq=>zr2 hq fun vs hq=>⟨hq.1,hk _ _ ⟨w',ht.view⟩ hq.2⟩⟩
 | cg gb g0 f args sh=>exact ⟨fun e w hv=>(h.1 e w hv).mono fun e w' ⟨v,H',he,ht,hq⟩=>⟨v,H',he,ht,yay hq fun hq=>zr2 hq fun vs hq=>⟨hq.1,hk _ _ ⟨w',ht.view⟩ hq.2⟩⟩,fun e=>hk _ _ hx (h.2 e)⟩
 | ce f args sh =>
  intro w hv
  exact (h w hv).mono fun e w' ⟨v,H',he,ht,hq⟩=>⟨v,H',he,ht,zr2 hq fun vs hq=>⟨hq.1,hk _ _ ⟨w',ht.view⟩ hq.2⟩⟩
 | cy l args sh =>
  intro w hv
  exact (h w hv).mono fun e w' ⟨v,H',he,ht,hq⟩=>⟨v,H',he,ht,zr2 hq fun vs hq=>⟨hq.1,hk _ _ ⟨w',ht.view⟩ hq.2⟩⟩
 | cv F args sh =>
  obtain ⟨f,first,cap,hF,hc,h⟩:=h
  refine ⟨f,first,cap,hF,hc,fun w hv=>?_⟩
  exact (h w hv).mono fun e w' ⟨v,H',he,ht,hq⟩=>⟨v,H',he,ht,yay hq fun hq=>zr2 hq fun vs hq=>⟨hq.1,hk _ _ ⟨w',ht.view⟩ hq.2⟩⟩
 | ef s sh =>
  intro w hv
  obtain ⟨v,w',H',hr,ht,hq⟩:=h w hv
  exact ⟨v,w',H',hr,ht,zr2 hq fun vs hq=>⟨hq.1,hk _ _ ⟨w',ht.view⟩ hq.2⟩⟩
 | st ad vs=>exact ⟨h.1,fun H1 e=>hk _ _ (e ▸ yvh vs 0 H hx h.1) (h.2 H1 e)⟩

theorem yzf {nf:NF} (h:nf.vc P draw K pr H) (hx:Ex H):∃ s p H',Ex H'∧K s p H':=by
 cases nf with
 | bad=>exact h.elim
 | pu ob x=>exact ⟨_,_,_,hx,(yaz h).2⟩
 | px ls ob x=>obtain ⟨vs,_,_,h'⟩:=zr5 h; exact ⟨_,_,_,hx,h'⟩
 | rd ls ob x=>obtain ⟨vs,_,_,h'⟩:=zr5 h; exact ⟨_,_,_,hx,h'⟩
 | ow f =>
  simp only [NF.vc] at h
  cases hf:f pr with
  | none=>simp [hf] at h
  | some y=>simp only [hf] at h; exact ⟨_,_,_,hx,h⟩
 | al c x ob =>
  obtain ⟨w,hv⟩:=hx
  obtain ⟨hn,ht⟩:=Tr.alloc hv ob
  exact ⟨_,_,_,⟨_,ht.view⟩,(yaz h).2 _ _ hn rfl⟩
 | ag gb x ob =>
  cases gb with
  | true =>
   obtain ⟨w,hv⟩:=hx
   obtain ⟨hn,ht⟩:=Tr.alloc hv ob
   exact ⟨_,_,_,⟨_,ht.view⟩,h.1 rfl _ _ hn rfl⟩
  | false=>exact ⟨_,_,_,hx,h.2 rfl⟩
 | cf g0 f args sh =>
  obtain ⟨v,H',hq,hx'⟩:=Fn.live h hx
  obtain ⟨vs,_,_,h'⟩:=zr5 (yaz hq).2
  exact ⟨_,_,_,hx',h'⟩
 | cg gb g0 f args sh =>
  cases gb with
  | true =>
   obtain ⟨v,H',hq,hx'⟩:=Fn.live (h.1 rfl) hx
   obtain ⟨vs,_,_,h'⟩:=zr5 (yaz hq).2
   exact ⟨_,_,_,hx',h'⟩
  | false=>exact ⟨_,_,_,hx,h.2 rfl⟩
 | ce f args sh =>
  obtain ⟨v,H',hq,hx'⟩:=Fn.live h hx
  obtain ⟨vs,_,_,h'⟩:=zr5 hq
  exact ⟨_,_,_,hx',h'⟩
 | cy l args sh =>
  obtain ⟨v,H',hq,hx'⟩:=FnY.live h hx
  obtain ⟨vs,_,_,h'⟩:=zr5 hq
  exact ⟨_,_,_,hx',h'⟩
 | cv F args sh =>
  obtain ⟨f,first,cap,hF,hc,h⟩:=h
  obtain ⟨v,H',hq,hx'⟩:=Fn.live h hx
  obtain ⟨vs,_,_,h'⟩:=zr5 (yaz hq).2
  exact ⟨_,_,_,hx',h'⟩
 | ef s sh =>
  obtain ⟨w,hv⟩:=hx
  obtain ⟨v,w',H',hr,ht,hq⟩:=h w hv
  obtain ⟨vs,_,_,h'⟩:=zr5 hq
  exact ⟨_,_,_,⟨w',ht.view⟩,h'⟩
 | st ad vs=>exact ⟨_,_,_,yvh vs 0 H hx h.1,h.2 _ rfl⟩

theorem yzg {nf:NF} (hh:isH nf=true) (h:nf.vc P draw K pr H) (hx:Ex H):∃ s H',Ex H'∧K s pr H':=by
 have:=yzj (K':=fun s p H'=>p=pr∧K s pr H') (pr':=pr) hh h hx (fun s H' _ h'=>⟨rfl,h'⟩)
 obtain ⟨s,p,H',h1,_,h2⟩:=yzf this hx
 exact ⟨s,H',h1,h2⟩

end

def Ld (f:z1i→Option (Sl × z1i)):Prop:=∃ j,∀ pr,(pr j=none→f pr=none)∧(∀ x p',f pr=some (x,p')→p'=pr∧∀ pr2,pr2 j=pr j→f pr2=some (x,pr2))
def Al (d:Nat) (f:z1i→Option (Sl × z1i)):Prop:=∃ x blk,∀ pr,f pr=match pr d with
 | none=>some (x,pr.set d (some blk))
 | some _=>none

def z13 (ob:List Value→Hp→Prop):Prop:=∀ vs H H',Hp.le H H'→ob vs H→ob vs H'

def cls (C:Cfg) (o:Oper):Nat :=
 match o.op with
 | .load _ (.tmp x)=>match C.pv x with
  | true=>2
  | false=>1
 | .store _ (.tmp x) _=>match C.pv x with
  | true=>4
  | false=>8
 | .alloc _=>match o.dst with
  | some d=>match C.pv d with
   | true=>3
   | false=>5
  | none=>9
 | .box _ _=>match o.dst with
  | some d=>match C.pv d with
   | true=>3
   | false=>5
  | none=>9
 | .buildSlice _ _ _=>5
 | .makeMap _ none=>5
 | .makeSlice _ _ _=>5
 | .lookup _ _ _ _=>1
 | .index _ _ _=>10
 | .call c=>match c.callee with
  | .value (.func f)=>match (zux (shp C.P o.type)||C.qf f)&&!C.eff f with
   | true=>1
   | false=>match C.eff2 f with
    | true=>11
    | false=>6
  | .value _=>match C.yl with
   | true=>11
   | false=>match zux (shp C.P o.type)&&!C.effv with
    | true=>1
    | false=>6
  | .builtin .len=>0
  | .builtin .cap=>0
  | .builtin .min=>0
  | .builtin .max=>0
  | .builtin _=>7
  | _=>9
 | .mapUpdate _ _ _ _=>7
 | .range _ _=>7
 | .next _ _=>7
 | .entry _=>7
 | _=>0

def z95 (C:Cfg) (o:Oper):Option Nat :=
 match o.op with
 | .load _ (.tmp x)=>match C.pv x with
  | true=>some (C.nm x)
  | false=>none
 | .store _ (.tmp x) _=>match C.pv x with
  | true=>some (C.nm x)
  | false=>none
 | .alloc _=>match o.dst with
  | some d=>match C.pv d with
   | true=>some d
   | false=>none
  | none=>none
 | .box _ _=>match o.dst with
  | some d=>match C.pv d with
   | true=>some d
   | false=>none
  | none=>none
 | _=>none

def yr7:Option Nat→Option Nat→Bool
 | some a,some b=>!Nat.beq a b
 | _,_=>false

def AtB (j:Nat) (f:z1i→Option (Sl × z1i)):Prop:=∃ g:Option (List Value × TypeId)→Option (Sl × Option (List Value × TypeId)),∀ pr,f pr=match g (pr j) with
 | some (s,c)=>some (s,pr.set j c)
 | none=>none

theorem z96 {C:Cfg} {o:Oper} {j:Nat} (h:z95 C o=some j):cls C o=2∨cls C o=3∨cls C o=4:=by
 unfold z95 at h
 unfold cls
 (repeat' split at h) <;> first | cases h; done | simp [*]

def NFk (C:Cfg) (o:Oper):NF→Prop
 | .bad=>True
 | .pu _ _=>cls C o=0
 | .px _ _ _=>cls C o=10
 | .rd _ ob _=>cls C o=1∧z13 ob
 | .ow f=>((cls C o=2∧Ld f)∨(cls C o=3∧∃ d,o.dst=some d∧Al d f)∨cls C o=4)∧∀ j,z95 C o=some j→AtB j f
 | .al _ _ _=>cls C o=5
 | .ag _ _ _=>cls C o=5
 | .cf _ _ _ _=>cls C o=6
 | .cg _ _ _ _ _=>cls C o=6
 | .ce _ _ _=>cls C o=11
 | .cy _ _ _=>cls C o=11
 | .cv _ _ _=>cls C o=6
 | .ef _ _=>cls C o=7
 | .st _ _=>cls C o=8

def swp (y x:Nat):Bool :=
 Nat.beq y 0||Nat.beq x 0||Nat.beq y 10 ||
 match y,x with
 | 2,2=>true
 | 2,3=>true
 | 3,3=>true
 | 2,4=>false
 | 2,_=>true
 | 3,2=>false
 | 3,4=>false
 | 3,_=>true
 | 4,2=>false
 | 4,3=>false
 | 4,4=>false
 | 4,_=>true
 | 1,1=>true
 | 1,2=>true
 | 1,3=>true
 | 1,4=>true
 | 1,5=>true
 | 1,6=>true
 | 5,2=>true
 | 5,3=>true
 | 5,4=>true
 | 5,5=>true
 | 6,2=>true
 | 6,3=>true
 | 6,4=>true
 | 6,5=>true
 | 7,2=>true
 | 7,3=>true
 | 7,4=>true
 | 7,5=>true
 | 8,2=>true
 | 8,3=>true
 | 8,4=>true
 | _,_=>false

section
variable {P:Program}

def z0j (P:Program) (y x:NF):Prop:=∀ (K:Sl→Sl→z1i→Hp→Prop) pr H,Ex H →
 NF.vc P true (fun sy pr H=>NF.vc P true (fun sx pr H=>K sy sx pr H) pr H x) pr H y→NF.vc P true (fun sx pr H=>NF.vc P true (fun sy pr H=>K sy sx pr H) pr H y) pr H x

theorem zn8 {ob:Option Prop} {s:Sl} {x:NF}:z0j P (.pu ob s) x:=fun K pr H hx h=>by
 obtain ⟨ho,hk⟩:=yaz h
 exact yzh hk hx fun _ _ _ _ h'=>yax ho h'

theorem zna {ls:List z0x} {ob:List Value→Prop} {s:List Value→Sl} {x:NF}:z0j P (.px ls ob s) x:=fun K pr H hx h=>by
 have key:∀ (ls:List z0x) (f:List Value→Prop) (g:List Value→Sl→z1i→Hp→Prop),(exL ls fun vs=>f vs∧NF.vc P true (g vs) pr H x)→NF.vc P true (fun s p H'=>exL ls fun vs=>f vs∧g vs s p H') pr H x:=by
  intro ls
  induction ls with
  | nil=>intro f g h; exact yzh h.2 hx fun _ _ _ _ h'=>⟨h.1,h'⟩
  | cons l ls ih =>
   intro f g h
   cases l with
   | int k=>obtain ⟨n,h⟩:=h; exact yzh (ih _ _ h) hx fun _ _ _ _ h'=>⟨n,h'⟩
   | bool=>obtain ⟨n,h⟩:=h; exact yzh (ih _ _ h) hx fun _ _ _ _ h'=>⟨n,h'⟩
   | sl=>obtain ⟨n,h⟩:=h; exact yzh (ih _ _ h) hx fun _ _ _ _ h'=>⟨n,h'⟩
   | ptr=>obtain ⟨n,h⟩:=h; exact yzh (ih _ _ h) hx fun _ _ _ _ h'=>⟨n,h'⟩
   | mp=>obtain ⟨n,h⟩:=h; exact yzh (ih _ _ h) hx fun _ _ _ _ h'=>⟨n,h'⟩
   | val=>obtain ⟨n,h⟩:=h; exact yzh (ih _ _ h) hx fun _ _ _ _ h'=>⟨n,h'⟩
 exact key _ _ _ h

theorem zn9 {ob:Option Prop} {s:Sl} {y:NF}:z0j P y (.pu ob s):=fun K pr H hx h=>by
 obtain ⟨_,_,_,_,h'⟩:=yzf h hx
 exact yax (yaz h').1 (yzh h hx fun _ _ _ _ h''=>(yaz h'').2)

theorem zn7 {f:z1i→Option (Sl × z1i)} {x:NF} (hh:isH x=true):z0j P (.ow f) x:=fun K pr H hx h=>by
 simp only [NF.vc] at h
 cases hf:f pr with
 | none=>simp [hf] at h
 | some y =>
  obtain ⟨sy,p'⟩:=y
  simp only [hf] at h
  exact yzj hh h hx fun s H' _ h'=>by simp only [NF.vc,hf]; exact h'

theorem zmx {f:z1i→Option (Sl × z1i)} {y:NF} (hh:isH y=true):z0j P y (.ow f):=fun K pr H hx h=>by
 obtain ⟨s,H',_,h'⟩:=yzg hh h hx
 simp only [NF.vc] at h' ⊢
 cases hf:f pr with
 | none=>simp [hf] at h'
 | some z =>
  obtain ⟨sx,p'⟩:=z
  simp only
  exact yzj hh h hx fun s H' _ h'=>by simp only [NF.vc,hf] at h'; exact h'

theorem zn3 {f f':z1i→Option (Sl × z1i)} (h1:Ld f) (h2:Ld f'):z0j P (.ow f) (.ow f'):=fun K pr H _ h=>by
 obtain ⟨j,hj⟩:=h1
 obtain ⟨j',hj'⟩:=h2
 simp only [NF.vc] at h ⊢
 cases hf:f pr with
 | none=>simp [hf] at h
 | some y =>
  obtain ⟨sy,p1⟩:=y
  have e1:=((hj pr).2 _ _ hf).1
  subst e1
  simp only [hf] at h
  cases hf':f' p1 with
  | none=>simp [hf'] at h
  | some z =>
   obtain ⟨sx,p2⟩:=z
   have e2:=((hj' p1).2 _ _ hf').1
   subst e2
   simp only [hf'] at h
   simp only [hf]
   exact h

theorem zn2 {f f':z1i→Option (Sl × z1i)} {d:Nat} (h1:Ld f) (h2:Al d f'):z0j P (.ow f) (.ow f'):=fun K pr H _ h=>by
 obtain ⟨j,hj⟩:=h1
 obtain ⟨x,blk,h2⟩:=h2
 simp only [NF.vc] at h ⊢
 cases hf:f pr with
 | none=>simp [hf] at h
 | some y =>
  obtain ⟨sy,p1⟩:=y
  obtain ⟨e1,hst⟩:=(hj pr).2 _ _ hf
  subst e1
  simp only [hf] at h
  rw [h2 p1] at h ⊢
  cases hd:p1 d with
  | some z=>simp [hd] at h
  | none =>
   simp only [hd] at h ⊢
   have hne:j≠d:=fun e=>by subst e; have:=(hj p1).1 hd; rw [this] at hf; cases hf
   rw [hst _ (z1i.set_ne p1 _ hne)]
   exact h

theorem z1i.set_comm (pr:z1i) {d e:Nat} (b c:Option (List Value × TypeId)) (h:d≠e):(pr.set d b).set e c=(pr.set e c).set d b:=by
 funext k
 by_cases h1:k=d
 ·subst h1
  rw [z1i.set_ne _ _ h,z1i.set_same,z1i.set_same]
 ·by_cases h2:k=e
  ·subst h2
   rw [z1i.set_same,z1i.set_ne _ _ h1,z1i.set_same]
  ·rw [z1i.set_ne _ _ h2,z1i.set_ne _ _ h1,z1i.set_ne _ _ h1,z1i.set_ne _ _ h2]

theorem zmy {f f':z1i→Option (Sl × z1i)} {d d':Nat} (h1:Al d f) (h2:Al d' f') (hne:d≠d'):z0j P (.ow f) (.ow f'):=fun K pr H _ h=>by
 obtain ⟨x,blk,h1⟩:=h1
 obtain ⟨x',blk',h2⟩:=h2
 simp only [NF.vc] at h ⊢
 rw [h1 pr] at h
 cases hd:pr d with
 | some z=>simp [hd] at h
 | none =>
  simp only [hd] at h
  rw [h2] at h
  rw [z1i.set_ne _ _ (Ne.symm hne)] at h
  cases hd':pr d' with
  | some z=>simp [hd'] at h
  | none =>
   simp only [hd'] at h
   rw [h2 pr]
   simp only [hd']
   rw [h1,z1i.set_ne _ _ hne]
   simp only [hd]
   rw [z1i.set_comm _ _ _ (Ne.symm hne)]
   exact h

theorem znd {ls ls':List z0x} {ob ob':List Value→Hp→Prop} {s s':List Value→Sl}:z0j P (.rd ls ob s) (.rd ls' ob' s'):=fun K pr H _ h=>by
 have h1:exL ls fun vs=>exL ls' fun us=>ob vs H∧ob' us H∧K (s vs) (s' us) pr H:=zr2 h fun vs h'=>zr4 h'
 exact zr2 (zr6 h1) fun us h2=>by
  obtain ⟨_,_,_,ho,_⟩:=zr5 h2
  exact ⟨ho,zr2 h2 fun vs h3=>⟨h3.1,h3.2.2⟩⟩

theorem znb {ls:List z0x} {ob:List Value→Hp→Prop} {s:List Value→Sl} {c:Option Prop} {x:Nat→Sl} {bk:Obj} (hm:z13 ob):z0j P (.rd ls ob s) (.al c x bk):=fun K pr H _ h=>by
 have hc:∀ p,c=some p→p:=by
  obtain ⟨_,_,_,h'⟩:=zr5 h
  exact (yaz h').1
 refine yax hc fun b H1 hb e=>?_
 subst e
 exact zr2 h fun vs h'=>⟨hm vs _ _ (Hp.put_le H bk hb) h'.1,(yaz h'.2).2 b _ hb rfl⟩

theorem znc {ls:List z0x} {ob:List Value→Hp→Prop} {s:List Value→Sl} {g:Gd} {f:FuncId} {args:Array Value} {sh:Shp} (hm:z13 ob) (K:Sl→Sl→z1i→Hp→Prop) (pr:z1i) (H:Hp)
  (h:exL ls fun vs=>ob vs H∧Fn P f args H fun v H'=>Hp.le H H'∧exL sh.leaves fun us=>v=sh.mk us∧K (s vs) (some (g,.lit (sh.mk us))) pr H') :
  Fn P f args H fun v H'=>Hp.le H H'∧exL sh.leaves fun us=>v=sh.mk us∧exL ls fun vs=>ob vs H'∧K (s vs) (some (g,.lit (sh.mk us))) pr H':=by
 have key:∀ (ls:List z0x) (ob:List Value→Hp→Prop) (s:List Value→Sl),z13 ob →
   (exL ls fun vs=>ob vs H∧Fn P f args H fun v H'=>Hp.le H H'∧exL sh.leaves fun us=>v=sh.mk us∧K (s vs) (some (g,.lit (sh.mk us))) pr H') →
   Fn P f args H fun v H'=>Hp.le H H'∧exL ls fun vs=>ob vs H'∧exL sh.leaves fun us=>v=sh.mk us∧K (s vs) (some (g,.lit (sh.mk us))) pr H':=by
  intro ls
  induction ls with
  | nil=>intro ob s hm h; exact h.2.mono fun v H' ⟨hl,hq⟩=>⟨hl,hm _ _ _ hl h.1,hq⟩
  | cons l ls ih =>
   intro ob s hm h
   cases l with
   | int k=>obtain ⟨n,h⟩:=h; exact (ih _ _ (fun vs=>hm _) h).mono fun v H' ⟨hl,hq⟩=>⟨hl,n,hq⟩
   | bool=>obtain ⟨n,h⟩:=h; exact (ih _ _ (fun vs=>hm _) h).mono fun v H' ⟨hl,hq⟩=>⟨hl,n,hq⟩
   | sl=>obtain ⟨n,h⟩:=h; exact (ih _ _ (fun vs=>hm _) h).mono fun v H' ⟨hl,hq⟩=>⟨hl,n,hq⟩
   | ptr=>obtain ⟨n,h⟩:=h; exact (ih _ _ (fun vs=>hm _) h).mono fun v H' ⟨hl,hq⟩=>⟨hl,n,hq⟩
   | mp=>obtain ⟨n,h⟩:=h; exact (ih _ _ (fun vs=>hm _) h).mono fun v H' ⟨hl,hq⟩=>⟨hl,n,hq⟩
   | val=>obtain ⟨n,h⟩:=h; exact (ih _ _ (fun vs=>hm _) h).mono fun v H' ⟨hl,hq⟩=>⟨hl,n,hq⟩
 refine (key ls ob s hm h).mono fun v H' ⟨hl,hq⟩=>⟨hl,?_⟩
 have h1:exL ls fun vs=>exL sh.leaves fun us=>ob vs H'∧v=sh.mk us∧K (s vs) (some (g,.lit (sh.mk us))) pr H':=zr2 hq fun vs h'=>zr4 h'
 exact zr2 (zr6 h1) fun us h2=>by
  obtain ⟨_,_,_,hv,_⟩:=zr5 h2
  exact ⟨hv,zr2 h2 fun vs h3=>⟨h3.1,h3.2.2⟩⟩

theorem comm_al_al' {c c':Option Prop} {x x':Nat→Sl} {o o':Obj}:z0j P (.al c x o) (.al c' x' o'):=fun K pr H hx h=>by
 obtain ⟨hc,h1⟩:=yaz h
 have hc':∀ p,c'=some p→p:=by
  obtain ⟨_,_,_,_,h'⟩:=yzf h hx
  exact (yaz h').1
 refine yax hc' fun b H1 hb e=>yax hc fun b' H2 hb' e'=>?_
 subst e; subst e'
 have hne:b'≠b:=fun e=>by subst e; simp at hb'
 rw [Hp.put_ne _ _ hne] at hb'
 have:=(yaz (h1 b' _ hb' rfl)).2 b _ (by rw [Hp.put_ne _ _ (Ne.symm hne)]; exact hb) rfl
 rw [Hp.put_comm _ _ _ hne] at this
 exact this

theorem zn0 {g:Gd} {f:FuncId} {args:Array Value} {sh:Shp} {c:Option Prop} {x:Nat→Sl} {o:Obj} (K:Sl→Sl→z1i→Hp→Prop) (pr:z1i) (H:Hp) {b:Nat} (hb:H b=none)
  (h:Fn P f args H fun v H'=>Hp.le H H'∧exL sh.leaves fun us=>v=sh.mk us∧yaw c (∀ b H1,H' b=none→H1=H'.put b o→K (some (g,.lit (sh.mk us))) (x b) pr H1)) :
  Fn P f args (H.put b o) fun v H'=>Hp.le (H.put b o) H'∧exL sh.leaves fun us=>v=sh.mk us∧K (some (g,.lit (sh.mk us))) (x b) pr H' :=
 (h.frame_put (o:=o) hb).mono fun v H'' ⟨H',⟨hl,hq⟩,hn,he,hle⟩=>⟨hle hl,zr2 hq fun us h'=>⟨h'.1,by rw [he]; exact (yaz h'.2).2 b _ hn rfl⟩⟩

theorem z1e.frame_put {s:Sem Next} {H:Hp} {post:Value→Hp→Prop} (h:z1e P s H post) {b:Nat} {o:Obj} (hb:H b=none) :
  z1e P s (Hp.put H b o) fun v H''=>∃ H',post v H'∧H' b=none∧H''=Hp.put H' b o:=by
 intro w hv
 have hl:=Hp.put_le H o hb
 obtain ⟨v,w',H',he,ht,hq⟩:=h w (hv.mono hl)
 have hlt:b<w.heap.size:=hv.lt (by simp)
 have hn:H' b=Option.none:=ht.none hlt hb
 refine ⟨v,w',Hp.put H' b o,he,⟨fun k o' hk=>?_,fun k hk hkn=>?_,fun k hk=>?_,ht.size,ht.os,ht.tape,ht.output,ht.drawn⟩,H',hq,hn,rfl⟩
 ·simp only [Hp.put] at hk
  split at hk
  ·rename_i e; subst e; cases hk
   rw [ht.frame k hlt hb]; exact hv k o (by simp)
  ·exact ht.view k o' hk
 ·have:k≠b:=by intro e; subst e; simp at hkn
  rw [Hp.put_ne _ _ this] at hkn
  exact ht.frame k hk hkn
 ·by_cases e:k=b
  ·subst e; exact .inl (by simp)
  ·rw [Hp.put_ne _ _ e] at hk ⊢; exact ht.fresh k hk

theorem z1e.mono {s:Sem Next} {H:Hp} {post post':Value→Hp→Prop} (h:z1e P s H post) (hp:∀ v H,post v H→post' v H):z1e P s H post':=fun w hv=>by
 obtain ⟨v,w',H',he,ht,hq⟩:=h w hv
 exact ⟨v,w',H',he,ht,hp _ _ hq⟩

theorem zn1 {s:Sem Next} {sh:Shp} {c:Option Prop} {x:Nat→Sl} {o:Obj} (K:Sl→Sl→z1i→Hp→Prop) (pr:z1i) (H:Hp) {b:Nat} (hb:H b=none)
  (h:z1e P s H fun v H'=>exL sh.leaves fun us=>v=sh.mk us∧yaw c (∀ b H1,H' b=none→H1=H'.put b o→K (some ([],.lit (sh.mk us))) (x b) pr H1)) :
  z1e P s (H.put b o) fun v H'=>exL sh.leaves fun us=>v=sh.mk us∧K (some ([],.lit (sh.mk us))) (x b) pr H' :=
 (h.frame_put (o:=o) hb).mono fun v H'' ⟨H',hq,hn,he⟩=>zr2 hq fun us h'=>⟨h'.1,by rw [he]; exact (yaz h'.2).2 b _ hn rfl⟩

theorem z1i.set_self (pr:z1i) (j:Nat):pr.set j (pr j)=pr:=by
 funext k
 by_cases h:k=j
 ·subst h; rw [z1i.set_same]
 ·rw [z1i.set_ne _ _ h]

theorem zmz {f f':z1i→Option (Sl × z1i)} {i j:Nat} (h1:AtB i f) (h2:AtB j f') (hne:i≠j):z0j P (.ow f) (.ow f'):=fun K pr H _ h=>by
 obtain ⟨g,h1⟩:=h1
 obtain ⟨g',h2⟩:=h2
 simp only [NF.vc] at h ⊢
 rw [h1 pr] at h
 cases hg:g (pr i) with
 | none=>simp [hg] at h
 | some y =>
  obtain ⟨s,c⟩:=y
  simp only [hg] at h
  rw [h2,z1i.set_ne _ _ (Ne.symm hne)] at h
  rw [h2 pr]
  cases hg':g' (pr j) with
  | none=>simp [hg'] at h
  | some z =>
   obtain ⟨s',c'⟩:=z
   simp only [hg'] at h ⊢
   rw [h1,z1i.set_ne _ _ hne]
   simp only [hg]
   rw [z1i.set_comm _ _ _ (Ne.symm hne)]
   exact h

theorem zne {C:Cfg} {oy ox:Oper} {y x:NF} (hy:NFk C oy y) (hx:NFk C ox x) (hs:yr7 (z95 C oy) (z95 C ox)=true):z0j P y x:=by
 cases ha:z95 C oy with
 | none=>rw [ha] at hs; simp [yr7] at hs
 | some a =>
  cases hb:z95 C ox with
  | none=>rw [ha,hb] at hs; simp [yr7] at hs
  | some b =>
   rw [ha,hb] at hs
   have hne:a≠b:=fun e=>by subst e; simp [yr7] at hs
   have cy:=z96 ha
   have cx:=z96 hb
   cases y with
   | bad=>exact fun _ _ _ _ h=>h.elim
   | pu=>exact zn8
   | px=>exact zna
   | ow f =>
    cases x with
    | bad=>exact fun K pr H hx h=>by obtain ⟨_,_,_,_,h'⟩:=yzf h hx; exact h'.elim
    | pu=>exact zn9
    | ow f'=>exact zmz (hy.2 a ha) (hx.2 b hb) hne
    | _=>exact zn7 rfl
   | rd=>have:cls C oy=1:=hy.1; omega
   | al=>have:cls C oy=5:=hy; omega
   | ag=>have:cls C oy=5:=hy; omega
   | cf=>have:cls C oy=6:=hy; omega
   | cg=>have:cls C oy=6:=hy; omega
   | ce=>have:cls C oy=11:=hy; omega
   | cy=>have:cls C oy=11:=hy; omega
   | cv=>have:cls C oy=6:=hy; omega
   | ef=>have:cls C oy=7:=hy; omega
   | st=>have:cls C oy=8:=hy; omega

def y0q:NF→Bool
 | .ag _ _ _=>true
 | .cg _ _ _ _ _=>true
 | _=>false
theorem zn5 {C:Cfg} {oy ox:Oper} {y x:NF} (hy:NFk C oy y) (hx:NFk C ox x) (hs:swp (cls C oy) (cls C ox)=true) (hd:∀ d,oy.dst=some d→ox.dst≠some d) (ny:y0q y=false) (nx:y0q x=false):z0j P y x:=by
 cases y with
 | ag=>cases ny
 | cg=>cases ny
 | bad=>exact fun _ _ _ _ h=>h.elim
 | pu=>exact zn8
 | px=>exact zna
 | ow f =>
  cases x with
  | ag=>cases nx
  | cg=>cases nx
  | bad=>exact fun K pr H hx h=>by obtain ⟨_,_,_,_,h'⟩:=yzf h hx; exact h'.elim
  | pu=>exact zn9
  | ow f' =>
   rcases hy.1 with ⟨h1,h2⟩ | ⟨h1,d,hd1,h2⟩ | h1 <;> rcases hx.1 with ⟨h3,h4⟩ | ⟨h3,d',hd2,h4⟩ | h3 <;> rw [h1,h3] at hs <;> first
    | (exact absurd hs (by decide))
    | exact zn3 h2 h4
    | exact zn2 h2 h4
    | exact zmy h2 h4 (fun e=>hd d hd1 (by rw [e]; exact hd2))
  | _=>exact zn7 rfl
 | rd ls ob s =>
  cases x with
  | ag=>cases nx
  | cg=>cases nx
  | bad=>exact fun K pr H hx h=>by obtain ⟨_,_,_,_,h'⟩:=yzf h hx; exact h'.elim
  | pu=>exact zn9
  | px=>have h3:cls C ox=10:=hx; rw [hy.1,h3] at hs; exact absurd hs (by decide)
  | rd=>exact znd
  | ow=>exact zmx rfl
  | al=>exact znb hy.2
  | cf g0 f args sh=>exact fun K pr H _ h=>znc hy.2 K pr H h
  | ce=>have h3:cls C ox=11:=hx; rw [hy.1,h3] at hs; exact absurd hs (by decide)
  | cy=>have h3:cls C ox=11:=hx; rw [hy.1,h3] at hs; exact absurd hs (by decide)
  | cv F args sh =>
    intro K pr H _ h
    have hF:∃ f first cap,F=.func (.func f) first cap∧za5 P f:=by
     obtain ⟨_,_,_,f,first,cap,hF,hc,_⟩:=zr5 h
     exact ⟨f,first,cap,hF,hc⟩
    obtain ⟨f,first,cap,rfl,hc⟩:=hF
    refine ⟨f,first,cap,rfl,hc,znc hy.2 K pr H (zr2 h fun vs h'=>⟨h'.1,?_⟩)⟩
    obtain ⟨_,f',first',cap',e,_,h2⟩:=h'
    cases e
    exact h2
  | ef=>have h3:cls C ox=7:=hx; rw [hy.1,h3] at hs; exact absurd hs (by decide)
  | st=>have h3:cls C ox=8:=hx; rw [hy.1,h3] at hs; exact absurd hs (by decide)
 | al c s o =>
  have h1:cls C oy=5:=hy
  cases x with
  | ag=>cases nx
  | cg=>cases nx
  | bad=>exact fun K pr H hx h=>by obtain ⟨_,_,_,_,h'⟩:=yzf h hx; exact h'.elim
  | pu=>exact zn9
  | ow=>exact zmx rfl
  | al=>exact comm_al_al'
  | px=>have h3:cls C ox=10:=hx; rw [h1,h3] at hs; exact absurd hs (by decide)
  | rd=>rw [h1,hx.1] at hs; exact absurd hs (by decide)
  | cf=>have h3:cls C ox=6:=hx; rw [h1,h3] at hs; exact absurd hs (by decide)
  | ce=>have h3:cls C ox=11:=hx; rw [h1,h3] at hs; exact absurd hs (by decide)
  | cy=>have h3:cls C ox=11:=hx; rw [h1,h3] at hs; exact absurd hs (by decide)
  | cv=>have h3:cls C ox=6:=hx; rw [h1,h3] at hs; exact absurd hs (by decide)
  | ef=>have h3:cls C ox=7:=hx; rw [h1,h3] at hs; exact absurd hs (by decide)
  | st=>have h3:cls C ox=8:=hx; rw [h1,h3] at hs; exact absurd hs (by decide)
 | cf g0 f args sh =>
  have h1:cls C oy=6:=hy
  cases x with
  | ag=>cases nx
  | cg=>cases nx
  | bad=>exact fun K pr H hx h=>by obtain ⟨_,_,_,_,h'⟩:=yzf h hx; exact h'.elim
  | pu=>exact zn9
  | ow=>exact zmx rfl
  | al c x o =>
    intro K pr H hx h
    have hc:∀ p,c=some p→p:=by
     obtain ⟨_,_,_,_,h'⟩:=yzf h hx
     exact (yaz h').1
    exact yax hc fun b H1 hb e=>by subst e; exact zn0 K pr H hb h
  | px=>have h3:cls C ox=10:=hx; rw [h1,h3] at hs; exact absurd hs (by decide)
  | rd=>rw [h1,hx.1] at hs; exact absurd hs (by decide)
  | cf=>have h3:cls C ox=6:=hx; rw [h1,h3] at hs; exact absurd hs (by decide)
  | ce=>have h3:cls C ox=11:=hx; rw [h1,h3] at hs; exact absurd hs (by decide)
  | cy=>have h3:cls C ox=11:=hx; rw [h1,h3] at hs; exact absurd hs (by decide)
  | cv=>have h3:cls C ox=6:=hx; rw [h1,h3] at hs; exact absurd hs (by decide)
  | ef=>have h3:cls C ox=7:=hx; rw [h1,h3] at hs; exact absurd hs (by decide)
  | st=>have h3:cls C ox=8:=hx; rw [h1,h3] at hs; exact absurd hs (by decide)
 | ce f args sh =>
  have h1:cls C oy=11:=hy
  cases x with
  | ag=>cases nx
  | cg=>cases nx
  | bad=>exact fun K pr H hx h=>by obtain ⟨_,_,_,_,h'⟩:=yzf h hx; exact h'.elim
  | pu=>exact zn9
  | ow f=>exact zmx rfl
  | al=>have h3:cls C ox=5:=hx; rw [h1,h3] at hs; exact absurd hs (by decide)
  | px=>have h3:cls C ox=10:=hx; rw [h1,h3] at hs; exact absurd hs (by decide)
  | rd=>rw [h1,hx.1] at hs; exact absurd hs (by decide)
  | cf=>have h3:cls C ox=6:=hx; rw [h1,h3] at hs; exact absurd hs (by decide)
  | ce=>have h3:cls C ox=11:=hx; rw [h1,h3] at hs; exact absurd hs (by decide)
  | cy=>have h3:cls C ox=11:=hx; rw [h1,h3] at hs; exact absurd hs (by decide)
  | cv=>have h3:cls C ox=6:=hx; rw [h1,h3] at hs; exact absurd hs (by decide)
  | ef=>have h3:cls C ox=7:=hx; rw [h1,h3] at hs; exact absurd hs (by decide)
  | st=>have h3:cls C ox=8:=hx; rw [h1,h3] at hs; exact absurd hs (by decide)
 | cy l args sh =>
  have h1:cls C oy=11:=hy
  cases x with
  | ag=>cases nx
  | cg=>cases nx
  | bad=>exact fun K pr H hx h=>by obtain ⟨_,_,_,_,h'⟩:=yzf h hx; exact h'.elim
  | pu=>exact zn9
  | ow f=>exact zmx rfl
  | al=>have h3:cls C ox=5:=hx; rw [h1,h3] at hs; exact absurd hs (by decide)
  | px=>have h3:cls C ox=10:=hx; rw [h1,h3] at hs; exact absurd hs (by decide)
  | rd=>rw [h1,hx.1] at hs; exact absurd hs (by decide)
  | cf=>have h3:cls C ox=6:=hx; rw [h1,h3] at hs; exact absurd hs (by decide)
  | ce=>have h3:cls C ox=11:=hx; rw [h1,h3] at hs; exact absurd hs (by decide)
  | cy=>have h3:cls C ox=11:=hx; rw [h1,h3] at hs; exact absurd hs (by decide)
  | cv=>have h3:cls C ox=6:=hx; rw [h1,h3] at hs; exact absurd hs (by decide)
  | ef=>have h3:cls C ox=7:=hx; rw [h1,h3] at hs; exact absurd hs (by decide)
  | st=>have h3:cls C ox=8:=hx; rw [h1,h3] at hs; exact absurd hs (by decide)
 | cv F args sh =>
  have h1:cls C oy=6:=hy
  cases x with
  | ag=>cases nx
  | cg=>cases nx
  | bad=>exact fun K pr H hx h=>by obtain ⟨_,_,_,_,h'⟩:=yzf h hx; exact h'.elim
  | pu=>exact zn9
  | ow=>exact zmx rfl
  | al c x o =>
    intro K pr H hx h
    have hc:∀ p,c=some p→p:=by
     obtain ⟨_,_,_,_,h'⟩:=yzf h hx
     exact (yaz h').1
    obtain ⟨f,first,cap,hF,hcl,h⟩:=h
    exact yax hc fun b H1 hb e=>by subst e; exact ⟨f,first,cap,hF,hcl,zn0 K pr H hb h⟩
  | px=>have h3:cls C ox=10:=hx; rw [h1,h3] at hs; exact absurd hs (by decide)
  | rd=>rw [h1,hx.1] at hs; exact absurd hs (by decide)
  | cf=>have h3:cls C ox=6:=hx; rw [h1,h3] at hs; exact absurd hs (by decide)
  | ce=>have h3:cls C ox=11:=hx; rw [h1,h3] at hs; exact absurd hs (by decide)
  | cy=>have h3:cls C ox=11:=hx; rw [h1,h3] at hs; exact absurd hs (by decide)
  | cv=>have h3:cls C ox=6:=hx; rw [h1,h3] at hs; exact absurd hs (by decide)
  | ef=>have h3:cls C ox=7:=hx; rw [h1,h3] at hs; exact absurd hs (by decide)
  | st=>have h3:cls C ox=8:=hx; rw [h1,h3] at hs; exact absurd hs (by decide)
 | ef s sh =>
  have h1:cls C oy=7:=hy
  cases x with
  | ag=>cases nx
  | cg=>cases nx
  | bad=>exact fun K pr H hx h=>by obtain ⟨_,_,_,_,h'⟩:=yzf h hx; exact h'.elim
  | pu=>exact zn9
  | ow=>exact zmx rfl
  | al c x o =>
    intro K pr H hx h
    have hc:∀ p,c=some p→p:=by
     obtain ⟨_,_,_,_,h'⟩:=yzf h hx
     exact (yaz h').1
    exact yax hc fun b H1 hb e=>by subst e; exact zn1 K pr H hb h
  | px=>have h3:cls C ox=10:=hx; rw [h1,h3] at hs; exact absurd hs (by decide)
  | rd=>rw [h1,hx.1] at hs; exact absurd hs (by decide)
  | cf=>have h3:cls C ox=6:=hx; rw [h1,h3] at hs; exact absurd hs (by decide)
  | ce=>have h3:cls C ox=11:=hx; rw [h1,h3] at hs; exact absurd hs (by decide)
  | cy=>have h3:cls C ox=11:=hx; rw [h1,h3] at hs; exact absurd hs (by decide)
  | cv=>have h3:cls C ox=6:=hx; rw [h1,h3] at hs; exact absurd hs (by decide)
  | ef=>have h3:cls C ox=7:=hx; rw [h1,h3] at hs; exact absurd hs (by decide)
  | st=>have h3:cls C ox=8:=hx; rw [h1,h3] at hs; exact absurd hs (by decide)
 | st ad vs =>
  have h1:cls C oy=8:=hy
  cases x with
  | ag=>cases nx
  | cg=>cases nx
  | bad=>exact fun K pr H hx h=>by obtain ⟨_,_,_,_,h'⟩:=yzf h hx; exact h'.elim
  | pu=>exact zn9
  | ow=>exact zmx rfl
  | al=>have h3:cls C ox=5:=hx; rw [h1,h3] at hs; exact absurd hs (by decide)
  | px=>have h3:cls C ox=10:=hx; rw [h1,h3] at hs; exact absurd hs (by decide)
  | rd=>rw [h1,hx.1] at hs; exact absurd hs (by decide)
  | cf=>have h3:cls C ox=6:=hx; rw [h1,h3] at hs; exact absurd hs (by decide)
  | ce=>have h3:cls C ox=11:=hx; rw [h1,h3] at hs; exact absurd hs (by decide)
  | cy=>have h3:cls C ox=11:=hx; rw [h1,h3] at hs; exact absurd hs (by decide)
  | cv=>have h3:cls C ox=6:=hx; rw [h1,h3] at hs; exact absurd hs (by decide)
  | ef=>have h3:cls C ox=7:=hx; rw [h1,h3] at hs; exact absurd hs (by decide)
  | st=>have h3:cls C ox=8:=hx; rw [h1,h3] at hs; exact absurd hs (by decide)

theorem yzb {x:Nat→Sl} {ob:Obj} {draw:Bool} {K:Kop} {pr:z1i} {H:Hp}:NF.vc P draw K pr H (.ag true x ob)↔NF.vc P draw K pr H (.al none x ob) :=
 ⟨fun h=>h.1 rfl,fun h=>⟨fun _=>h,fun e=>(by cases e)⟩⟩
theorem yza {x:Nat→Sl} {ob:Obj} {draw:Bool} {K:Kop} {pr:z1i} {H:Hp}:NF.vc P draw K pr H (.ag false x ob)↔NF.vc P draw K pr H (.pu none (x 0)) :=
 ⟨fun h=>h.2 rfl,fun h=>⟨fun e=>(by cases e),fun _=>h⟩⟩

theorem yzd {g:Gd} {f:FuncId} {args:List Value} {sh:Shp} {draw:Bool} {K:Kop} {pr:z1i} {H:Hp}:NF.vc P draw K pr H (.cg true g f args sh)↔NF.vc P draw K pr H (.cf g f args sh) :=
 ⟨fun h=>h.1 rfl,fun h=>⟨fun _=>h,fun e=>(by cases e)⟩⟩
theorem yzc {g:Gd} {f:FuncId} {args:List Value} {sh:Shp} {draw:Bool} {K:Kop} {pr:z1i} {H:Hp}:NF.vc P draw K pr H (.cg false g f args sh)↔NF.vc P draw K pr H (.pu none (some (g,.lit (sh.mk (sh.leaves.map z0x.dflt))))) :=
 ⟨fun h=>h.2 rfl,fun h=>⟨fun e=>(by cases e),fun _=>h⟩⟩

theorem zng {y x x':NF} (e:∀ K pr H,NF.vc P true K pr H x↔NF.vc P true K pr H x') (h:z0j P y x'):z0j P y x:=fun K pr H hx hv=>by
 rw [e]
 refine h K pr H hx (yzh hv hx fun s p H' _ h'=>?_)
 rw [← e]; exact h'
theorem znf {y y' x:NF} (e:∀ K pr H,NF.vc P true K pr H y↔NF.vc P true K pr H y') (h:z0j P y' x):z0j P y x:=fun K pr H hx hv=>by
 rw [e] at hv
 refine yzh (h K pr H hx hv) hx fun s p H' _ h'=>?_
 rw [e]; exact h'

theorem zn6 {C:Cfg} {oy ox:Oper} {y x:NF} (hy:NFk C oy y) (hx:NFk C ox x) (hs:swp (cls C oy) (cls C ox)=true) (hd:∀ d,oy.dst=some d→ox.dst≠some d) (ny:y0q y=false):z0j P y x:=by
 cases x with
 | ag gb s ob =>
  cases gb with
  | true=>exact zng (fun _ _ _=>yzb) (zn5 (x:=.al none s ob) hy hx hs hd ny rfl)
  | false=>exact zng (fun _ _ _=>yza) zn9
 | cg gb g0 f args sh =>
  cases gb with
  | true=>exact zng (fun _ _ _=>yzd) (zn5 (x:=.cf g0 f args sh) hy hx hs hd ny rfl)
  | false=>exact zng (fun _ _ _=>yzc) zn9
 | _=>exact zn5 hy hx hs hd ny rfl

theorem zn4 {C:Cfg} {oy ox:Oper} {y x:NF} (hy:NFk C oy y) (hx:NFk C ox x) (hs:swp (cls C oy) (cls C ox)=true) (hd:∀ d,oy.dst=some d→ox.dst≠some d):z0j P y x:=by
 cases y with
 | ag gb s ob =>
  cases gb with
  | true=>exact znf (fun _ _ _=>yzb) (zn6 (y:=.al none s ob) hy hx hs hd rfl)
  | false=>exact znf (fun _ _ _=>yza) zn8
 | cg gb g0 f args sh =>
  cases gb with
  | true=>exact znf (fun _ _ _=>yzd) (zn6 (y:=.cf g0 f args sh) hy hx hs hd rfl)
  | false=>exact znf (fun _ _ _=>yzc) zn8
 | _=>exact zn6 hy hx hs hd rfl

end
end Go.Eng
end
section
/- The engine,part L: what an operation y4v at; operations of one region change places. Conditions: none. -/
namespace Go.Eng

theorem zqf {env:Env} {d:Nat} {s:Sl} {g:Gd} {x:Operand} (hm:y6b d g=false) (hx:x≠.tmp d):(env.put d s).ev g x=env.ev g x:=by
 cases x with
 | tmp t =>
  have ht:t≠d:=fun e=>hx (by rw [e])
  simp only [Env.ev]
  rw [Env.put_ne ht]
  cases he:env t with
  | none=>rfl
  | some y =>
   obtain ⟨g',v⟩:=y
   simp only
   cases hm':y6b d g' with
   | false=>rfl
   | true =>
    simp only
    cases hs:zw6 g' g with
    | false=>rfl
    | true =>
     obtain ⟨p,hp,e⟩:=y6c.1 hm'
     have:=y6c.2 ⟨p,zw7.1 hs p hp,e⟩
     rw [hm] at this; cases this
 | _=>rfl

theorem zwl {env:Env} {d:Nat} {s:Sl}:∀ {g:Gd},y6b d g=false→(env.put d s).gb g=env.gb g
 | [],_=>rfl
 | (t,w) :: g,hm=>by
  simp only [y6b,Bool.or_eq_false_iff] at hm
  have ht:t≠d:=fun e=>by subst e; rw [Nat.beq_refl] at hm; cases hm.1
  have ih:=zwl (env:=env) (s:=s) hm.2
  have hp:=Env.put_ne (env:=env) (x:=s) ht
  simp only [Env.gb,ih]
  cases he:env t with
  | none=>rw [he] at hp; simp only at hp; rw [hp]
  | some y =>
   obtain ⟨g',v⟩:=y
   rw [he] at hp
   simp only at hp
   cases hm':y6b d g' with
   | false=>rw [hm'] at hp; rw [hp]
   | true =>
    rw [hm'] at hp
    rw [hp]
    cases v with
    | ptr j o=>rfl
    | lit v =>
     cases v with
     | bool x =>
      simp only
      cases hq:gEq g' g with
      | false=>rfl
      | true=>rw [zw0 hq,hm.2] at hm'; cases hm'
     | _=>rfl

section
variable {env env':Env} {g:Gd}

theorem z5d:∀ {xs:List Operand},(∀ x∈xs,env'.ev g x=env.ev g x)→z5c env' g xs=z5c env g xs
 | [],_=>rfl
 | x :: xs,h=>by
  simp only [z5c]
  rw [h x (List.mem_cons_self ..),z5d (xs:=xs) fun y hy=>h y (List.mem_cons_of_mem _ hy)]

theorem ycc:∀ {xs:List Operand},(∀ x∈xs,env'.ev g x=env.ev g x)→opsv env' g xs=opsv env g xs
 | [],_=>rfl
 | x :: xs,h=>by
  simp only [opsv]
  rw [h x (List.mem_cons_self ..),ycc (xs:=xs) fun y hy=>h y (List.mem_cons_of_mem _ hy)]

theorem ypm {x:Operand} (h:env'.ev g x=env.ev g x):rho env' g x=rho env g x:=by simp only [rho,h]

theorem yce {d:Int} {x:Option Operand} (h:∀ y,x=some y→env'.ev g y=env.ev g y):ycd env' g d x=ycd env g d x:=by
 cases x with
 | none=>rfl
 | some y=>simp only [ycd,h y rfl]

theorem ybr {C:Cfg} {gb:Bool} {o:Oper} (h:∀ x∈o.op.operands,env'.ev g x=env.ev g x)
  (hp:∀ tc a b,o.op=.pick (.tmp tc) a b→∀ w,env'.ev ((tc,w) :: g) a=env.ev ((tc,w) :: g) a∧env'.ev ((tc,w) :: g) b=env.ev ((tc,w) :: g) b) :
  ybq C env' g gb o=ybq C env g gb o:=by
 have hl:z5c env' g o.op.operands.toList=z5c env g o.op.operands.toList:=z5d fun x hx=>h x (by simpa using hx)
 have hr:(∀ cs b,o.op≠.select cs b)→execOp (rho env' g) o=execOp (rho env g) o:=fun hs=>execOp_congr o hs fun x hx=>ypm (h x hx)
 unfold ybq
 cases hop:o.op with
 | move x=>rw [hop] at h; simp only [y79]; rw [h x (by simp [Op.operands])]
 | assign x=>rw [hop] at h; simp only [y79]; rw [h x (by simp [Op.operands])]
 | nilCheck x=>rw [hop] at h; simp only [ya5]; rw [h x (by simp [Op.operands])]
 | pick c a b =>
  cases c with
  | tmp tc =>
   rw [hop] at h
   simp only [yhc]
   rw [h (.tmp tc) (by simp [Op.operands]),(hp tc a b hop true).1,(hp tc a b hop false).2]
  | _=>rfl
 | binOp op t x y u=>rw [hop] at h; simp only; rw [h x (by simp [Op.operands]),h y (by simp [Op.operands])]
 | unOp op t x =>
  rw [hop] at h
  cases op <;> simp only <;> rw [h x (by simp [Op.operands])]
 | convert s t x=>rw [hop] at h; simp only; rw [h x (by simp [Op.operands])]
 | fieldAddr t x f=>rw [hop] at h; simp only; rw [h x (by simp [Op.operands])]
 | indexAddr t x i=>rw [hop] at h; simp only; rw [h x (by simp [Op.operands]),h i (by simp [Op.operands])]
 | index t x i=>rw [hop] at h; simp only; rw [h x (by simp [Op.operands]),h i (by simp [Op.operands])]
 | load t x =>
  rw [hop] at h
  cases x with
  | tmp x=>simp only [y4s]; rw [h (.tmp x) (by simp [Op.operands])]
  | _=>rfl
 | store t x y =>
  rw [hop] at h
  cases x with
  | tmp x=>simp only [yvg]; rw [h (.tmp x) (by simp [Op.operands]),h y (by simp [Op.operands])]
  | _=>rfl
 | alloc t =>
  simp only
  cases o.dst with
  | none=>rfl
  | some d=>simp only [y8f,yde,hl,hr (by simp [hop])]
 | box t x =>
  simp only
  cases o.dst with
  | none=>rfl
  | some d=>simp only [y8f,yde,hl,hr (by simp [hop])]
 | buildSlice t n ps=>simp only [y8f,hl,hr (by simp [hop])]
 | makeMap t r =>
  cases r with
  | none=>simp only [y8f,hl,hr (by simp [hop])]
  | some x=>rfl
 | build t ps=>simp only [yji,hl,hr (by simp [hop])]
 | field t x f=>simp only [yji,hl,hr (by simp [hop])]
 | extract x i=>simp only [yji,hl,hr (by simp [hop])]
 | makeFunc f xs ys=>simp only [yji,hl,hr (by simp [hop])]
 | slice t x lo hi mx =>
  rw [hop] at h
  simp only
  have hlo:∀ d,ycd env' g d lo=ycd env g d lo:=fun d=>yce fun y e=>h y (by subst e; simp [Op.operands])
  have hhi:∀ d,ycd env' g d hi=ycd env g d hi:=fun d=>yce fun y e=>h y (by subst e; simp [Op.operands])
  have hmx:∀ d,ycd env' g d mx=ycd env g d mx:=fun d=>yce fun y e=>h y (by subst e; simp [Op.operands])
  rw [h x (by simp [Op.operands])]
  simp only [hlo,hhi,hmx]
 | makeSlice t l c=>rw [hop] at h; simp only; rw [h l (by simp [Op.operands]),h c (by simp [Op.operands])]
 | call c =>
  rw [hop] at h
  have ha:opsv env' g c.args.toList=opsv env g c.args.toList:=ycc fun x hx=>h x (by simp only [Op.operands,Call.operands]; simp at hx ⊢; exact .inr hx)
  dsimp only
  cases hc:c.callee with
  | value x =>
   have hx:=h x (by simp [Op.operands,Call.operands,hc])
   simp only [ha]
   cases opsv env g c.args.toList with
   | none=>rfl
   | some args =>
    simp only [za4]
    cases x <;> first | rfl | simp only [hx]
  | builtin b =>
   simp only [za3,ha]
  | invoke x m=>rfl
 | lookup t x i b=>rw [hop] at h; simp only; rw [h x (by simp [Op.operands]),h i (by simp [Op.operands])]
 | mapUpdate t m x y=>rw [hop] at h; simp only; rw [h m (by simp [Op.operands]),h x (by simp [Op.operands]),h y (by simp [Op.operands])]
 | range t x=>rw [hop] at h; simp only; rw [h x (by simp [Op.operands])]
 | next x b=>rw [hop] at h; simp only; rw [h x (by simp [Op.operands])]
 | entry x=>rw [hop] at h; simp only; rw [h x (by simp [Op.operands])]
 | _=>rfl

end

def Fg (g:Gd) (x:Sl):Prop:=∀ g1 v0,x=some (g1,v0)→g1=g

def NFG (g:Gd):NF→Prop
 | .bad=>True
 | .pu _ x=>Fg g x
 | .px _ _ x=>∀ vs,Fg g (x vs)
 | .rd _ _ x=>∀ vs,Fg g (x vs)
 | .ow f=>∀ pr x pr',f pr=some (x,pr')→Fg g x
 | .al _ x _=>∀ b,Fg g (x b)
 | .ag _ x _=>∀ b,Fg g (x b)
 | .cf g0 _ _ _=>g=[]∧g0=[]
 | .cg _ g0 _ _ _=>g0=g
 | .ce _ _ _=>g=[]
 | .cy _ _ _=>g=[]
 | .cv _ _ _=>g=[]
 | .ef _ _=>g=[]
 | .st _ _=>True

theorem Fg.some {g:Gd} {v:V0}:Fg g (some (g,v)):=fun _ _ h=>by cases h; rfl
theorem Fg.none {g:Gd}:Fg g Option.none:=fun _ _ h=>by cases h

theorem y8q {C:Cfg} {env:Env} {g:Gd} {gb:Bool} {x:Operand} {args:List Value} {sh:Shp}:NFG g (za4 C g gb x args sh env):=by
 unfold za4
 (repeat' split) <;> first | trivial | exact (fun _=>Fg.some) | rfl | exact ⟨rfl,rfl⟩

theorem y8r {C:Cfg} {env:Env} {g:Gd} {gb:Bool} {o:Oper}:NFG g (ybq C env g gb o):=by
 unfold ybq
 (repeat' split) <;> first
  | trivial
  | exact Fg.some
  | exact (fun _=>Fg.some)
  | exact y8q
  | (unfold y79; split <;> first | exact Fg.some | exact Fg.none)
  | (unfold ya5; (repeat' split) <;> first | exact Fg.some | trivial)
  | (unfold yhc; (repeat' split) <;> first | exact Fg.some | trivial)
  | (unfold yb2; split <;> first | exact Fg.some | trivial)
  | (unfold zno; (repeat' split) <;> first | exact Fg.some | trivial)
  | (unfold zzc; (repeat' split) <;> first | exact Fg.some | trivial)
  | (unfold yji; (repeat' split) <;> first | exact Fg.some | trivial)
  | (unfold za3; (repeat' split) <;> first | exact Fg.some | trivial | rfl)
  | (unfold y8f; (repeat' split) <;> first | trivial | exact (fun _=>Fg.some))
  | (unfold y4s; (repeat' split) <;> first | trivial | exact (fun _=>Fg.some) | (intro pr x pr' hf; dsimp only at hf; (repeat' split at hf) <;> first | (cases hf; exact Fg.some) | cases hf))
  | (unfold yvg; (repeat' split) <;> first | trivial | (intro pr x pr' hf; dsimp only at hf; (repeat' split at hf) <;> first | (cases hf; exact Fg.none) | cases hf))
  | (unfold yde; (repeat' split) <;> first | trivial | (intro pr x pr' hf; dsimp only at hf; (repeat' split at hf) <;> first | (cases hf; exact Fg.some) | cases hf))

theorem y72 {p:Addr} {gb:Bool} {g:Gd}:z13 fun vs H=>imp gb (zag H p 0 vs) g:=by
 intro vs H H' hl h
 have key:∀ (vs:List Value) (i:Nat),zag H p i vs→zag H' p i vs:=by
  intro vs
  induction vs with
  | nil=>intro i _; trivial
  | cons v vs ih =>
   intro i h
   cases vs with
   | nil=>exact Hp.at_le hl h
   | cons u us=>exact ⟨Hp.at_le hl h.1,ih _ h.2⟩
 cases g with
 | nil=>exact key vs 0 h
 | cons a g=>exact fun hb=>key vs 0 (h hb)

theorem zzi {gb:Bool} {g:Gd} {p q:Prop} (h:imp gb p g) (hq:p→q):imp gb q g:=by
 cases g with
 | nil=>exact hq h
 | cons a g=>exact fun hb=>hq (h hb)

theorem QfV.up {P:Program} {F:Value} {args:List Value} {H Hb:Hp} {v:Value} (h:QfV P F args H v) (hl:Hp.le H Hb):QfV P F args Hb v:=by
 obtain ⟨f,first,cap,h1,h2,h3⟩:=h
 exact ⟨f,first,cap,h1,h2,Qf.up h3 hl⟩

theorem OpQ.up {P:Program} {s:Sem Next} {H Hb:Hp} {v:Value} (h:OpQ P s H v) (hl:Hp.le H Hb):OpQ P s Hb v:=fun w hv=>h w (hv.mono hl)

theorem y8s {C:Cfg} {env:Env} {g:Gd} {gb:Bool} {x:Operand} {c:Call} {args:List Value} {o:Oper} (ho:o.op=.call c) (hc:c.callee=.value x):NFk C o (za4 C g gb x args (shp C.P o.type) env):=by
 unfold za4
 split
 ·rename_i f
  split
  ·split
   ·split
    ·rename_i hf
     exact ⟨by simp [cls,ho,hc,hf],fun vs H H' hl h=>zzi h fun h=>Qf.up h hl⟩
    ·rename_i hf
     split
     ·split
      ·rename_i h2; exact (by simp [cls,ho,hc,hf,h2]:cls C o=11)
      ·rename_i h2; exact (by simp [cls,ho,hc,hf,h2]:cls C o=6)
     ·split
      ·trivial
      ·rename_i h2; exact (by simp [cls,ho,hc,hf,h2]:cls C o=6)
   ·split
    ·rename_i hf
     exact ⟨by simp [cls,ho,hc,hf],fun vs H H' hl h=>zzi h fun h=>OpQ.up h hl⟩
    ·trivial
  ·trivial
 ·split
  ·rename_i hyl
   (repeat' split) <;> first | trivial | (show cls C o=11; cases x <;> first | (simp [cls,ho,hc,hyl]; done) | exact (‹∀ f:FuncId,Operand.func _=Operand.func f→False› _ rfl).elim)
  rename_i hyl
  split
  ·split
   ·rename_i hf
    refine ⟨?_,fun vs H H' hl h=>zzi h fun h=>QfV.up h hl⟩
    cases x <;> first | (simp [cls,ho,hc,hf,hyl]; done) | exact (‹∀ f:FuncId,Operand.func _=Operand.func f→False› _ rfl).elim
   ·rename_i hf
    split
    ·show cls C o=6
     cases x <;> first | (simp [cls,ho,hc,hf,hyl]; done) | exact (‹∀ f:FuncId,Operand.func _=Operand.func f→False› _ rfl).elim
    ·trivial
  ·trivial

theorem y8t {C:Cfg} {env:Env} {g:Gd} {gb:Bool} {o:Oper} {t:TypeId} {x:Nat} (ho:o.op=.load t (.tmp x)):NFk C o (y4s C env g gb t x):=by
 unfold y4s
 split
 ·rename_i j off hpv _ _
  split
  ·rename_i hnm
   refine ⟨.inl ⟨by simp [cls,ho,hpv],j,fun pr=>⟨fun hj=>by dsimp only; rw [hj],fun x p' hf=>?_⟩⟩,fun j' hj'=>?_⟩
   ·dsimp only at hf
    cases hj:pr j with
    | none=>simp [hj] at hf
    | some y =>
     obtain ⟨cs,e⟩:=y
     simp only [hj] at hf
     split at hf
     ·rename_i hle
      cases hf
      exact ⟨rfl,fun pr2 h2=>by simp only [h2,hle]⟩
     ·cases hf
   ·have hjj:j'=j:=by
     simp only [z95,ho,hpv,Option.some.injEq] at hj'
     rw [← hj']; exact (Nat.beq_iff _ _).1 hnm
    subst hjj
    refine ⟨fun b=>match b with
     | some (cs,e)=>match Nat.ble (off+C.P.cellsOf t) cs.length with
      | true=>some (some (g,.lit (mkV (z56 C.P t) ((cs.drop off).take (C.P.cellsOf t)))),some (cs,e))
      | false=>none
     | none=>none,fun pr=>?_⟩
    dsimp only
    cases hj:pr j' with
    | none=>rfl
    | some y =>
     obtain ⟨cs,e⟩:=y
     dsimp only
     cases Nat.ble (off+C.P.cellsOf t) cs.length with
     | true=>dsimp only; rw [← hj,z1i.set_self]
     | false=>rfl
  ·trivial
 ·rename_i p hpv _ _
  split
  ·exact ⟨by simp [cls,ho,hpv],y72⟩
  ·trivial
 ·trivial

theorem y8w {C:Cfg} {env:Env} {g:Gd} {o:Oper} {t:TypeId} {x:Nat} {y:Operand} (ho:o.op=.store t (.tmp x) y):NFk C o (yvg C env g t x y):=by
 unfold yvg
 split
 ·rename_i _ j off v hpv _ _
  simp only [Bool.and_eq_true] at hpv
  split
  ·rename_i hck
   simp only [Bool.and_eq_true] at hck
   refine ⟨.inr (.inr (by simp [cls,ho,hpv.1.1])),fun j' hj'=>?_⟩
   have hjj:j'=j:=by
    simp only [z95,ho,hpv.1.1,Option.some.injEq] at hj'
    rw [← hj']; exact (Nat.beq_iff _ _).1 hck.2
   subst hjj
   refine ⟨fun b=>match b with
    | some (cs,e)=>match Nat.ble (off+C.P.cellsOf t) cs.length with
     | true=>some (none,some (yrd cs off (yzl (z56 C.P t) v),e))
     | false=>none
    | none=>none,fun pr=>?_⟩
   dsimp only
   cases hj:pr j' with
   | none=>rfl
   | some y =>
    obtain ⟨cs,e⟩:=y
    dsimp only
    cases Nat.ble (off+C.P.cellsOf t) cs.length <;> rfl
  ·trivial
 ·rename_i _ _ _ hpv _ _
  simp only [Bool.or_eq_false_iff] at hpv
  split
  ·exact (by simp [cls,ho,hpv.1.1]:cls C o=8)
  ·trivial
 ·trivial

theorem y8v {C:Cfg} {env:Env} {g:Gd} {o:Oper} {d:Nat} (hd:o.dst=some d) (hpv:C.pv d=true) (ho:(∃ t,o.op=.alloc t)∨(∃ t x,o.op=.box t x)):NFk C o (yde C.P env g o d):=by
 unfold yde
 split
 ·split
  ·refine ⟨.inr (.inl ⟨?_,d,hd,_,_,fun pr=>rfl⟩),fun j' hj'=>?_⟩
   ·rcases ho with ⟨t,ho⟩ | ⟨t,x,ho⟩ <;> simp [cls,ho,hd,hpv]
   ·have hjj:j'=d:=by
     rcases ho with ⟨t,ho⟩ | ⟨t,x,ho⟩ <;> simp only [z95,ho,hd,hpv,Option.some.injEq] at hj' <;> exact hj'.symm
    subst hjj
    rename_i c t _ _
    refine ⟨fun b=>match b with
     | none=>some (some ([],.ptr j' 0),some (c.toList,t))
     | some _=>none,fun pr=>?_⟩
    dsimp only
    cases hj:pr j' <;> rfl
  ·trivial
 ·trivial

theorem y8u {C:Cfg} {env:Env} {g:Gd} {gb:Bool} {o:Oper}:NFk C o (ybq C env g gb o):=by
 unfold ybq
 (repeat' split) <;> rename_i ho <;> first
  | trivial
  | exact y8s (by assumption) (by assumption)
  | (simp [NFk,cls, *]; done)
  | (unfold y79; split <;> simp [NFk,cls, *]; done)
  | (unfold ya5; (repeat' split) <;> simp [NFk,cls, *]; done)
  | (unfold yhc; (repeat' split) <;> simp [NFk,cls, *]; done)
  | (unfold yb2; split <;> simp [NFk,cls, *]; done)
  | (unfold zno; (repeat' split) <;> simp [NFk,cls, *]; done)
  | (unfold zzc; (repeat' split) <;> simp [NFk,cls, *]; done)
  | (unfold yji; (repeat' split) <;> simp [NFk,cls, *]; done)
  | (unfold y8f; (repeat' split) <;> simp [NFk,cls, *]; done)
  | (unfold za3; (repeat' split) <;> simp [NFk,cls, *]; done)
  | exact y8t ho
  | exact y8w ho
  | exact y8v (by assumption) ho (.inl ⟨_,by assumption⟩)
  | exact y8v (by assumption) ho (.inr ⟨_,_,by assumption⟩)
  | exact ⟨by simp [cls, *],fun vs H H' hl h=>zzi h fun h w hv=>h w (hv.mono hl)⟩

end Go.Eng
end
