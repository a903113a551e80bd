/- The engine, parts EngU, EngV, put together. Conditions: none. -/
import Derived.Test.YtlbdpklikfddlaaGreatE3
set_option linter.unusedVariables false
section
/- The engine, part U: a range over a function: the law of the walk, the function that holds one. Conditions: none. -/
namespace Go.Eng

theorem Tr.lput {w w1:World} {H H1:Hp} (h:Tr w H w1 H1) {L:Nat} {o:Obj} (hn:H L=Option.none) (hv:w.heap[L]?=some o) (o':Obj):Tr w (H.put L o) (w1.putObj L o') (H1.put L o'):=by
 have hlt:=(Array.getElem?_eq_some_iff.1 hv).1
 have hlt1:L<w1.heap.size:=Nat.lt_of_lt_of_le hlt h.size
 refine ⟨fun b ob hb=>?_,fun b hb hbn=>?_,fun b hb=>?_,by rw [World.putObj_size]; exact h.size,h.os,h.tape,h.output,h.drawn⟩
 ·by_cases e:b=L
  ·subst e; rw [Hp.put_same] at hb; cases hb; exact World.putObj_heap_same hlt1
  ·rw [Hp.put_ne _ _ e] at hb
   rw [World.putObj_heap_other e]; exact h.view b ob hb
 ·have e:b≠L:=fun e=>by subst e; rw [Hp.put_same] at hbn; cases hbn
  rw [Hp.put_ne _ _ e] at hbn
  rw [World.putObj_heap_other e]; exact h.frame b hb hbn
 ·by_cases e:b=L
  ·subst e; left; simp
  ·rw [Hp.put_ne _ _ e] at hb ⊢
   exact h.fresh b hb
theorem Tr.putHid {w0 w:World} {H0 H:Hp} (h:Tr w0 H0 w H) {b:Nat} (hn:H b=Option.none) (hb:w0.heap.size≤b) (o:Obj):Tr w0 H0 (w.putObj b o) H:=by
 refine ⟨fun k ob hk=>?_,fun k hk hkn=>?_,h.fresh,by rw [World.putObj_size]; exact h.size,h.os,h.tape,h.output,h.drawn⟩
 ·have e:k≠b:=fun e=>by subst e; rw [hn] at hk; cases hk
  rw [World.putObj_heap_other e]; exact h.view k ob hk
 ·rw [World.putObj_heap_other (by omega)]; exact h.frame k hk hkn
theorem View.of_put {w:World} {H:Hp} {L:Nat} {o:Obj} (h:View w (H.put L o)) (hn:H L=none):View w H∧w.heap[L]?=some o :=
 ⟨h.mono (Hp.put_le H o hn),h L o (by simp)⟩
theorem EnvOk.ds {n:Nat} {d d':List Nat} {env:Env} {pr:Priv} {ids:Nat→Nat} {a b:Act} (h:EnvOk n d env pr ids a) (hd:(⟨a.tmps,d'.map dfr⟩:Act)=b):EnvOk n d' env pr ids b:=by
 subst hd
 exact ⟨h.size,rfl,h.ok,h.no,h.known⟩
theorem PrivOk.none {pr:Priv} {ids:Nat→Nat} {H:Hp} {w:World} {B:Nat} (h:∀ j,pr j=Option.none):PrivOk [] pr ids H w B :=
 ⟨fun j _ _ hj=>(by rw [h j] at hj; cases hj),fun j hj=>absurd (h j) hj,fun j hj=>absurd (h j) hj,fun j _ hj=>absurd (h j) hj,fun _ hD=>(by cases hD)⟩

def putPs:List (Nat × Value)→Env→Env
 | [],env=>env
 | (p,v) :: l,env=>putPs l (env.put p (some ([],.lit v)))
theorem putPs_ok {n:Nat} {pr:Priv} {ids:Nat→Nat}:∀ (l:List (Nat × Value)) {env:Env} {t:Array Value},(∀ x∈l,x.1<n)→EnvOk n [] env pr ids { tmps:=t,defers:=[] } →
  EnvOk n [] (putPs l env) pr ids { tmps:=l.foldl (fun t (x:Nat × Value)=>t.setIfInBounds x.1 x.2) t,defers:=[] }
 | [],_,_,_,h=>h
 | (p,v) :: l,env,t,hl,h=>by
  refine putPs_ok l (fun x hx=>hl x (List.mem_cons_of_mem _ hx)) ?_
  have:=h.put (d:=p) (x:=some ([],.lit v)) (v:=v) (hl (p,v) List.mem_cons_self) fun g1 v0 e=>by
   cases e
   exact ⟨rfl,fun _=>rfl,fun hn=>absurd (by simp [gH]) hn,trivial⟩
  exact this
theorem foldl_zip (ps:Array Tmp) (vs:List Value) (t:Array Value):(ps.zip vs.toArray).foldl (fun t (x:Tmp × Value)=>t.setIfInBounds x.1 x.2) t=(ps.toList.zip vs).foldl (fun t (x:Nat × Value)=>t.setIfInBounds x.1 x.2) t:=by
 rw [← Array.foldl_toList,Array.toList_zip]

structure RangeOk (C:Cfg) (g:Operand) (ps:Array Tmp) (assign body:Code) (Kn:Hp→Prop) (st:St) (H:Hp):Prop where
 priv:∀ j,st.priv j=none
 small:∀ p∈ps.toList,p<C.n
 go:∃ (gf:FuncId) (lb:Array Value) (α:Type) (encs:α→List Value) (xs:List α) (Inv:List α→Hp→Prop) (Ok:α→Hp→Prop),
  st.env.ev [] g=some (.lit (.func (.func gf) #[] lb))∧callable C.P gf∧(∀ x,(encs x).length=ps.size)∧Inv [] H ∧
  (∀ pre x H',Inv pre H'→Ok x H'→vc C assign (fun e st' H2=>e=.normal∧(∀ j,st'.priv j=none)∧vc C body (fun e _ H3=>e=.normal∧Inv (pre++[x]) H3) st' H2) ⟨putPs (ps.toList.zip (encs x)) st.env,st.priv⟩ H') ∧
  (∀ (L:Nat) (o:Obj),H L=none →
   (∀ pre x H',Inv pre H'→Ok x H'→H' L=none→FnY C.P L (encs x) (H'.put L o) fun v Hx=>v=.bool true∧∃ H3,Inv (pre++[x]) H3∧H3 L=none∧Hx=H3.put L o) →
   Fn C.P gf (#[.func (.yield L) #[] #[]]++lb) (H.put L o) fun _ Hx=>∃ H3,Inv xs H3∧H3 L=none∧Hx=H3.put L o) ∧
  ∀ H3,Inv xs H3→Kn H3

set_option maxHeartbeats 1000000 in
theorem wp_rangeFunc {C:Cfg} {w0:World} {H0:Hp} (hN:NoCount C.P) (hM:C.P.follows .mixedOrders=true) {g:Operand} {ps:Array Tmp} {assign body:Code} {Kn:Hp→Prop} {st:St} {H:Hp} {a:Act} {w:World}
  (hr:RangeOk C g ps assign body Kn st H) (hs:Sim C.n [] w0 H0 st H a w) :
  (Code.rangeFunc g ps assign body).wpIn (Fz none) 0 C.P (fun e a w'=>e=.normal∧∃ D H3,Sim C.n [D] w0 H0 st H3 a w'∧Kn H3) a w:=by
 obtain ⟨hpr,hsm,gf,lb,α,encs,xs,Inv,Ok,hg,hc,hps,h0,hbody,hit,hK⟩:=hr
 obtain ⟨ids,hE,hP,hT⟩:=hs
 refine wpIn_rangeFunc ?_
 intro fn hfn
 obtain ⟨rec,hrec⟩:∃ rec:LoopState→Option Code→Loop,rec=fun s pe=>{ state:=s,pending:=pe,fn,tmps:=a.tmps,params:=ps,assign,body,defers:=w.heap.size }:=⟨_,rfl⟩
 obtain ⟨D,hD⟩:∃ D,D=w.heap.size:=⟨_,rfl⟩
 obtain ⟨L,hL⟩:∃ L,L=w.heap.size+1:=⟨_,rfl⟩
 have hgv:a.eval g=.func (.func gf) #[] lb:=hE.ev (g:=[]) (by simp [gH]) hg
 obtain ⟨fnr,hf1,hf2⟩:=hc
 -- the two blocks
 obtain ⟨hDn,t1⟩:=Tr.alloc hT.view (.deferred (some []))
 have t1':Tr w H (w.alloc (.deferred (some []))) H:=t1.forget (Hp.put_le H _ hDn)
 obtain ⟨hLn,t2⟩:=Tr.alloc t1'.view (.loop (rec .ready none))
 have eL:(w.alloc (.deferred (some []))).heap.size=L:=by rw [World.size_alloc,hL]
 have t3:=t1'.trans t2
 rw [eL] at hLn t3
 obtain ⟨W1,hW1⟩:∃ W1,(w.alloc (.deferred (some []))).alloc (.loop (rec .ready none))=W1:=⟨_,rfl⟩
 have t3:Tr w H W1 (H.put L (.loop (rec .ready none))):=by rw [← hW1]; exact t3
 have hD1:W1.heap[D]?=some (.deferred (some [])):=by
  rw [← hW1,hD]
  have e1:((w.alloc (.deferred (some []))).alloc (.loop (rec .ready none))).heap[w.heap.size]?=(w.alloc (.deferred (some []))).heap[w.heap.size]?:=by
   show ((w.alloc (.deferred (some []))).heap.push _)[w.heap.size]?=_
   rw [Array.getElem?_push,if_neg (by rw [World.size_alloc]; omega)]
  rw [e1]; exact World.alloc_heap_new w _
 have round:∀ pre x H',Inv pre H'→Ok x H'→H' L=none→FnY C.P L (encs x) (H'.put L (.loop (rec .ready none))) fun v Hx=>v=.bool true∧∃ H3,Inv (pre++[x]) H3∧H3 L=none∧Hx=H3.put L (.loop (rec .ready none)):=by
  intro pre x H' hi hox hn W hv
  obtain ⟨hvH,hWL⟩:=hv.of_put hn
  have hy:=run_yield (P:=C.P) (args:=(encs x).toArray) hWL (by rw [hrec]; simpa using hps x)
  rw [hrec] at hy
  refine ⟨fn,_,assign,body,hy,roundIn_of_wpIn trivial ?_⟩
  have eR:(Fence.wide.inRound L)=Fz (some L):=rfl
  rw [eR]
  have hEx:EnvOk C.n [] (putPs (ps.toList.zip (encs x)) st.env) st.priv ids { tmps:=(ps.zip (encs x).toArray).foldl (fun t (p,v)=>t.setIfInBounds p v) a.tmps,defers:=[] }:=by
   have:=putPs_ok (ps.toList.zip (encs x)) (fun y hy=>hsm _ (List.of_mem_zip hy).1) (hE.ds (d':=[]) (b:={ tmps:=a.tmps,defers:=[] }) rfl)
   rw [← foldl_zip] at this
   exact this
  refine wpIn_mono (code_sound (ds:=[]) (ro:=some L) (w0:=W) (H0:=H') hN hM assign (hbody pre x H' hi hox) ⟨ids,hEx,PrivOk.none hpr,Tr.refl hvH⟩) ?_
  rintro e a1 W1 ⟨st1,H2,⟨ids1,hE1,hP1,hT1⟩,rfl,hp1,hb1⟩
  have hL1:W1.heap[L]?=some (.loop (rec .ready none)):=(hT1.frame L (Array.getElem?_eq_some_iff.1 hWL).1 hn).trans hWL
  have hLn2:H2 L=none:=hT1.none (Array.getElem?_eq_some_iff.1 hWL).1 hn
  refine ⟨_,run_beginRound hL1 (by rw [hrec]),?_⟩
  have ta:=hT1.lput hn hWL (.loop { rec .ready none with state:=.busy })
  obtain ⟨hv2,hWL2⟩:=ta.view.of_put hLn2
  refine wpIn_mono (code_sound (ds:=[]) (ro:=some L) (H0:=H2) hN hM body hb1 ⟨ids1,hE1,PrivOk.none hp1,Tr.refl hv2⟩) ?_
  rintro e a3 W3 ⟨st3,H3,⟨ids3,_,_,hT3⟩,rfl,hi3⟩
  have hL3:=(hT3.frame L (Array.getElem?_eq_some_iff.1 hWL2).1 hLn2).trans hWL2
  have hLn3:H3 L=none:=hT3.none (Array.getElem?_eq_some_iff.1 hWL2).1 hLn2
  have tb:=hT3.lput hLn2 hWL2 (.loop (rec .ready none))
  refine ⟨_,_,?_,.bool true,_,rfl,ta.trans tb,rfl,H3,hi3,hLn3,rfl⟩
  have:=run_endRound (P:=C.P) none hL3
  rw [hrec] at this ⊢
  exact this
 have itc:=hit L (.loop (rec .ready none)) hLn round W1 t3.view
 have hent:(Instr.enterLoop fn a.tmps ps assign body none).run C.P w=.ok (L,[dfr D]) W1:=by
  rw [← hW1,hrec,hL,hD]; exact run_enterLoop_outer _ _ _ _ _
 have hres:(resolve a.eval (rangeCall g L) 0).run C.P W1=.ok { target:=.fn (.func gf) lb,args:=#[.func (.yield L) #[] #[]] } W1:=by
  simp only [resolve,hgv]
  simp [go_sem]
 have hinv:(invoke (.fn (.func gf) lb) #[.func (.yield L) #[] #[]]).run C.P W1=.ok (.enter gf (#[.func (.yield L) #[] #[]]++lb)) W1:=by
  simp [invoke,run_callFunc hN hf1 hf2]
 have hcall:CallsIn (Fz none) (0-1) C.P gf (#[.func (.yield L) #[] #[]]++lb) W1 (rangePost (Fz none) 0 C.P L (fun e a w'=>e=.normal∧∃ D H3,Sim C.n [D] w0 H0 st H3 a w'∧Kn H3) { a with defers:=[dfr D]++a.defers }):=by
  refine callsFz (itc.mono ?_)
  rintro e W2 ⟨v,Hx,rfl,hTx,H3,hi3,hLn3,rfl⟩
  obtain ⟨hv3,hL3⟩:=hTx.view.of_put hLn3
  refine ⟨none,_,by have:=run_endLoop (P:=C.P) hL3 (by rw [hrec]; simp); rw [hrec] at this; exact this,rfl,D,H3,?_,hK H3 hi3⟩
  have hDn1:(H.put L (.loop (rec .ready none))) D=none:=by rw [Hp.put_ne _ _ (by omega),hD]; exact hDn
  have hDlt:=(Array.getElem?_eq_some_iff.1 hD1).1
  have hDn3:H3 D=none:=by
   have:=hTx.none hDlt hDn1
   rwa [Hp.put_ne _ _ (by omega)] at this
  have hDh:W2.heap[D]?=some (.deferred (some [])):=(hTx.frame D hDlt hDn1).trans hD1
  have hsz:=hT.size
  refine ⟨ids,hE.ds (d':=[D]) (by rw [hE.defers]; rfl),⟨fun j _ _ hj=>(by rw [hpr j] at hj; cases hj),fun j hj=>absurd (hpr j) hj,fun j hj=>absurd (hpr j) hj,fun j _ hj=>absurd (hpr j) hj,fun D' hD'=>?_⟩,?_⟩
  ·rw [List.mem_singleton.1 hD']
   exact ⟨by omega,hDn3,(World.putObj_heap_other (by omega)).trans hDh⟩
  ·exact (((hT.trans t3).trans hTx).forget (Hp.put_le H3 _ hLn3)).putHid hLn3 (by omega) _
 refine ⟨L,[dfr D],W1,{ target:=.fn (.func gf) lb,args:=#[.func (.yield L) #[] #[]] },W1,gf,#[.func (.yield L) #[] #[]]++lb,W1,?_,?_,?_,?_,?_,?_⟩
 ·exact hent
 ·exact hres
 ·exact fun _ _=>trivial
 ·exact hinv
 ·exact fun h=>(by cases h)
 ·exact hcall

theorem Fn.of_wp {C:Cfg} {f:FuncId} {fn:Func} {c:Code} {args:List Value} {H:Hp} {post:Value→Hp→Prop} (hf:C.P.funcs[f]?=some fn) (hb:fn.body=some c) (hn:fn.ntmps=C.n) (ha:Nat.ble args.length C.n=true)
  (h:∀ w a,Sim C.n [] w H ⟨env0 args,fun _=>none⟩ H a w→c.wpIn (Fz none) 0 C.P (fun e a w'=>∃ ds,(ds=[]∨∃ D,ds=[D])∧Qk C.n ds w H (retK C fn.results.toList post) e a w') a w):Fn C.P f args.toArray H post:=by
 intro w hv
 have ha':=Nat.le_of_ble_eq_true ha
 refine (callsIn_wide (n:=0)).1 (callsIn_of_wp_marks hf hb trivial (wpIn_mono (h w _ ?_) ?_))
 ·refine ⟨fun _=>0,⟨by simp [hn]; omega,rfl,fun t g v ht _=>?_,fun t g v ht hg=>?_,fun t g v ht=>?_⟩,PrivOk.none fun _=>rfl,Tr.refl hv⟩
  ·obtain ⟨v',h1,h2⟩:=env0_get ht
   cases h2
   have hlt:t<args.length:=by
    rcases Nat.lt_or_ge t args.length with h | h
    ·exact h
    ·simp [List.getElem?_eq_none h] at h1
   simp only [V0.val]
   rw [Array.getD_eq_getD_getElem?,Array.getElem?_append_left (by simpa using hlt)]
   simp [h1]
  ·obtain ⟨v',h1,h2⟩:=env0_get ht
   cases h2
   exact absurd (by simp [gH]) hg
  ·obtain ⟨v',h1,h2⟩:=env0_get ht
   cases h2
   trivial
 ·intro e a w' ⟨ds,hds,st,H',⟨ids,hE,hP,hT⟩,hk⟩
  have fin:(match resVals C st fn.results.toList with
    | some [v]=>post v H'
    | some vs=>post (.tuple vs.toArray) H'
    | none=>False)→LeavesInM (Fz none) 0 C.P fn a.tmps (fun e w'=>∃ v H',e=.returned v∧Tr w H w' H'∧post v H') a.defers .returning w':=by
   intro hk
   have res:∀ w2,PrivOk [] st.priv ids H' w2 w.heap.size→Tr w H w2 H'→LeavesInM (Fz none) 0 C.P fn a.tmps (fun e w'=>∃ v H',e=.returned v∧Tr w H w' H'∧post v H') [] .returning w2:=by
    intro w2 hP2 hT2
    cases hr:resVals C st fn.results.toList with
    | none=>simp [hr] at hk
    | some vs =>
     rw [hr] at hk
     have hE2:EnvOk C.n [] st.env st.priv ids { tmps:=a.tmps,defers:=[] }:=hE.ds rfl
     have hrun:=run_results (C:=C) hE2 hP2 hr
     have hres:(results fn a.tmps).run C.P w2=.ok (if h:vs.toArray.size=1 then vs.toArray[0] else .tuple vs.toArray) w2:=by
      rw [results_eq,Sem.run_bind,Array.mapM_eq_mapM_toList,Sem.run_map,hrun]
      rfl
     refine ⟨_,hres,_,H',rfl,hT2,?_⟩
     split at hk
     ·rename_i v h1; cases h1; simpa using hk
     ·rename_i vs' hne h1
      cases h1
      have:vs.toArray.size≠1:=by
       intro hl
       obtain ⟨v,rfl⟩:=List.length_eq_one_iff.1 (by simpa using hl)
       exact hne v rfl
      rw [dif_neg this]; exact hk
     ·exact hk.elim
   rw [hE.defers]
   rcases hds with rfl | ⟨D,rfl⟩
   ·exact res w' hP hT
   ·obtain ⟨h1,h2,h3⟩:=hP.dfs D List.mem_cons_self
    refine ⟨by simp,.inl ⟨D,_,rfl,run_takeDeferred h3,res _ ⟨fun j cs t hj=>?_,hP.hid,hP.low,hP.inj,fun _ hD=>(by cases hD)⟩ (hT.putHid h2 h1 _)⟩⟩
    have hb:=hP.blk j cs t hj
    have hne:ids j≠D:=fun e=>by rw [e,h3] at hb; cases hb
    exact (World.putObj_heap_other hne).trans hb
  cases e with
  | normal=>exact fin hk
  | ret=>exact fin hk
  | _=>exact hk.elim

end Go.Eng
end
section
/- The engine,part V: functions with ranges over functions at their outermost level,out of their conditions. Conditions: none. -/
namespace Go.Eng

def OfL (ls:List Leaf) (vs:List Value):Prop:=∀ f:List Value→Prop,allL ls f→f vs
def PrivN (pr:Priv):Prop:=∀ j,pr j=none

def IterOk (P:Program) (F:Value) (H:Hp) {α:Type} (xs:List α) (Inv:List α→Hp→Prop) (Ok:α→List Value→Hp→Prop) (ar:List (Bool × List Leaf)):Prop :=
 ∃ (gf:FuncId) (lb:Array Value),F=.func (.func gf) #[] lb∧callable P gf∧∀ (L:Nat) (o:Obj),H L=none →
  (∀ pre x vs H',OfL (ar.flatMap (·.2)) vs→Inv pre H'→Ok x vs H'→H' L=none→FnY P L (tupVs ar vs) (H'.put L o) fun v Hx=>v=.bool true∧∃ H3,Inv (pre++[x]) H3∧H3 L=none∧Hx=H3.put L o) →
  Fn P gf (#[.func (.yield L) #[] #[]]++lb) (H.put L o) fun _ Hx=>∃ H3,Inv xs H3∧H3 L=none∧Hx=H3.put L o

def rangeVC (C:Cfg) (g:Operand) (ps:Array Tmp) (assign body:Code) (Kn:Hp→Prop) (st:St) (H:Hp):Prop :=
 match Nat.beq C.yp.length ps.size&&ps.toList.all (fun p=>Nat.blt p C.n) with
 | true=>match st.env.ev [] g with
  | some (.lit F)=>PrivN st.priv∧∃ (α:Type) (xs:List α) (Ok:α→List Value→Hp→Prop) (Inv:List α→Hp→Prop),IterOk C.P F H xs Inv Ok C.yp∧Inv [] H ∧
    (∀ (pre:List α) (x:α),allL (C.yp.flatMap (·.2)) fun vs=>∀ H',Inv pre H'→Ok x vs H'→vc C assign (fun e st' H2=>match e with
     | .normal=>PrivN st'.priv∧vc C body (fun e _ H3=>match e with
      | .normal=>Inv (pre++[x]) H3
      | _=>False) st' H2
     | _=>False) ⟨putPs (ps.toList.zip (tupVs C.yp vs)) st.env,st.priv⟩ H')∧∀ H3,Inv xs H3→Kn H3
  | _=>False
 | false=>False

def isRg:Code→Option (Code × Operand × Array Tmp × Code × Code)
 | .seq a (.block _ (.rangeFunc g ps s b))=>some (a,g,ps,s,b)
 | _=>none
def vcA (C:Cfg) (Kr:Kc):Code→St→Hp→Prop
 | .seq x b,st,H=>match isRg x with
  | some (a,g,ps,s,d)=>vc C a (fun e st H=>match e with
   | .normal=>rangeVC C g ps s d (fun H3=>vc C b Kr st H3) st H
   | e=>Kr e st H) st H
  | none=>vc C x (fun e st H=>match e with
   | .normal=>vcA C Kr b st H
   | e=>Kr e st H) st H
 | _,_,_=>False
def vcFA (C:Cfg) (fn:Func) (args:List Value) (H:Hp) (post:Value→Hp→Prop):Prop :=
 vcA C (retK C fn.results.toList post) (bodyOf fn) ⟨env0 args,fun _=>none⟩ H

theorem tupVs_len:∀ (l:List (Bool × List Leaf)) (vs:List Value),(tupVs l vs).length=l.length
 | [],_=>rfl
 | (_,_) :: l,vs=>congrArg (·+1) (tupVs_len l _)
theorem isRg_some {x a s b:Code} {g:Operand} {ps:Array Tmp} (h:isRg x=some (a,g,ps,s,b)):∃ id,x=.seq a (.block id (.rangeFunc g ps s b)):=by
 unfold isRg at h
 split at h
 ·cases h; exact ⟨_,rfl⟩
 ·cases h

theorem RangeOk.of {C:Cfg} {g:Operand} {ps:Array Tmp} {assign body:Code} {Kn:Hp→Prop} {st:St} {H:Hp} (h:rangeVC C g ps assign body Kn st H):RangeOk C g ps assign body Kn st H:=by
 unfold rangeVC at h
 split at h
 ·rename_i hc
  rw [Bool.and_eq_true,Nat.beq_iff,List.all_eq_true] at hc
  split at h
  ·rename_i F hF
   obtain ⟨hp,α,xs,Ok,Inv,⟨gf,lb,rfl,hcal,hit⟩,h0,hb,hk⟩:=h
   refine ⟨hp,fun p hm=>by have:=hc.2 p hm; rw [Nat.blt_eq] at this; exact this,gf,lb,α × List Value,fun x=>tupVs C.yp x.2,xs.map (·,[]),fun pre H=>Inv (pre.map (·.1)) H,fun x H'=>OfL (C.yp.flatMap (·.2)) x.2∧Ok x.1 x.2 H',
    hF,hcal,fun x=>(tupVs_len _ _).trans hc.1,h0,fun pre x H' hi ho=>?_,fun L o hL hr=>?_,fun H3 hi=>?_⟩
   ·have:=ho.1 _ (hb (pre.map (·.1)) x.1) H' hi ho.2
    refine code_mono0 assign (fun e st' H2 hk=>?_) this
    cases e with
    | normal =>
     refine ⟨rfl,hk.1,code_mono0 body (fun e st3 H3 hk=>?_) hk.2⟩
     cases e with
     | normal=>exact ⟨rfl,by simpa using hk⟩
     | _=>exact hk.elim
    | _=>exact hk.elim
   ·refine (hit L o hL fun pre x vs H' hv hi ho hn=>(hr (pre.map (·,[])) (x,vs) H' (by simpa [Function.comp_def] using hi) ⟨hv,ho⟩ hn).mono fun v Hx ⟨e,H3,h3,h4,h5⟩=>⟨e,H3,by simpa [Function.comp_def] using h3,h4,h5⟩).mono fun v Hx ⟨H3,h3,h4,h5⟩=>⟨H3,by simpa [Function.comp_def] using h3,h4,h5⟩
   ·exact hk H3 (by simpa [Function.comp_def] using hi)
  ·exact h.elim
 ·exact h.elim

theorem vcA_sound {C:Cfg} {w0:World} {H0:Hp} {K:Kc} (hN:NoCount C.P) (hM:C.P.follows .mixedOrders=true):∀ (c:Code) {st:St} {H:Hp} {a:Act} {w:World},vcA C K c st H→Sim C.n [] w0 H0 st H a w →
  c.wpIn (Fz none) 0 C.P (fun e a w'=>∃ ds,(ds=[]∨∃ D,ds=[D])∧Qk C.n ds w0 H0 K e a w') a w
 | .seq x b,st,H,a,w,h,hs=>by
  unfold vcA at h
  split at h
  ·rename_i a1 g ps s d hr
   obtain ⟨id,rfl⟩:=isRg_some hr
   refine wpIn_seq (wpIn_seq (wpIn_mono (code_sound (ds:=[]) (ro:=none) hN hM a1 h hs) ?_))
   rintro e a2 w2 ⟨st2,H2,hs2,hk2⟩
   cases e with
   | normal =>
    refine wpIn_block (wpIn_mono (wp_rangeFunc hN hM (RangeOk.of hk2) hs2) ?_)
    rintro e a3 w3 ⟨rfl,D,H3,hs3,hk3⟩
    exact wpIn_mono (code_sound (ds:=[D]) (ro:=none) hN hM b hk3 hs3) fun e a w hq=>⟨[D],.inr ⟨D,rfl⟩,hq⟩
   | _=>exact ⟨[],.inl rfl,st2,H2,hs2,hk2⟩
  ·refine wpIn_seq (wpIn_mono (code_sound (ds:=[]) (ro:=none) hN hM x h hs) ?_)
   rintro e a2 w2 ⟨st2,H2,hs2,hk2⟩
   cases e with
   | normal=>exact vcA_sound hN hM b hk2 hs2
   | _=>exact ⟨[],.inl rfl,st2,H2,hs2,hk2⟩
 | .skip,_,_,_,_,h,_=>h.elim
 | .region ..,_,_,_,_,h,_=>h.elim
 | .cond ..,_,_,_,_,h,_=>h.elim
 | .block ..,_,_,_,_,h,_=>h.elim
 | .loop _,_,_,_,_,h,_=>h.elim
 | .rangeFunc ..,_,_,_,_,h,_=>h.elim
 | .exit _,_,_,_,_,h,_=>h.elim
 | .scope _,_,_,_,_,h,_=>h.elim
 | .label _,_,_,_,_,h,_=>h.elim
 | .goto _,_,_,_,_,h,_=>h.elim
 | .ret,_,_,_,_,h,_=>h.elim
 | .refuse _,_,_,_,_,h,_=>h.elim

theorem Fn.doorA {C:Cfg} {f:FuncId} {fn:Func} {args:List Value} {H:Hp} {post:Value→Hp→Prop} {T:Prop} (hP:GoodP C.P) (hf:C.P.funcs[f]?=some fn)
  (hb:(fn.body.isSome&&Nat.beq fn.ntmps C.n&&Nat.ble args.length C.n)=true) (e:T=vcFA C fn args H post) (h:T):Fn C.P f args.toArray H post:=by
 simp only [Bool.and_eq_true,Nat.beq_iff] at hb
 have h':vcFA C fn args H post:=by rw [← e]; exact h
 exact Fn.of_wp hf (bodyOf_eq hb.1.1) hb.1.2 hb.2 fun w a hs=>vcA_sound hP.1 hP.2 _ h' hs
end Go.Eng
end
