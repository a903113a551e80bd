/- The engine, parts CL, QB, NV, UP, H1, put together. Conditions: none. -/
import Derived.Test.YtnhdkkblehadjabGreatPQ1
import Derived.Test.YtnhdkkblehadjabGreatPN2
import Derived.Test.YtnhdkkblehadjabGreatPS1
import Derived.Test.YtnhdkkblehadjabGreatPD1
import Derived.Test.YtnhdkkblehadjabGreatVgBase
import Derived.Test.YtnhdkkblehadjabGreatFs
import Derived.Test.YtnhdkkblehadjabGreatE5
import Derived.Laws.Externs
import Derived.Test.YtnhdkkblehadjabGreatPF1
import Derived.Test.YtnhdkkblehadjabGreatVgStd
set_option linter.unusedVariables false
section
/- At a time that is asked for all places and distances are told; the distance of two points, whoever is ahead. Conditions: none. -/
set_option maxRecDepth 100000
open Go Go.Eng Go.Proofs
namespace Go.Proofs.YtnhdkkblehadjabGreat

def z85(t:Int×Int):Prop:=okR t/\-1073741824<=t.1/\t.1<=1073741824/\t.2<=1024
instance (t:Int×Int):Decidable (z85 t):=inferInstanceAs (Decidable (_/\_))
theorem zrt{x g:Int}(h:0<=x):x/g<=x:=Int.ediv_le_self g h
theorem z88{p:Pt}{t:Int×Int}(op:okP p)(a:z85 t):(yma p t).2=0/\z2w (yma p t).1.1<=2251799813685248/\(yma p t).1.2<=1024:=by
 obtain⟨ot,a1,a2,a3⟩:=a
 have d1:=ot.d1
 have b:=op.b
 have s1:=z31 (x:=p.2.1) (y:=t.2) (m:=1048576) (n:=1024) (z2z (by omega) (by omega)) (z2z (by omega) (by omega))
 have s2:=z31 (x:=p.2.2) (y:=t.1) (m:=1048576) (n:=1073741824) (z2z (by omega) (by omega)) (z2z (by omega) (by omega))
 have s3:z2w (yg9 p t)<=z2w (p.2.1*t.2)+z2w (p.2.2*t.1):=by unfold yg9 z2w;split <;> split <;> split <;> omega
 have n0:=z34 (yg9 p t)
 have q1:z2w (yg9 p t)/zzo (yg9 p t) t.2<=z2w (yg9 p t):=zrt n0
 have q2:t.2/zzo (yg9 p t) t.2<=t.2:=zrt (by omega)
 have g0:0<=zzo (yg9 p t) t.2:=by unfold zzo;exact Int.natCast_nonneg _
 have q3:0<=z2w (yg9 p t)/zzo (yg9 p t) t.2:=Int.ediv_nonneg n0 g0
 rw[ymc op ot]
 unfold yjn zbt
 rw[if_neg (by omega)]
 refine⟨rfl,?_,by show t.2/_<=1024;omega⟩
 have q4:z2w (yg9 p t)/zzo (yg9 p t) t.2<=2251799813685248:=by omega
 generalize z2w (yg9 p t)/zzo (yg9 p t) t.2=z at *
 have q5:z2w (0-z)<=2251799813685248:=z2z (by omega) (by omega)
 have q6:z2w z<=2251799813685248:=z2z (by omega) (by omega)
 have q7:∀c:Bool,z2w (if c=true then 0-z else z)<=2251799813685248:=λc=>by
  cases c
  ·rw[if_neg (by simp)];exact q6
  ·rw[if_pos rfl];exact q5
 exact q7 _
theorem z8a{f:List Pt}(of:okF f){t:Int×Int}(a:z85 t):z2i f t:=⟨of,a.1,λk hk=>(z88 (yuw of hk) a).1⟩
theorem z89{p q:Pt}{t:Int×Int}(op:okP p)(oq:okP q)(a:z85 t):(x27 (yma p t).1 (yma q t).1).2=0:=by
 obtain⟨h1,h2,h3⟩:=z88 op a
 obtain⟨k1,k2,k3⟩:=z88 oq a
 have o:∀{p:Pt},okP p->(yma p t).2=0->okR (yma p t).1:=λ{p} op h=>by
  rw[ymc op a.1] at h ⊢
  obtain⟨_,_,_,_,x⟩:=yjo a.1.d1 h
  exact x
 unfold x27
 refine z3t (o op h1) (yhc (o oq k1)) (P:=2251799813685248) (Q:=1024) h2 ?_ h3 k3 (by omega) (by omega)
 show z2w (-(yma q t).1.1)<=_
 generalize (yma q t).1.1=z at *
 unfold z2w at *
 split <;> split at k2 <;> omega
theorem z87{f:List Pt}(of:okF f){t:Int×Int}(a:z85 t):yda f t:=λi hi=>z89 (yuw of (by omega)) (yuw of (by omega)) a
/-! ### Whoever is ahead -/


theorem x2b{a b:Int×Int}:z3o a (0-b.1,b.2)=x27 a b:=by unfold x27;rw[Int.zero_sub]
theorem ysm{H:Hp}{a b:Int×Int}(oa:okR a)(ob:okR b) :
  Qf Tryz.prog F.f30 #[sI2 a.1 a.2,sI2 b.1 b.2] H (.tuple #[sI2 (x27 a b).1.1 (x27 a b).1.2,.int .i64 (x27 a b).2]):=by
 have on:=(yhc ob).fit
 rw[show ((-b.1,b.2):Int×Int)=(0-b.1,b.2) by rw[Int.zero_sub]] at on
 rw[← x2b]
 have n1:=ob.n1;have n2:=ob.n2
 exact vc30 ⟨_,yrw oa.fit ob.fit,λhc=>by rw[if_pos ⟨oa,ob⟩] at hc;simp at hc,λ_=>⟨by unfold inI;omega,_,_,_,yrt (a:=a) (b:=(0-b.1,b.2)) oa.fit on,rfl,Hp.le_refl _⟩⟩
theorem yr3{H:Hp}{a b:Int×Int}(oa:okR a)(ob:okR b) :
  Qf Tryz.prog F.f49 #[sI2 a.1 a.2,sI2 b.1 b.2] H (.tuple #[sI2 (x27 a b).1.1 (x27 a b).1.2,.int .i64 (x27 a b).2]):=by
 have on:=(yhc ob).fit
 rw[show ((-b.1,b.2):Int×Int)=(0-b.1,b.2) by rw[Int.zero_sub]] at on
 rw[← x2b]
 have n1:=ob.n1;have n2:=ob.n2
 exact vc49 ⟨_,yqt oa.fit ob.fit,λhc=>by rw[if_pos ⟨oa,ob⟩] at hc;simp at hc,λ_=>⟨by unfold inI;omega,_,_,_,yqq (a:=a) (b:=(0-b.1,b.2)) oa.fit on,rfl,Hp.le_refl _⟩⟩

end Go.Proofs.YtnhdkkblehadjabGreat
end
section
/- The builtin copy on rows;slices.overlaps on slices of different blocks;slices.Insert. Conditions: none. -/
namespace Go.Eng

theorem zpj{P:Program}{t t2 ty e k:TypeId}{x:TypeDesc}{cs:Array Bool}(ht:P.underlying t=some (.slice e))(he:P.underlying e=some x)(hK:P.cellsOf e=k)
  {H:Hp} {b off n c:Nat} {cells:Array Value} {T:TypeId} (hb:H b=some (.cells cells T (0,0))) {q:Addr} {m c':Nat} {vs:List Value} (hl:vs.length=m.min n*k)
  (hvs:∀j v,vs[j]?=some v->H.at (q.add j)=some v) (hone:∀v∈vs,v.oneCell'=true) (hsz:off+vs.length<=cells.size) :
  z1n P (z9h .copy #[t,t2] ty cs [.slice (some ⟨b,off,none⟩) n c,.slice (some q) m c']) H λv H'=>v=.int .i64 (m.min n:Nat) /\
   H'=H.put b (.cells (cells.toList.take off++vs++cells.toList.drop (off+vs.length)).toArray T (0,0)):=by
 intro w hv
 have hld:=run_loadCells_list (P:=P) w q vs (λj v h=>hv.cell (hvs j v h))
 have hst:=run_storeCells_at (P:=P) b off T vs 0 cells w (hv b _ hb) (by omega) hone
 simp only[Nat.add_zero] at hst
 refine⟨.int .i64 (m.min n:Nat),w.setRow b (cells.toList.take off++vs++cells.toList.drop (off+vs.length)).toArray,_,.inl ?_,Tr.setRow hv hb _,rfl,rfl⟩
 have hcp:(Builtin.copy_ #[t,t2] ty #[.slice (some ⟨b,off,none⟩) n c,.slice (some q) m c']).run P w=.ok (.int .i64 (m.min n:Nat)) (w.setRow b (cells.toList.take off++vs++cells.toList.drop (off+vs.length)).toArray):=by
  unfold Builtin.copy_
  simp only[List.getElem?_toArray,List.getElem?_cons_zero,List.getElem?_cons_succ]
  rw[Sem.run_bind,run_underlying ht,Result.andThen_ok]
  simp only[]
  rw[Sem.run_bind,show (Builtin.lenOf (.slice (some q) m c')).run P w=.ok m w from rfl,Result.andThen_ok]
  rw[Sem.run_bind,run_sizeOf he,Result.andThen_ok,hK]
  rw[Sem.run_bind,show Builtin.firstCells k (m.min n) (.slice (some q) m c')=loadCells q (m.min n*k) from rfl,← hl,hld,Result.andThen_ok]
  simp only[]
  rw[Sem.run_bind]
  rw[hst,Result.andThen_ok]
  rfl
 simp[z9h,Go.builtin,hcp]

theorem yjp{P:Program}{f:FuncId}{fn:Func}{t e:TypeId}{x:TypeDesc}{rs:Array TypeId}(hf:P.funcs[f]?=some fn)(hname:(fn.name== "runtime.NumGoroutine")=false)(hb:fn.body.isNone=true)(hn:Extern.findNext fn=none)
  (he:Extern.find fn=some (Extern.SlicesOverlaps.overlaps #[t,t] rs)) (ht:P.underlying t=some (.slice e)) (hx:P.underlying e=some x)
  {H:Hp} {a b:Addr} {la ca lb cb:Nat} {c1 c2:Array Value} {T1 T2:TypeId} (h1:H a.block=some (.cells c1 T1 (0,0))) (h2:H b.block=some (.cells c2 T2 (0,0))) (hne:a.block≠b.block) :
  OpQ P (callFunc f #[.slice (some a) la ca,.slice (some b) lb cb]) H (.bool false):=by
 intro w hv
 have w1:=hv _ _ h1
 have w2:=hv _ _ h2
 rw[run_callFunc_extern hf hname hb hn he]
 have fr:∀{q:Addr}{c:Array Value}{T:TypeId},w.heap[q.block]?=some (.cells c T (0,0))->(frozen q).run P w=.ok false w:=λ{q c T} hq=>by
  simp[frozen,Sem.run,World.frozen?,hq]
 have sh:∀{r:Nat}{c:Array Value}{T:TypeId},w.heap[r]?=some (.cells c T (0,0))->(shape r).run P w=.ok (some (T,c.size)) w:=λ{r c T} hq=>by
  simp[shape,Sem.run,World.shape?,hq]
 have vw:∀{q:Addr}{c:Array Value}{T:TypeId},w.heap[q.block]?=some (.cells c T (0,0))->(noView q).run P w=.ok () w:=λ{q c T} hq=>by
  simp[noView,viewAt,Sem.run_bind,sh hq,Result.andThen]
 have st:∀{q:Addr}{c:Array Value}{T:TypeId},w.heap[q.block]?=some (.cells c T (0,0))->(stringish q).run P w=.ok false w:=λ{q c T} hq=>by
  simp[stringish,Sem.run_bind,fr hq,sh hq,Result.andThen,fr (q:={ block:=q.block,off:=c.size }) hq]
 have mb:(mayBeOne a b).run P w=.ok false w:=by
  simp[mayBeOne,Sem.run_bind,st w1,st w2,sh w1,sh w2,Result.andThen]
 have hne':(a.block != b.block)=true:=bne_iff_ne.2 hne
 have hbe:(a.block==b.block)=false:=beq_eq_false_iff_ne.2 hne
 have:(Extern.SlicesOverlaps.overlaps #[t,t] rs #[.slice (some a) la ca,.slice (some b) lb cb]).run P w=.ok (.bool false) w:=by
  change (Bind.bind (underlying t) _).run P w=_
  rw [Sem.run_bind,run_underlying ht,Result.andThen_ok]
  change (Bind.bind (sizeOf e) _).run P w=_
  rw [Sem.run_bind,run_sizeOf hx,Result.andThen_ok]
  dsimp only
  split
  ·rfl
  ·simp[Sem.run_bind,fr w1,fr w2,vw w1,vw w2,mb,hne',hbe,Result.andThen]
 rw[this];rfl

theorem z7e{P:Program}{t t3 ty e:TypeId}{i:TypeInfo}{z:Value}{cs:Array Bool}(ht:P.underlying t=some (.slice e))(h3:P.underlying t3=some (.int .i64))(hi:P.info? e=some i)(hz:i.zero=some z)(hzs:z.cells.size=i.size)
  {H:Hp} {p:Addr} {n c:Nat} {olds:List Value} (hlo:olds.length=n*i.size) (holds:∀j v,olds[j]?=some v->H.at (p.add j)=some v) {m:Nat} (h0:0<m*i.size)
  (hg:c<n+m) (h63:n+m<=9223372036854775807) (hb:(n+m)*i.bytes<=140737488355328) :
  z1n P (z9h .append #[t,t3] ty cs [.slice (some p) n c,.int .i64 (m:Int)]) H (z0u e (olds++(Builtin.zeroCells z.cells m).toList) (n+m) i.size H):=by
 intro w hv
 have hn:¬ (n+m<=c):=by omega
 have h63':¬ (9223372036854775807<((n:Int)+(m:Int))):=by omega
 have h48':¬ (281474976710656<Builtin.nextslicecap (n+m) c*i.bytes):=by have:=growslice_fits hg hb;omega
 have hfo:=run_firstCells_some (P:=P) w.drew i.size n p n c olds hlo (by simpa using λj v h=>hv.cell (holds j v h))
 have hw:IntKind.i64.wrap (m:Int)=m:=by rw[x8r ⟨by omega,by omega⟩]
 have hneg:¬ ((m:Int)<0):=by omega
 have hmb:m*i.bytes<=140737488355328:=Nat.le_trans (Nat.mul_le_mul_right _ (by omega)) hb
 have hb48:¬ (281474976710656<(m:Int)*(i.bytes:Int)):=by
  have:((m*i.bytes:Nat):Int)=(m:Int)*(i.bytes:Int):=Int.natCast_mul _ _
  omega
 have hm0:¬ (m*i.size=0):=by omega
 obtain⟨hn0,htr⟩:=Tr.drewAlloc hv (.cells (olds.toArray++Builtin.zeroCells z.cells m++Builtin.zeroCells z.cells (grownCap w (n+m) c e-(n+m))) e)
 have hr:(Builtin.append_ #[t,t3] ty #[.slice (some p) n c,.int .i64 (m:Int)]).run P w=.ok (.slice (some ⟨w.heap.size,0,none⟩) (n+m) (grownCap w (n+m) c e))
   (w.drew.alloc (.cells (olds.toArray++Builtin.zeroCells z.cells m++Builtin.zeroCells z.cells (grownCap w (n+m) c e-(n+m))) e)):=by
  simp[Builtin.append_,run_underlying ht,run_underlying h3,asInt,asIntOf,sizeOf,typeInfo,zeroValue,hi,hz,hw,hneg,hb48,hm0,hn,h63',h48',Question.forced,hfo,newRow,grownCap]
 refine⟨_,_,_,.inl (by simp[z9h,Go.builtin,hr]),htr,w.heap.size,grownCap w (n+m) c e,(Builtin.zeroCells z.cells (grownCap w (n+m) c e-(n+m))).toList,hn0,grownCap_ge w _ _ e,rfl,by rw[x8z,hzs],?_⟩
 congr 2
 simp

/-! ### Parts of a row overwritten -/
def ovr(C:List Value)(a:Nat)(B:List Value):List Value:=C.take a++B++C.drop (a+B.length)
theorem yjs{C B:List Value}{a:Nat}(h:a+B.length<=C.length):(ovr C a B).length=C.length:=by
 unfold ovr
 rw[List.length_append,List.length_append,List.length_take,List.length_drop];omega
theorem yjq{C B E:List Value}{a:Nat}(h:a+B.length+E.length<=C.length):(ovr (ovr C a B) (a+B.length) E).take (a+B.length+E.length)=C.take a++B++E:=by
 have hl:(C.take a++B).length=a+B.length:=by rw[List.length_append,List.length_take];omega
 have e1:(ovr C a B).take (a+B.length)=C.take a++B:=by unfold ovr;rw[← hl];exact List.take_left
 unfold ovr at e1 ⊢
 rw[e1]
 have h2:(C.take a++B++E).length=a+B.length+E.length:=by rw[List.length_append,hl]
 rw[← h2];exact List.take_left
theorem yjr{C B E:List Value}{a:Nat}(h:a+B.length+E.length<=C.length):(ovr (ovr C (a+B.length) E) a B).take (a+B.length+E.length)=C.take a++B++E:=by
 have e1:(ovr C (a+B.length) E).take a=C.take a:=by
  unfold ovr
  rw[List.append_assoc,List.take_append_of_le_length (by rw[List.length_take];omega),List.take_take,Nat.min_eq_left (by omega)]
 have e2:(ovr C (a+B.length) E).drop (a+B.length)=E++C.drop (a+B.length+E.length):=by
  have hl:(C.take (a+B.length)).length=a+B.length:=by rw[List.length_take];omega
  unfold ovr
  rw[List.append_assoc]
  exact List.drop_left' hl
 generalize ovr C (a+B.length) E=D at e1 e2 ⊢
 unfold ovr
 rw[e1,e2,← List.append_assoc]
 have h2:(C.take a++B++E).length=a+B.length+E.length:=by rw[List.length_append,List.length_append,List.length_take];omega
 rw[← h2];exact List.take_left
end Go.Eng

/-! ### slices.Insert of one element,into a slice of one's own -/
namespace Go.Eng
theorem x25{b off k l m:Nat}(h:m≠l):x23 (some ⟨b,off,none⟩) k (l:Int) (m:Int)=some ⟨b,off+l*k,none⟩:=by
 unfold x23
 rw[Int.toNat_natCast,Int.toNat_natCast,if_neg h]
 simp[Addr.add_lit]

section
variable {α:Type} {k:Nat} {f:α->List Value} {P:Program} {t t3 ty ty1 e bytes:Nat} {cs:Array Bool} {H0 H:Hp} {s:Slc} {xs:List α} {i:Int}

theorem y4m(hS:ywo P t e k bytes=true)(hk0:0<k)(hk:∀x,(f x).length=k)(h1c:∀x,∀v∈f x,v.oneCell'=true)(hK:P.cellsOf e=k)(h3:P.underlying t3=some (.int .i64)){te:TypeDesc}(hte:P.underlying e=some te){fo fr:FuncId}
    (hno:∀{a b:Addr}{la ca lb cb:Nat}{c1 c2:Array Value}{T1 T2:TypeId},H a.block=some (.cells c1 T1 (0,0))->H b.block=some (.cells c2 T2 (0,0))->a.block≠b.block->OpQ P (callFunc fo #[.slice (some a) la ca,.slice (some b) lb cb]) H (.bool false))
    (hl:Hp.le H0 H) (h:Mine k f e H0 H s xs) (h0:0<=i) (hi:i<=xs.length) {bv:Nat} {x:α} {T:TypeId} (hv:H bv=some (.cells (f x).toArray T (0,0))) (hvo:∀p,s.a=some p->p.block≠bv)
    (hlen:xs.length<=100000000) (hby:bytes<=1000000) {post:Value->Hp->Prop}
    (q:∀u H',Hp.le H0 H'->Mine k f e H0 H' u (xs.take i.toNat++x :: xs.drop i.toNat)->Chg H H' s->Ext H s u->post u.v H') {v:Slc} (ev:v=⟨some ⟨bv,0,none⟩,1,1⟩) :
    yhd i (s.n:Int) (s.c:Int) (s.c:Int)/\(((v.n:Int)==0)=true->post s.v H)/\(((v.n:Int)==0)=false ->
      ((i==(s.n:Int))=true->z1n P (z9h .append #[t,t] ty cs [s.v,v.v]) H λv1 H2=>∃u3:Slc,v1=u3.v/\post u3.v H2) /\
      ((i==(s.n:Int))=false->inI ((s.n:Int)+(v.n:Int))/\(decide ((s.n:Int)+(v.n:Int)>(s.c:Int))=true->yhd 0 i (s.c:Int) (s.c:Int)/\inI ((s.n:Int)+(v.n:Int))/\inI ((s.n:Int)+(v.n:Int)-i) /\
        z1n P (z9h .append #[t,t3] ty cs [.slice (x23 s.a (P.cellsOf e) 0 (s.c:Int)) (i.toNat-Int.toNat 0) ((s.c:Int).toNat-Int.toNat 0),.int .i64 ((s.n:Int)+(v.n:Int)-i)]) H λv4 H5=>∃u6:Slc,v4=u6.v/\yhd i (u6.n:Int) (u6.c:Int) (u6.c:Int) /\
          z1n P (z9h .copy #[t,t] ty1 cs [.slice (x23 u6.a (P.cellsOf e) i (u6.c:Int)) ((u6.n:Int).toNat-i.toNat) ((u6.c:Int).toNat-i.toNat),v.v]) H5 λv7 H8=>∃n9:Int,v7=.int .i64 n9/\inI (i+(v.n:Int))/\yhd (i+(v.n:Int)) (u6.n:Int) (u6.c:Int) (u6.c:Int)/\yhd i (s.n:Int) (s.c:Int) (s.c:Int) /\
            z1n P (z9h .copy #[t,t] ty1 cs [.slice (x23 u6.a (P.cellsOf e) (i+(v.n:Int)) (u6.c:Int)) ((u6.n:Int).toNat-(i+(v.n:Int)).toNat) ((u6.c:Int).toNat-(i+(v.n:Int)).toNat),.slice (x23 s.a (P.cellsOf e) i (s.c:Int)) ((s.n:Int).toNat-i.toNat) ((s.c:Int).toNat-i.toNat)]) H8
              λv10 H11=>∃n12:Int,v10=.int .i64 n12/\post u6.v H11) /\
       (decide ((s.n:Int)+(v.n:Int)>(s.c:Int))=false->inI ((s.n:Int)+(v.n:Int))/\yhd 0 ((s.n:Int)+(v.n:Int)) (s.c:Int) (s.c:Int)/\inI (i+(v.n:Int)) /\
        yhd (i+(v.n:Int)) ((((s.n:Int)+(v.n:Int)).toNat-Int.toNat 0:Nat):Int) (((s.c:Int).toNat-Int.toNat 0:Nat):Int) (((s.c:Int).toNat-Int.toNat 0:Nat):Int)/\∃c13:Bool,
        OpQ P (callFunc fo #[v.v,.slice (x23 (x23 s.a (P.cellsOf e) 0 (s.c:Int)) (P.cellsOf e) (i+(v.n:Int)) (((s.c:Int).toNat-Int.toNat 0:Nat):Int)) (((((s.n:Int)+(v.n:Int)).toNat-Int.toNat 0:Nat):Int).toNat-(i+(v.n:Int)).toNat) ((((s.c:Int).toNat-Int.toNat 0:Nat):Int).toNat-(i+(v.n:Int)).toNat)]) H (.bool c13) /\
        ((!c13)=true->inI (i+(v.n:Int))/\yhd (i+(v.n:Int)) ((((s.n:Int)+(v.n:Int)).toNat-Int.toNat 0:Nat):Int) (((s.c:Int).toNat-Int.toNat 0:Nat):Int) (((s.c:Int).toNat-Int.toNat 0:Nat):Int)/\yhd i ((((s.n:Int)+(v.n:Int)).toNat-Int.toNat 0:Nat):Int) (((s.c:Int).toNat-Int.toNat 0:Nat):Int) (((s.c:Int).toNat-Int.toNat 0:Nat):Int) /\
          z1n P (z9h .copy #[t,t] ty1 cs [.slice (x23 (x23 s.a (P.cellsOf e) 0 (s.c:Int)) (P.cellsOf e) (i+(v.n:Int)) (((s.c:Int).toNat-Int.toNat 0:Nat):Int)) (((((s.n:Int)+(v.n:Int)).toNat-Int.toNat 0:Nat):Int).toNat-(i+(v.n:Int)).toNat) ((((s.c:Int).toNat-Int.toNat 0:Nat):Int).toNat-(i+(v.n:Int)).toNat),
              .slice (x23 (x23 s.a (P.cellsOf e) 0 (s.c:Int)) (P.cellsOf e) i (((s.c:Int).toNat-Int.toNat 0:Nat):Int)) (((((s.n:Int)+(v.n:Int)).toNat-Int.toNat 0:Nat):Int).toNat-i.toNat) ((((s.c:Int).toNat-Int.toNat 0:Nat):Int).toNat-i.toNat)])
            H λv14 H15=>∃n16:Int,v14=.int .i64 n16/\yhd i ((((s.n:Int)+(v.n:Int)).toNat-Int.toNat 0:Nat):Int) (((s.c:Int).toNat-Int.toNat 0:Nat):Int) (((s.c:Int).toNat-Int.toNat 0:Nat):Int) /\
            z1n P (z9h .copy #[t,t] ty1 cs [.slice (x23 (x23 s.a (P.cellsOf e) 0 (s.c:Int)) (P.cellsOf e) i (((s.c:Int).toNat-Int.toNat 0:Nat):Int)) (((((s.n:Int)+(v.n:Int)).toNat-Int.toNat 0:Nat):Int).toNat-i.toNat) ((((s.c:Int).toNat-Int.toNat 0:Nat):Int).toNat-i.toNat),v.v]) H15
              λv17 H18=>∃n19:Int,v17=.int .i64 n19/\post (.slice (x23 s.a (P.cellsOf e) 0 (s.c:Int)) (((s.n:Int)+(v.n:Int)).toNat-Int.toNat 0) ((s.c:Int).toNat-Int.toNat 0)) H18) /\
        ((!c13)=false->yhd (s.n:Int) ((((s.n:Int)+(v.n:Int)).toNat-Int.toNat 0:Nat):Int) (((s.c:Int).toNat-Int.toNat 0:Nat):Int) (((s.c:Int).toNat-Int.toNat 0:Nat):Int) /\
          z1n P (z9h .copy #[t,t] ty1 cs [.slice (x23 (x23 s.a (P.cellsOf e) 0 (s.c:Int)) (P.cellsOf e) (s.n:Int) (((s.c:Int).toNat-Int.toNat 0:Nat):Int)) (((((s.n:Int)+(v.n:Int)).toNat-Int.toNat 0:Nat):Int).toNat-(s.n:Int).toNat) ((((s.c:Int).toNat-Int.toNat 0:Nat):Int).toNat-(s.n:Int).toNat),v.v]) H
            λv20 H21=>∃n22:Int,v20=.int .i64 n22/\yhd i ((((s.n:Int)+(v.n:Int)).toNat-Int.toNat 0:Nat):Int) (((s.c:Int).toNat-Int.toNat 0:Nat):Int) (((s.c:Int).toNat-Int.toNat 0:Nat):Int) /\
            Fn P fr #[.slice (x23 (x23 s.a (P.cellsOf e) 0 (s.c:Int)) (P.cellsOf e) i (((s.c:Int).toNat-Int.toNat 0:Nat):Int)) (((((s.n:Int)+(v.n:Int)).toNat-Int.toNat 0:Nat):Int).toNat-i.toNat) ((((s.c:Int).toNat-Int.toNat 0:Nat):Int).toNat-i.toNat),.int .i64 (v.n:Int)] H21
              λv23 H24=>v23=.tuple #[]/\post (.slice (x23 s.a (P.cellsOf e) 0 (s.c:Int)) (((s.n:Int)+(v.n:Int)).toNat-Int.toNat 0) ((s.c:Int).toNat-Int.toNat 0)) H24)))):=by
  subst ev
  obtain⟨ti,z,h1,h2,h3',h4,h5,h6⟩:=ywp hS
  have hrd:=h.rd hk
  have hn:=hrd.len
  have hc:=hrd.cap
  have hvrd:Rd k f H ⟨some ⟨bv,0,none⟩,1,1⟩ [x]:=by
    refine⟨rfl,Nat.le_refl _,λ_=>rfl,λj y hj jj w hw=>?_⟩
    have hj0:j=0:=by
      have:=(List.getElem?_eq_some_iff.1 hj).1
      simp at this;exact this
    subst hj0
    simp at hj;subst hj
    simp only[zrr,Int.toNat_natCast,Nat.zero_mul,add_zero',Addr.add_lit,Nat.zero_add]
    have e1:(f x).toArray[jj]?=some w:=by simpa using hw
    simp[Hp.at,hv,e1]
  have hby2:(xs.length+1)*bytes<=140737488355328:=by
    calc (xs.length+1)*bytes<=100000001*1000000:=Nat.mul_le_mul (by omega) hby
      _<=_:=by omega
  have hnat:∃I:Nat,i=I:=⟨i.toNat,by omega⟩
  obtain⟨I,rfl⟩:=hnat
  simp only[Int.toNat_natCast] at q ⊢
  have eN:((s.n:Int)+((1:Nat):Int))=((s.n+1:Nat):Int):=by omega
  have eI:((I:Int)+((1:Nat):Int))=((I+1:Nat):Int):=by omega
  have eM:(((s.n+1:Nat):Int)-(I:Int))=((s.n+1-I:Nat):Int):=by omega
  rw[eN,eI,eM]
  simp only[Int.toNat_natCast,Int.toNat_zero,Nat.sub_zero,hK]
  refine⟨⟨by omega,by omega,by omega,by omega⟩,λhz=>absurd hz (by decide),λ_=>⟨λhe=>?_,λhne=>?_⟩⟩
  · -- at the end
    have hI:I=xs.length:=by simp at he;omega
    refine(z7b (ys:=[x]) hS hk0 hk h1c hl h hvrd (by simp) (by simpa using hby2) (by simp;omega)).mono λv H' ⟨u',g1,g2,g3,g4,g5⟩=>⟨u',g1,q u' H' g2 (by rw[hI,List.take_length,List.drop_length];exact g3) g4 g5⟩
  · have hlt:I<xs.length:=by simp at hne;omega
    rcases h with⟨rfl,rfl⟩|⟨b,hb0,o1,o2,o3,cells,o4,o5,o6⟩
    · simp at hlt
    have hmm:Mine k f e H0 H s xs:=.inr ⟨b,hb0,o1,o2,o3,cells,o4,o5,o6⟩
    have hbv:b≠bv:=hvo _ o3
    have hfl:=zy0 hk (xs.drop I)
    have hdl:(xs.drop I).length=xs.length-I:=List.length_drop
    have htl:(xs.take I).length=I:=by rw[List.length_take];omega
    have hft:=zy0 hk (xs.take I)
    rw[hdl] at hfl
    rw[htl] at hft
    have hall:xs.flatMap f=(xs.take I).flatMap f++(xs.drop I).flatMap f:=by rw[← List.flatMap_append,List.take_append_drop]
    have hcell:∀j v,((xs.drop I).flatMap f)[j]?=some v->H.at ⟨b,I*k+j,none⟩=some v:=λj v hj=>by
      have:=Rd.cells hk hk0 hrd (p:=⟨b,0,none⟩) o3 (I*k+j) v (by rw[hall,List.getElem?_append_right (by omega),hft,Nat.add_sub_cancel_left];exact hj)
      simpa[Addr.add_lit] using this
    have hone:∀v∈(xs.drop I).flatMap f,v.oneCell'=true:=λv hv=>by
      obtain⟨y,_,hy⟩:=List.mem_flatMap.1 hv;exact h1c y v hy
    have hxl:(xs.take I++x :: xs.drop I).length=xs.length+1:=by simp;omega
    have hxf:(xs.take I++x :: xs.drop I).flatMap f=(xs.take I).flatMap f++f x++(xs.drop I).flatMap f:=by rw[List.flatMap_append,List.flatMap_cons,List.append_assoc]
    have hmul:I*k+k+(xs.length-I)*k=(xs.length+1)*k:=by
      rw[← Nat.succ_mul,← Nat.add_mul];congr 1;omega
    have hI1:(I+1)*k=I*k+k:=Nat.succ_mul I k
    rw[o3,x26,x25 (show s.c≠I by omega),Nat.zero_add]
    refine⟨⟨by omega,by omega⟩,λhg=>?_,λhr=>?_⟩
    · -- it grows
      have hg':s.c<s.n+1:=by simp at hg;omega
      refine⟨⟨by omega,by omega,by omega,by omega⟩,⟨by omega,by omega⟩,⟨by omega,by omega⟩,?_⟩
      have hti:(I+(s.n+1-I))=xs.length+1:=by omega
      refine(z7e (P:=P) (ty:=ty) (cs:=cs) (p:=⟨b,0,none⟩) (n:=I) (c:=s.c) (olds:=(xs.take I).flatMap f) (m:=s.n+1-I) h1 h3 h2 h3' h4 (by rw[hft,h5]) (λj v hj=>?_) (by rw[h5];exact Nat.mul_pos (by omega) hk0) (by omega) (by omega) (by rw[hti,h6];exact hby2)).mono λv4 H5 ⟨b',cap,rest,g1,g2,g3,g4,g5⟩=>?_
      · exact Rd.cells hk hk0 hrd (p:=⟨b,0,none⟩) o3 j v (by rw[hall,List.getElem?_append_left (by have:=(List.getElem?_eq_some_iff.1 hj).1;exact this)];exact hj)
      rw[hti] at g2 g3 g4
      refine⟨⟨some ⟨b',0,none⟩,xs.length+1,cap⟩,g3,⟨by omega,by show (I:Int)<=((xs.length+1:Nat):Int);omega,by show ((xs.length+1:Nat):Int)<=(cap:Int);omega,by omega⟩,?_⟩
      have hle5:Hp.le H H5:=by rw[g5];exact Hp.put_le _ _ g1
      show z1n P (z9h .copy #[t,t] ty1 cs [.slice (x23 (some ⟨b',0,none⟩) k (I:Int) (cap:Int)) (xs.length+1-I) (cap-I),.slice (some ⟨bv,0,none⟩) 1 1]) H5 _
      rw[x25 (show cap≠I by omega),Nat.zero_add]
      have hzl:(Builtin.zeroCells z.cells (s.n+1-I)).toList.length=(s.n+1-I)*k:=by rw[x8z,h4,h5]
      have hC:((xs.take I).flatMap f++(Builtin.zeroCells z.cells (s.n+1-I)).toList++rest).length=cap*k:=by
        rw[List.length_append,List.length_append,hft,hzl,g4,h5,← Nat.add_mul,← Nat.add_mul];congr 1;omega
      generalize hCC:(xs.take I).flatMap f++(Builtin.zeroCells z.cells (s.n+1-I)).toList++rest=C at g5 hC
      have hCt:C.take (I*k)=(xs.take I).flatMap f:=by rw[← hCC,List.append_assoc,List.take_left' hft]
      have hcapk:(xs.length+1)*k<=cap*k:=Nat.mul_le_mul_right _ g2
      have hmin1:Nat.min 1 (xs.length+1-I)=1:=Nat.min_eq_left (by omega)
      refine(zpj (P:=P) (ty:=ty1) (cs:=cs) (b:=b') (off:=I*k) (n:=xs.length+1-I) (c:=cap-I) (cells:=C.toArray) (T:=e) (q:=⟨bv,0,none⟩) (m:=1) (c':=1) (vs:=f x) h1 hte hK (by rw[g5];exact Hp.put_same _ _ _) (by rw[hk,hmin1,Nat.one_mul]) (λj v hj=>?_) (h1c x) (by rw[hk,List.size_toArray,hC];omega)).mono λv7 H8 ⟨g7,g8⟩=>?_
      · have:=Rd.cells hk hk0 (hvrd.le hle5) (p:=⟨bv,0,none⟩) rfl j v (by simpa using hj)
        simpa[Addr.add_lit] using this
      refine⟨_,g7,⟨by omega,by omega⟩,⟨by omega,by show ((I+1:Nat):Int)<=((xs.length+1:Nat):Int);omega,by show ((xs.length+1:Nat):Int)<=(cap:Int);omega,by omega⟩,⟨by omega,by omega,by omega,by omega⟩,?_⟩
      have g8':H8=H.put b' (.cells (ovr C (I*k) (f x)).toArray e (0,0)):=by
        rw[g8,g5,Hp.put_put];rfl
      show z1n P (z9h .copy #[t,t] ty1 cs [.slice (x23 (some ⟨b',0,none⟩) k ((I+1:Nat):Int) (cap:Int)) (xs.length+1-(I+1)) (cap-(I+1)),.slice (some ⟨b,I*k,none⟩) (s.n-I) (s.c-I)]) H8 _
      rw[x25 (show cap≠I+1 by omega),Nat.zero_add]
      have hle8:Hp.le H H8:=by rw[g8'];exact Hp.put_le _ _ g1
      have hol:=yjs (C:=C) (B:=f x) (a:=I*k) (by rw[hk,hC];omega)
      have hmin2:Nat.min (s.n-I) (xs.length+1-(I+1))=xs.length-I:=by rw[show s.n-I=xs.length+1-(I+1) by omega];show min _ _=_;omega
      refine(zpj (P:=P) (ty:=ty1) (cs:=cs) (b:=b') (off:=(I+1)*k) (n:=xs.length+1-(I+1)) (c:=cap-(I+1)) (cells:=(ovr C (I*k) (f x)).toArray) (T:=e) (q:=⟨b,I*k,none⟩) (m:=s.n-I) (c':=s.c-I) (vs:=(xs.drop I).flatMap f) h1 hte hK (by rw[g8'];exact Hp.put_same _ _ _) (by rw[hfl,hmin2]) (λj v hj=>?_) hone (by rw[hfl,List.size_toArray,hol,hC,hI1];omega)).mono λv10 H11 ⟨g10,g11⟩=>⟨_,g10,?_⟩
      · have:=Hp.at_le hle8 (hcell j v hj)
        simpa[Addr.add_lit] using this
      have g11':H11=H.put b' (.cells (ovr (ovr C (I*k) (f x)) (I*k+(f x).length) ((xs.drop I).flatMap f)).toArray e (0,0)):=by
        rw[g11,g8',Hp.put_put,hk,← hI1];rfl
      have hbn:H0 b'=none:=by
        cases hx:H0 b' with
        | none=>rfl
        | some o=>rw[hl b' o hx] at g1;cases g1
      have hfin:=yjq (C:=C) (B:=f x) (E:=(xs.drop I).flatMap f) (a:=I*k) (by rw[hk,hfl,hC];omega)
      have hol2:=yjs (C:=ovr C (I*k) (f x)) (B:=(xs.drop I).flatMap f) (a:=I*k+(f x).length) (by rw[hk,hfl,hol,hC];omega)
      refine q ⟨some ⟨b',0,none⟩,xs.length+1,cap⟩ H11 (by rw[g11'];exact Hp.le_put hl hbn) (.inr ⟨b',hbn,?_,g2,rfl,_,by rw[g11'];exact Hp.put_same _ _ _,?_,?_⟩) (λc hc _=>?_) (λp hp=>.inr ?_)
      · rw[hxl]
      · rw[List.size_toArray,hol2,hol,hC]
      · rw[hxl,hxf]
        show (ovr (ovr C (I*k) (f x)) (I*k+(f x).length) ((xs.drop I).flatMap f)).take _=_
        rw[← hCt,← hfin]
        congr 1
        rw[hk,hfl];omega
      · rw[g11'];exact Hp.put_ne _ _ λe=>hc (e▸g1)
      · cases hp;exact g1
    · -- there is room
      have hr':s.n+1<=s.c:=by simp at hr;omega
      have hck:cells.size=s.c*k:=o5
      have hcl:cells.toList.length=s.c*k:=by rw[Array.length_toList,o5]
      have hcapk:(xs.length+1)*k<=s.c*k:=Nat.mul_le_mul_right _ (by omega)
      rw[x25 (show s.c≠I+1 by omega),Nat.zero_add]
      refine⟨⟨by omega,by omega⟩,⟨by omega,by omega,by omega,by omega⟩,⟨by omega,by omega⟩,⟨by omega,by omega,by omega,by omega⟩,false,?_,λ_=>⟨⟨by omega,by omega⟩,⟨by omega,by omega,by omega,by omega⟩,⟨by omega,by omega,by omega,by omega⟩,?_⟩,λhf=>absurd hf (by decide)⟩
      · exact hno (a:=⟨bv,0,none⟩) (b:=⟨b,(I+1)*k,none⟩) hv o4 λe=>hbv e.symm
      have hmin2:Nat.min (s.n+1-I) (s.n+1-(I+1))=xs.length-I:=by show min _ _=_;omega
      refine(zpj (P:=P) (ty:=ty1) (cs:=cs) (b:=b) (off:=(I+1)*k) (n:=s.n+1-(I+1)) (c:=s.c-(I+1)) (cells:=cells) (T:=e) (q:=⟨b,I*k,none⟩) (m:=s.n+1-I) (c':=s.c-I) (vs:=(xs.drop I).flatMap f) h1 hte hK o4 (by rw[hfl,hmin2]) (λj v hj=>?_) hone (by rw[hfl,hck,hI1];omega)).mono λv14 H15 ⟨g14,g15⟩=>⟨_,g14,⟨by omega,by omega,by omega,by omega⟩,?_⟩
      · have:=hcell j v hj
        simpa[Addr.add_lit] using this
      have g15':H15=H.put b (.cells (ovr cells.toList ((I+1)*k) ((xs.drop I).flatMap f)).toArray e (0,0)):=g15
      have hol:=yjs (C:=cells.toList) (B:=(xs.drop I).flatMap f) (a:=(I+1)*k) (by rw[hfl,hcl,hI1];omega)
      have hv15:H15 bv=some (.cells (f x).toArray T (0,0)):=by rw[g15',Hp.put_ne _ _ hbv.symm];exact hv
      have hmin1:Nat.min 1 (s.n+1-I)=1:=Nat.min_eq_left (by omega)
      refine(zpj (P:=P) (ty:=ty1) (cs:=cs) (b:=b) (off:=I*k) (n:=s.n+1-I) (c:=s.c-I) (cells:=(ovr cells.toList ((I+1)*k) ((xs.drop I).flatMap f)).toArray) (T:=e) (q:=⟨bv,0,none⟩) (m:=1) (c':=1) (vs:=f x) h1 hte hK (by rw[g15'];exact Hp.put_same _ _ _) (by rw[hk,hmin1,Nat.one_mul]) (λj v hj=>?_) (h1c x) (by rw[hk,List.size_toArray,hol,hcl];omega)).mono λv17 H18 ⟨g17,g18⟩=>⟨_,g17,?_⟩
      · have e1:(f x).toArray[j]?=some v:=by simpa using hj
        simp[Hp.at,Addr.add_lit,hv15,e1]
      have g18':H18=H.put b (.cells (ovr (ovr cells.toList (I*k+(f x).length) ((xs.drop I).flatMap f)) (I*k) (f x)).toArray e (0,0)):=by
        have e1:(I+1)*k=I*k+(f x).length:=by rw[hk,hI1]
        rw[g18,g15',Hp.put_put,e1];rfl
      have hfin:=yjr (C:=cells.toList) (B:=f x) (E:=(xs.drop I).flatMap f) (a:=I*k) (by rw[hk,hfl,hcl];omega)
      have hCt:cells.toList.take (I*k)=(xs.take I).flatMap f:=by
        have:=congrArg (List.take (I*k)) o6
        rw[List.take_take,Nat.min_eq_left (Nat.mul_le_mul_right _ (by omega)),hall,List.take_left' hft] at this
        exact this
      have hol2:=yjs (C:=ovr cells.toList (I*k+(f x).length) ((xs.drop I).flatMap f)) (B:=f x) (a:=I*k) (by rw[hk,← hI1,hol,hcl];omega)
      refine q ⟨some ⟨b,0,none⟩,s.n+1,s.c⟩ H18 (by rw[g18'];exact Hp.le_put hl hb0) (.inr ⟨b,hb0,?_,hr',rfl,_,by rw[g18'];exact Hp.put_same _ _ _,?_,?_⟩) (λc hc hne=>?_) (λp hp=>.inl (by rw[o3];exact hp))
      · rw[hxl];show s.n+1=_;omega
      · rw[List.size_toArray,hol2,hk,← hI1,hol,hcl]
      · rw[hxl,hxf]
        show (ovr (ovr cells.toList (I*k+(f x).length) ((xs.drop I).flatMap f)) (I*k) (f x)).take _=_
        rw[← hCt,← hfin]
        congr 1
        rw[hk,hfl];omega
      · rw[g18'];exact Hp.put_ne _ _ λe=>hne _ o3 e.symm
end
end Go.Eng
end
section
/- slices.Insert and Delete on points and numbers;field.Put,Take,Change. Conditions: none. -/
set_option maxRecDepth 100000
open Go Go.Eng Go.Proofs
namespace Go.Proofs.YtnhdkkblehadjabGreat

theorem yfn{H:Hp}{a b:Addr}{la ca lb cb:Nat}{c1 c2:Array Value}{T1 T2:TypeId}(h1:H a.block=some (.cells c1 T1 (0,0)))(h2:H b.block=some (.cells c2 T2 (0,0)))(hne:a.block≠b.block) :
  OpQ Tryz.prog (Go.callFunc F.f240 #[.slice (some a) la ca,.slice (some b) lb cb]) H (.bool false) :=
 yjp (t:=22) (e:=57) (rs:=#[4]) zyx (by kernel_rfl) (by kernel_rfl) (by kernel_rfl) (by kernel_rfl) Tryz.underlying22 Tryz.underlying57 h1 h2 hne
theorem y4l{H0 H:Hp}{s:Slc}{xs:List Pt}{i:Int}{bv:Nat}{x:Pt}{TT:TypeId}(hl:Hp.le H0 H)(h:Mine 3 fD T.api_Point H0 H s xs)(h0:0<=i)(hi:i<=xs.length)(hlen:xs.length<=100000000)(hv:H bv=some (.cells (fD x).toArray TT (0,0)))(hvo:∀p,s.a=some p->p.block≠bv) :
  Go.Eng.Fn Tryz.prog F.f203 #[s.v,.int .i64 i,.slice (some ⟨bv,0,none⟩) 1 1] H λv H'=>∃u:Slc,v=u.v/\Hp.le H0 H'/\Mine 3 fD T.api_Point H0 H' u (xs.take i.toNat++x :: xs.drop i.toNat)/\Chg H H' s/\Ext H s u :=
 vc203 (a2:=⟨some ⟨bv,0,none⟩,1,1⟩) (y4m (k:=3) (f:=fD) (bytes:=24) (post:=λv H'=>∃u:Slc,v=u.v/\Hp.le H0 H'/\Mine 3 fD T.api_Point H0 H' u (xs.take i.toNat++x :: xs.drop i.toNat)/\Chg H H' s/\Ext H s u) (by kernel_rfl) (by decide) (λ_=>rfl) zuf (by kernel_rfl) Tryz.underlying3 Tryz.underlying57 (λa b c=>yfn a b c) hl h h0 hi hv hvo hlen (by decide)
  (λu H' g1 g2 g3 g4=>⟨u,rfl,g1,g2,g3,g4⟩) rfl)
theorem zvk{H:Hp}{u:Slc}{f:List Pt}{id:Int}(hf:Rd 3 fD H u f)(of:okF f) :
  Qf Tryz.prog F.f145 #[vFd u,.int .i64 id] H (.tuple #[.int .i64 (y8o f id),.bool (decide (0<=ynk f id))])/\(0<=ynk f id->ynk f id=y8o f id)/\y8o f id<=f.length:=by
 have hl:=of.small
 have hb:=zbh (n:=id) hf of.inc (by omega)
 have hle:=yo3 (f.map (·.1)) id
 rw[List.length_map] at hle
 rcases yog of.inc id with⟨h1,h2⟩|⟨h1,h2⟩
 ·have e:ynk f id=yo0 (f.map (·.1)) id:=h2
  rw[h1] at hb
  refine⟨vc145 ⟨_,_,hb,?_,Hp.le_refl _⟩,λ_=>e,hle⟩
  have:decide (0<=ynk f id)=true:=decide_eq_true (by omega)
  rw[this];rfl
 ·have e:ynk f id = -1:=h2
  rw[h1] at hb
  refine⟨vc145 ⟨_,_,hb,?_,Hp.le_refl _⟩,λh=>by omega,hle⟩
  have:decide (0<=ynk f id)=false:=decide_eq_false (by omega)
  rw[this];rfl
def ym9(f:List Pt)(id:Int):Int×Int:=if zkd f≠0 then (0,zkd f) else if ynk f id<0 then (0,6) else (ynk f id,0)
theorem fieldPlace{H:Hp}{u:Slc}{f:List Pt}{id:Int}(hf:Rd 3 fD H u f) :
  Qf Tryz.prog F.f85 #[vFd u,.int .i64 id] H (.tuple #[.int .i64 (ym9 f id).1,.int .i64 (ym9 f id).2]):=by
 unfold ym9
 refine vc85 ⟨_,zvi hf,λh=>?_,λh=>?_⟩
 ·have h:zkd f≠0:=by simpa using h
  rw[if_pos h];exact⟨rfl,Hp.le_refl _⟩
 have h:zkd f=0:=by simpa using h
 rw[if_neg (by rw[h];simp)]
 obtain⟨q,e,_⟩:=zvk (id:=id) hf (zke.1 h)
 refine⟨_,_,q,λhb=>?_,λhb=>?_⟩
 ·have hb:ynk f id<0:=by simpa using hb
  rw[if_pos hb];exact⟨rfl,Hp.le_refl _⟩
 ·have hb:0<=ynk f id:=by simpa using hb
  rw[if_neg (by omega),e hb];exact⟨rfl,Hp.le_refl _⟩

theorem zvm{H:Hp}{u:Slc}{f:List Pt}{p:Pt}(hf:Rd 3 fD H u f) :
  Go.Eng.Fn Tryz.prog F.f153 #[vFd u,.agg #[.int .i64 p.1,.int .i64 p.2.1,.int .i64 p.2.2]] H λv H'=>∃w:Slc,v=.tuple #[vFd w,.int .i64 (putF f p).2]/\Hp.le H H'/\Rd 3 fD H' w (putF f p).1:=by
 have lu:=hf.len
 unfold putF
 refine vc153 ⟨_,zvi hf,λh=>?_,λh=>⟨_,zpw,λh2=>?_,λh2=>?_⟩⟩
 ·have h:zkd f≠0:=by simpa using h
  rw[if_pos h];exact⟨⟨none,0,0⟩,rfl,Hp.le_refl _,Rd.nil⟩
 ·have h:zkd f=0:=by simpa using h
  have h2:¬ okP p:=λop=>by rw[zl0 op] at h2;simp at h2
  rw[if_neg (by rw[h];simp),if_pos h2,zky h2];exact⟨⟨none,0,0⟩,rfl,Hp.le_refl _,Rd.nil⟩
 have h:zkd f=0:=by simpa using h
 have h2:okP p:=zl1.1 (by simpa using h2)
 have of:=zke.1 h
 have lf:=of.small
 rw[if_neg (by rw[h];simp),if_neg (by simpa using h2)]
 obtain⟨q,e,hle⟩:=zvk (id:=p.1) hf of
 refine⟨_,_,q,λhb=>?_,λhb=>?_⟩
 ·have hb:0<=ynk f p.1:=by simpa using hb
  rw[if_pos hb];exact⟨⟨none,0,0⟩,rfl,Hp.le_refl _,Rd.nil⟩
 have hb:¬ 0<=ynk f p.1:=by simpa using hb
 rw[if_neg hb,lu]
 refine⟨λhc=>?_,λhc=>?_⟩
 ·have hc:f.length=64:=by have:(f.length:Int)=64:=by simpa using hc
                          omega
  rw[if_pos hc];exact⟨⟨none,0,0⟩,rfl,Hp.le_refl _,Rd.nil⟩
 have hc:f.length≠64:=by have:¬ (f.length:Int)=64:=by simpa using hc
                         omega
 rw[if_neg hc]
 refine(zmq hf (by omega)).mono λv H6 ⟨w,hv,l6,m6⟩=>⟨l6,w,hv,λb8 H9 hb8 hH9=>?_⟩
 have l9:Hp.le H6 H9:=Hp.le_new (Hp.le_refl _) hb8 hH9
 refine(y4l (x:=p) (Hp.le_trans l6 l9) (m6.le l9) (i:=(y8o f p.1:Int)) (by omega) (by omega) (by omega) (by rw[hH9];exact Hp.put_same _ _ _) λp hp e=>?_).mono λv H11 ⟨z,hv,l11,m11,_,_⟩=>⟨z,hv,z,rfl,l11,?_⟩
 ·have:=m6.isOld p hp
  rw[e] at this;exact this hb8
 ·rw[Int.toNat_natCast] at m11;exact m11.rdD

end Go.Proofs.YtnhdkkblehadjabGreat
end
