/- The engine, parts CL, QB, NV, UP, H1, put together. Conditions: none. -/
import Derived.Test.YtnhdkkblehadjaaGreatPS1
import Derived.Test.YtnhdkkblehadjaaGreatPF1
open Go.Addr renaming add_lit->Qa
open Go.Builtin renaming zeroCells->Qb,copy_->Qc,append_->Qd
open Go.Eng.Hp renaming le->Qe,le_refl->Qg,put_same->Qh,put_put->Qi,put_ne->Qj,put_le->Ql,le_put->Qm
open Int renaming toNat->Qn,toNat_natCast->Qo,zero_sub->Qp
open List renaming length_append->Qq,length_take->Qr,size_toArray->Qs,append_assoc->Qt,take_left->Qu,getElem?_eq_some_iff->Qv,take_take->Qw,take_left'->Qx,take_append_drop->Qy,mem_map_of_mem->Qz,length_drop->Q1,flatMap_append->Q2,filter_eq_self->Q3
open Nat renaming zero_add->Q4,mul_le_mul_right->Q5,min_eq_left->Q6,min->Q7,add_mul->Q8,succ_mul->Q9,one_mul->Xa
open Go.Result renaming andThen_ok->Xb,andThen->Xc
open Go.Sem renaming run_bind->Xd
set_option linter.unusedVariables false
section
set_option maxRecDepth 100000
open Go Go.Eng Go.Proofs
namespace Go.Proofs.YtnhdkkblehadjaaGreat
variable{t a b:Int×Int}{p:Pt}{H:Hp}
def z7z(t:Int×Int):Prop:=okR t/\-1073741824<=t.1/\t.1<=1073741824/\t.2<=1024
instance (t:Int×Int):Decidable (z7z t):=inferInstanceAs (Decidable (_/\_))
theorem zu6{x g:Int}(h:0<=x):x/g<=x:=Int.ediv_le_self g h
theorem z82(op:okP p)(a:z7z t):(ypx p t).2=0/\z2u (ypx p t).1.1<=2251799813685248/\(ypx p t).1.2<=1024:=by
 obtain⟨ot,a1,a2,a3⟩:=a;have d1:=ot.d1;have b:=op.b;have s1:=z2z (x:=p.2.1) (y:=t.2) (m:=1048576) (n:=1024) (z2x (by omega) (by omega)) (z2x (by omega) (by omega));have s2:=z2z (x:=p.2.2) (y:=t.1) (m:=1048576) (n:=1073741824) (z2x (by omega) (by omega)) (z2x (by omega) (by omega));have s3:z2u (yjd p t)<=z2u (p.2.1*t.2)+z2u (p.2.2*t.1):=by unfold yjd z2u;split <;> split <;> split <;> omega
 have n0:=z33 (yjd p t);have q1:z2u (yjd p t)/y2e (yjd p t) t.2<=z2u (yjd p t):=zu6 n0;have q2:t.2/y2e (yjd p t) t.2<=t.2:=zu6 (by omega);have g0:0<=y2e (yjd p t) t.2:=by unfold y2e;exact Int.natCast_nonneg _
 have q3:0<=z2u (yjd p t)/y2e (yjd p t) t.2:=Int.ediv_nonneg n0 g0;rw[ypz op ot];unfold ymn zbg;rw[Zn (by omega)];refine⟨rfl,?_,by show t.2/_<=1024;omega⟩;have q4:z2u (yjd p t)/y2e (yjd p t) t.2<=2251799813685248:=by omega
 generalize z2u (yjd p t)/y2e (yjd p t) t.2=z at *
 have q5:z2u (0-z)<=2251799813685248:=z2x (by omega) (by omega);have q6:z2u z<=2251799813685248:=z2x (by omega) (by omega);have q7:∀c:Bool,z2u (if c=true then 0-z else z)<=2251799813685248:=λc=>by
  cases c
  ·rw[Zn (by simp)];exact q6
  ·rw[Zp rfl];exact q5
 exact q7 _
theorem z84{f:List Pt}(of:okF f)(a:z7z t):z2g f t:=⟨of,a.1,λk hk=>(z82 (yz9 of hk) a).1⟩
theorem z83{q:Pt}(op:okP p)(oq:okP q)(a:z7z t):(x6a (ypx p t).1 (ypx q t).1).2=0:=by
 obtain⟨h1,h2,h3⟩:=z82 op a;obtain⟨k1,k2,k3⟩:=z82 oq a;have o:∀{p:Pt},okP p->(ypx p t).2=0->okR (ypx p t).1:=λ{p} op h=>by
  rw[ypz op a.1] at h ⊢;obtain⟨_,_,_,_,x⟩:=ymo a.1.d1 h;exact x
 unfold x6a;refine z3s (o op h1) (ykf (o oq k1)) (P:=2251799813685248) (Q:=1024) h2 ?_ h3 k3 (by omega) (by omega);show z2u (-(ypx q t).1.1)<=_;generalize (ypx q t).1.1=z at *
 unfold z2u at *
 split <;> split at k2 <;> omega
def y8r(l:Ls)(k:Int):Int×Int:=if yk9 l then (if l.ord.length=0 then (0,42) else if k<0\/k>=l.ord.length then (0,2) else (l.ord.getD k.toNat 0,0)) else (0,8)
theorem ypm{u:Lu}{l:Ls}{k:Int}(r:RdL H u l)(fl:zzh l):qF F.f17 #[lsV u l,vi k] H (.tuple #[vi (y8r l k).1,vi (y8r l k).2]):=by
 have lo:=r.o.len;refine vc17 ⟨_,y86 r fl,λhc=>?_,λhc=>?_⟩
 ·have hn:¬ yk9 l:=λok=>by rw[zlz ok] at hc;simp at hc
  unfold y8r;rw[Zn hn,zly hn];exact⟨rfl,Qg _⟩
 have ok:yk9 l:=zm0.1 (by simpa using hc);unfold y8r;rw[Zp ok];refine⟨λh=>?_,λh=>⟨λhb=>?_,λhb=>?_⟩⟩
 ·have h:(u.o.n:Int)=0:=by simpa using h
  rw[Zp (by omega)];exact⟨rfl,Qg _⟩
 ·have h:¬ (u.o.n:Int)=0:=by simpa using h
  simp only[Bool.or_eq_true,Zq] at hb;rw[Zn (by omega),Zp (by omega)];exact⟨rfl,Qg _⟩
 ·have h:¬ (u.o.n:Int)=0:=by simpa using h
  simp only[Bool.or_eq_false_iff,Zt] at hb;rw[Zn (by omega),Zn (by omega)];exact⟨r.o.inS (by omega) (by omega),_,RdI.get r.o (by omega) (by omega),rfl,Qg _⟩
theorem x6e:z3n a (0-b.1,b.2)=x6a a b:=by unfold x6a;rw[Qp]
theorem yur(oa:okR a)(ob:okR b) :
  qF F.f200 #[sI2 a.1 a.2,sI2 b.1 b.2] H (.tuple #[sI2 (x6a a b).1.1 (x6a a b).1.2,vi (x6a a b).2]):=by
 have on:=(ykf ob).fit;rw[show ((-b.1,b.2):Int×Int)=(0-b.1,b.2) by rw[Qp]] at on;rw[← x6e];have n1:=ob.n1;have n2:=ob.n2;exact vc200 ⟨_,yug oa.fit ob.fit,λhc=>by rw[Zp ⟨oa,ob⟩] at hc;simp at hc,λ_=>⟨by unfold inI;omega,_,_,_,yue (a:=a) (b:=(0-b.1,b.2)) oa.fit on,rfl,Qg _⟩⟩
end Go.Proofs.YtnhdkkblehadjaaGreat
namespace Go.Eng
theorem zrt{P:Program}{t t2 ty e k:TypeId}{x:TypeDesc}{cs:Array Bool}(ht:P.underlying t=some (.slice e))(he:P.underlying e=some x)(hK:P.cellsOf e=k)
  {H:Hp} {b off n c:Nat} {cells:Array Value} {T:TypeId} (hb:H b=some (.cells cells T (0,0))) {q:Addr} {m c':Nat} {vs:List Value} (hl:vs.length=m.min n*k)
  (hvs:∀j v,vs[j]?=some v->H.at (q.add j)=some v) (hone:∀v∈vs,v.oneCell'=true) (hsz:off+vs.length<=cells.size) :
  z1l P (z9e .copy #[t,t2] ty cs [.slice (some ⟨b,off,none⟩) n c,.slice (some q) m c']) H λv H'=>v=.int .i64 (m.min n:Nat) /\
   H'=H.put b (.cells (cells.toList.take off++vs++cells.toList.drop (off+vs.length)).toArray T (0,0)):=by
 intro w hv;have hld:=run_loadCells_list (P:=P) w q vs (λj v h=>hv.cell (hvs j v h));have hst:=run_storeCells_at (P:=P) b off T vs 0 cells w (hv b _ hb) (by omega) hone;simp only[Nat.add_zero] at hst;refine⟨.int .i64 (m.min n:Nat),w.setRow b (cells.toList.take off++vs++cells.toList.drop (off+vs.length)).toArray,_,.inl ?_,Tr.setRow hv hb _,rfl,rfl⟩;have hcp:(Qc #[t,t2] ty #[.slice (some ⟨b,off,none⟩) n c,.slice (some q) m c']).run P w=.ok (.int .i64 (m.min n:Nat)) (w.setRow b (cells.toList.take off++vs++cells.toList.drop (off+vs.length)).toArray):=by
  unfold Qc;simp only[List.getElem?_toArray,List.getElem?_cons_zero,List.getElem?_cons_succ];rw[Xd,run_underlying ht,Xb];simp only[];rw[Xd,show (Builtin.lenOf (.slice (some q) m c')).run P w=.ok m w from rfl,Xb];rw[Xd,run_sizeOf he,Xb,hK];rw[Xd,show Builtin.firstCells k (m.min n) (.slice (some q) m c')=loadCells q (m.min n*k) from rfl,← hl,hld,Xb];simp only[];rw[Xd];rw[hst,Xb];rfl
 simp[z9e,Go.builtin,hcp]
theorem ymp{P:Program}{f:FuncId}{fn:Func}{t e:TypeId}{x:TypeDesc}{rs:Array TypeId}(hf:P.funcs[f]?=some fn)(hname:(fn.name == "runtime.NumGoroutine")=false)(hb:fn.body.isNone=true)(hn:Extern.findNext fn=none)
  (he:Extern.find fn=some (Extern.SlicesOverlaps.overlaps #[t,t] rs)) (ht:P.underlying t=some (.slice e)) (hx:P.underlying e=some x)
  {H:Hp} {a b:Addr} {la ca lb cb:Nat} {c1 c2:Array Value} {T1 T2:TypeId} (h1:H a.block=some (.cells c1 T1 (0,0))) (h2:H b.block=some (.cells c2 T2 (0,0))) (hne:a.block≠b.block) :
  OpQ P (callFunc f #[.slice (some a) la ca,.slice (some b) lb cb]) H (.bool false):=by
 intro w hv;have w1:=hv _ _ h1;have w2:=hv _ _ h2;rw[run_callFunc_extern hf hname hb hn he];have fr:∀{q:Addr}{c:Array Value}{T:TypeId},w.heap[q.block]?=some (.cells c T (0,0))->(frozen q).run P w=.ok false w:=λ{q c T} hq=>by
  simp[frozen,Sem.run,World.frozen?,hq]
 have sh:∀{r:Nat}{c:Array Value}{T:TypeId},w.heap[r]?=some (.cells c T (0,0))->(shape r).run P w=.ok (some (T,c.size)) w:=λ{r c T} hq=>by
  simp[shape,Sem.run,World.shape?,hq]
 have vw:∀{q:Addr}{c:Array Value}{T:TypeId},w.heap[q.block]?=some (.cells c T (0,0))->(noView q).run P w=.ok () w:=λ{q c T} hq=>by
  simp[noView,viewAt,Xd,sh hq,Xc]
 have st:∀{q:Addr}{c:Array Value}{T:TypeId},w.heap[q.block]?=some (.cells c T (0,0))->(stringish q).run P w=.ok false w:=λ{q c T} hq=>by
  simp[stringish,Xd,fr hq,sh hq,Xc,fr (q:={ block:=q.block,off:=c.size }) hq]
 have mb:(mayBeOne a b).run P w=.ok false w:=by
  simp[mayBeOne,Xd,st w1,st w2,sh w1,sh w2,Xc]
 have hne':(a.block != b.block)=true:=bne_iff_ne.2 hne;have hbe:(a.block==b.block)=false:=beq_eq_false_iff_ne.2 hne;have:(Extern.SlicesOverlaps.overlaps #[t,t] rs #[.slice (some a) la ca,.slice (some b) lb cb]).run P w=.ok (.bool false) w:=by
  change (Bind.bind (underlying t) _).run P w=_;rw[Xd,run_underlying ht,Xb];change (Bind.bind (sizeOf e) _).run P w=_;rw[Xd,run_sizeOf hx,Xb];dsimp only;split
  ·rfl
  ·simp[Xd,fr w1,fr w2,vw w1,vw w2,mb,hne',hbe,Xc]
 rw[this];rfl
theorem z7i{P:Program}{t t3 ty e:TypeId}{i:TypeInfo}{z:Value}{cs:Array Bool}(ht:P.underlying t=some (.slice e))(h3:P.underlying t3=some (.int .i64))(hi:P.info? e=some i)(hz:i.zero=some z)(hzs:z.cells.size=i.size)
  {H:Hp} {p:Addr} {n c:Nat} {olds:List Value} (hlo:olds.length=n*i.size) (holds:∀j v,olds[j]?=some v->H.at (p.add j)=some v) {m:Nat} (h0:0<m*i.size)
  (hg:c<n+m) (h63:n+m<=9223372036854775807) (hb:(n+m)*i.bytes<=140737488355328) :
  z1l P (z9e .append #[t,t3] ty cs [.slice (some p) n c,.int .i64 (m:Int)]) H (z0r e (olds++(Qb z.cells m).toList) (n+m) i.size H):=by
 intro w hv;have hn:¬ (n+m<=c):=by omega
 have h63':¬ (9223372036854775807<((n:Int)+(m:Int))):=by omega
 have h48':¬ (281474976710656<Builtin.nextslicecap (n+m) c*i.bytes):=by have:=growslice_fits hg hb;omega
 have hfo:=run_firstCells_some (P:=P) w.drew i.size n p n c olds hlo (by simpa using λj v h=>hv.cell (holds j v h));have hw:IntKind.i64.wrap (m:Int)=m:=by rw[xco ⟨by omega,by omega⟩]
 have hneg:¬ ((m:Int)<0):=by omega
 have hmb:m*i.bytes<=140737488355328:=Nat.le_trans (Q5 _ (by omega)) hb;have hb48:¬ (281474976710656<(m:Int)*(i.bytes:Int)):=by
  have:((m*i.bytes:Nat):Int)=(m:Int)*(i.bytes:Int):=Int.natCast_mul _ _;omega
 have hm0:¬ (m*i.size=0):=by omega
 obtain⟨hn0,htr⟩:=Tr.drewAlloc hv (.cells (olds.toArray++Qb z.cells m++Qb z.cells (grownCap w (n+m) c e-(n+m))) e);have hr:(Qd #[t,t3] ty #[.slice (some p) n c,.int .i64 (m:Int)]).run P w=.ok (.slice (some ⟨w.heap.size,0,none⟩) (n+m) (grownCap w (n+m) c e))
   (w.drew.alloc (.cells (olds.toArray++Qb z.cells m++Qb z.cells (grownCap w (n+m) c e-(n+m))) e)):=by
  simp[Qd,run_underlying ht,run_underlying h3,asInt,asIntOf,sizeOf,typeInfo,zeroValue,hi,hz,hw,hneg,hb48,hm0,hn,h63',h48',Question.forced,hfo,newRow,grownCap]
 refine⟨_,_,_,.inl (by simp[z9e,Go.builtin,hr]),htr,w.heap.size,grownCap w (n+m) c e,(Qb z.cells (grownCap w (n+m) c e-(n+m))).toList,hn0,grownCap_ge w _ _ e,rfl,by rw[xcy,hzs],?_⟩;congr 2;simp
def ovr(C:List Value)(a:Nat)(B:List Value):List Value:=C.take a++B++C.drop (a+B.length)
theorem yms{C B:List Value}{a:Nat}(h:a+B.length<=C.length):(ovr C a B).length=C.length:=by
 unfold ovr;rw[Qq,Qq,Qr,Q1];omega
theorem ymq{C B E:List Value}{a:Nat}(h:a+B.length+E.length<=C.length):(ovr (ovr C a B) (a+B.length) E).take (a+B.length+E.length)=C.take a++B++E:=by
 have hl:(C.take a++B).length=a+B.length:=by rw[Qq,Qr];omega
 have e1:(ovr C a B).take (a+B.length)=C.take a++B:=by unfold ovr;rw[← hl];exact Qu
 unfold ovr at e1 ⊢;rw[e1];have h2:(C.take a++B++E).length=a+B.length+E.length:=by rw[Qq,hl]
 rw[← h2];exact Qu
theorem ymr{C B E:List Value}{a:Nat}(h:a+B.length+E.length<=C.length):(ovr (ovr C (a+B.length) E) a B).take (a+B.length+E.length)=C.take a++B++E:=by
 have e1:(ovr C (a+B.length) E).take a=C.take a:=by
  unfold ovr;rw[Qt,List.take_append_of_le_length (by rw[Qr];omega),Qw,Q6 (by omega)]
 have e2:(ovr C (a+B.length) E).drop (a+B.length)=E++C.drop (a+B.length+E.length):=by
  have hl:(C.take (a+B.length)).length=a+B.length:=by rw[Qr];omega
  unfold ovr;rw[Qt];exact List.drop_left' hl
 generalize ovr C (a+B.length) E=D at e1 e2 ⊢;unfold ovr;rw[e1,e2,← Qt];have h2:(C.take a++B++E).length=a+B.length+E.length:=by rw[Qq,Qq,Qr];omega
 rw[← h2];exact Qu
end Go.Eng
namespace Go.Eng
theorem x68{b off k l m:Nat}(h:m≠l):x67 (some ⟨b,off,none⟩) k (l:Int) (m:Int)=some ⟨b,off+l*k,none⟩:=by
 unfold x67;rw[Qo,Qo,Zn h];simp[Qa]
section
variable{α:Type}{k:Nat}{f:α->List Value}{P:Program}{t t3 ty ty1 e bytes:Nat}{cs:Array Bool}{H0 H:Hp}{s:Slc}{xs:List α}{i:Int}
theorem y6v(hS:x17 P t e k bytes=true)(hk0:0<k)(hk:∀x,(f x).length=k)(h1c:∀x,∀v∈f x,v.oneCell'=true)(hK:P.cellsOf e=k)(h3:P.underlying t3=some (.int .i64)){te:TypeDesc}(hte:P.underlying e=some te){fo fr:FuncId}
    (hno:∀{a b:Addr}{la ca lb cb:Nat}{c1 c2:Array Value}{T1 T2:TypeId},H a.block=some (.cells c1 T1 (0,0))->H b.block=some (.cells c2 T2 (0,0))->a.block≠b.block->OpQ P (callFunc fo #[.slice (some a) la ca,.slice (some b) lb cb]) H (.bool false))
    (hl:Qe H0 H) (h:Mine k f e H0 H s xs) (h0:0<=i) (hi:i<=xs.length) {bv:Nat} {x:α} {T:TypeId} (hv:H bv=some (.cells (f x).toArray T (0,0))) (hvo:∀p,s.a=some p->p.block≠bv)
    (hlen:xs.length<=100000000) (hby:bytes<=1000000) {Zw:Value->Hp->Prop}
    (q:∀u H',Qe H0 H'->Mine k f e H0 H' u (xs.take i.toNat++x :: xs.drop i.toNat)->Chg H H' s->Ext H s u->Zw u.v H') {v:Slc} (ev:v=⟨some ⟨bv,0,none⟩,1,1⟩) :
    ykg i (s.n:Int) (s.c:Int) (s.c:Int)/\(((v.n:Int)==0)=true->Zw s.v H)/\(((v.n:Int)==0)=false ->
      ((i==(s.n:Int))=true->z1l P (z9e .append #[t,t] ty cs [s.v,v.v]) H λv1 H2=>∃u3:Slc,v1=u3.v/\Zw u3.v H2) /\
      ((i==(s.n:Int))=false->inI ((s.n:Int)+(v.n:Int))/\(decide ((s.n:Int)+(v.n:Int)>(s.c:Int))=true->ykg 0 i (s.c:Int) (s.c:Int)/\inI ((s.n:Int)+(v.n:Int))/\inI ((s.n:Int)+(v.n:Int)-i) /\
        z1l P (z9e .append #[t,t3] ty cs [.slice (x67 s.a (P.cellsOf e) 0 (s.c:Int)) (i.toNat-Qn 0) ((s.c:Int).toNat-Qn 0),.int .i64 ((s.n:Int)+(v.n:Int)-i)]) H λv4 H5=>∃u6:Slc,v4=u6.v/\ykg i (u6.n:Int) (u6.c:Int) (u6.c:Int) /\
          z1l P (z9e .copy #[t,t] ty1 cs [.slice (x67 u6.a (P.cellsOf e) i (u6.c:Int)) ((u6.n:Int).toNat-i.toNat) ((u6.c:Int).toNat-i.toNat),v.v]) H5 λv7 H8=>∃n9:Int,v7=.int .i64 n9/\inI (i+(v.n:Int))/\ykg (i+(v.n:Int)) (u6.n:Int) (u6.c:Int) (u6.c:Int)/\ykg i (s.n:Int) (s.c:Int) (s.c:Int) /\
            z1l P (z9e .copy #[t,t] ty1 cs [.slice (x67 u6.a (P.cellsOf e) (i+(v.n:Int)) (u6.c:Int)) ((u6.n:Int).toNat-(i+(v.n:Int)).toNat) ((u6.c:Int).toNat-(i+(v.n:Int)).toNat),.slice (x67 s.a (P.cellsOf e) i (s.c:Int)) ((s.n:Int).toNat-i.toNat) ((s.c:Int).toNat-i.toNat)]) H8
              λv10 H11=>∃n12:Int,v10=.int .i64 n12/\Zw u6.v H11) /\
       (decide ((s.n:Int)+(v.n:Int)>(s.c:Int))=false->inI ((s.n:Int)+(v.n:Int))/\ykg 0 ((s.n:Int)+(v.n:Int)) (s.c:Int) (s.c:Int)/\inI (i+(v.n:Int)) /\
        ykg (i+(v.n:Int)) ((((s.n:Int)+(v.n:Int)).toNat-Qn 0:Nat):Int) (((s.c:Int).toNat-Qn 0:Nat):Int) (((s.c:Int).toNat-Qn 0:Nat):Int)/\∃c13:Bool,
        OpQ P (callFunc fo #[v.v,.slice (x67 (x67 s.a (P.cellsOf e) 0 (s.c:Int)) (P.cellsOf e) (i+(v.n:Int)) (((s.c:Int).toNat-Qn 0:Nat):Int)) (((((s.n:Int)+(v.n:Int)).toNat-Qn 0:Nat):Int).toNat-(i+(v.n:Int)).toNat) ((((s.c:Int).toNat-Qn 0:Nat):Int).toNat-(i+(v.n:Int)).toNat)]) H (.bool c13) /\
        ((!c13)=true->inI (i+(v.n:Int))/\ykg (i+(v.n:Int)) ((((s.n:Int)+(v.n:Int)).toNat-Qn 0:Nat):Int) (((s.c:Int).toNat-Qn 0:Nat):Int) (((s.c:Int).toNat-Qn 0:Nat):Int)/\ykg i ((((s.n:Int)+(v.n:Int)).toNat-Qn 0:Nat):Int) (((s.c:Int).toNat-Qn 0:Nat):Int) (((s.c:Int).toNat-Qn 0:Nat):Int) /\
          z1l P (z9e .copy #[t,t] ty1 cs [.slice (x67 (x67 s.a (P.cellsOf e) 0 (s.c:Int)) (P.cellsOf e) (i+(v.n:Int)) (((s.c:Int).toNat-Qn 0:Nat):Int)) (((((s.n:Int)+(v.n:Int)).toNat-Qn 0:Nat):Int).toNat-(i+(v.n:Int)).toNat) ((((s.c:Int).toNat-Qn 0:Nat):Int).toNat-(i+(v.n:Int)).toNat),
              .slice (x67 (x67 s.a (P.cellsOf e) 0 (s.c:Int)) (P.cellsOf e) i (((s.c:Int).toNat-Qn 0:Nat):Int)) (((((s.n:Int)+(v.n:Int)).toNat-Qn 0:Nat):Int).toNat-i.toNat) ((((s.c:Int).toNat-Qn 0:Nat):Int).toNat-i.toNat)])
            H λv14 H15=>∃n16:Int,v14=.int .i64 n16/\ykg i ((((s.n:Int)+(v.n:Int)).toNat-Qn 0:Nat):Int) (((s.c:Int).toNat-Qn 0:Nat):Int) (((s.c:Int).toNat-Qn 0:Nat):Int) /\
            z1l P (z9e .copy #[t,t] ty1 cs [.slice (x67 (x67 s.a (P.cellsOf e) 0 (s.c:Int)) (P.cellsOf e) i (((s.c:Int).toNat-Qn 0:Nat):Int)) (((((s.n:Int)+(v.n:Int)).toNat-Qn 0:Nat):Int).toNat-i.toNat) ((((s.c:Int).toNat-Qn 0:Nat):Int).toNat-i.toNat),v.v]) H15
              λv17 H18=>∃n19:Int,v17=.int .i64 n19/\Zw (.slice (x67 s.a (P.cellsOf e) 0 (s.c:Int)) (((s.n:Int)+(v.n:Int)).toNat-Qn 0) ((s.c:Int).toNat-Qn 0)) H18) /\
        ((!c13)=false->ykg (s.n:Int) ((((s.n:Int)+(v.n:Int)).toNat-Qn 0:Nat):Int) (((s.c:Int).toNat-Qn 0:Nat):Int) (((s.c:Int).toNat-Qn 0:Nat):Int) /\
          z1l P (z9e .copy #[t,t] ty1 cs [.slice (x67 (x67 s.a (P.cellsOf e) 0 (s.c:Int)) (P.cellsOf e) (s.n:Int) (((s.c:Int).toNat-Qn 0:Nat):Int)) (((((s.n:Int)+(v.n:Int)).toNat-Qn 0:Nat):Int).toNat-(s.n:Int).toNat) ((((s.c:Int).toNat-Qn 0:Nat):Int).toNat-(s.n:Int).toNat),v.v]) H
            λv20 H21=>∃n22:Int,v20=.int .i64 n22/\ykg i ((((s.n:Int)+(v.n:Int)).toNat-Qn 0:Nat):Int) (((s.c:Int).toNat-Qn 0:Nat):Int) (((s.c:Int).toNat-Qn 0:Nat):Int) /\
            Fn P fr #[.slice (x67 (x67 s.a (P.cellsOf e) 0 (s.c:Int)) (P.cellsOf e) i (((s.c:Int).toNat-Qn 0:Nat):Int)) (((((s.n:Int)+(v.n:Int)).toNat-Qn 0:Nat):Int).toNat-i.toNat) ((((s.c:Int).toNat-Qn 0:Nat):Int).toNat-i.toNat),.int .i64 (v.n:Int)] H21
              λv23 H24=>v23=.tuple #[]/\Zw (.slice (x67 s.a (P.cellsOf e) 0 (s.c:Int)) (((s.n:Int)+(v.n:Int)).toNat-Qn 0) ((s.c:Int).toNat-Qn 0)) H24)))):=by
  subst ev;obtain⟨ti,z,h1,h2,h3',h4,h5,h6⟩:=x18 hS;have hrd:=h.rd hk;have hn:=hrd.len;have hc:=hrd.cap;have hvrd:Rd k f H ⟨some ⟨bv,0,none⟩,1,1⟩ [x]:=by
    refine⟨rfl,Nat.le_refl _,λ_=>rfl,λj y hj jj w hw=>?_⟩;have hj0:j=0:=by
      have:=(Qv.1 hj).1;simp at this;exact this
    subst hj0;simp at hj;subst hj;simp only[zu4,Qo,Nat.zero_mul,add_zero',Qa,Q4];have e1:(f x).toArray[jj]?=some w:=by simpa using hw
    simp[Hp.at,hv,e1]
  have hby2:(xs.length+1)*bytes<=140737488355328:=by
    calc (xs.length+1)*bytes<=100000001*1000000:=Nat.mul_le_mul (by omega) hby
      _<=_:=by omega
  have hnat:∃I:Nat,i=I:=⟨i.toNat,by omega⟩;obtain⟨I,rfl⟩:=hnat;simp only[Qo] at q ⊢;have eN:((s.n:Int)+((1:Nat):Int))=((s.n+1:Nat):Int):=by omega
  have eI:((I:Int)+((1:Nat):Int))=((I+1:Nat):Int):=by omega
  have eM:(((s.n+1:Nat):Int)-(I:Int))=((s.n+1-I:Nat):Int):=by omega
  rw[eN,eI,eM];simp only[Qo,Int.toNat_zero,Nat.sub_zero,hK];refine⟨⟨by omega,by omega,by omega,by omega⟩,λhz=>absurd hz (by decide),λ_=>⟨λhe=>?_,λhne=>?_⟩⟩
  ·
    have hI:I=xs.length:=by simp at he;omega
    refine(z7e (ys:=[x]) hS hk0 hk h1c hl h hvrd (by simp) (by simpa using hby2) (by simp;omega)).mono λv H' ⟨u',g1,g2,g3,g4,g5⟩=>⟨u',g1,q u' H' g2 (by rw[hI,List.take_length,List.drop_length];exact g3) g4 g5⟩
  · have hlt:I<xs.length:=by simp at hne;omega
    rcases h with⟨rfl,rfl⟩|⟨b,hb0,o1,o2,o3,cells,o4,o5,o6⟩
    · simp at hlt
    have hmm:Mine k f e H0 H s xs:=.inr ⟨b,hb0,o1,o2,o3,cells,o4,o5,o6⟩;have hbv:b≠bv:=hvo _ o3;have hfl:=y06 hk (xs.drop I);have hdl:(xs.drop I).length=xs.length-I:=Q1;have htl:(xs.take I).length=I:=by rw[Qr];omega
    have hft:=y06 hk (xs.take I);rw[hdl] at hfl;rw[htl] at hft;have hall:xs.flatMap f=(xs.take I).flatMap f++(xs.drop I).flatMap f:=by rw[← Q2,Qy]
    have hcell:∀j v,((xs.drop I).flatMap f)[j]?=some v->H.at ⟨b,I*k+j,none⟩=some v:=λj v hj=>by
      have:=Rd.cells hk hk0 hrd (p:=⟨b,0,none⟩) o3 (I*k+j) v (by rw[hall,List.getElem?_append_right (by omega),hft,Nat.add_sub_cancel_left];exact hj);simpa[Qa] using this
    have hone:∀v∈(xs.drop I).flatMap f,v.oneCell'=true:=λv hv=>by
      obtain⟨y,_,hy⟩:=List.mem_flatMap.1 hv;exact h1c y v hy
    have hxl:(xs.take I++x :: xs.drop I).length=xs.length+1:=by simp;omega
    have hxf:(xs.take I++x :: xs.drop I).flatMap f=(xs.take I).flatMap f++f x++(xs.drop I).flatMap f:=by rw[Q2,List.flatMap_cons,Qt]
    have hmul:I*k+k+(xs.length-I)*k=(xs.length+1)*k:=by
      rw[← Q9,← Q8];congr 1;omega
    have hI1:(I+1)*k=I*k+k:=Q9 I k;rw[o3,x69,x68 (show s.c≠I by omega),Q4];refine⟨⟨by omega,by omega⟩,λhg=>?_,λhr=>?_⟩
    ·
      have hg':s.c<s.n+1:=by simp at hg;omega
      refine⟨⟨by omega,by omega,by omega,by omega⟩,⟨by omega,by omega⟩,⟨by omega,by omega⟩,?_⟩;have hti:(I+(s.n+1-I))=xs.length+1:=by omega
      refine(z7i (P:=P) (ty:=ty) (cs:=cs) (p:=⟨b,0,none⟩) (n:=I) (c:=s.c) (olds:=(xs.take I).flatMap f) (m:=s.n+1-I) h1 h3 h2 h3' h4 (by rw[hft,h5]) (λj v hj=>?_) (by rw[h5];exact Nat.mul_pos (by omega) hk0) (by omega) (by omega) (by rw[hti,h6];exact hby2)).mono λv4 H5 ⟨b',cap,rest,g1,g2,g3,g4,g5⟩=>?_
      · exact Rd.cells hk hk0 hrd (p:=⟨b,0,none⟩) o3 j v (by rw[hall,List.getElem?_append_left (by have:=(Qv.1 hj).1;exact this)];exact hj)
      rw[hti] at g2 g3 g4;refine⟨⟨some ⟨b',0,none⟩,xs.length+1,cap⟩,g3,⟨by omega,by show (I:Int)<=((xs.length+1:Nat):Int);omega,by show ((xs.length+1:Nat):Int)<=(cap:Int);omega,by omega⟩,?_⟩;have hle5:Qe H H5:=by rw[g5];exact Ql _ _ g1
      show z1l P (z9e .copy #[t,t] ty1 cs [.slice (x67 (some ⟨b',0,none⟩) k (I:Int) (cap:Int)) (xs.length+1-I) (cap-I),.slice (some ⟨bv,0,none⟩) 1 1]) H5 _;rw[x68 (show cap≠I by omega),Q4];have hzl:(Qb z.cells (s.n+1-I)).toList.length=(s.n+1-I)*k:=by rw[xcy,h4,h5]
      have hC:((xs.take I).flatMap f++(Qb z.cells (s.n+1-I)).toList++rest).length=cap*k:=by
        rw[Qq,Qq,hft,hzl,g4,h5,← Q8,← Q8];congr 1;omega
      generalize hCC:(xs.take I).flatMap f++(Qb z.cells (s.n+1-I)).toList++rest=C at g5 hC;have hCt:C.take (I*k)=(xs.take I).flatMap f:=by rw[← hCC,Qt,Qx hft]
      have hcapk:(xs.length+1)*k<=cap*k:=Q5 _ g2;have hmin1:Q7 1 (xs.length+1-I)=1:=Q6 (by omega);refine(zrt (P:=P) (ty:=ty1) (cs:=cs) (b:=b') (off:=I*k) (n:=xs.length+1-I) (c:=cap-I) (cells:=C.toArray) (T:=e) (q:=⟨bv,0,none⟩) (m:=1) (c':=1) (vs:=f x) h1 hte hK (by rw[g5];exact Qh _ _ _) (by rw[hk,hmin1,Xa]) (λj v hj=>?_) (h1c x) (by rw[hk,Qs,hC];omega)).mono λv7 H8 ⟨g7,g8⟩=>?_
      · have:=Rd.cells hk hk0 (hvrd.le hle5) (p:=⟨bv,0,none⟩) rfl j v (by simpa using hj)
        simpa[Qa] using this
      refine⟨_,g7,⟨by omega,by omega⟩,⟨by omega,by show ((I+1:Nat):Int)<=((xs.length+1:Nat):Int);omega,by show ((xs.length+1:Nat):Int)<=(cap:Int);omega,by omega⟩,⟨by omega,by omega,by omega,by omega⟩,?_⟩;have g8':H8=H.put b' (.cells (ovr C (I*k) (f x)).toArray e (0,0)):=by
        rw[g8,g5,Qi];rfl
      show z1l P (z9e .copy #[t,t] ty1 cs [.slice (x67 (some ⟨b',0,none⟩) k ((I+1:Nat):Int) (cap:Int)) (xs.length+1-(I+1)) (cap-(I+1)),.slice (some ⟨b,I*k,none⟩) (s.n-I) (s.c-I)]) H8 _;rw[x68 (show cap≠I+1 by omega),Q4];have hle8:Qe H H8:=by rw[g8'];exact Ql _ _ g1
      have hol:=yms (C:=C) (B:=f x) (a:=I*k) (by rw[hk,hC];omega);have hmin2:Q7 (s.n-I) (xs.length+1-(I+1))=xs.length-I:=by rw[show s.n-I=xs.length+1-(I+1) by omega];show min _ _=_;omega
      refine(zrt (P:=P) (ty:=ty1) (cs:=cs) (b:=b') (off:=(I+1)*k) (n:=xs.length+1-(I+1)) (c:=cap-(I+1)) (cells:=(ovr C (I*k) (f x)).toArray) (T:=e) (q:=⟨b,I*k,none⟩) (m:=s.n-I) (c':=s.c-I) (vs:=(xs.drop I).flatMap f) h1 hte hK (by rw[g8'];exact Qh _ _ _) (by rw[hfl,hmin2]) (λj v hj=>?_) hone (by rw[hfl,Qs,hol,hC,hI1];omega)).mono λv10 H11 ⟨g10,g11⟩=>⟨_,g10,?_⟩
      · have:=Hp.at_le hle8 (hcell j v hj)
        simpa[Qa] using this
      have g11':H11=H.put b' (.cells (ovr (ovr C (I*k) (f x)) (I*k+(f x).length) ((xs.drop I).flatMap f)).toArray e (0,0)):=by
        rw[g11,g8',Qi,hk,← hI1];rfl
      have hbn:H0 b'=none:=by
        cases hx:H0 b' with
        | none=>rfl
        | some o=>rw[hl b' o hx] at g1;cases g1
      have hfin:=ymq (C:=C) (B:=f x) (E:=(xs.drop I).flatMap f) (a:=I*k) (by rw[hk,hfl,hC];omega);have hol2:=yms (C:=ovr C (I*k) (f x)) (B:=(xs.drop I).flatMap f) (a:=I*k+(f x).length) (by rw[hk,hfl,hol,hC];omega);refine q ⟨some ⟨b',0,none⟩,xs.length+1,cap⟩ H11 (by rw[g11'];exact Qm hl hbn) (.inr ⟨b',hbn,?_,g2,rfl,_,by rw[g11'];exact Qh _ _ _,?_,?_⟩) (λc hc _=>?_) (λp hp=>.inr ?_)
      · rw[hxl]
      · rw[Qs,hol2,hol,hC]
      · rw[hxl,hxf]
        show (ovr (ovr C (I*k) (f x)) (I*k+(f x).length) ((xs.drop I).flatMap f)).take _=_;rw[← hCt,← hfin];congr 1;rw[hk,hfl];omega
      · rw[g11'];exact Qj _ _ λe=>hc (e▸g1)
      · cases hp;exact g1
    ·
      have hr':s.n+1<=s.c:=by simp at hr;omega
      have hck:cells.size=s.c*k:=o5;have hcl:cells.toList.length=s.c*k:=by rw[Array.length_toList,o5]
      have hcapk:(xs.length+1)*k<=s.c*k:=Q5 _ (by omega);rw[x68 (show s.c≠I+1 by omega),Q4];refine⟨⟨by omega,by omega⟩,⟨by omega,by omega,by omega,by omega⟩,⟨by omega,by omega⟩,⟨by omega,by omega,by omega,by omega⟩,false,?_,λ_=>⟨⟨by omega,by omega⟩,⟨by omega,by omega,by omega,by omega⟩,⟨by omega,by omega,by omega,by omega⟩,?_⟩,λhf=>absurd hf (by decide)⟩
      · exact hno (a:=⟨bv,0,none⟩) (b:=⟨b,(I+1)*k,none⟩) hv o4 λe=>hbv e.symm
      have hmin2:Q7 (s.n+1-I) (s.n+1-(I+1))=xs.length-I:=by show min _ _=_;omega
      refine(zrt (P:=P) (ty:=ty1) (cs:=cs) (b:=b) (off:=(I+1)*k) (n:=s.n+1-(I+1)) (c:=s.c-(I+1)) (cells:=cells) (T:=e) (q:=⟨b,I*k,none⟩) (m:=s.n+1-I) (c':=s.c-I) (vs:=(xs.drop I).flatMap f) h1 hte hK o4 (by rw[hfl,hmin2]) (λj v hj=>?_) hone (by rw[hfl,hck,hI1];omega)).mono λv14 H15 ⟨g14,g15⟩=>⟨_,g14,⟨by omega,by omega,by omega,by omega⟩,?_⟩
      · have:=hcell j v hj
        simpa[Qa] using this
      have g15':H15=H.put b (.cells (ovr cells.toList ((I+1)*k) ((xs.drop I).flatMap f)).toArray e (0,0)):=g15;have hol:=yms (C:=cells.toList) (B:=(xs.drop I).flatMap f) (a:=(I+1)*k) (by rw[hfl,hcl,hI1];omega);have hv15:H15 bv=some (.cells (f x).toArray T (0,0)):=by rw[g15',Qj _ _ hbv.symm];exact hv
      have hmin1:Q7 1 (s.n+1-I)=1:=Q6 (by omega);refine(zrt (P:=P) (ty:=ty1) (cs:=cs) (b:=b) (off:=I*k) (n:=s.n+1-I) (c:=s.c-I) (cells:=(ovr cells.toList ((I+1)*k) ((xs.drop I).flatMap f)).toArray) (T:=e) (q:=⟨bv,0,none⟩) (m:=1) (c':=1) (vs:=f x) h1 hte hK (by rw[g15'];exact Qh _ _ _) (by rw[hk,hmin1,Xa]) (λj v hj=>?_) (h1c x) (by rw[hk,Qs,hol,hcl];omega)).mono λv17 H18 ⟨g17,g18⟩=>⟨_,g17,?_⟩
      · have e1:(f x).toArray[j]?=some v:=by simpa using hj
        simp[Hp.at,Qa,hv15,e1]
      have g18':H18=H.put b (.cells (ovr (ovr cells.toList (I*k+(f x).length) ((xs.drop I).flatMap f)) (I*k) (f x)).toArray e (0,0)):=by
        have e1:(I+1)*k=I*k+(f x).length:=by rw[hk,hI1]
        rw[g18,g15',Qi,e1];rfl
      have hfin:=ymr (C:=cells.toList) (B:=f x) (E:=(xs.drop I).flatMap f) (a:=I*k) (by rw[hk,hfl,hcl];omega);have hCt:cells.toList.take (I*k)=(xs.take I).flatMap f:=by
        have:=congrArg (List.take (I*k)) o6;rw[Qw,Q6 (Q5 _ (by omega)),hall,Qx hft] at this;exact this
      have hol2:=yms (C:=ovr cells.toList (I*k+(f x).length) ((xs.drop I).flatMap f)) (B:=f x) (a:=I*k) (by rw[hk,← hI1,hol,hcl];omega);refine q ⟨some ⟨b,0,none⟩,s.n+1,s.c⟩ H18 (by rw[g18'];exact Qm hl hb0) (.inr ⟨b,hb0,?_,hr',rfl,_,by rw[g18'];exact Qh _ _ _,?_,?_⟩) (λc hc hne=>?_) (λp hp=>.inl (by rw[o3];exact hp))
      · rw[hxl];show s.n+1=_;omega
      · rw[Qs,hol2,hk,← hI1,hol,hcl]
      · rw[hxl,hxf]
        show (ovr (ovr cells.toList (I*k+(f x).length) ((xs.drop I).flatMap f)) (I*k) (f x)).take _=_;rw[← hCt,← hfin];congr 1;rw[hk,hfl];omega
      · rw[g18'];exact Qj _ _ λe=>hne _ o3 e.symm
end
end Go.Eng
end
section
set_option maxRecDepth 100000
open Go Go.Eng Go.Proofs
namespace Go.Proofs.YtnhdkkblehadjaaGreat
variable{H H0:Hp}{f:List Pt}{s u:Slc}{i:Int}{a b:Addr}{la ca lb cb bv:Nat}{c1 c2:Array Value}{T1 T2 TT:TypeId}{xs:List Int}
theorem yis(h1:H a.block=some (.cells c1 T1 (0,0)))(h2:H b.block=some (.cells c2 T2 (0,0)))(hne:a.block≠b.block) :
  OpQ Tryz.prog (Go.callFunc F.f249 #[.slice (some a) la ca,.slice (some b) lb cb]) H (.bool false) :=
 ymp (t:=22) (e:=28) (rs:=#[4]) y15 (by kernel_rfl) (by kernel_rfl) (by kernel_rfl) (by kernel_rfl) Tryz.underlying22 Tryz.underlying28 h1 h2 hne
theorem yir(h1:H a.block=some (.cells c1 T1 (0,0)))(h2:H b.block=some (.cells c2 T2 (0,0)))(hne:a.block≠b.block) :
  OpQ Tryz.prog (Go.callFunc F.f207 #[.slice (some a) la ca,.slice (some b) lb cb]) H (.bool false) :=
 ymp (t:=36) (e:=3) (rs:=#[4]) y14 (by kernel_rfl) (by kernel_rfl) (by kernel_rfl) (by kernel_rfl) Tryz.underlying36 Tryz.underlying3 h1 h2 hne
theorem y6s{x:Int}(hl:Qe H0 H)(h:Mine 1 fI 3 H0 H s xs)(h0:0<=i)(hi:i<=xs.length)(hlen:xs.length<=100000000)(hv:H bv=some (.cells #[vi x] TT (0,0)))(hvo:∀p,s.a=some p->p.block≠bv) :
  fN F.f161 #[s.v,vi i,.slice (some ⟨bv,0,none⟩) 1 1] H λv H'=>∃u:Slc,v=u.v/\Qe H0 H'/\Mine 1 fI 3 H0 H' u (y6j xs i.toNat x)/\Chg H H' s/\Ext H s u :=
 vc161 (a2:=⟨some ⟨bv,0,none⟩,1,1⟩) (y6v (k:=1) (f:=fI) (bytes:=8) (Zw:=λv H'=>∃u:Slc,v=u.v/\Qe H0 H'/\Mine 1 fI 3 H0 H' u (y6j xs i.toNat x)/\Chg H H' s/\Ext H s u) (by kernel_rfl) (by decide) (λ_=>rfl) (λx v hv=>by simp[fI] at hv;subst hv;rfl) (by kernel_rfl) Tryz.underlying3 Tryz.underlying3 (λa b c=>yir a b c) hl h h0 hi hv hvo hlen (by decide)
  (λu H' g1 g2 g3 g4=>⟨u,rfl,g1,g2,g3,g4⟩) rfl)
theorem y6u{xs:List Pt}{x:Pt}(hl:Qe H0 H)(h:Mine 3 fD T.api_Point H0 H s xs)(h0:0<=i)(hi:i<=xs.length)(hlen:xs.length<=100000000)(hv:H bv=some (.cells (fD x).toArray TT (0,0)))(hvo:∀p,s.a=some p->p.block≠bv) :
  fN F.f206 #[s.v,vi i,.slice (some ⟨bv,0,none⟩) 1 1] H λv H'=>∃u:Slc,v=u.v/\Qe H0 H'/\Mine 3 fD T.api_Point H0 H' u (xs.take i.toNat++x :: xs.drop i.toNat)/\Chg H H' s/\Ext H s u :=
 vc206 (a2:=⟨some ⟨bv,0,none⟩,1,1⟩) (y6v (k:=3) (f:=fD) (bytes:=24) (Zw:=λv H'=>∃u:Slc,v=u.v/\Qe H0 H'/\Mine 3 fD T.api_Point H0 H' u (xs.take i.toNat++x :: xs.drop i.toNat)/\Chg H H' s/\Ext H s u) (by kernel_rfl) (by decide) (λ_=>rfl) zws (by kernel_rfl) Tryz.underlying3 Tryz.underlying28 (λa b c=>yis a b c) hl h h0 hi hv hvo hlen (by decide)
  (λu H' g1 g2 g3 g4=>⟨u,rfl,g1,g2,g3,g4⟩) rfl)
theorem zsv(hl:Qe H0 H)(h:Mine 1 fI 3 H0 H s xs)(h0:0<=i)(hi:i<xs.length) :
  fN F.f102 #[s.v,vi i,vi (i+1)] H λv H'=>∃u:Slc,v=u.v/\Qe H0 H'/\Mine 1 fI 3 H0 H' u (zso xs i.toNat)/\Chg H H' s/\Ext H s u :=
 vc102 (zsz (k:=1) (f:=fI) (bytes:=8) (j:=i+1) (Zw:=λv H'=>∃u:Slc,v=u.v/\Qe H0 H'/\Mine 1 fI 3 H0 H' u (zso xs i.toNat)/\Chg H H' s/\Ext H s u) (by kernel_rfl) (by kernel_rfl) (by decide) (λ_=>rfl) (λx v hv=>by simp[fI] at hv;subst hv;rfl) (by kernel_rfl) hl h h0 (by omega) (by omega)
  λu H' g1 g2 g3 g4=>⟨u,rfl,g1,by rw[show (i+1).toNat=i.toNat+1 by omega] at g2;exact g2,g3,g4⟩)
theorem zsw{xs:List Pt}(hl:Qe H0 H)(h:Mine 3 fD T.api_Point H0 H s xs)(h0:0<=i)(hi:i<xs.length) :
  fN F.f163 #[s.v,vi i,vi (i+1)] H λv H'=>∃u:Slc,v=u.v/\Qe H0 H'/\Mine 3 fD T.api_Point H0 H' u (xs.take i.toNat++xs.drop (i.toNat+1))/\Chg H H' s/\Ext H s u :=
 vc163 (zsz (k:=3) (f:=fD) (bytes:=24) (j:=i+1) (Zw:=λv H'=>∃u:Slc,v=u.v/\Qe H0 H'/\Mine 3 fD T.api_Point H0 H' u (xs.take i.toNat++xs.drop (i.toNat+1))/\Chg H H' s/\Ext H s u) (by kernel_rfl) (by kernel_rfl) (by decide) (λ_=>rfl) zws (by kernel_rfl) hl h h0 (by omega) (by omega)
  λu H' g1 g2 g3 g4=>⟨u,rfl,g1,by rw[show (i+1).toNat=i.toNat+1 by omega] at g2;exact g2,g3,g4⟩)
theorem zxs{id:Int}(hf:Rd 3 fD H u f)(of:okF f) :
  qF F.f205 #[vFd u,vi id] H (.tuple #[vi (ybs f id),.bool (decide (0<=yr5 f id))])/\(0<=yr5 f id->yr5 f id=ybs f id)/\ybs f id<=f.length:=by
 have hl:=of.small;have hb:=zb4 (n:=id) hf of.inc (by omega);have hle:=yro (f.map (·.1)) id;rw[List.length_map] at hle;rcases ys1 of.inc id with⟨h1,h2⟩|⟨h1,h2⟩
 ·have e:yr5 f id=yrl (f.map (·.1)) id:=h2;rw[h1] at hb;refine⟨vc205 ⟨_,_,hb,?_,Qg _⟩,λ_=>e,hle⟩;have:decide (0<=yr5 f id)=true:=Zu (by omega);rw[this];rfl
 ·have e:yr5 f id = -1:=h2;rw[h1] at hb;refine⟨vc205 ⟨_,_,hb,?_,Qg _⟩,λh=>by omega,hle⟩;have:decide (0<=yr5 f id)=false:=Zv (by omega);rw[this];rfl
def ypw(f:List Pt)(id:Int):Int×Int:=if zlg f≠0 then (0,zlg f) else if yr5 f id<0 then (0,6) else (yr5 f id,0)
theorem fieldPlace{id:Int}(hf:Rd 3 fD H u f) :
  qF F.f162 #[vFd u,vi id] H (.tuple #[vi (ypw f id).1,vi (ypw f id).2]):=by
 unfold ypw;refine vc162 ⟨_,zxq hf,λh=>?_,λh=>?_⟩
 ·have h:zlg f≠0:=by simpa using h
  rw[Zp h];exact⟨rfl,Qg _⟩
 have h:zlg f=0:=by simpa using h
 rw[Zn (by rw[h];simp)];obtain⟨q,e,_⟩:=zxs (id:=id) hf (zlh.1 h);refine⟨_,_,q,λhb=>?_,λhb=>?_⟩
 ·have hb:yr5 f id<0:=by simpa using hb
  rw[Zp hb];exact⟨rfl,Qg _⟩
 ·have hb:0<=yr5 f id:=by simpa using hb
  rw[Zn (by omega),e hb];exact⟨rfl,Qg _⟩
theorem zm3(p:Pt):zm1 p=if okP p then 0 else 8:=by
 by_cases h:okP p
 ·rw[Zp h,zm4 h]
 ·rw[Zn h,zm2 h]
theorem zxu{p:Pt}(hf:Rd 3 fD H u f) :
  fN F.f160 #[vFd u,.agg #[vi p.1,vi p.2.1,vi p.2.2]] H λv H'=>∃w:Slc,v=.tuple #[vFd w,vi (putF f p).2]/\Qe H H'/\Rd 3 fD H' w (putF f p).1:=by
 have lu:=hf.len;unfold putF;refine vc160 ⟨_,zxq hf,λh=>?_,λh=>⟨_,zs5,λh2=>?_,λh2=>?_⟩⟩
 ·have h:zlg f≠0:=by simpa using h
  rw[Zp h];exact⟨⟨none,0,0⟩,rfl,Qg _,Rd.nil⟩
 ·have h:zlg f=0:=by simpa using h
  have h2:¬ okP p:=λop=>by rw[zm4 op] at h2;simp at h2
  rw[Zn (by rw[h];simp),Zp h2,zm2 h2];exact⟨⟨none,0,0⟩,rfl,Qg _,Rd.nil⟩
 have h:zlg f=0:=by simpa using h
 have h2:okP p:=zm5.1 (by simpa using h2);have of:=zlh.1 h;have lf:=of.small;rw[Zn (by rw[h];simp),Zn (by simpa using h2)];obtain⟨q,e,hle⟩:=zxs (id:=p.1) hf of;refine⟨_,_,q,λhb=>?_,λhb=>?_⟩
 ·have hb:0<=yr5 f p.1:=by simpa using hb
  rw[Zp hb];exact⟨⟨none,0,0⟩,rfl,Qg _,Rd.nil⟩
 have hb:¬ 0<=yr5 f p.1:=by simpa using hb
 rw[Zn hb,lu];refine⟨λhc=>?_,λhc=>?_⟩
 ·have hc:f.length=64:=by have:(f.length:Int)=64:=by simpa using hc
                          omega
  rw[Zp hc];exact⟨⟨none,0,0⟩,rfl,Qg _,Rd.nil⟩
 have hc:f.length≠64:=by have:¬ (f.length:Int)=64:=by simpa using hc
                         omega
 rw[Zn hc];refine(zny hf (by omega)).mono λv H6 ⟨w,hv,l6,m6⟩=>⟨l6,w,hv,λb8 H9 hb8 hH9=>?_⟩
 have l9:Qe H6 H9:=Hp.le_new (Qg _) hb8 hH9;refine(y6u (x:=p) (Hp.le_trans l6 l9) (m6.le l9) (i:=(ybs f p.1:Int)) (by omega) (by omega) (by omega) (by rw[hH9];exact Qh _ _ _) λp hp e=>?_).mono λv H11 ⟨z,hv,l11,m11,_,_⟩=>⟨z,hv,z,rfl,l11,?_⟩
 ·have:=m6.isOld p hp;rw[e] at this;exact this hb8
 ·rw[Qo] at m11;exact m11.rdD
theorem ymf(of:okF f){id:Int}(h0:0<=yr5 f id):f.take (yr5 f id).toNat++f.drop ((yr5 f id).toNat+1)=yme f id:=by
 obtain⟨h1,h2,h3⟩:=yra h0;obtain⟨hlt,hx⟩:=Qv.1 h2;have hsplit:f=f.take (yr5 f id).toNat++gP f (yr5 f id) :: f.drop ((yr5 f id).toNat+1):=by
  conv=>lhs;rw[← Qy (yr5 f id).toNat f]
  rw[List.drop_eq_getElem_cons hlt,hx]
 have hs:=of.inc;generalize hA:f.take (yr5 f id).toNat=A at *
 generalize hB:f.drop ((yr5 f id).toNat+1)=B at *
 generalize gP f (yr5 f id)=q at *
 unfold yme;rw[hsplit,List.filter_append,List.filter_cons];rw[hsplit,List.map_append,List.map_cons,List.pairwise_append,List.pairwise_cons] at hs;obtain⟨s1,⟨s2,s3⟩,s4⟩:=hs;have a1:A.filter (λx=>x.1 != id)=A:=Q3.2 λx hx=>by
  have:=s4 x.1 (Qz hx) q.1 List.mem_cons_self;rw[bne_iff_ne];omega
 have b1:B.filter (λx=>x.1 != id)=B:=Q3.2 λx hx=>by
  have:=s2 x.1 (Qz hx);rw[bne_iff_ne];omega
 rw[a1,b1,Zn (by rw[h3];simp)]
theorem zxw{id:Int}(hf:Rd 3 fD H u f) :
  fN F.f103 #[vFd u,vi id] H λv H'=>∃w:Slc,v=.tuple #[vFd w,vi (x7m f id).2]/\Qe H H'/\Rd 3 fD H' w (x7m f id).1:=by
 have q:=fieldPlace (id:=id) hf;unfold ypw at q;unfold x7m;by_cases h:zlg f≠0
 ·rw[Zp h] at q ⊢;exact vc103 ⟨_,_,q,λ_=>⟨⟨none,0,0⟩,rfl,Qg _,Rd.nil⟩,λhc=>absurd (by simpa using hc) h⟩
 rw[Zn h] at q ⊢;have h:zlg f=0:=by simpa using h
 have of:=zlh.1 h;have lf:=of.small;by_cases h1:yr5 f id<0
 ·rw[Zp h1] at q ⊢;exact vc103 ⟨_,_,q,λ_=>⟨⟨none,0,0⟩,rfl,Qg _,Rd.nil⟩,λhc=>by simp at hc⟩
 rw[Zn h1] at q ⊢;have h0:0<=yr5 f id:=by omega
 have hlt:=yr6 h0;refine vc103 ⟨_,_,q,λhc=>by simp at hc,λ_=>(zny hf (by omega)).mono λv H4 ⟨w,hv,l4,m4⟩=>⟨w,hv,by unfold inI;omega,?_⟩⟩;refine(zsw l4 m4 h0 hlt).mono λv H7 ⟨z,hv,l7,m7,_,_⟩=>⟨z,hv,z,rfl,l7,?_⟩
 rw[ymf of h0] at m7;exact m7.rdD
