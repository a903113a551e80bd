/- The engine, parts N5, N6, KM, N7, M7, M8, GQ, put together. Conditions: none. -/
import Derived.Test.YtnhdkkblehadjaaGreatPN1
import Derived.Test.YtnhdkkblehadjaaGreatPL4
open Go.Eng.Hp renaming le_refl->Qa
open Int renaming toNat_natCast->Qb,natAbs_mul->Qc
open List renaming getElem?_eq_some_iff->Qd,mem_range->Qe,mem_of_getElem?->Qg,getD_eq_getElem?_getD->Qh,pairwise_map->Qi,range->Qj,pairwise_iff_getElem->Ql,mem_map->Qm,length_eq_zero_iff->Qn,getElem?_eq_getElem->Qo,getElem?_append_left->Qp,Nodup->Qq
open Nat renaming Coprime->Qr,dvd_mul_left->Qs
set_option linter.unusedVariables false
set_option maxHeartbeats 8000000
section
set_option maxRecDepth 100000
open Go Go.Eng Go.Proofs
namespace Go.Proofs.YtnhdkkblehadjaaGreat
variable{l:Ls}{i:Nat}{H:Hp}{o:List Int}{a b:Int}{u:Lu}{t:Int×Int}
def yrt(o:List Int)(id:Int):Int:=idx (λy=>id==y) o
theorem yrx{id:Int}(h:0<=yrt o id):yrt o id<o.length/\o[(yrt o id).toNat]?=some id:=by
 obtain⟨x,h1,h2,_,h4⟩:=y5t h;refine⟨h4,?_⟩;have:id=x:=by simpa using h2
 rw[this] at h1 ⊢;exact h1
theorem yru(hd:o.Pairwise (·≠·)){x:Int}(hi:o[i]?=some x):yrt o x=i:=by
 refine y5s hi (by simp) λy hy=>?_
 obtain⟨j,hj,e⟩:=List.mem_take_iff_getElem.1 hy;obtain⟨a1,a2⟩:=Qd.1 hi;have:=Ql.1 hd j i (by omega) a1 (by omega);rw[e,a2] at this;simpa using λh=>this h.symm
theorem y69{s:Slc}{xs:List Int}{id:Int}(h:RdI H s xs)(hl:xs.length<=1000000000):qF F.f79 #[s.v,vi id] H (vi (yrt xs id)):=by
  have ls:=h.len;refine vc79 (upto (N:=xs.length) (J:=λn=>∀y∈xs.take n.toNat,(id==y)=false) (by omega) (by simp) λn h0 h1 hJ=>⟨λhn=>?_,λhn=>⟨?_,Qa _⟩⟩)
  · have hn:n<xs.length:=by have:n<s.n:=by simpa using hn
                            omega
    have hg:=y36 h0 hn;refine⟨h.inS h0 hn,_,RdI.get h h0 hn,?_⟩;generalize xs.getD n.toNat 0=x at hg ⊢;refine⟨λhb=>⟨?_,Qa _⟩,λhb=>upto.nx h0 hn (by omega) ?_⟩
    · unfold yrt;rw[y5s hg hb hJ,Int.toNat_of_nonneg h0]
    · rw[show (n+1).toNat=n.toNat+1 by omega,x88 hg]
      intro y hy;rcases List.mem_append.1 hy with hy|hy
      · exact hJ y hy
      · simp only[List.mem_singleton] at hy;subst hy;exact hb
  · have:n=xs.length:=by have:¬ n<s.n:=by simpa using hn
                         omega
    subst this;rw[Qb,List.take_length] at hJ;unfold yrt;rw[y5u hJ]
theorem yqe(h:(yq3 l).2=0):yk9 l/\(yq5 l l.ord.length).2=0/\(yq3 l).1=xsM l/\(xsM l).length=l.ord.length/\z0l (xsM l):=by
 by_cases ok:yk9 l
 ·have e:yq3 l=yq5 l l.ord.length:=Zp ok;rw[e] at h ⊢;exact⟨ok,h,rfl,(yq6 _ h).1,ok.desc h⟩
 ·unfold yq3 at h;rw[Zn ok] at h;cases h
theorem okR.eq_of{a b:Int×Int}(ha:okR a)(hb:okR b)(h:a.1*b.2=b.1*a.2):a=b:=by
 have h1:=ha.d1;have h2:=hb.d1;have hn:a.1.natAbs*b.2.natAbs=b.1.natAbs*a.2.natAbs:=by rw[← Qc,← Qc,h]
 have d1:a.2.natAbs ∣ b.2.natAbs:=by
  have c:Qr a.2.natAbs a.1.natAbs:=Qr.symm ha.g;exact Qr.dvd_of_dvd_mul_left c (by rw[hn];exact Qs ..)
 have d2:b.2.natAbs ∣ a.2.natAbs:=by
  have c:Qr b.2.natAbs b.1.natAbs:=Qr.symm hb.g;exact Qr.dvd_of_dvd_mul_left c (by rw[← hn];exact Qs ..)
 have e:=Nat.dvd_antisymm d1 d2;have e2:a.2=b.2:=by omega
 rw[e2] at h;have e1:a.1=b.1:=Int.eq_of_mul_eq_mul_right (by omega) h;exact Prod.ext e1 e2
theorem yk9.ne(ok:yk9 l):l.ord.Pairwise (·≠·):=by
 have hi:=(x4o (yk2 ok.ck.f) l.ck.now).ids (yk2 ok.ck.f);have ho:l.ord=(x4k l.ck.f l.ck.now).map (·.1):=ok.ord;rw[ho];exact Qi.2 hi
theorem z0l.least{xs:List (Int×Int)}(d:z0l xs)(a0:0<=a)(a1:a<xs.length)(b0:0<=b)(b1:b<xs.length) :
  (if zp5 (xs.getD a.toNat (0,0)) (xs.getD b.toNat (0,0))<0 then xs.getD a.toNat (0,0) else xs.getD b.toNat (0,0))=xs.getD (if a>b then a else b).toNat (0,0):=by
 have ha:=y3h (d:=((0:Int),(0:Int))) a0 a1;have hb:=y3h (d:=((0:Int),(0:Int))) b0 b1;rcases Int.lt_trichotomy a b with h|h|h
 ·have:=d.ge a.toNat b.toNat _ _ (by omega) ha hb;rw[Zn (by omega),Zn (by omega)]
 ·subst h;simp
 ·have:=d.ge b.toNat a.toNat _ _ (by omega) hb ha;rw[Zp h];split
  ·rfl
  ·rename_i hc;refine okR.eq_of (d.ok _ (Qg hb)) (d.ok _ (Qg ha)) ?_;rw[zp9] at this;have hc:0<=zp5 (xs.getD a.toNat (0,0)) (xs.getD b.toNat (0,0)):=by omega
   rw[zp9] at hc;omega
def y7u(l:Ls)(id:Int):Int×Int:=if yk9 l then (if yrt l.ord id<0 then (0,6) else (yrt l.ord id,0)) else (0,8)
def y7p(l:Ls):(Int×Int)×Int:=if yk9 l then (if l.ck.ag.heap.length=0 then ((0,0),6) else ((hp l.ck.ag.heap 0).at_,0)) else ((0,0),8)
theorem y7t{id:Int}(r:RdL H u l)(fl:zzh l) :
  qF F.f100 #[lsV u l,vi id] H (.tuple #[vi (y7u l id).1,vi (y7u l id).2]):=by
 have f1:=fl.o;refine vc100 ⟨_,y86 r fl,λhc=>?_,λhc=>⟨_,y69 (id:=id) r.o (by omega),λhb=>?_,λhb=>?_⟩⟩
 ·have hn:¬ yk9 l:=λok=>by rw[zlz ok] at hc;simp at hc
  unfold y7u;rw[Zn hn,zly hn];exact⟨rfl,Qa _⟩
 ·have ok:yk9 l:=zm0.1 (by simpa using hc);unfold y7u;rw[Zp ok,Zp (by simpa using hb)];exact⟨rfl,Qa _⟩
 ·have ok:yk9 l:=zm0.1 (by simpa using hc);unfold y7u;rw[Zp ok,Zn (by simpa using hb)];exact⟨rfl,Qa _⟩
theorem y7o(r:RdL H u l)(fl:zzh l) :
  qF F.f10 #[lsV u l] H (.tuple #[sI2 (y7p l).1.1 (y7p l).1.2,vi (y7p l).2]):=by
 have cn:=zmy r.k fl.k;refine vc10 ⟨_,y86 r fl,λhc=>?_,λhc=>⟨_,_,_,_,_,_,cn,λhb=>?_,λhb=>?_⟩⟩
 ·have hn:¬ yk9 l:=λok=>by rw[zlz ok] at hc;simp at hc
  unfold y7p;rw[Zn hn,zly hn];exact⟨rfl,Qa _⟩
 ·have ok:yk9 l:=zm0.1 (by simpa using hc);have hb:(yh2 l.ck).2≠0:=by simpa using hb
  unfold yh2 at hb;rw[Zp ok.ck] at hb;unfold y7p;rw[Zp ok];by_cases h:l.ck.ag.heap.length=0
  ·rw[Zp h];exact⟨rfl,Qa _⟩
  ·rw[Zn h] at hb;exact absurd rfl hb
 ·have ok:yk9 l:=zm0.1 (by simpa using hc);have hb:(yh2 l.ck).2=0:=by simpa using hb
  unfold yh2 at hb ⊢;rw[Zp ok.ck] at hb ⊢;unfold y7p;rw[Zp ok];by_cases h:l.ck.ag.heap.length=0
  ·rw[Zp h] at hb;cases hb
  ·rw[Zn h,Zn h];exact⟨rfl,Qa _⟩
def z7s(t:Int×Int):Int:=if okR t then (if t.1>1073741824\/t.1 < -1073741824\/t.2>1024 then 2 else 0) else 8
theorem z7t:z7s t=0↔okR t/\-1073741824<=t.1/\t.1<=1073741824/\t.2<=1024:=by
 unfold z7s;split
 ·split
  ·simp;omega
  ·simp[*];omega
 ·simp[*]
theorem yvn(ft:zzn t):qF F.f6 #[sI2 t.1 t.2] H (vi (z7s t)):=by
 refine vc6 ⟨_,yws ft,λhc=>⟨_,yws ft,?_,Qa _⟩,λhc=>⟨λhb=>⟨?_,Qa _⟩,λhb=>⟨?_,Qa _⟩⟩⟩
 ·have:¬ okR t:=λh=>by rw[zm8 h] at hc;simp at hc
  unfold z7s;rw[Zn this,zm7 this]
 ·have:okR t:=zm9.1 (by simpa using hc);simp only[Bool.or_eq_true,Zq] at hb;unfold z7s;rw[Zp this,Zp (by omega)]
 ·have:okR t:=zm9.1 (by simpa using hc);simp only[Bool.or_eq_false_iff,Zt] at hb;unfold z7s;rw[Zp this,Zn (by omega)]
theorem za3{f:List Pt}(of:okF f)(h1:0<=yr5 f a)(h2:0<=yr5 f b)(hab:a≠b):yk6 (za1 f a b):=by
 have p1:=of.pt h1;have p2:=of.pt h2;have q1:=(yra h1).2.2;have q2:=(yra h2).2.2;have c1:=p1.i0;have c2:=p1.i1;have c3:=p1.a0;have c4:=p1.a1;have c5:=p1.b0;have c6:=p1.b1;have d1:=p2.i0;have d2:=p2.i1;have d3:=p2.a0;have d4:=p2.a1;have d5:=p2.b0;have d6:=p2.b1;unfold yk6 za1;simp only;generalize gP f (yr5 f a)=p at *
 generalize gP f (yr5 f b)=q at *
 omega
theorem yk9.apart(ok:yk9 l){i k:Int}(i0:0<=i)(ik:i<k)(kn:k<l.ord.length):l.ord.getD i.toNat 0≠l.ord.getD k.toNat 0:=by
 have hi:=(x4o (yk2 ok.ck.f) l.ck.now).ids (yk2 ok.ck.f);have ho:l.ord=(x4k l.ck.f l.ck.now).map (·.1):=ok.ord;have hp:=Qi.2 hi;rw[← ho] at hp;have:=Ql.1 hp i.toNat k.toNat (by omega) (by omega) (by omega);rw[Qh,Qh,Qo (by omega),Qo (by omega)];exact this
theorem ypr:∀(n:Nat)(l:List Nat),l.Nodup->(∀x∈l,x<n)->l.length<=n
 | 0,l,_,h=>by
  cases l with
  | nil=>simp
  | cons a l=>have:=h a List.mem_cons_self;omega
 | n+1,l,hd,h=>by
  have ih:=ypr n (l.filter λx=>x != n) (hd.sublist List.filter_sublist) λx hx=>by
   obtain⟨h1,h2⟩:=List.mem_filter.1 hx;have:=h x h1;have h2:x≠n:=by simpa using h2
   omega
  have c:=List.length_eq_countP_add_countP (λx=>x != n) (l:=l);rw[List.countP_eq_length_filter] at c;have c2:l.countP (λx=>decide ¬ (x != n)=true)<=1:=by
   have:l.countP (λx=>decide ¬ (x != n)=true)=l.count n:=by
    unfold List.count;congr 1;funext x;by_cases e:x=n <;> simp[e]
   rw[this];exact List.nodup_iff_count.1 hd n
  omega
theorem z6h{n:Nat}{f:Nat->Nat}(hi:∀i j,i<n->j<n->f i=f j->i=j)(hl:∀i,i<n->f i<n){k:Nat}(hk:k<n):∃i,i<n/\f i=k:=by
 by_cases h:∃i,i<n/\f i=k
 ·exact h
 ·exfalso;have nd:((Qj n).map f).Nodup:=by
   unfold Qq;rw[Qi];have:=List.nodup_range (n:=n);unfold Qq at this;refine List.Pairwise.imp_of_mem (λ{a b} ha hb hab e=>?_) this;exact hab (hi a b (Qe.1 ha) (Qe.1 hb) e)
  have nd2:(k :: (Qj n).map f).Nodup:=List.nodup_cons.2 ⟨λhm=>by
   obtain⟨i,h1,h2⟩:=Qm.1 hm;exact h ⟨i,Qe.1 h1,h2⟩,nd⟩
  have:=ypr n _ nd2 λx hx=>by
   rcases List.mem_cons.1 hx with rfl|hx
   ·exact hk
   ·obtain⟨i,h1,h2⟩:=Qm.1 hx;rw[← h2];exact hl i (Qe.1 h1)
  simp at this;omega
structure z0c(now:Int×Int)(gs:List Gp):Prop where
 no:(z9u now gs).1<0->∀(j:Nat)(g:Gp),gs[j]?=some g->(zod g now).2≠0
 yes:0<=(z9u now gs).1->∃g,gs[(z9u now gs).1.toNat]?=some g/\zod g now=((z9u now gs).2,0)
 least:∀(j:Nat)(g:Gp),gs[j]?=some g->(zod g now).2=0->0<=(z9u now gs).1/\leR (z9u now gs).2 (zod g now).1/\(leR (zod g now).1 (z9u now gs).2->(z9u now gs).1<=j)
theorem z9x(now:Int×Int):∀(n:Nat)(gs:List Gp),gs.length=n->z0c now gs
 | 0,gs,h=>by
  have:gs=[]:=Qn.1 h;subst this;exact⟨λ_ j g hg=>by simp at hg,λh=>absurd (show (0:Int)<=-1 from h) (by omega),λj g hg=>by simp at hg⟩
 | n+1,gs,h=>by
  obtain⟨init,last,rfl⟩:∃i l,gs=i++[l]:=⟨gs.dropLast,gs.getLast (by intro e;subst e;cases h),(List.dropLast_concat_getLast _).symm⟩;have hl:init.length=n:=by simpa using h
  obtain⟨i1,i2,i3⟩:=z9x now n init hl;obtain⟨q1,q2,q3,q4⟩:=z9v now n init hl;have at_:∀(j:Nat)(g:Gp),(init++[last])[j]?=some g->(j<init.length/\init[j]?=some g)\/(j=init.length/\g=last):=λj g hg=>by
   rcases Nat.lt_or_ge j init.length with hj|hj
   ·rw[Qp hj] at hg;exact .inl ⟨hj,hg⟩
   ·have hlt:=(Qd.1 hg).1;have:j=init.length:=by simp at hlt;omega
    subst this;rw[List.getElem?_append_right (Nat.le_refl _)] at hg;simp at hg;exact .inr ⟨rfl,hg.symm⟩
  by_cases hc:(zod last now).2=0/\((z9u now init).1<0\/zp5 (zod last now).1 (z9u now init).2<0)
  ·have e:z9u now (init++[last])=((init.length:Int),(zod last now).1):=by rw[z9w];exact x5p hc.1 hc.2
   have ol:=zoe hc.1;rw[show z0c now (init++[last])↔_ from Iff.rfl];refine⟨λhn=>?_,λ_=>?_,λj g hg hz=>?_⟩
   ·rw[e] at hn;exact absurd hn (by simp only;omega)
   ·rw[e];refine⟨last,?_,?_⟩
    ·simp
    ·exact Prod.ext rfl hc.1
   ·rw[e];rcases at_ j g hg with⟨hj,hg⟩|⟨hj,rfl⟩
    ·obtain⟨b0,b1,b2⟩:=i3 j g hg hz;have hlt:¬ leR (z9u now init).2 (zod last now).1:=by
      rcases hc.2 with h'|h'
      ·omega
      ·exact zpe.1 h'
     have ob:=q4 b0;have og:=zoe hz;have h1:leR (zod last now).1 (z9u now init).2:=by
      rcases y9a (zod last now).1 (z9u now init).2 with h'|h'
      ·exact h'
      ·exact absurd h' hlt
     refine⟨by simp only;omega,y9b ol ob og h1 b1,λh2=>?_⟩;exact absurd (y9b ob og ol b1 h2) hlt
    ·exact⟨by simp only;omega,y99 _,λ_=>by simp only;omega⟩
  ·have e:z9u now (init++[last])=z9u now init:=by rw[z9w];exact x5o hc
   refine⟨λhn j g hg=>?_,λhy=>?_,λj g hg hz=>?_⟩
   ·rw[e] at hn;rcases at_ j g hg with⟨_,hg⟩|⟨_,rfl⟩
    ·exact i1 hn j g hg
    ·exact λhz=>hc ⟨hz,.inl hn⟩
   ·rw[e] at hy ⊢;obtain⟨g,h1,h2⟩:=i2 hy;refine⟨g,?_,h2⟩;rw[Qp (Qd.1 h1).1];exact h1
   ·rw[e];rcases at_ j g hg with⟨_,hg⟩|⟨hj,rfl⟩
    ·exact i3 j g hg hz
    ·have hb:¬ (z9u now init).1<0:=λh'=>hc ⟨hz,.inl h'⟩
     have hb2:¬ zp5 (zod g now).1 (z9u now init).2<0:=λh'=>hc ⟨hz,.inr h'⟩
     refine⟨by omega,?_,λ_=>by omega⟩;by_cases h':leR (z9u now init).2 (zod g now).1
     ·exact h'
     ·exact absurd (zpe.2 h') hb2
theorem y1z(hi:i<l.num.length):(y1y l)[i]?=some (za1 l.ck.f (l.ord.getD i 0) (l.ord.getD (i+1) 0)):=by
 unfold y1y y21;rw[List.getElem?_map,List.getElem?_range hi];rfl
theorem y1p(ok:yk9 l)(hi:i<l.num.length):zod (za1 l.ck.f (l.ord.getD i 0) (l.ord.getD (i+1) 0)) l.ck.now=(match zx5 (ptL l i) (ptL l (i+1)) l.ck.now with|some s=>(s,0)|none=>((0,0),6)):=by
 have nl:=ok.nl;have p1:=ok.ptOk (k:=i) (by omega);have p2:=ok.ptOk (k:=i+1) (by omega);have hp:=ok.pos (i:=(i:Int)) (by omega) (by omega);have hq:=ok.pos (i:=((i+1:Nat):Int)) (by omega) (by omega);have ha:=ok.apart (i:=(i:Int)) (k:=((i+1:Nat):Int)) (by omega) (by omega) (by omega);rw[Qb] at hp hq;rw[Qb,Qb] at ha;have og:=za3 ok.ck.f hp hq ha;have ld:=ok.leads (i:=i) (j:=i+1) (by omega) (by omega);have ld2:=y9n.1 ld;have la:=y9j ld;have e1:(za1 l.ck.f (l.ord.getD i 0) (l.ord.getD (i+1) 0)).a=(ptL l i).2.1-(ptL l (i+1)).2.1:=rfl;have e2:(za1 l.ck.f (l.ord.getD i 0) (l.ord.getD (i+1) 0)).b=(ptL l i).2.2-(ptL l (i+1)).2.2:=rfl;have efm:zx5 (ptL l i) (ptL l (i+1)) l.ck.now=if (ptL l i).2.2<(ptL l (i+1)).2.2 then some (yc3 ((ptL l i).2.1-(ptL l (i+1)).2.1) ((ptL l (i+1)).2.2-(ptL l i).2.2)).1 else none:=by
  unfold zx5;rw[Zn (by rw[la];simp)]
 unfold zod;rw[Zp ⟨og,ok.ck.now⟩,e1,e2,efm];have fv:=zxj (ptL l i) (ptL l (i+1)) l.ck.now;unfold zxg at fv;generalize ptL l i=p at *
 generalize ptL l (i+1)=q at *
 by_cases h:p.2.2<q.2.2
 ·rw[Zp h,Zn (by omega)];have e3:yc3 (-(p.2.1-q.2.1)) (p.2.2-q.2.2)=yc3 (p.2.1-q.2.1) (q.2.2-p.2.2):=by
   rw[yc4 (by omega)];congr 1 <;> omega
  rw[e3];obtain⟨x,y,g,g0,em,_,_,_⟩:=ydh p1.1 p2.1 h;rw[em]
 ·rw[Zn h,Zp (by omega)]
theorem y1o(ok:yk9 l)(hi:i<l.num.length){s:Int×Int}(h:zx5 (ptL l i) (ptL l (i+1)) l.ck.now=some s):∃x∈l.ck.ag.heap,x.at_=s:=by
 obtain⟨ps,e⟩:=ok.ck.evs;have hc:=ok.cert hi;unfold zco at hc;simp only[Bool.and_eq_true,Zq,beq_iff_eq] at hc;obtain⟨c1,c2⟩:=hc;obtain⟨r1,x,r2,r3⟩:=z88 c1;have hx:y2r l.ck.ct.list (atC l.ck.ct (l.num.getD i 0))=x:=by unfold y2r;rw[Qh,r2];rfl
 rw[hx] at c2;have hw:xbv l.ck.f x.2 l.ck.now=some s:=by rw[c2];exact h
 obtain⟨y,hy,_,h3⟩:=e.of_cert (Qg r2) hw;exact⟨y,e.heap.mem_iff.2 hy,h3⟩
theorem zur(ok:yk9 l){x:Ev}(hx:x∈l.ck.ag.heap):∃i,i<l.num.length/\zx5 (ptL l i) (ptL l (i+1)) l.ck.now=some x.at_:=by
 obtain⟨ps,e⟩:=ok.ck.evs;have nl:=ok.nl;have cl:=ok.cl;obtain⟨h,hm,_,hw⟩:=e.cert (e.heap.mem_iff.1 hx);obtain⟨k,hk⟩:=List.mem_iff_getElem?.1 hm;have hkl:=(Qd.1 hk).1;have facts:∀i,i<l.num.length->0<=atC l.ck.ct (l.num.getD i 0)/\atC l.ck.ct (l.num.getD i 0)<l.ck.ct.list.length/\(y2r l.ck.ct.list (atC l.ck.ct (l.num.getD i 0))).2=yn6 l.ord i:=λi hi=>by
  have hc:=ok.cert hi;unfold zco at hc;simp only[Bool.and_eq_true,Zq,beq_iff_eq] at hc;exact⟨hc.1,(z88 hc.1).1,hc.2⟩
 have inj:∀i j,i<l.num.length->j<l.num.length->(atC l.ck.ct (l.num.getD i 0)).toNat=(atC l.ck.ct (l.num.getD j 0)).toNat->i=j:=λi j hi hj he=>by
  obtain⟨a1,a2,a3⟩:=facts i hi;obtain⟨b1,b2,b3⟩:=facts j hj;have:atC l.ck.ct (l.num.getD i 0)=atC l.ck.ct (l.num.getD j 0):=by omega
  rw[this,b3] at a3;have a4:=congrArg Prod.snd a3;have a4:l.ord.getD j 0=l.ord.getD i 0:=a4;have p1:=yru ok.ne (y36 (xs:=l.ord) (i:=(i:Int)) (by omega) (by omega));have p2:=yru ok.ne (y36 (xs:=l.ord) (i:=(j:Int)) (by omega) (by omega));rw[Qb] at p1 p2;rw[a4,p1] at p2;omega
 obtain⟨i,hi,hik⟩:=z6h (n:=l.num.length) (f:=λi=>(atC l.ck.ct (l.num.getD i 0)).toNat) inj (λi hi=>by have:=facts i hi;show (atC l.ck.ct (l.num.getD i 0)).toNat<_;omega) (k:=k) (by omega);obtain⟨a1,a2,a3⟩:=facts i hi;have hh:y2r l.ck.ct.list (atC l.ck.ct (l.num.getD i 0))=h:=by
  unfold y2r;have hik:(atC l.ck.ct (l.num.getD i 0)).toNat=k:=hik;rw[hik,Qh,hk];rfl
 rw[hh] at a3;refine⟨i,hi,?_⟩;rw[a3] at hw;exact hw
theorem zyx(ok:yk9 l):((z9u l.ck.now (y1y l)).1<0->y7p l=((0,0),6))/\(0<=(z9u l.ck.now (y1y l)).1->y7p l=((z9u l.ck.now (y1y l)).2,0)):=by
 obtain⟨s1,s2,s3⟩:=z9x l.ck.now _ (y1y l) rfl;obtain⟨q1,q2,q3,q4⟩:=z9v l.ck.now _ (y1y l) rfl;have gl:(y1y l).length=l.num.length:=y22 _ _;have top:l.ck.ag.heap.length≠0->hp l.ck.ag.heap 0∈l.ck.ag.heap:=λh=>by
  have h0:0<l.ck.ag.heap.length:=by omega
  have:l.ck.ag.heap[0]?=some (hp l.ck.ag.heap 0):=by unfold hp;simp[List.getD,h0]
  exact Qg this
 have gap:l.ck.ag.heap.length≠0->∃(j:Nat)(g:Gp),(y1y l)[j]?=some g/\zod g l.ck.now=((hp l.ck.ag.heap 0).at_,0):=λh=>by
  obtain⟨i,hi,hf⟩:=zur ok (top h);have:=y1p ok hi;rw[hf] at this;exact⟨i,_,y1z hi,this⟩
 unfold y7p;rw[Zp ok];refine⟨λhn=>?_,λhy=>?_⟩
 ·by_cases h:l.ck.ag.heap.length=0
  ·rw[Zp h]
  ·obtain⟨j,g,h1,h2⟩:=gap h;exact absurd (by rw[h2]) (s1 hn j g h1)
 ·obtain⟨g,h1,h2⟩:=s2 hy;have hi:=(Qd.1 h1).1;rw[gl] at hi;have hg:=y1z hi;rw[h1] at hg;have hg:=Option.some.inj hg;have hf:=y1p ok hi;rw[← hg,h2] at hf;cases hF:zx5 (ptL l (z9u l.ck.now (y1y l)).1.toNat) (ptL l ((z9u l.ck.now (y1y l)).1.toNat+1)) l.ck.now with
  | none=>rw[hF] at hf;exact absurd (congrArg Prod.snd hf) (by simp)
  | some s =>
   rw[hF] at hf;have es:s=(z9u l.ck.now (y1y l)).2:=(congrArg Prod.fst hf).symm;obtain⟨x,hx,hat⟩:=y1o ok hi hF;have hne:l.ck.ag.heap.length≠0:=by
    intro h;have:=Qn.1 h;rw[this] at hx;cases hx
   rw[Zn hne];obtain⟨j,g',h3,h4⟩:=gap hne;have hz:(zod g' l.ck.now).2=0:=by rw[h4]
   obtain⟨_,l1,_⟩:=s3 j g' h3 hz;rw[h4] at l1;have l2:=y98 (ok.ck.top hx);rw[hat,es] at l2;have o1:=q4 hy;have o2:=zoe hz;rw[h4] at o2;exact Prod.ext (ykd o2 o1 l2 l1) rfl
