/- The engine, parts N5, N6, KM, N7, M7, M8, GQ, put together. Conditions: none. -/
import Derived.Test.YtnhdkkblehadjabGreatPN1
import Derived.Test.YtnhdkkblehadjabGreatVgSpan
import Derived.Test.YtnhdkkblehadjabGreatVgStd
import Derived.Test.YtnhdkkblehadjabGreatFs
import Derived.Test.YtnhdkkblehadjabGreatPL4
import Derived.Test.YtnhdkkblehadjabGreatVgBase
set_option linter.unusedVariables false
section
/- The law SpanFinds. Conditions: none. -/
set_option maxRecDepth 100000
open Go Go.Eng Go.Proofs
namespace Go.Proofs.YtnhdkkblehadjabGreat

def yo8(o:List Int)(id:Int):Int:=idx (λy=>id==y) o
theorem yoc{o:List Int}{id:Int}(h:0<=yo8 o id):yo8 o id<o.length/\o[(yo8 o id).toNat]?=some id:=by
 obtain⟨x,h1,h2,_,h4⟩:=y3l h
 refine⟨h4,?_⟩
 have:id=x:=by simpa using h2
 rw[this] at h1 ⊢;exact h1
theorem yo9{o:List Int}(hd:o.Pairwise (·≠·)){i:Nat}{x:Int}(hi:o[i]?=some x):yo8 o x=i:=by
 refine y3k hi (by simp) λy hy=>?_
 obtain⟨j,hj,e⟩:=List.mem_take_iff_getElem.1 hy
 obtain⟨a1,a2⟩:=List.getElem?_eq_some_iff.1 hi
 have:=List.pairwise_iff_getElem.1 hd j i (by omega) a1 (by omega)
 rw[e,a2] at this
 simpa using λh=>this h.symm
theorem y41{H:Hp}{s:Slc}{xs:List Int}{id:Int}(h:RdI H s xs)(hl:xs.length<=1000000000):Qf Tryz.prog F.f69 #[s.v,.int .i64 id] H (.int .i64 (yo8 xs id)):=by
  have ls:=h.len
  refine vc69 (upto (N:=xs.length) (J:=λn=>∀y∈xs.take n.toNat,(id==y)=false) (by omega) (by simp) λn h0 h1 hJ=>⟨λhn=>?_,λhn=>⟨?_,Hp.le_refl _⟩⟩)
  · have hn:n<xs.length:=by have:n<s.n:=by simpa using hn
                            omega
    have hg:=y0g h0 hn
    refine⟨h.inS h0 hn,_,RdI.get h h0 hn,?_⟩
    generalize xs.getD n.toNat 0=x at hg ⊢
    refine⟨λhb=>⟨?_,Hp.le_refl _⟩,λhb=>upto.nx h0 hn (by omega) ?_⟩
    · unfold yo8;rw[y3k hg hb hJ,Int.toNat_of_nonneg h0]
    · rw[show (n+1).toNat=n.toNat+1 by omega,x4c hg]
      intro y hy
      rcases List.mem_append.1 hy with hy|hy
      · exact hJ y hy
      · simp only[List.mem_singleton] at hy;subst hy;exact hb
  · have:n=xs.length:=by have:¬ n<s.n:=by simpa using hn
                         omega
    subst this
    rw[Int.toNat_natCast,List.take_length] at hJ
    unfold yo8
    rw[y3m hJ]

def mnO(o ids:List Int):Nat->Int
 | 0=>o.length
 | k+1=>if yo8 o (ids.getD k 0)<mnO o ids k then yo8 o (ids.getD k 0) else mnO o ids k
def mxO(o ids:List Int):Nat->Int
 | 0=>-1
 | k+1=>if yo8 o (ids.getD k 0)>mxO o ids k then yo8 o (ids.getD k 0) else mxO o ids k
def z62(o ids:List Int):Bool:=ids.all λid=>decide (0<=yo8 o id)
theorem z64{o ids:List Int}(h:∀k:Nat,k<ids.length->0<=yo8 o (ids.getD k 0)):z62 o ids=true:=by
 refine List.all_eq_true.2 λx hx=>?_
 obtain⟨k,hk⟩:=List.mem_iff_getElem?.1 hx
 have:=h k (List.getElem?_eq_some_iff.1 hk).1
 rw[List.getD_eq_getElem?_getD,hk] at this
 exact decide_eq_true this
theorem z63{o ids:List Int}{k:Nat}(hk:k<ids.length)(h:yo8 o (ids.getD k 0)<0):z62 o ids=false:=by
 rw[Bool.eq_false_iff]
 intro ha
 have:=List.all_eq_true.1 ha _ (List.mem_of_getElem? (y0g (xs:=ids) (i:=(k:Int)) (by omega) (by omega)))
 rw[Int.toNat_natCast] at this
 have:=of_decide_eq_true this
 omega
theorem yc1{o ids:List Int}:∀k:Nat,(∀j,j<k->0<=yo8 o (ids.getD j 0))->1<=k->0<=mnO o ids k/\mnO o ids k<=mxO o ids k/\mxO o ids k<o.length
 | 0,_,h=>by omega
 | 1,h,_=>by
  have a:=h 0 (by omega)
  have b:=(yoc a).1
  have e1:mnO o ids 1=yo8 o (ids.getD 0 0):=by
   show (if yo8 o (ids.getD 0 0)<(o.length:Int) then _ else _)=_
   rw[if_pos b]
  have e2:mxO o ids 1=yo8 o (ids.getD 0 0):=by
   show (if yo8 o (ids.getD 0 0)>(-1:Int) then _ else _)=_
   rw[if_pos (by omega)]
  rw[e1,e2];omega
 | k+2,h,_=>by
  obtain⟨i1,i2,i3⟩:=yc1 (k+1) (λj hj=>h j (by omega)) (by omega)
  have a:=h (k+1) (by omega)
  have b:=(yoc a).1
  have e1:mnO o ids (k+2)=if yo8 o (ids.getD (k+1) 0)<mnO o ids (k+1) then yo8 o (ids.getD (k+1) 0) else mnO o ids (k+1):=rfl
  have e2:mxO o ids (k+2)=if yo8 o (ids.getD (k+1) 0)>mxO o ids (k+1) then yo8 o (ids.getD (k+1) 0) else mxO o ids (k+1):=rfl
  rw[e1,e2]
  split <;> split <;> omega
def y35(l:Ls)(ids:List Int):(Int×Int)×(Int×Int)×Int :=
 if (ymh l).2≠0 then ((0,0),(0,0),(ymh l).2) else if 64<ids.length then ((0,0),(0,0),4) else if ids.length=0 then ((0,0),(0,0),42) else
 if z62 l.ord ids=true then ((xsM l).getD (mxO l.ord ids ids.length).toNat (0,0),(xsM l).getD (mnO l.ord ids ids.length).toNat (0,0),0) else ((0,0),(0,0),6)
theorem y37{l:Ls}{ids:List Int}(h:(ymh l).2≠0):y35 l ids=((0,0),(0,0),(ymh l).2):=if_pos h
theorem y38{l:Ls}{ids:List Int}(h:(ymh l).2=0)(h1:64<ids.length):y35 l ids=((0,0),(0,0),4):=by
 unfold y35;rw[if_neg (by rw[h];simp),if_pos h1]
theorem y36{l:Ls}{ids:List Int}(h:(ymh l).2=0)(h1:ids.length=0):y35 l ids=((0,0),(0,0),42):=by
 unfold y35;rw[if_neg (by rw[h];simp),if_neg (by omega),if_pos h1]
theorem y39{l:Ls}{ids:List Int}(h:(ymh l).2=0)(h1:¬ 64<ids.length)(h2:ids.length≠0)(h3:z62 l.ord ids=false):y35 l ids=((0,0),(0,0),6):=by
 unfold y35;rw[if_neg (by rw[h];simp),if_neg h1,if_neg h2,if_neg (by rw[h3];simp)]
theorem y3a{l:Ls}{ids:List Int}(h:(ymh l).2=0)(h1:¬ 64<ids.length)(h2:ids.length≠0)(h3:z62 l.ord ids=true):y35 l ids=((xsM l).getD (mxO l.ord ids ids.length).toNat (0,0),(xsM l).getD (mnO l.ord ids ids.length).toNat (0,0),0):=by
 unfold y35;rw[if_neg (by rw[h];simp),if_neg h1,if_neg h2,if_pos h3]
theorem yms{l:Ls}(h:(ymh l).2=0):yh6 l/\(ymj l l.ord.length).2=0/\(ymh l).1=xsM l/\(xsM l).length=l.ord.length/\z0n (xsM l):=by
 by_cases ok:yh6 l
 ·have e:ymh l=ymj l l.ord.length:=if_pos ok
  rw[e] at h ⊢
  exact⟨ok,h,rfl,(ymk _ h).1,ok.desc h⟩
 ·unfold ymh at h;rw[if_neg ok] at h;cases h

theorem x0n{H:Hp}{u:Lu}{l:Ls}{s:Slc}{ids:List Int}(r:RdL H u l)(fl:zxc l)(ri:RdI H s ids) :
    Qf Tryz.prog F.f29 #[lsV u l,s.v] H (.tuple #[sI2 (y35 l ids).1.1 (y35 l ids).1.2,sI2 (y35 l ids).2.1.1 (y35 l ids).2.1.2,.int .i64 (y35 l ids).2.2]):=by
  have li:=ri.len
  have lor:=r.o.len
  have f1:=fl.o
  refine vc29 ((x0o r fl).mono λv H2 ⟨w,hv,l2,m⟩=>⟨w,_,hv,λhe=>?_,λhe=>?_⟩)
  · have he:(ymh l).2≠0:=by simpa using he
    rw[y37 he];exact⟨rfl,l2⟩
  have he:(ymh l).2=0:=by simpa using he
  obtain⟨ok,h0,ex,lx,D⟩:=yms he
  rw[ex] at m
  have rx:Rd 2 fH H2 w (xsM l):=m.rdH
  have lw:=rx.len
  refine⟨λh1=>?_,λh1=>⟨λh2=>?_,λh2=>?_⟩⟩
  · have h1:64<ids.length:=by have:(s.n:Int)>64:=by simpa using h1
                              omega
    rw[y38 he h1];exact⟨rfl,l2⟩
  · have h2:(s.n:Int)=0:=by simpa using h2
    rw[y36 he (by omega)];exact⟨rfl,l2⟩
  have h1:¬ 64<ids.length:=by have:¬ (s.n:Int)>64:=by simpa using h1
                              omega
  have h2:ids.length≠0:=by have:¬ (s.n:Int)=0:=by simpa using h2
                           omega
  refine⟨λa b i H'=>H'=H2/\0<=i/\i<=ids.length/\a=mnO l.ord ids i.toNat/\b=mxO l.ord ids i.toNat/\∀k:Nat,k<i.toNat->0<=yo8 l.ord (ids.getD k 0),λ_ _ i _=>(ids.length-i).toNat,⟨rfl,Int.le_refl _,by omega,by rw[lw,lx];rfl,rfl,λk hk=>by simp at hk⟩,λa b i H' ⟨e,i0,i1,ea,eb,hj⟩=>⟨λhn=>?_,λhn=>?_⟩⟩
  · subst e
    have hn:i<ids.length:=by have:i<s.n:=by simpa using hn
                             omega
    have es:(i+1).toNat=i.toNat+1:=by omega
    refine⟨ri.inS i0 hn,_,RdI.get (ri.le l2) i0 hn,_,y41 (r.o.le l2) (by omega),λhb=>?_,λhb=>⟨by unfold inI;omega,⟨rfl,by omega,by omega,?_,?_,?_⟩,?_⟩⟩
    · have hb:yo8 l.ord (ids.getD i.toNat 0)<0:=by simpa using hb
      rw[y39 he h1 h2 (z63 (k:=i.toNat) (by omega) hb)];exact⟨rfl,l2⟩
    · rw[es,ea];rfl
    · rw[es,eb];rfl
    · intro k hk
      by_cases e:k=i.toNat
      · subst e
        have:¬ yo8 l.ord (ids.getD i.toNat 0)<0:=by simpa using hb
        omega
      · exact hj k (by omega)
    · show (ids.length-(i+1):Int).toNat<(ids.length-i:Int).toNat;omega
  · subst e
    have hn:i=ids.length:=by have:¬ i<s.n:=by simpa using hn
                             omega
    subst hn
    rw[Int.toNat_natCast] at ea eb hj
    obtain⟨q1,q2,q3⟩:=yc1 ids.length hj (by omega)
    subst ea;subst eb
    rw[y3a he h1 h2 (z64 hj)]
    exact⟨rx.inS (by omega) (by omega),_,_,rx.gH (by omega) (by omega),rx.inS (by omega) (by omega),_,_,rx.gH (by omega) (by omega),rfl,l2⟩

theorem yh6.ne{l:Ls}(ok:yh6 l):l.ord.Pairwise (·≠·):=by
 have hi:=(yzx (ygy ok.ck.f) l.ck.now).ids (ygy ok.ck.f)
 have ho:l.ord=(yzt l.ck.f l.ck.now).map (·.1):=ok.ord
 rw[ho]
 exact List.pairwise_map.2 hi



set_option maxHeartbeats 1000000 in
def z7v(t:Int×Int):Int:=if okR t then (if t.1>1073741824\/t.1 < -1073741824\/t.2>1024 then 2 else 0) else 8
theorem z7w{t:Int×Int}:z7v t=0↔okR t/\-1073741824<=t.1/\t.1<=1073741824/\t.2<=1024:=by
 unfold z7v
 split
 ·split
  ·simp;omega
  ·simp[*];omega
 ·simp[*]
theorem yrv{H:Hp}{t:Int×Int}(ft:zxh t):Qf Tryz.prog F.f6 #[sI2 t.1 t.2] H (.int .i64 (z7v t)):=by
 refine vc6 ⟨_,ysj ft,λhc=>⟨_,ysj ft,?_,Hp.le_refl _⟩,λhc=>⟨λhb=>⟨?_,Hp.le_refl _⟩,λhb=>⟨?_,Hp.le_refl _⟩⟩⟩
 ·have:¬ okR t:=λh=>by rw[zl4 h] at hc;simp at hc
  unfold z7v;rw[if_neg this,zl3 this]
 ·have:okR t:=zl5.1 (by simpa using hc)
  simp only[Bool.or_eq_true,decide_eq_true_eq] at hb
  unfold z7v;rw[if_pos this,if_pos (by omega)]
 ·have:okR t:=zl5.1 (by simpa using hc)
  simp only[Bool.or_eq_false_iff,decide_eq_false_iff_not] at hb
  unfold z7v;rw[if_pos this,if_neg (by omega)]



/-! ### As many places as things -/
theorem ym5:∀(n:Nat)(l:List Nat),l.Nodup->(∀x∈l,x<n)->l.length<=n
 | 0,l,_,h=>by
  cases l with
  | nil=>simp
  | cons a l=>have:=h a List.mem_cons_self;omega
 | n+1,l,hd,h=>by
  have ih:=ym5 n (l.filter λx=>x != n) (hd.sublist List.filter_sublist) λx hx=>by
   obtain⟨h1,h2⟩:=List.mem_filter.1 hx
   have:=h x h1
   have h2:x≠n:=by simpa using h2
   omega
  have c:=List.length_eq_countP_add_countP (λx=>x != n) (l:=l)
  rw[List.countP_eq_length_filter] at c
  have c2:l.countP (λx=>decide ¬ (x != n)=true)<=1:=by
   have:l.countP (λx=>decide ¬ (x != n)=true)=l.count n:=by
    unfold List.count
    congr 1;funext x
    by_cases e:x=n <;> simp[e]
   rw[this]
   exact List.nodup_iff_count.1 hd n
  omega
theorem z6d{n:Nat}{f:Nat->Nat}(hi:∀i j,i<n->j<n->f i=f j->i=j)(hl:∀i,i<n->f i<n){k:Nat}(hk:k<n):∃i,i<n/\f i=k:=by
 by_cases h:∃i,i<n/\f i=k
 ·exact h
 ·exfalso
  have nd:((List.range n).map f).Nodup:=by
   unfold List.Nodup
   rw[List.pairwise_map]
   have:=List.nodup_range (n:=n)
   unfold List.Nodup at this
   refine List.Pairwise.imp_of_mem (λ{a b} ha hb hab e=>?_) this
   exact hab (hi a b (List.mem_range.1 ha) (List.mem_range.1 hb) e)
  have nd2:(k :: (List.range n).map f).Nodup:=List.nodup_cons.2 ⟨λhm=>by
   obtain⟨i,h1,h2⟩:=List.mem_map.1 hm
   exact h ⟨i,List.mem_range.1 h1,h2⟩,nd⟩
  have:=ym5 n _ nd2 λx hx=>by
   rcases List.mem_cons.1 hx with rfl|hx
   ·exact hk
   ·obtain⟨i,h1,h2⟩:=List.mem_map.1 hx
    rw[← h2];exact hl i (List.mem_range.1 h1)
  simp at this
  omega

/-! ### The first of the gaps -/
/-! ### Gaps and certificates -/
end Go.Proofs.YtnhdkkblehadjabGreat
end
