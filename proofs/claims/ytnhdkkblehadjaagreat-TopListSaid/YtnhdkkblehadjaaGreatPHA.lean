/- The engine, parts H2, H3, H4, H5, put together. Conditions: none. -/
import Derived.Test.YtnhdkkblehadjaaGreatPQ4
import Derived.Test.YtnhdkkblehadjaaGreatVgLedit
open Go.Eng.Hp renaming le->Qa,le_trans->Qb,le_refl->Qc,le_new->Qd,put_ne->Qe,put_same->Qg,le_chg->Qh
open Int renaming toNat_natCast->Qi
open List renaming length_map->Qj,drop_drop->Ql,take_length->Qm,length_take->Qn,getD_eq_getElem?_getD->Qo,filter_cons->Qp,filter_append->Qq,take_left'->Qr,take_append_drop->Qs,getElem_cons_succ->Qt,foldl_append->Qu,drop->Qv,countP_filter->Qw
open Nat renaming mul_one->Qx
set_option linter.unusedVariables false
set_option maxHeartbeats 8000000
section
set_option maxRecDepth 100000
open Go Go.Eng Go.Proofs
namespace Go.Proofs.YtnhdkkblehadjaaGreat
variable{l:Ls}{H H0 H1:Hp}{u:Lu}{b c:Nat}{p:Pt}{Q:Hp->Prop}{is xs:List Int}{s w:Slc}{q:Int->Bool}{x:Int}
theorem zml{i:Int}{ty:TypeId}{cs:Array Bool}(hl:Qa H0 H)(h:Mine 1 fI 3 H0 H s xs)(h0:0<=i)(hi:i<xs.length) :
  z1l Tryz.prog (z9e .clear #[36] ty cs [.slice (x67 s.a (Tryz.prog.cellsOf 3) i (s.c:Int)) ((s.n:Int).toNat-i.toNat) ((s.c:Int).toNat-i.toNat)]) H λv H'=>v=.tuple #[]/\Qa H0 H'/\Mine 1 fI 3 H0 H' ⟨s.a,i.toNat,s.c⟩ (xs.take i.toNat)/\Chg H H' s:=by
 obtain⟨ti,z,h1,h2,h3,h4,h5,h6⟩:=x18 (show x17 Tryz.prog 36 3 1 8=true by kernel_rfl);have hO:xcz Tryz.prog 3=true:=by kernel_rfl
 have hK:Tryz.prog.cellsOf 3=1:=by kernel_rfl
 have hz1:∀v∈z.cells.toList,v.oneCell'=true:=by
  unfold xcz at hO;rw[h2] at hO;simp only[h3,List.all_eq_true] at hO;exact hO
 rcases h with⟨rfl,rfl⟩|⟨b,hb0,o1,o2,o3,cells,o4,o5,o6⟩
 ·simp at hi;omega
 obtain⟨I,rfl⟩:∃I:Nat,i=I:=⟨i.toNat,by omega⟩;rw[hK,o3,x68 (show s.c≠I by omega),Nat.zero_add,Qx];simp only[Qi];rw[h5] at h4;have hck:cells.size=s.c:=by rw[o5,Qx]
 refine(zmm (P:=Tryz.prog) (ty:=ty) (cs:=cs) h1 h2 h3 hz1 o4 (by rw[h4,hck];omega)).mono λv H5 ⟨hv,zs,hzs,hH5⟩=>?_
 have hbb:H5 b=some (.cells (cells.toList.take I++zs++cells.toList.drop (I+zs.length)).toArray 3 (0,0)):=by rw[hH5];exact Qg _ _ _
 refine⟨hv,by rw[hH5];exact Hp.le_put hl hb0,.inr ⟨b,hb0,?_,?_,rfl,_,hbb,?_,?_⟩,λc hc hne=>by rw[hH5];exact Qe _ _ λe=>hne _ o3 e.symm⟩
 ·simp;omega
 ·show I<=s.c;omega
 ·rw[h4] at hzs;simp only[List.size_toArray,List.length_append,Qn,List.length_drop,Array.length_toList,hck,hzs];show _=s.c*1;omega
 ·have ht:(xs.take I).length=I:=by rw[Qn];omega
  have:=congrArg (List.take I) o6;rw[List.take_take,Nat.min_eq_left (by omega)] at this;rw[ht,Qx];simp only[List.append_assoc];rw[Qr (by rw[Qn,Array.length_toList];omega),this];conv=>lhs;rw[← Qs I xs,List.flatMap_append]
  rw[Qr (by rw[y06 (k:=1) (λ_=>rfl),ht,Qx])]
theorem zyg{l:List Int}(h:∀y∈l,q y=false):l.filter (λx=>!q x)=l:=List.filter_eq_self.2 λy hy=>by rw[h y hy];rfl
theorem zst{fv:Value}(hl:Qa H0 H)(h:Mine 1 fI 3 H0 H s xs)(hlen:xs.length<=1000000000)(hc:H c≠none)(hs:∀p,s.a=some p->p.block≠c)
  (hq:∀x H',H' c=H c->QfV Tryz.prog fv [vi x] H' (.bool (q x))) :
  fN F.f156 #[s.v,fv] H λv H'=>∃u:Slc,v=u.v/\Qa H0 H'/\Mine 1 fI 3 H0 H' u (xs.filter λx=>!q x)/\(∀b,H b≠none->(∀p,s.a=some p->p.block≠b)->H' b=H b):=by
 have hn:=h.rdI.len;refine vc156 (y68 (J:=λn H'=>Qa H H'/\∀y∈xs.take n.toNat,q y=false) hlen (λn H' j=>h.rdI.le j.1) ⟨Qc _,by simp⟩ (λn H' n0 n1 ⟨l1,j⟩=>?_) (λH' ⟨l1,j⟩=>⟨-1,rfl,λ_=>?_,λhc=>by simp at hc⟩))
 ·have hcc:H' c=H c:=by
   cases hx:H c with
   | none=>exact absurd hx hc
   | some o=>exact l1 _ _ hx
  refine(hq (xs.getD n.toNat 0) H' hcc).mono λv H2 ⟨hv,l2⟩=>⟨_,hv,λhb=>?_,λhb=>?_⟩
  ·have l12:=Qb l1 l2;have h2:=h.le l12;have hg:=y36 n0 n1
   refine⟨n,rfl,λhm=>(by have:n = -1:=by simpa using hm
                         omega),λ_=>⟨by unfold inI;omega,?_⟩⟩
   refine⟨λi j H'=>0<=i/\i<j/\j<=xs.length/\Qa H0 H'/\Chg H2 H' s/\∃ys:List Int,ys.length=xs.length/\Mine 1 fI 3 H0 H' s ys/\ys.take i.toNat=(xs.take j.toNat).filter (λx=>!q x)/\ys.drop j.toNat=xs.drop j.toNat,λi j _=>(xs.length-j).toNat,
    ⟨n0,by omega,by omega,Qb hl l12,λ_ _ _=>rfl,xs,rfl,h2,?_,rfl⟩,λi j H8 ⟨i0,i1,i2,l8,c8,ys,y1,y2,y3,y4⟩=>⟨λhj=>?_,λhj=>?_⟩⟩
   ·rw[show (n+1).toNat=n.toNat+1 by omega,x88 hg,Qq,zyg j,Qp,hb];simp
   ·have hj:j<xs.length:=by have:j<s.n:=by simpa using hj
                            omega
    have yj:ys.getD j.toNat 0=xs.getD j.toNat 0:=by
     have:=congrArg (λl=>l[0]?) y4;simp only[List.getElem?_drop,Nat.add_zero] at this;rw[Qo,Qo,this]
    have hg:=y36 (xs:=xs) (i:=j) (by omega) hj;have hcc8:H8 c=H c:=by
     have e2:H2 c=H c:=by
      cases hx:H c with
      | none=>exact absurd hx hc
      | some o=>exact l12 _ _ hx
     rw[c8 c (by rw[e2];exact hc) hs,e2]
    refine⟨y2.rdI.inS (by omega) (by omega),_,RdI.get y2.rdI (by omega) (by omega),q (xs.getD j.toNat 0),?_⟩;rw[yj];refine⟨hq _ _ hcc8,λhb2=>?_,λhb2=>?_⟩
    ·have hb2:q (xs.getD j.toNat 0)=false:=by simpa using hb2
     refine⟨y2.rdI.inS (by omega) (by omega),y2.setI (by omega) (by omega) _ λH11 m11 c11=>⟨by unfold inI;omega,by unfold inI;omega,⟨by omega,by omega,by omega,Qh l8 c11 y2.isNew,λb hb hne=>?_,ys.set i.toNat (xs.getD j.toNat 0),?_,m11,?_,?_⟩,?_⟩⟩
     ·have e:=c8 b hb hne;rw[c11 b (by rw[e];exact hb) hne,e]
     ·rw[List.length_set];exact y1
     ·rw[show (i+1).toNat=i.toNat+1 by omega,show (j+1).toNat=j.toNat+1 by omega,x88 hg,Qq,← y3,Qp,hb2];have e1:(ys.set i.toNat (xs.getD j.toNat 0))[i.toNat]?=some (xs.getD j.toNat 0):=by rw[List.getElem?_set_self (by omega)]
      rw[x88 e1,List.take_set_of_le (Nat.le_refl _)];rfl
     ·rw[show (j+1).toNat=j.toNat+1 by omega,List.drop_set_of_lt (by omega)];have:=congrArg (Qv 1) y4;rw[Ql,Ql] at this;exact this
     ·show (xs.length-(j+1)).toNat<(xs.length-j).toNat;omega
    ·have hb2:q (xs.getD j.toNat 0)=true:=by simpa using hb2
     refine⟨by unfold inI;omega,⟨by omega,by omega,by omega,l8,c8,ys,y1,y2,?_,?_⟩,by show (xs.length-(j+1)).toNat<(xs.length-j).toNat;omega⟩
     ·rw[show (j+1).toNat=j.toNat+1 by omega,x88 hg,Qq,← y3,Qp,hb2];simp
     ·rw[show (j+1).toNat=j.toNat+1 by omega];have:=congrArg (Qv 1) y4;rw[Ql,Ql] at this;exact this
   ·have hj:j=xs.length:=by have:¬ j<s.n:=by simpa using hj
                            omega
    subst hj;have hcap:=y2.rdI.cap;refine⟨⟨i0,by omega,by omega,by omega⟩,(zml l8 y2 i0 (by omega)).mono λv H13 ⟨hv,l13,m13,c13⟩=>⟨hv,⟨by omega,i0,by omega,by omega⟩,?_⟩⟩;rw[x0z];refine⟨⟨s.a,i.toNat,s.c⟩,rfl,l13,?_,λb hb hne=>?_⟩
    ·rw[y3,Qi,Qm] at m13;exact m13
    ·have e2:H2 b=H b:=by
      cases hx:H b with
      | none=>exact absurd hx hb
      | some o=>exact l12 _ _ hx
     have e8:=c8 b (by rw[e2];exact hb) hne;rw[c13 b (by rw[e8,e2];exact hb) hne,e8,e2]
  ·have hg:=y36 n0 n1;refine⟨Qb l1 l2,λy hy=>?_⟩;rw[show (n+1).toNat=n.toNat+1 by omega,x88 hg] at hy;rcases List.mem_append.1 hy with hy|hy
   ·exact j y hy
   ·simp only[List.mem_singleton] at hy;subst hy;exact hb
 ·rw[Qi,Qm] at j;refine⟨s,rfl,Qb hl l1,?_,λb hb _=>?_⟩
  ·rw[zyg j];exact h.le l1
  ·cases hx:H b with
   | none=>exact absurd hx hb
   | some o=>exact l1 _ _ hx
theorem zs2{α:Type}{p:α->Bool}:∀{l:List α},(l.Pairwise λa b=>p b=true->p a=true)->∀i (h:i<l.length),p l[i]=decide (i<l.countP p)
 | [],_,i,h=>by simp at h
 | a :: l,hp,i,h=>by
  obtain⟨h1,h2⟩:=List.pairwise_cons.1 hp;rw[List.countP_cons];cases ha:p a with
  | true =>
   cases i with
   | zero=>simp[ha]
   | succ i =>
    have:=zs2 h2 i (by simpa using h);simp only[Qt,this];simp
  | false =>
   have hz:l.countP p=0:=by
    rw[List.countP_eq_zero];intro b hb e;have:=h1 b hb e;rw[ha] at this;cases this
   rw[hz];cases i with
   | zero=>simp[ha]
   | succ i =>
    have:=zs2 h2 i (by simpa using h);rw[hz] at this;simp only[Qt,this];simp
theorem others(ok:yk9 l):∃S:List Pt,l.ord.filter (λx=>!(x==p.1))=S.map (·.1)/\(∀q∈S,q∈l.ck.f/\q.1≠p.1)/\rkI l p<=S.length/\∀i (h:i<S.length),leads S[i] p l.ck.now=decide (i<rkI l p):=by
 refine⟨(x4k l.ck.f l.ck.now).filter λq=>q.1 != p.1,?_,λq hq=>?_,?_,?_⟩
 ·rw[ok.ord];unfold yll;rw[List.filter_map];rfl
 ·obtain⟨h1,h2⟩:=List.mem_filter.1 hq;exact⟨(x4n _ _).mem_iff.1 h1,by simpa using h2⟩
 ·unfold rkI yu7;rw[← (x4n l.ck.now l.ck.f).countP_eq];have:(λq:Pt=>q.1 != p.1&&leads q p l.ck.now)=λq=>(λq:Pt=>leads q p l.ck.now) q&&(λq:Pt=>q.1 != p.1) q:=by funext q;rw[Bool.and_comm]
  rw[this,← Qw];exact List.countP_le_length
 ·have e:rkI l p=((x4k l.ck.f l.ck.now).filter λq=>q.1 != p.1).countP λq=>leads q p l.ck.now:=by
   unfold rkI yu7;rw[← (x4n l.ck.now l.ck.f).countP_eq,Qw];congr 1;funext q;rw[Bool.and_comm]
  rw[e];have hs:=(x4o (yk2 ok.ck.f) l.ck.now).ord;exact zs2 (p:=λq=>leads q p l.ck.now) ((hs.filter _).imp λhab hb=>y9s hab hb)
theorem ya0{T:TypeId}(h:H b=some (.cells #[vi p.1,vi p.2.1,vi p.2.2] T (0,0))) :
  QfV Tryz.prog (.func (.func F.f157) #[] #[.pointer (some ⟨b,0,none⟩)]) [vi x] H (.bool (x==p.1)) :=
 ⟨F.f157,#[],_,rfl,cb157,vc157 ⟨p.1,Cel.at (show Cel H b _ T from h) 0,rfl,Qc _⟩⟩
theorem y9z(r:RdL H u l)(ok:yk9 l)(op:okP p) :
  qF F.f98 #[lsV u l,.agg #[vi p.1,vi p.2.1,vi p.2.2]] H (vi (rkI l p)):=by
 have fl:=ok.fit;have f1:=fl.o;refine vc98 λb1 H2 hb1 hH2 b3 H4 hb3 hH4=>?_
 have l2:Qa H H2:=Qd (Qc _) hb1 hH2;have l4:Qa H2 H4:=Qd (Qc _) hb3 hH4;have l04:=Qb l2 l4;have box2:Cel H2 b1 (lsC u l) T.api_List:=by rw[hH2];exact Cel.put
 have box4:=box2.le l4;have c4:H4 b3=some (.cells #[vi p.1,vi p.2.1,vi p.2.2] T.api_Point (0,0)):=by rw[hH4];exact Qg _ _ _
 refine⟨u.o,Cel.at box4 11,(znw (r.o.le l04) (by omega)).mono λv H7 ⟨w,hv,l7,m7⟩=>⟨w,hv,?_⟩⟩;have c7:H7 b3=some (.cells #[vi p.1,vi p.2.1,vi p.2.2] T.api_Point (0,0)):=l7 _ _ c4;have new7:∀b,H4 b≠none->∀q,w.a=some q->q.block≠b:=λb hb q hq e=>hb (by rw[← e];exact m7.isNew q hq)
 refine(zst (c:=b3) (q:=λx=>x==p.1) l7 m7 (by omega) (by rw[c7];simp) (new7 b3 (by rw[c4];simp)) (λx H' e=>ya0 (T:=T.api_Point) (by rw[e];exact c7))).mono λv H10 ⟨z,hv,l10,m10,ch10⟩=>⟨z,hv,λb12 H13 hb12 hH13=>?_⟩
 have l13:Qa H10 H13:=Qd (Qc _) hb12 hH13;have box13:Cel H13 b12 #[.slice none 0 0] T.s_int:=by rw[hH13];exact Cel.put
 have n12:H4 b12=none:=by
  cases hx:H4 b12 with
  | none=>rfl
  | some o=>rw[l10 _ _ hx] at hb12;cases hb12
 refine zay (i:=0) (cs':=#[z.v]) box13 (by decide) rfl λH14 box14 off=>?_
 have l14:Qa H4 H14:=off.le n12 (Qb l10 l13);have m14:RdI H14 z (l.ord.filter λx=>!(x==p.1)):=(Go.Proofs.YtnhdkkblehadjaaGreat.Mine.off (m10.le l13) off λq hq e=>by
  have:=m10.isOld q hq;rw[e] at this;exact this hb12).rdI
 obtain⟨S,e1,e2,e3,e4⟩:=others ok (p:=p);rw[e1] at m14;have hz:=m14.len;rw[Qj] at hz;have hf14:Rd 3 fD H14 u.k.f l.ck.f:=r.k.f.le (Qb l04 l14);have b14:=box4.le l14;have p14:Cel H14 b3 #[vi p.1,vi p.2.1,vi p.2.2] T.api_Point:=l14 _ _ c4;have hlen:S.length<=l.ord.length:=by
  have:=congrArg List.length e1;rw[Qj] at this;rw[← this];exact List.length_filter_le _ _
 refine⟨z,Cel.at box14 0,_,x4y (K:=rkI l p) (p:=λi=>decide (rkI l p<=i)) (by omega) (by omega) (λi i0 i1=>?_) (by omega) (λi hi=>Zv (by omega)) (λi hi _=>Zu hi),rfl,Qb l04 l14⟩;have hi:i.toNat<S.length:=by omega
 have hm:=List.getElem_mem hi;obtain⟨q1,q2⟩:=e2 _ hm;have eg:(S.map (·.1)).getD i.toNat 0=S[i.toNat].1:=by rw[Qo,List.getElem?_map,List.getElem?_eq_getElem hi];rfl
 have hp0:=yrb q1;have qf:=zxr hf14 ok.ck.f hp0;rw[y1e ok.ck.f q1] at qf;have h4:=e4 i.toNat hi;have oq:=ok.ck.f.each _ q1;generalize S[i.toNat]=s at *
 have tw:xa3 p s l.ck.now=0:=xa4.2 ⟨op,oq,ok.ck.now,λe=>q2 e.symm⟩;have ha:leads p s l.ck.now=decide (rkI l p<=i.toNat):=by
  by_cases hk:i.toNat<rkI l p
  ·rw[Zu hk] at h4;rw[y9j h4,Zv (by omega)]
  ·rw[Zv hk] at h4;rw[Zu (by omega)];rcases y9r (p:=s) (q:=p) (t:=l.ck.now) q2 with h|h
   ·rw[h] at h4;cases h4
   ·exact h
 have qa:=zs3 (p:=p) (q:=s) (t:=l.ck.now) (H:=H14) ok.ck.now.fit;unfold z5q at qa;rw[Zp tw,ha] at qa;refine⟨F.f159,#[],_,rfl,cb159,vc159 ⟨u.k.f,Cel.at b14 2,z,Cel.at box14 0,m14.inS i0 (by rw[Qj];omega),_,RdI.get m14 i0 (by rw[Qj];omega),?_⟩⟩;rw[eg];exact⟨_,_,_,_,qf,_,_,_,⟨Cel.at p14 0,Cel.at p14 1,Cel.at p14 2⟩,_,_,⟨Cel.at b14 0,Cel.at b14 1⟩,_,_,qa,rfl,Qc _⟩
theorem y9u(r:RdL H u l)(fl:zzh l) :
  qF F.f97 #[lsV u l,.agg #[vi p.1,vi p.2.1,vi p.2.2]] H (vi (if yk9 l/\okP p then 0 else 8)):=by
 refine vc97 ⟨_,y86 r fl,λhc=>?_,λhc=>⟨_,zs5,?_,Qc _⟩⟩
 ·have hn:¬ yk9 l:=λok=>by rw[zlz ok] at hc;simp at hc
  rw[zly hn,Zn λh=>hn h.1];exact⟨rfl,Qc _⟩
 ·have ok:yk9 l:=zm0.1 (by simpa using hc);rw[zm3];by_cases op:okP p
  ·rw[Zp op,Zp ⟨ok,op⟩]
  ·rw[Zn op,Zn λh=>op h.2]
theorem ya1(r:RdL H u l)(fl:zzh l) :
  qF F.f50 #[lsV u l,.agg #[vi p.1,vi p.2.1,vi p.2.2]] H (.tuple #[vi (xc1 l p).1,vi (xc1 l p).2]):=by
 unfold xc1;refine vc50 ⟨_,y9u r fl,λhc=>?_,λhc=>?_⟩
 ·have hn:¬ (yk9 l/\okP p):=λh=>by rw[Zp h] at hc;simp at hc
  rw[Zn hn,Zn hn];exact⟨rfl,Qc _⟩
 ·have hn:yk9 l/\okP p:=Decidable.byContradiction λh=>by rw[Zn h] at hc;simp at hc
  rw[Zp hn];exact⟨_,y9z r hn.1 hn.2,rfl,Qc _⟩
theorem y9v(r:RdL H u l)(fl:zzh l) :
  fN F.f101 #[lsV u l] H λv H'=>∃(b:Nat)(so sn:Slc),v=.pointer (some ⟨b,0,none⟩)/\z0e H H' b ⟨u.k,so,sn⟩ l:=by
 have f1:=fl.o;have f2:=fl.n;refine vc101 ((znw r.o (by omega)).mono λv H17 ⟨so,hv,l17,m1⟩=>⟨l17,so,hv,?_⟩);refine(znw (r.n.le l17) (by omega)).mono λv H20 ⟨sn,hv,l20,m2⟩=>⟨l20,sn,hv,λb22 H23 hb22 hH23=>⟨b22,so,sn,rfl,?_⟩⟩
 have l23:Qa H20 H23:=Qd (Qc _) hb22 hH23;have down:∀{G:Hp}{x:Nat},Qa G H20->H20 x=none->G x=none:=λ{G x} hl hx=>by
  cases hy:G x with
  | none=>rfl
  | some o=>rw[hl x o hy] at hx;cases hx
 have l020:=Qb l17 l20;refine⟨by rw[hH23];exact Cel.put,⟨H,Qb l020 l23,λx hx=>?_,r.k⟩,(m1.le l20).le l23,(m2.low l17).le l23,Sep.of m1.isOld m2.isNew,Qb l020 l23,down l020 hb22,λp hp e=>?_,λp hp e=>?_⟩
 ·rcases hx with rfl|⟨p,hp,rfl⟩|⟨p,hp,rfl⟩
  ·exact down l020 hb22
  ·exact m1.isNew p hp
  ·exact(m2.low l17).isNew p hp
 ·have:=(m1.le l20).isOld p hp;rw[e] at this;exact this hb22
 ·have:=m2.isOld p hp;rw[e] at this;exact this hb22
theorem ybv(u:Lu)(l:Ls)(w:Slc)(o:List Int):(lsC u l).setIfInBounds 11 w.v=lsC ⟨u.k,w,u.n⟩ ⟨l.ck,o,l.num⟩:=rfl
theorem ybu(u:Lu)(l:Ls)(w:Slc)(n:List Int):(lsC u l).setIfInBounds 12 w.v=lsC ⟨u.k,u.o,w⟩ ⟨l.ck,l.ord,n⟩:=rfl
theorem z0e.newO(B:z0e H0 H b u l){o':List Int}(l1:Qa H0 H1)(m:Mine 1 fI 3 H0 H1 w o')(ch:Chg H H1 u.o)(ex:Ext H u.o w)
  (hQ:∀H',z0e H0 H' b ⟨u.k,w,u.n⟩ ⟨l.ck,o',l.num⟩->Off b H1 H'->Q H'):H1.canStore ⟨b,11,none⟩ 0 [w.v]/\∀H',H'=H1.store ⟨b,11,none⟩ 0 [w.v]->Q H':=by
 obtain⟨c1,G,c2,c3,c4⟩:=B.chg ch B.ob λp hp=>.inr (.inl ⟨p,hp,rfl⟩)
 obtain⟨G,d2,d3,d4⟩:=B.k;have hbb:H b≠none:=by have:=B.box;unfold Cel at this;rw[this];simp
 have wb:∀p,w.a=some p->p.block≠b:=λp hp e=>by
  rcases ex p hp with h|h
  ·exact B.ob p h e
  ·rw[e] at h;exact hbb h
 refine zay (i:=11) (cs':=lsC ⟨u.k,w,u.n⟩ ⟨l.ck,o',l.num⟩) c1 (by show 11<13;decide) (ybv u l w o') λH' box off=>hQ H' ⟨box,⟨G,λx o hx=>?_,λx hx=>?_,d4⟩,Go.Proofs.YtnhdkkblehadjaaGreat.Mine.off m off wb,Go.Proofs.YtnhdkkblehadjaaGreat.Mine.off (B.n.chg ch B.sep.symm) off B.nn,Sep.ext B.sep B.n.isOld ex,off.le B.nb l1,B.nb,wb,B.nn⟩ off
 ·have hx1:=d2 x o hx;have hne:x≠b:=λe=>by rw[e,d3 b (.inl rfl)] at hx;cases hx
  rw[off x hne,ch x (by rw[hx1];simp) λp hp e=>by rw[← e,d3 _ (.inr (.inl ⟨p,hp,rfl⟩))] at hx;cases hx];exact hx1
 ·rcases hx with rfl|⟨p,hp,rfl⟩|⟨p,hp,rfl⟩
  ·exact d3 _ (.inl rfl)
  ·rcases ex p hp with h|h
   ·exact d3 _ (.inr (.inl ⟨p,h,rfl⟩))
   ·cases hy:G p.block with
    | none=>rfl
    | some o=>rw[d2 _ _ hy] at h;cases h
  ·exact d3 _ (.inr (.inr ⟨p,hp,rfl⟩))
theorem z0e.newN(B:z0e H0 H b u l){n':List Int}(l1:Qa H0 H1)(m:Mine 1 fI 3 H0 H1 w n')(ch:Chg H H1 u.n)(ex:Ext H u.n w)
  (hQ:∀H',z0e H0 H' b ⟨u.k,u.o,w⟩ ⟨l.ck,l.ord,n'⟩->Off b H1 H'->Q H'):H1.canStore ⟨b,12,none⟩ 0 [w.v]/\∀H',H'=H1.store ⟨b,12,none⟩ 0 [w.v]->Q H':=by
 obtain⟨c1,G,c2,c3,c4⟩:=B.chg ch B.nn λp hp=>.inr (.inr ⟨p,hp,rfl⟩)
 obtain⟨G,d2,d3,d4⟩:=B.k;have hbb:H b≠none:=by have:=B.box;unfold Cel at this;rw[this];simp
 have wb:∀p,w.a=some p->p.block≠b:=λp hp e=>by
  rcases ex p hp with h|h
  ·exact B.nn p h e
  ·rw[e] at h;exact hbb h
 refine zay (i:=12) (cs':=lsC ⟨u.k,u.o,w⟩ ⟨l.ck,l.ord,n'⟩) c1 (by show 12<13;decide) (ybu u l w n') λH' box off=>hQ H' ⟨box,⟨G,λx o hx=>?_,λx hx=>?_,d4⟩,Go.Proofs.YtnhdkkblehadjaaGreat.Mine.off (B.o.chg ch B.sep) off B.ob,Go.Proofs.YtnhdkkblehadjaaGreat.Mine.off m off wb,(Sep.ext B.sep.symm B.o.isOld ex).symm,off.le B.nb l1,B.nb,B.ob,wb⟩ off
 ·have hx1:=d2 x o hx;have hne:x≠b:=λe=>by rw[e,d3 b (.inl rfl)] at hx;cases hx
  rw[off x hne,ch x (by rw[hx1];simp) λp hp e=>by rw[← e,d3 _ (.inr (.inr ⟨p,hp,rfl⟩))] at hx;cases hx];exact hx1
 ·rcases hx with rfl|⟨p,hp,rfl⟩|⟨p,hp,rfl⟩
  ·exact d3 _ (.inl rfl)
  ·exact d3 _ (.inr (.inl ⟨p,hp,rfl⟩))
  ·rcases ex p hp with h|h
   ·exact d3 _ (.inr (.inr ⟨p,h,rfl⟩))
   ·cases hy:G p.block with
    | none=>rfl
    | some o=>rw[d2 _ _ hy] at h;cases h
theorem z0e.clockG{G:Hp}(B:z0e H0 H b u l){w:Cu}{c:Ck}(hl:Qa H H1)(g1:Qa G H1)(g2:∀x,ysh b u.o u.n x->G x=none)(g3:RdK G w c)
  (hQ:∀H',z0e H0 H' b ⟨w,u.o,u.n⟩ ⟨c,l.ord,l.num⟩->Q H') :
  H1.canStore ⟨b,0,none⟩ 0 [vi c.now.1,vi c.now.2,w.f.v,vi c.ct.next,w.cl.v,w.u1.v,w.u2.v,w.u3.v,w.u4.v,w.u5.v,w.d.v]/\∀H',H'=H1.store ⟨b,0,none⟩ 0 [vi c.now.1,vi c.now.2,w.f.v,vi c.ct.next,w.cl.v,w.u1.v,w.u2.v,w.u3.v,w.u4.v,w.u5.v,w.d.v]->Q H':=by
 have B1:=B.up hl;obtain⟨can,st⟩:=x62 (b:=b) (off:=0) (T:=T.api_List) [vi c.now.1,vi c.now.2,w.f.v,vi c.ct.next,w.cl.v,w.u1.v,w.u2.v,w.u3.v,w.u4.v,w.u5.v,w.d.v] 0 H1 _ B1.box (by show 0+0+11<=13;omega);refine⟨can,λH' e=>hQ H' ?_⟩;have e':H'=H1.put b (.cells (lsC ⟨w,u.o,u.n⟩ ⟨c,l.ord,l.num⟩) T.api_List (0,0)):=e.trans st;have ch:Chg H1 H' ⟨some ⟨b,0,none⟩,0,0⟩:=λx hx hn=>by rw[e'];exact Qe _ _ λe=>hn _ rfl e.symm
 refine⟨by rw[e'];exact Cel.put,⟨G,λx o hx=>?_,g2,g3⟩,B1.o.chg ch (λp q hp hq=>by cases hq;exact B.ob p hp),B1.n.chg ch (λp q hp hq=>by cases hq;exact B.nn p hp),B.sep,Qh B1.le ch (λp hp=>by cases hp;exact B.nb),B.nb,B.ob,B.nn⟩;rw[e',Qe _ _ (λe=>by rw[e,g2 b (.inl rfl)] at hx;cases hx)];exact g1 x o hx
theorem z0e.fresh(B:z0e H0 H b u l):∀x,ysh b u.o u.n x->H0 x=none:=by
 rintro x (rfl|⟨p,hp,rfl⟩|⟨p,hp,rfl⟩)
 ·exact B.nb
 ·exact B.o.isNew p hp
 ·exact B.n.isNew p hp
theorem z0e.rd(B:z0e H0 H b u l):RdL H u l:=⟨B.rk,B.o.rdI,B.n.rdI⟩
def zcs(r:Ls×Int)(i:Int):Ls×Int:=if r.2≠0 then r else if 0<=i/\i<r.1.num.length then yby r.1 i.toNat else r
def zcf(l:Ls)(is:List Int):Ls×Int:=is.foldl zcs (l,0)
structure z0q(l:Ls)(i:Nat):Prop where
 fit:zzh l
 ord:i+1<l.ord.length
 eq:zd7 l.ck (yn6 l.ord i)=z3k l.ck (yn6 l.ord i)
theorem zcg{js:List Int}(h:(zcf l is).2≠0):zcf l (is++js)=zcf l is:=by
 unfold zcf at *
 rw[Qu];generalize is.foldl zcs (l,0)=r at *
 induction js with
 | nil=>rfl
 | cons j js ih =>
  have e:zcs r j=r:=by unfold zcs;rw[Zp h]
  rw[List.foldl_cons,e];exact ih
theorem zch{k:Nat}(hx:is[k]?=some x):zcf l (is.take (k+1))=zcs (zcf l (is.take k)) x:=by
 unfold zcf;rw[x88 hx,Qu];rfl
theorem Mid.fine{lo hi:Nat}(m:Mid l lo hi){i:Nat}(h:i<l.num.length):z0q l i:=⟨m.fit,by have:=m.nl;omega,m.certify h⟩
theorem z0e.notProt(B:z0e H0 H b u l)(hc:H c=none):¬ ysh b u.o u.n c:=λh=>B.used c h hc
theorem zd6{ws:Slc}(B:z0e H0 H b u l)(rs:RdI H ws is)(sb:∀p,ws.a=some p->p.block≠b)(sn:Sep ws u.n)(hlen:is.length<=1000)
    (good:∀(k:Nat)(x:Int),is[k]?=some x->(zcf l (is.take k)).2=0->0<=x->x<(zcf l (is.take k)).1.num.length->z0q (zcf l (is.take k)).1 x.toNat) :
    fN F.f105 #[.pointer (some ⟨b,0,none⟩),ws.v] H λv H'=>v=vi (zcf l is).2/\Qa H0 H'/\((zcf l is).2=0->∃w,z0e H0 H' b ⟨w,u.o,u.n⟩ (zcf l is).1):=by
  have lw:=rs.len;refine vc105 (xb0 (N:=is.length) (J:=λn H'=>(zcf l (is.take n.toNat)).2=0/\RdI H' ws is/\∃w,z0e H0 H' b ⟨w,u.o,u.n⟩ (zcf l (is.take n.toNat)).1) (by omega) ⟨rfl,rs,u.k,B⟩ λn H4 n0 n1 ⟨z,r4,w,B4⟩=>⟨λhn=>?_,λhn=>?_⟩)
  · have hn:n<is.length:=by have:n<ws.n:=by simpa using hn
                            omega
    have hx:=y36 n0 hn;refine⟨r4.inS n0 hn,_,RdI.get r4 n0 hn,u.n,λ_=>Cel.at B4.box 12,?_⟩;have es:=zch (l:=l) hx;rw[show n.toNat+1=(n+1).toNat by omega] at es;have gd:=good n.toNat _ hx z;generalize is.getD n.toNat 0=x at *
    have ln:(u.n.n:Int)=(zcf l (is.take n.toNat)).1.num.length:=congrArg Nat.cast (show u.n.n=_ from B4.n.rdI.len);rw[ln];refine⟨λhc=>?_,λhc=>?_⟩
    · have e:zcs (zcf l (is.take n.toNat)) x=zcf l (is.take n.toNat):=by
        unfold zcs;rw[Zn (by rw[z];simp),Zn λh=>?_];simp at hc;omega
      rw[e] at es;exact xb0.nx n0 hn (by omega) ⟨by rw[es];exact z,r4,w,by rw[es];exact B4⟩
    · have hx0:0<=x/\x<(zcf l (is.take n.toNat)).1.num.length:=by simp at hc;omega
      have fn:=gd hx0.1 hx0.2;have fo:=fn.ord;have fl:=fn.fit;have f1:=fl.o;have e:zcs (zcf l (is.take n.toNat)) x=yby (zcf l (is.take n.toNat)).1 x.toNat:=by
        unfold zcs;rw[Zn (by rw[z];simp),Zp hx0]
      rw[e] at es;have ec:=fn.eq;have iserr:(zcf l (is.take (n+1).toNat)).2≠0->zcf l is=zcf l (is.take (n+1).toNat):=λh=>by
        have:=zcg (js:=is.drop (n+1).toNat) h;rwa [Qs] at this
      generalize zcf l (is.take n.toNat)=s at *
      have box:=B4.box;have q:=zmp (x:=yn6 s.1.ord x.toNat) B4.rk fl.k;rw[ec] at q;unfold yby at es;generalize z3k s.1.ck (yn6 s.1.ord x.toNat)=y at *
      refine⟨_,_,w.f,_,w.cl,w.u1,w.u2,w.u3,w.u4,w.u5,w.d,⟨Cel.at box 0,Cel.at box 1,Cel.at box 2,Cel.at box 3,Cel.at box 4,Cel.at box 5,Cel.at box 6,Cel.at box 7,Cel.at box 8,Cel.at box 9,Cel.at box 10⟩,u.o,Cel.at box 11,B4.o.rdI.inS hx0.1 (by show x<s.1.ord.length;omega),_,RdI.get B4.o.rdI hx0.1 (by show x<s.1.ord.length;omega),u.o,Cel.at box 11,by unfold inI;omega,B4.o.rdI.inS (by omega) (by show x+1<s.1.ord.length;omega),_,RdI.get B4.o.rdI (by omega) (by show x+1<s.1.ord.length;omega),?_⟩;rw[show (x+1).toNat=x.toNat+1 by omega];refine q.mono λv H23 ⟨w1,hv,l23,rw1,nw1⟩=>⟨l23,_,_,w1.f,_,w1.cl,w1.u1,w1.u2,w1.u3,w1.u4,w1.u5,w1.d,_,_,hv,λhe=>?_,λhe=>?_⟩
      · have he:y.2.2≠0:=by simpa using he
        rw[Zn he] at es;rw[iserr (by rw[es];exact he),es];exact⟨rfl,Qb B4.le l23,λh=>absurd h he⟩
      · have he:y.2.2=0:=by simpa using he
        rw[Zp he] at es;refine⟨u.n,Cel.at (box.le l23) 12,?_⟩;refine B4.clockC l23 rw1 nw1 λH38 B38 ch38=>?_
        have r38:RdI H38 ws is:=(r4.le l23).chg ch38 λp q hp hq=>by cases hq;exact sb p hp
        refine⟨B38.n.rdI.inS hx0.1 hx0.2,?_⟩;refine B38.n.setI hx0.1 hx0.2 y.2.1 λH39 m39 ch39=>?_
        have B39:=B38.setN hx0.1 hx0.2 y.2.1 m39 ch39;exact xb0.nx n0 hn (by omega) ⟨by rw[es],r38.chg ch39 sn,w1,by rw[es];exact B39⟩
  · have:n=is.length:=by have:¬ n<ws.n:=by simpa using hn
                         omega
    subst this;rw[Qi,Qm] at z B4;rw[z];exact⟨rfl,B4.le,λ_=>⟨w,B4⟩⟩
theorem zci{rk len:Nat}(m:Mid l (rk-1) (min (rk+1) len))(hn:l.num.length=len)(hr:rk<=len) :
  zcf l [(rk:Int)-1,(rk:Int)]=yc6 l (rk-1) (min (rk+1) len-(rk-1)) /\
  ∀(k:Nat)(x:Int),[(rk:Int)-1,(rk:Int)][k]?=some x->(zcf l ([(rk:Int)-1,(rk:Int)].take k)).2=0->0<=x->x<(zcf l ([(rk:Int)-1,(rk:Int)].take k)).1.num.length->z0q (zcf l ([(rk:Int)-1,(rk:Int)].take k)).1 x.toNat:=by
 have e0:zcf l []=(l,0):=rfl;have mz:yc6 l (rk-1) 0=(l,0):=rfl;have m1:yc6 l (rk-1) 1=yby l (rk-1):=rfl;have c1:zcf l [(rk:Int)-1]=if 0<rk then yc6 l (rk-1) 1 else (l,0):=by
  show zcs (l,0) _=_;unfold zcs;rw[Zn (by simp)];by_cases h:0<rk
  ·rw[Zp (by show 0<=(rk:Int)-1/\(rk:Int)-1<l.num.length;omega),Zp h,m1,show ((rk:Int)-1).toNat=rk-1 by omega]
  ·rw[Zn (by omega),Zn h]
 have c2:zcf l [(rk:Int)-1,(rk:Int)]=zcs (zcf l [(rk:Int)-1]) rk:=rfl;have num1:(zcf l [(rk:Int)-1]).2=0->(zcf l [(rk:Int)-1]).1.num.length=len/\∃lo,Mid (zcf l [(rk:Int)-1]).1 lo (min (rk+1) len):=by
  rw[c1];by_cases h:0<rk
  ·rw[Zp h];intro hz;obtain⟨a1,_,_,_,a5⟩:=m.makes 1 (by omega) hz;exact⟨a5.trans hn,_,a1⟩
  ·rw[Zn h];exact λ_=>⟨hn,_,m⟩
 refine⟨?_,λk x hk hz x0 x1=>?_⟩
 ·rw[c2];unfold zcs;by_cases hz:(zcf l [(rk:Int)-1]).2=0
  ·rw[Zn (by rw[hz];simp),(num1 hz).1];rw[c1] at hz ⊢;by_cases h:0<rk
   ·rw[Zp h] at hz ⊢;by_cases h2:rk<len
    ·rw[Zp (by omega),show min (rk+1) len-(rk-1)=1+1 by omega,yc9 hz,show rk-1+1=rk by omega,Qi]
    ·rw[Zn (by omega),show min (rk+1) len-(rk-1)=1 by omega]
   ·rw[Zn h] at hz ⊢;have hr0:rk=0:=by omega
    subst hr0;by_cases h2:0<len
    ·rw[Zp (by omega),show min (0+1) len-(0-1)=1 by omega];rfl
    ·rw[Zn (by omega),show min (0+1) len-(0-1)=0 by omega];rfl
  ·rw[Zp hz];rw[c1] at hz ⊢;by_cases h:0<rk
   ·rw[Zp h] at hz ⊢;by_cases h2:rk<len
    ·rw[show min (rk+1) len-(rk-1)=1+1 by omega];show _=if (yc6 l (rk-1) 1).2=0 then _ else _;rw[Zn hz]
    ·rw[show min (rk+1) len-(rk-1)=1 by omega]
   ·rw[Zn h] at hz;exact absurd rfl hz
 ·match k,hk with
  | 0,_=>exact m.fine (by show x.toNat<l.num.length;have x1:x<l.num.length:=x1;omega)
  | 1,_ =>
   obtain⟨h1,lo,h2⟩:=num1 hz;exact h2.fine (by have x1:x<(zcf l [(rk:Int)-1]).1.num.length:=x1;omega)
  | k+2,hk=>simp at hk
