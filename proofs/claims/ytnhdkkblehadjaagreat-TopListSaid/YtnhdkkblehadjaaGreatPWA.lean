/- The engine, parts WC, WD, WE, WF, WG, WH, put together. Conditions: none. -/
import Derived.Test.YtnhdkkblehadjaaGreatPTA
open Bool renaming and_eq_true->Qa,or_eq_true->Qb,or_eq_false_iff->Qc,or_false->Qd,eq_iff_iff->Qe
open Go.Eng.Hp renaming le->Qg,le_refl->Qh,le_put->Qi,le_new->Qj,put_ne->Ql,le_trans->Qm,le_chg->Qn
open Int renaming toNat_natCast->Qo,toNat_of_nonneg->Qp
open List renaming getD_eq_getElem?_getD->Qq,getElem?_eq_getElem->Qr,mem_iff_getElem?->Qs,getElem?_take->Qt,mem_singleton->Qu,mem_iff_getElem->Qv,length_eraseIdx_of_lt->Qw,findIdx?_eq_some_iff_getElem->Qx
open Option renaming getD_some->Qy
set_option linter.unusedVariables false
set_option maxHeartbeats 8000000
section
set_option maxRecDepth 100000
open Go Go.Eng Go.Proofs
namespace Go.Proofs.YtnhdkkblehadjaaGreat
variable{m xs:List Mg}{H H0:Hp}{u s:Slc}{l o:List Int}{i x:Int}{n b:Nat}{p:Mg->Bool}{a:Mg}{t:Int×Int}
def fG(x:Mg):List Value:=[vi x.1.1,vi x.1.2,vi x.2.1,vi x.2.2]
abbrev mgV(x:Mg):Value:=.agg #[vi x.1.1,vi x.1.2,vi x.2.1,vi x.2.2]
theorem zwu:∀(x:Mg),∀v∈fG x,v.oneCell'=true:=λx v hv=>by
 simp[fG] at hv;rcases hv with rfl|rfl|rfl|rfl <;> rfl
theorem y34(h0:0<=i)(h1:i<m.length):m[i.toNat]?=some (m.getD i.toNat zMg):=by
 have h:i.toNat<m.length:=by omega
 rw[Qq,Qr h];rfl
theorem RdG.get(h:Rd 4 fG H u m)(h0:0<=i)(h1:i<m.length) :
  H.at (zu4 u.a 4 i)=some (vi (m.getD i.toNat zMg).1.1)/\H.at ((zu4 u.a 4 i).add 1)=some (vi (m.getD i.toNat zMg).1.2)/\H.at ((zu4 u.a 4 i).add 2)=some (vi (m.getD i.toNat zMg).2.1)/\H.at ((zu4 u.a 4 i).add 3)=some (vi (m.getD i.toNat zMg).2.2) :=
 ⟨h.at0 h0 (y34 h0 h1) rfl,h.atj h0 (y34 h0 h1) (j:=1) rfl,h.atj h0 (y34 h0 h1) (j:=2) rfl,h.atj h0 (y34 h0 h1) (j:=3) rfl⟩
theorem RdG.gI(h:Rd 4 fG H u m)(h0:0<=i)(h1:i<m.length):H.at (((zu4 u.a 4 i).add 2).add 0)=some (vi (m.getD i.toNat zMg).2.1):=by
 rw[add_zero'];exact(RdG.get h h0 h1).2.2.1
theorem RdG.gA(h:Rd 4 fG H u m)(h0:0<=i)(h1:i<m.length):H.at (zu4 u.a 4 i)=some (vi (m.getD i.toNat zMg).1.1)/\H.at ((zu4 u.a 4 i).add 1)=some (vi (m.getD i.toNat zMg).1.2) :=
 ⟨(RdG.get h h0 h1).1,(RdG.get h h0 h1).2.1⟩
theorem z9j{b:Mg}(h:zp5 a.1 b.1≠0):z9g a b=decide (zp5 a.1 b.1<0):=Zn h
theorem z9h{b:Mg}(h:zp5 a.1 b.1=0):z9g a b=decide (a.2.1<b.2.1\/(a.2.1=b.2.1/\a.2.2<b.2.2)):=Zp h
theorem nz0(h:(x != 0)=true):x≠0:=by simpa using h
theorem ez0(h:(x != 0)=false):x=0:=by simpa using h
theorem zqo{b:Mg}(oa:okR a.1)(ob:okR b.1):qF F.f84 #[mgV a,mgV b] H (.bool (z9g a b)):=by
 have e:cmpM a.1 b.1=(zp5 a.1 b.1,0):=Zp ⟨oa,ob⟩;have q:=yuj (H:=H) oa.fit ob.fit;rw[e] at q;refine vc84 ⟨_,_,q,λh=>⟨?_,Qh _⟩,λh=>⟨?_,Qh _⟩⟩
 ·rw[z9j (nz0 h)]
 ·rw[z9h (ez0 h)];congr 1;rw[Qe];simp
def yzr(m:List Mg)(n:Nat)(p:Int×Int):Bool:=(m.take n).any λx=>x.2==p
def yzt(m:List Mg)(n:Nat)(p:Int×Int):Option Value:=if yzr m n p=true then some (.bool true) else none
theorem yzu(m:List Mg)(n:Nat)(p:Int×Int):(yzt m n p).getD (.bool false)=.bool (yzr m n p):=by
 unfold yzt;cases yzr m n p <;> rfl
theorem yzs(hn:n<=m.length){p:Int×Int}:yzr m n p=true↔∃j,j<n/\(m.getD j zMg).2=p:=by
 unfold yzr;rw[List.any_eq_true];constructor
 ·rintro⟨x,hx,e⟩;obtain⟨j,hj⟩:=Qs.1 hx;rw[Qt] at hj;split at hj
  ·rename_i h;refine⟨j,h,?_⟩;rw[Qq,hj];simpa using e
  ·cases hj
 ·rintro⟨j,hj,e⟩;refine⟨m.getD j zMg,?_,by simpa using e⟩;refine Qs.2 ⟨j,?_⟩;rw[Qt,Zp hj,Qq,Qr (by omega)];rfl
theorem yzv(hn:n<m.length)(p:Int×Int):yzt m (n+1) p=xaz (yzt m n) (m.getD n zMg).2 (.bool true) p:=by
 unfold yzt xaz yzr;rw[x84 hn,List.any_append];by_cases h:p=(m.getD n zMg).2
 ·subst h;simp
 ·have:((m.getD n zMg).2==p)=false:=by simpa using λe=>h e.symm
  rw[Zn h,List.any_cons,this,List.any_nil,Qd,Qd]
theorem x64(hn:n<m.length):x63 m n↔(yzr m n (m.getD n zMg).2||decide ((n:Int)>0)&&!z9g (m.getD (n-1) zMg) (m.getD n zMg))=false:=by
 unfold x63;rw[Qc,Bool.eq_false_iff,ne_eq,yzs (by omega),Bool.and_eq_false_iff];constructor
 ·rintro⟨h1,h2⟩;refine⟨λ⟨j,hj,e⟩=>h2 j hj e,?_⟩;by_cases h:0<n
  ·right;rw[h1 h];rfl
  ·left;simp;omega
 ·rintro⟨h1,h2⟩;refine⟨λh=>?_,λj hj e=>h1 ⟨j,hj,e⟩⟩;rcases h2 with h2|h2
  ·simp at h2;omega
  ·simpa using h2
theorem y7z:KL Tryz.prog T.a2_int λx:Int×Int=>Value.agg #[vi x.1,vi x.2]:=KL.arr2 (t:=T.int) (by kernel_rfl) (by kernel_rfl) (by kernel_rfl)
theorem zqp(r:Rd 4 fG H u m)(ft:∀x∈m,zzn x.1):qF F.f37 #[u.v] H (vi (zli m)):=by
 have wn:(u.n:Int)=m.length:=by have:=r.len;omega
 have fm:∀{k:Nat},k<m.length->zzn (m.getD k zMg).1:=λh=>ft _ (y35 h)
 refine vc37 ?_;rw[wn];refine⟨λh=>⟨?_,Qh _⟩,λh=>?_⟩
 ·have h:(m.length:Int)>5000:=by simpa using h
  rw[zll (by omega)]
 have hl:¬ 5000<m.length:=by have:¬ (m.length:Int)>5000:=by simpa using h
                             omega
 refine upto (N:=(m.length:Int)) (J:=λn=>∀j,j<n.toNat->y3v (m.getD j zMg)) (by omega) (λj hj=>by simp at hj) λn h0 h1 hJ=>⟨λhn=>?_,λhn=>?_⟩
 ·have hn:n<m.length:=by simpa using hn
  refine⟨r.inS h0 hn,_,_,_,_,RdG.get r h0 hn,_,yui (fm (by omega)),λhc=>⟨?_,Qh _⟩,λhc=>?_⟩
  ·rw[zlj hl];intro hg;have g:=hg _ (y35 (m:=m) (k:=n.toNat) (by omega));obtain⟨g1,g2,g3,g4⟩:=g;rw[zm8 g1] at hc;simp only[bne_self_eq_false,Bool.false_or,Qb,Zq] at hc;omega
  ·refine upto.nx h0 hn (by omega) λj hj=>?_
   by_cases hjn:j<n.toNat
   ·exact hJ j hjn
   ·have:j=n.toNat:=by omega
    subst this;simp only[Qc,Zt] at hc;obtain⟨⟨⟨c1,c2⟩,c3⟩,c4⟩:=hc;exact⟨zm9.1 (ez0 c1),by omega,by omega,by omega⟩
 have hg:∀x∈m,y3v x:=λx hx=>by
  have hn:¬ n<m.length:=by simpa using hn
  obtain⟨j,hj,e⟩:=Qv.1 hx;have:=hJ j (by omega);rwa [Qq,Qr hj,Qy,e] at this
 intro b H11 hb hH;have l11:Qg H H11:=by subst hH;exact Hp.put_le _ _ hb
 refine xb0 (N:=(m.length:Int)) (J:=λn H'=>Qg H H'/\(∃es k,z14 (λx:Int×Int=>Value.agg #[vi x.1,vi x.2]) H' b (yzt m n.toNat) es k)/\∀j,j<n.toNat->x63 m j) (by omega)
  ⟨l11,⟨_,_,(z14.new hH).ext λx=>rfl⟩,λj hj=>by simp at hj⟩ λn H15 h0 h1 ⟨l15,⟨es,k,hM⟩,hS⟩=>⟨λhn=>?_,λhn=>⟨?_,l15⟩⟩
 ·have hn:n<m.length:=by simpa using hn
  have r15:=r.le l15;have hin:n.toNat<m.length:=by omega
  refine⟨r15.inS h0 hn,_,_,_,_,RdG.get r15 h0 hn,yzr m n.toNat (m.getD n.toNat zMg).2,?_,λhc=>?_,λhc=>?_,(m.getD (n.toNat-1) zMg).1.1,(m.getD (n.toNat-1) zMg).1.2,(m.getD (n.toNat-1) zMg).2.1,(m.getD (n.toNat-1) zMg).2.2,λhc=>?_,z9g (m.getD (n.toNat-1) zMg) (m.getD n.toNat zMg),λhc=>?_,λhc=>⟨?_,l15⟩,λhc=>?_⟩
  ·have:=y7z.lookF (t:=T.map_a2_int_bool) (e:=T.bool) (z:=.bool false) (by kernel_rfl) (by kernel_rfl) (x:=(m.getD n.toNat zMg).2) hM;rw[yzu] at this;exact this
  ·rw[Qa,Zq] at hc;unfold inI;omega
  ·rw[Qa,Zq] at hc;exact r15.inS (by omega) (by omega)
  ·rw[Qa,Zq] at hc;have:=RdG.get r15 (i:=n-1) (by omega) (by omega);rwa [show (n-1).toNat=n.toNat-1 by omega] at this
  ·rw[Qa,Zq] at hc;exact zqo (hg _ (y35 (by omega))).1 (hg _ (y35 hin)).1
  ·have hs:¬ x63 m n.toNat:=λh=>by
    rw[x64 hin,Qp h0] at h;rw[h] at hc;cases hc
   rw[zlm hl hg λh=>hs (h _ hin)]
  ·have hs:x63 m n.toNat:=by
    rw[x64 hin,Qp h0];exact hc
   refine(y7z.putF (t:=T.map_a2_int_bool) (e:=T.bool) (v:=.bool true) (by kernel_rfl) (x:=(m.getD n.toNat zMg).2) hM).mono λv H27 ⟨es',k',hH27,hM'⟩=>⟨v,rfl,?_⟩
   refine xb0.nx h0 hn (by omega) ⟨by subst hH27;exact Qi l15 hb,⟨es',k',hM'.ext λx=>?_⟩,λj hj=>?_⟩
   ·rw[show (n+1).toNat=n.toNat+1 by omega];exact yzv hin x
   ·by_cases hjn:j<n.toNat
    ·exact hS j hjn
    ·rw[show j=n.toNat by omega];exact hs
 ·have hn:¬ n<m.length:=by simpa using hn
  rw[zln.2 ⟨by omega,hg,λk hk=>hS k (by omega)⟩]
def fQ(x:Int×Int):List Value:=[vi x.1,vi x.2]
theorem y3g{m:List (Int×Int)}(h0:0<=i)(h1:i<m.length):m[i.toNat]?=some (m.getD i.toNat (0,0)):=by
 have h:i.toNat<m.length:=by omega
 rw[Qq,Qr h];rfl
theorem RdQ.get{m:List (Int×Int)}(h:Rd 2 fQ H u m)(h0:0<=i)(h1:i<m.length) :
  H.at (zu4 u.a 2 i)=some (vi (m.getD i.toNat (0,0)).1)/\H.at ((zu4 u.a 2 i).add 1)=some (vi (m.getD i.toNat (0,0)).2) :=
 ⟨h.at0 h0 (y3g h0 h1) rfl,h.atj h0 (y3g h0 h1) (j:=1) rfl⟩
theorem _root_.Go.Eng.Mine.rdG{e:TypeId}(h:Mine 4 fG e H0 H u xs):Rd 4 fG H u xs:=Mine.rd (k:=4) (f:=fG) (λ_=>rfl) h
abbrev kI(x:Int):Value:=vi x
theorem y7w:KL Tryz.prog T.int kI:=KL.int (by kernel_rfl)
def yrq(l:List Int)(id:Int):Option Int:=if id∈l then some (yrc l id:Int) else none
def atF(l:List Int)(id:Int):Option Value:=(yrq l id).map kI
theorem yrr{id:Int}(h:id∈l):yrq l id=some (yrc l id:Int):=Zp h
theorem yrs{id:Int}(h:id∉l):yrq l id=none:=Zn h
theorem z89(l:List Int)(id:Int):(atF l id).getD (kI 0)=kI ((yrq l id).getD 0):=by
 unfold atF;cases yrq l id <;> rfl
theorem z8b(l:List Int)(id:Int):(atF l id).isSome=decide (id∈l):=by
 unfold atF yrq;by_cases h:id∈l <;> simp[h]
theorem z8c(hd:l.Nodup){a b:Int}(ha:a∈l)(hb:b∈l)(hne:a≠b)(x:Int):atF (x6w l (yrc l a) (yrc l b)) x=xaz (xaz (atF l) a (kI (yrc l b:Int))) b (kI (yrc l a:Int)) x:=by
 have hp:=yrg.2 ha;have hq:=yrg.2 hb;unfold xaz;by_cases h1:x=b
 ·subst h1;rw[Zp rfl];unfold atF;rw[yrr ((x6z hp hq).2 hb),yrj hd ha hb,Zn λe=>hne e.symm,Zp rfl];rfl
 ·rw[Zn h1];by_cases h2:x=a
  ·subst h2;rw[Zp rfl];unfold atF;rw[yrr ((x6z hp hq).2 ha),yrj hd ha hb,Zp rfl];rfl
  ·rw[Zn h2];unfold atF;by_cases hm:x∈l
   ·rw[yrr hm,yrr ((x6z hp hq).2 hm),yrj hd ha hb,Zn h2,Zn h1]
   ·rw[yrs hm,yrs λh=>hm ((x6z hp hq).1 h)]
theorem yri{y:Int}:yrc (l++[x]) y=if y∈l then yrc l y else if y=x then l.length else l.length+1:=by
 unfold yrc;rw[List.idxOf_append];split
 ·rfl
 ·rw[List.idxOf_cons];by_cases h:x=y
  ·subst h;simp
  ·have:(x==y)=false:=by simpa using h
   rw[this,Zn λe=>h e.symm];simp[List.idxOf];omega
theorem z8a(h:x∉l)(y:Int):atF (l++[x]) y=xaz (atF l) x (kI (l.length:Int)) y:=by
 unfold xaz atF yrq;rw[yri];by_cases hy:y=x
 ·subst hy;simp[h]
 ·rw[Zn hy];by_cases hm:y∈l
  ·rw[Zp hm,Zp hm,Zp (List.mem_append_left _ hm),Zn hy]
  ·simp[hm,hy]
theorem x85(h:n<o.length):o.take (n+1)=o.take n++[o.getD n 0]:=by
 rw[List.take_add_one,Qq,Qr h];rfl
theorem ylj(h:ylg l)(hx:x∉l)(h0:0<=x)(h1:x<=65535):ylg (l++[x]):=by
 refine⟨λy hy=>?_,?_⟩
 ·rcases List.mem_append.1 hy with hy|hy
  ·exact h.1 y hy
  ·rw[Qu.1 hy];exact⟨h0,h1⟩
 ·rw[List.nodup_append];refine⟨h.2,by simp,λa ha c hc e=>?_⟩;rw[Qu] at hc;subst hc;subst e;exact hx ha
theorem ylh(h:ylg o)(hn:n<o.length):(0<=o.getD n 0/\o.getD n 0<=65535)/\o.getD n 0∉o.take n:=by
 have hm:o.getD n 0∈o:=by rw[Qq,Qr hn];exact List.getElem_mem _
 refine⟨h.1 _ hm,λhc=>?_⟩;obtain⟨j,hj⟩:=Qs.1 hc;rw[Qt] at hj;split at hj
 ·rename_i hjn;have e:o.getD j 0=o.getD n 0:=by rw[Qq,hj];rfl
  have p1:=y5q h.2 (i:=j) (by omega);have p2:=y5q h.2 hn;rw[e,p2] at p1;omega
 ·cases hj
def fiI(p:Mg->Bool)(m:List Mg):Int:=match m.findIdx? p with
 | some i=>(i:Int)
 | none=>-1
theorem zxm{i:Nat}(hi:i<m.length)(hp:p (m.getD i zMg)=true)(hj:∀j,j<i->p (m.getD j zMg)=false):fiI p m=i/\m.findIdx? p=some i:=by
 have:m.findIdx? p=some i:=by
  rw[Qx];refine⟨hi,?_,λj hji=>?_⟩
  ·rw[Qq,Qr hi] at hp;exact hp
  ·have:=hj j hji;rw[Qq,Qr (by omega)] at this;simpa using this
 exact⟨by unfold fiI;rw[this],this⟩
theorem zxn(hj:∀j,j<m.length->p (m.getD j zMg)=false):fiI p m = -1/\m.findIdx? p=none:=by
 have:m.findIdx? p=none:=by
  rw[List.findIdx?_eq_none_iff];intro x hx;obtain⟨j,hl,e⟩:=Qv.1 hx;have:=hj j hl;rwa [Qq,Qr hl,Qy,e] at this
 exact⟨by unfold fiI;rw[this],this⟩
theorem y5o{fv:Value}(r:Rd 4 fG H u m)(hf:∀x∈m,QfV Tryz.prog fv [mgV x] H (.bool (p x)))(hl:m.length<=1000000) :
  qF F.f39 #[u.v,fv] H (vi (fiI p m)):=by
 have wn:(u.n:Int)=m.length:=by have:=r.len;omega
 refine vc39 ?_;rw[wn];refine upto (N:=(m.length:Int)) (J:=λn=>∀j,j<n.toNat->p (m.getD j zMg)=false) (by omega) (λj hj=>by simp at hj) λn h0 h1 hJ=>⟨λhn=>?_,λhn=>⟨?_,Qh _⟩⟩
 ·have hn:n<m.length:=by simpa using hn
  have hin:n.toNat<m.length:=by omega
  refine⟨r.inS h0 hn,_,_,_,_,RdG.get r h0 hn,_,hf _ (y35 hin),λhc=>⟨?_,Qh _⟩,λhc=>?_⟩
  ·rw[(zxm hin hc hJ).1,Qp h0]
  ·refine upto.nx h0 hn (by omega) λj hj=>?_
   by_cases hjn:j<n.toNat
   ·exact hJ j hjn
   ·rw[show j=n.toNat by omega];exact hc
 ·have hn:¬ n<m.length:=by simpa using hn
  rw[(zxn λj hj=>hJ j (by omega)).1]
theorem znr(hs:Rd 4 fG H s xs)(hl:xs.length<=1000000000) :
  fN F.f38 #[s.v] H λv H'=>∃u:Slc,v=u.v/\Qg H H'/\Mine 4 fG T.api_Meeting H H' u xs :=
 vc38 (zo0 (k:=4) (f:=fG) (bytes:=32) (by kernel_rfl) (by decide) (λ_=>rfl) hs (by omega) (by omega))
theorem zsu(hl:Qg H0 H)(h:Mine 4 fG T.api_Meeting H0 H s xs)(h0:0<=i)(h1:i<xs.length) :
  fN F.f41 #[s.v,vi i,vi (i+1)] H λv H'=>∃u:Slc,v=u.v/\Qg H0 H'/\Mine 4 fG T.api_Meeting H0 H' u (xs.eraseIdx i.toNat)/\Chg H H' s/\Ext H s u :=
 vc41 (zsz (k:=4) (f:=fG) (bytes:=32) (j:=i+1) (Zw:=λv H'=>∃u:Slc,v=u.v/\Qg H0 H'/\Mine 4 fG T.api_Meeting H0 H' u (xs.eraseIdx i.toNat)/\Chg H H' s/\Ext H s u) (by kernel_rfl) (by kernel_rfl)
  (by decide) (λ_=>rfl) zwu (by kernel_rfl) hl h h0 (by omega) (by omega) λu H' l m c e=>⟨u,rfl,l,by rw[List.eraseIdx_eq_take_drop_succ];rw[show (i+1).toNat=i.toNat+1 by omega] at m;exact m,c,e⟩)
theorem zqs{b4 b2 b31:Nat}{es:Array MapEntry}{x:Mg}(hv:Var H b4 (.map (some b2)) T.map_int_int)(hM:z14 kI H b2 (atF l) es n)(ht:Cel H b31 #[vi t.1,vi t.2] T.api_Ratio)(hl:l.length<=64) :
  qF F.f40 #[mgV x,.pointer (some ⟨b4,0,none⟩),.pointer (some ⟨b31,0,none⟩)] H (.bool (yvh l t x)):=by
 have q1:=y7w.lookOkF (t:=T.map_int_int) (e:=T.int) (z:=kI 0) (by kernel_rfl) (by kernel_rfl) (x:=x.2.1) hM;have q2:=y7w.lookOkF (t:=T.map_int_int) (e:=T.int) (z:=kI 0) (by kernel_rfl) (by kernel_rfl) (x:=x.2.2) hM;rw[z89,z8b] at q1 q2;have b1:0<=(yrq l x.2.1).getD 0/\(yrq l x.2.1).getD 0<=64:=by
  by_cases h:x.2.1∈l
  ·rw[yrr h];have:=yrg.2 h;show 0<=(yrc l x.2.1:Int)/\(yrc l x.2.1:Int)<=64;omega
  ·rw[yrs h];decide
 have b2:0<=(yrq l x.2.2).getD 0/\(yrq l x.2.2).getD 0<=64:=by
  by_cases h:x.2.2∈l
  ·rw[yrr h];have:=yrg.2 h;show 0<=(yrc l x.2.2:Int)/\(yrc l x.2.2:Int)<=64;omega
  ·rw[yrs h];decide
 have c0:H.at ((Addr.mk b31 0 none).add 0)=some (vi t.1):=by rw[add_zero',Cel.at ht];rfl
 have c1:H.at ((Addr.mk b31 0 none).add 1)=some (vi t.2):=by
  have:(Addr.mk b31 0 none).add 1=Addr.mk b31 1 none:=rfl;rw[this,Cel.at ht];rfl
 refine vc40 ⟨_,hv.at,_,_,q1,_,hv.at,_,_,q2,_,_,⟨c0,c1⟩,λ_=>?_,?_,Qh _⟩
 ·unfold inI;split <;> split <;> omega
 ·congr 1;rw[Qe];unfold yvh z43;simp only[Qa,Qb,beq_iff_eq,Zq];constructor
  ·rintro⟨⟨⟨⟨h1,h2⟩,h3⟩,h4⟩,h5⟩;rw[yrr h3,yrr h4] at h5;refine⟨Prod.ext h1 h2,⟨h3,h4⟩,?_⟩;simp only[Qy] at h5;split at h5 <;> split at h5 <;> omega
  ·rintro⟨h1,⟨h3,h4⟩,h5⟩;rw[yrr h3,yrr h4];refine⟨⟨⟨⟨by rw[h1],by rw[h1]⟩,h3⟩,h4⟩,?_⟩;simp only[Qy];split <;> split <;> omega
theorem x5z{cs:Array Value}{T:TypeId}(h:Cel H b cs T)(vs:List Value)(hv:vs.length=cs.size):H.canStore ⟨b,0,none⟩ 0 vs/\H.store ⟨b,0,none⟩ 0 vs=H.put b (.cells vs.toArray T (0,0)):=by
 obtain⟨can,st⟩:=x62 (b:=b) (off:=0) vs 0 H cs h (by omega);refine⟨can,?_⟩;rw[st];have:cs.toList.drop (0+0+vs.length)=[]:=List.drop_eq_nil_of_le (by rw[Array.length_toList];omega);rw[this];simp
def blS(b:Nat):Slc:=⟨some ⟨b,0,none⟩,1,1⟩
theorem zam{o:Obj}(h:H b=some o):Old H (blS b):=λp hp e=>by
 cases hp;rw[h] at e;cases e
theorem x09(h:Sep u (blS b)):∀p,u.a=some p->p.block≠b:=λp hp=>h p ⟨b,0,none⟩ hp rfl
theorem _root_.Go.Eng.Var.ne{c:Nat}{v:Value}{T:TypeId}{o:Obj}(h:Var H b v T)(hne:b≠c):Var (H.put c o) b v T:=by
 unfold Var Cel at *;rw[Ql _ _ hne];exact h
theorem yql(h:zli m≠0):yqk o m=([],zli m):=Zn h
theorem yqn(h:zli m=0)(hl:64<o.length):yqk o m=([],4):=by unfold yqk;rw[Zp h,Zp hl]
theorem yqp(h:zli m=0)(hl:¬ 64<o.length)(ho:¬ ylg o):yqk o m=([],8):=by unfold yqk;rw[Zp h,Zn hl,Zn ho]
theorem yqo(h:zli m=0)(hl:¬ 64<o.length)(ho:ylg o)(hp:yqf m.length o m=none):yqk o m=([],36):=by unfold yqk;rw[Zp h,Zn hl,Zp ho,hp]
theorem yqr(h:zli m=0)(hl:¬ 64<o.length)(ho:ylg o)(hp:yqf m.length o m=some l):yqk o m=(l,0):=by unfold yqk;rw[Zp h,Zn hl,Zp ho,hp]
theorem yvi{x:Mg}(h:yvh l t x=true):x.2.1∈l/\x.2.2∈l:=by
 unfold yvh z43 at h;simp only[Qa,Zq] at h;exact h.2.1
theorem zxo(h:fiI p m<0):m.findIdx? p=none:=by
 unfold fiI at h;cases hx:m.findIdx? p with
 | none=>rfl
 | some i=>rw[hx] at h;simp only at h;omega
theorem zxp(h:¬ fiI p m<0):∃i,fiI p m=(i:Nat)/\m.findIdx? p=some i/\i<m.length/\p (m.getD i zMg)=true:=by
 unfold fiI at h ⊢;cases hx:m.findIdx? p with
 | none=>rw[hx] at h;simp only at h;omega
 | some i =>
  obtain⟨hi,hp,_⟩:=Qx.1 hx;refine⟨i,rfl,rfl,hi,?_⟩;rw[Qq,Qr hi];exact hp
structure z1p(H:Hp)(b2 b4:Nat)(s:Slc)(o:List Int)(m:List Mg)(d:Slc)(H':Hp)(l:List Int)(left:List Mg)(es:Array MapEntry)(k:Nat):Prop where
 le:Qg H H'
 ms:Mine 1 fI 3 H H' s l
 md:Mine 4 fG T.api_Meeting H H' d left
 sd:Sep s d
 s2:Sep s (blS b2)
 s4:Sep s (blS b4)
 d2:Sep d (blS b2)
 d4:Sep d (blS b4)
 vr:Var H' b4 (.map (some b2)) T.map_int_int
 mp:z14 kI H' b2 (atF l) es k
 srt:Go.Eng.sortG left
 nd:l.Nodup
 few:l.length<=64
 lot:left.length<=5000
 pl:yqf left.length l left=yqf m.length o m
theorem zqr{w:Slc}(ro:RdI H w o)(r:Rd 4 fG H u m)(ft:∀x∈m,zzn x.1) :
  fN F.f13 #[w.v,u.v] H λv H'=>∃s:Slc,v=.tuple #[s.v,vi (yqk o m).2]/\Qg H H'/\Mine 1 fI 3 H H' s (yqk o m).1:=by
 have wn:(w.n:Int)=o.length:=by have:=ro.len;omega
 refine vc13 ?_;rw[wn];refine⟨_,zqp r ft,λh=>?_,λh=>⟨λhb=>?_,λhb b2 H3 hb2 hH3 b4 H5 hb4 hH5=>?_⟩⟩
 ·rw[yql (nz0 h)];exact⟨zs,rfl,Qh _,.inl ⟨rfl,rfl⟩⟩
 ·have hb:=Zr hb;rw[yqn (ez0 h) (by omega)];exact⟨zs,rfl,Qh _,.inl ⟨rfl,rfl⟩⟩
 have h:=ez0 h;have ok:=zln.1 h;have few:=ok.few;have hb:=Zs hb;have hl64:¬ 64<o.length:=by omega
 have l3:Qg H H3:=Qj (Qh _) hb2 hH3;have l5:Qg H H5:=Qj l3 hb4 hH5;have nb4:H b4=none:=by
  cases hx:H b4 with
  | none=>rfl
  | some x=>rw[l3 _ _ hx] at hb4;cases hb4
 have M3:=z14.new (fk:=kI) hH3;have hne:b2≠b4:=λe=>by subst e;rw[M3.blk] at hb4;cases hb4
 have M5:=M3.le (Qj (Qh _) hb4 hH5);have V5:Var H5 b4 (.map none) T.map_int_int:=Var.new hH5;refine Var.set V5 (.map (some b2)) λH6 hH6=>?_
 have l6:Qg H H6:=by subst hH6;exact Qi l5 nb4
 have V6:Var H6 b4 (.map (some b2)) T.map_int_int:=Var.new hH6;have M6:z14 kI H6 b2 (atF []) #[] 0:=(M5.at (by rw[hH6,Ql _ _ hne])).ext λx=>by simp[atF,yrq]
 refine⟨λn H'=>0<=n/\n<=o.length/\Qg H H'/\Var H' b4 (.map (some b2)) T.map_int_int/\(∃es k,z14 kI H' b2 (atF (o.take n.toNat)) es k)/\ylg (o.take n.toNat),λn _=>((o.length:Int)-n).toNat,⟨Int.le_refl _,by omega,l6,V6,⟨_,_,M6⟩,by simp[ylg]⟩,λn H10 ⟨n0,n1,l10,V10,⟨es,k,M10⟩,og⟩=>⟨λhn=>?_,λhn=>?_⟩⟩
 ·have hn:n<o.length:=Zr hn;have hin:n.toNat<o.length:=by omega
  have r10:=ro.le l10;have q1:=y7w.lookOkF (t:=T.map_int_int) (e:=T.int) (z:=kI 0) (by kernel_rfl) (by kernel_rfl) (x:=o.getD n.toNat 0) M10;rw[z89,z8b] at q1;refine⟨r10.inS n0 hn,_,RdI.get r10 n0 hn,_,V10.at,_,_,q1,λhc=>?_,λhc=>?_⟩
  ·rw[yqp h hl64 λho=>?_]
   ·exact⟨zs,rfl,l10,.inl ⟨rfl,rfl⟩⟩
   ·obtain⟨⟨a1,a2⟩,a3⟩:=ylh ho hin;simp only[Qb,Zq] at hc;rcases hc with(hc|hc)|hc
    ·exact a3 hc
    ·omega
    ·omega
  ·simp only[Qc,Zt] at hc;obtain⟨⟨c1,c2⟩,c3⟩:=hc;have tl:(o.take n.toNat).length=n.toNat:=by rw[List.length_take];omega
   refine⟨_,V10.at,(y7w.putF (t:=T.map_int_int) (e:=T.int) (v:=kI n) (by kernel_rfl) M10).mono λv16 H17 ⟨es',k',e17,M17⟩=>⟨v16,rfl,by unfold inI;omega,⟨by omega,by omega,?_,?_,⟨es',k',M17.ext λy=>?_⟩,?_⟩,by dsimp only;omega⟩⟩
   ·subst e17;exact Qi l10 hb2
   ·subst e17;exact V10.ne λe=>hne e.symm
   ·rw[show (n+1).toNat=n.toNat+1 by omega,x85 hin,z8a c1,tl,Qp n0]
   ·rw[show (n+1).toNat=n.toNat+1 by omega,x85 hin];exact ylj og c1 (by omega) (by omega)
 have hn:¬ n<o.length:=Zs hn;rw[show n.toNat=o.length by omega,List.take_length] at M10 og;refine(znw (ro.le l10) (by omega)).mono λv19 H20 ⟨s,hv,l20,m20⟩=>⟨s,hv,?_⟩
 have l020:=Qm l10 l20;refine(znr (r.le l020) (by omega)).mono λv22 H23 ⟨d0,hv,l23,m23⟩=>⟨d0,hv,?_⟩
 have o2:Old H10 (blS b2):=zam M10.blk;have o4:Old H10 (blS b4):=zam V10;refine⟨λd H'=>∃l left es k,z1p H b2 b4 s o m d H' l left es k,λd _=>d.n,
  ⟨o,m,es,k,⟨Qm l020 l23,(m20.le l23).low l10,m23.low l020,Sep.of m20.isOld m23.isNew,(Sep.of o2 m20.isNew).symm,(Sep.of o4 m20.isNew).symm,(Sep.of (o2.le l20) m23.isNew).symm,(Sep.of (o4.le l20) m23.isNew).symm,(V10.le l20).le l23,(M10.le l20).le l23,ok.srt,og.2,by omega,by omega,rfl⟩⟩,?_⟩
 rintro d H28 ⟨l,left,es,k,I⟩;have rd28:=I.md.rdG;have dn:d.n=left.length:=rd28.len;refine⟨λhn=>?_,λhn=>?_⟩
 ·have hn:=Zr hn;have hpos:0<left.length:=by omega
  obtain⟨t,ht⟩:∃t,t=(left.getD 0 zMg).1:=⟨_,rfl⟩;have g0:=RdG.gA rd28 (i:=0) (by omega) (by omega);have g0':H28.at (zu4 d.a 4 0)=some (vi t.1)/\H28.at ((zu4 d.a 4 0).add 1)=some (vi t.2):=by rw[ht];exact g0
  refine⟨rd28.inS (by omega) (by omega),_,_,g0',λb31 H32 hb31 hH32=>?_⟩;have C32:Cel H32 b31 #[vi 0,vi 0] T.api_Ratio:=by subst hH32;exact Cel.put
  obtain⟨can,sto⟩:=x5z C32 [vi t.1,vi t.2] rfl;refine⟨can,λH33 hH33=>?_⟩;rw[sto] at hH33;have C33:Cel H33 b31 #[vi t.1,vi t.2] T.api_Ratio:=by subst hH33;exact Cel.put
  have l33:Qg H28 H33:=by subst hH33;exact Qi (Qj (Qh _) hb31 hH32) hb31
  have V33:=I.vr.le l33;have M33:=I.mp.le l33;have rd33:=rd28.le l33;have ms33:=I.ms.le l33;have md33:=I.md.le l33;have le33:=Qm I.le l33;have hf:∀x∈left,QfV Tryz.prog (.func (.func F.f40) #[] #[.pointer (some ⟨b4,0,none⟩),.pointer (some ⟨b31,0,none⟩)]) [mgV x] H33 (.bool (yvh l t x)):=λx hx =>
   ⟨_,#[],_,rfl,cb40,zqs V33 M33 C33 I.few⟩
  have qi:=y5o rd33 hf (by have:=I.lot;omega);refine⟨_,qi,λhi=>?_,λhi=>?_⟩
  ·have hi:=zxo (Zr hi);have hp:yqf m.length o m=none:=by
    rw[← I.pl,yqh (n:=left.length-1) (by omega),← ht,hi]
   rw[yqo h hl64 og hp];exact⟨zs,rfl,le33,.inl ⟨rfl,rfl⟩⟩
  ·obtain⟨i,e1,e2,hil,hrd⟩:=zxp (Zs hi);rw[e1];have gi:=RdG.get rd33 (i:=(i:Int)) (by omega) (by omega);rw[Qo] at gi;obtain⟨y,hy⟩:∃y,y=left.getD i zMg:=⟨_,rfl⟩;rw[← hy] at gi hrd;have gy:y3v y:=by rw[hy];exact I.srt.1 _ (y35 hil)
   obtain⟨ya,yb⟩:=yvi hrd;have yne:y.2.1≠y.2.2:=by have:=gy.2.2.1;omega
   have pa:=yrg.2 ya;have pb:=yrg.2 yb;have hfew:=I.few;have hpl:yqf m.length o m=yqf (left.eraseIdx i).length (x6w l (yrc l y.2.1) (yrc l y.2.2)) (left.eraseIdx i):=by
    rw[← I.pl,yqh (n:=left.length-1) (by omega),← ht,e2];simp only;rw[hy]
   have q1:=y7w.lookF (t:=T.map_int_int) (e:=T.int) (z:=kI 0) (by kernel_rfl) (by kernel_rfl) (x:=y.2.1) M33;have q2:=y7w.lookF (t:=T.map_int_int) (e:=T.int) (z:=kI 0) (by kernel_rfl) (by kernel_rfl) (x:=y.2.2) M33;rw[z89,yrr ya,Qy] at q1;rw[z89,yrr yb,Qy] at q2;have f1:=RdI.get ms33.rdI (i:=(yrc l y.2.2:Int)) (by omega) (by omega);have f2:=RdI.get ms33.rdI (i:=(yrc l y.2.1:Int)) (by omega) (by omega);rw[Qo] at f1 f2;have is1:=ms33.rdI.inS (i:=(yrc l y.2.1:Int)) (by omega) (by omega);have is2:=ms33.rdI.inS (i:=(yrc l y.2.2:Int)) (by omega) (by omega);refine⟨rd33.inS (by omega) (by omega),_,_,_,_,gi,_,V33.at,_,q1,_,V33.at,_,q2,is2,_,f1,is1,_,f2,is1,?_⟩;refine Mine.setI ms33 (by omega) (by omega) _ λH45 m45 c45=>⟨is2,?_⟩
   refine Mine.setI m45 (by omega) (by rw[List.length_set];omega) _ λH46 m46 c46=>?_
   rw[Qo,Qo] at m46;have m46:Mine 1 fI 3 H H46 s (x6w l (yrc l y.2.1) (yrc l y.2.2)):=m46;have V46:=(V33.chg c45 (x09 I.s4)).chg c46 (x09 I.s4);have M46:=(M33.chg c45 (x09 I.s2)).chg c46 (x09 I.s2);have md46:=(md33.chg c45 I.sd.symm).chg c46 I.sd.symm;have l46:Qg H H46:=Qn (Qn le33 c45 I.ms.isNew) c46 I.ms.isNew;have put1:=y7w.putF (t:=T.map_int_int) (e:=T.int) (x:=y.2.1) (v:=kI (yrc l y.2.2:Int)) (by kernel_rfl) M46;have core:∀H50 es1 k1,H50=H46.put b2 (.map es1 k1)->z14 kI H50 b2 (xaz (atF l) y.2.1 (kI (yrc l y.2.2:Int))) es1 k1 ->
     Var H50 b4 (.map (some b2)) T.map_int_int/\z1l Tryz.prog (x06 (Instr.mapUpdate T.map_int_int (Value.map (some b2)) (vi y.2.2) (vi (yrc l y.2.1:Int)))) H50 λv52 H53=>∃v54:Value,v52=v54 /\
      inI ((i:Int)+1)/\fN F.f41 #[d.v,vi (i:Int),vi ((i:Int)+1)] H53 λv55 H56=>∃u57:Slc,v55=u57.v /\
       (∃l left es k,z1p H b2 b4 s o m u57 H56 l left es k)/\u57.n<d.n:=λH50 es1 k1 e50 M50=>by
    have V50:Var H50 b4 (.map (some b2)) T.map_int_int:=by subst e50;exact V46.ne λe=>hne e.symm
    have l50:Qg H H50:=by subst e50;exact Qi l46 hb2
    have low:∀{k0:Nat}{α:Type}{f:α->List Value}{e:TypeId}{a:Slc}{xs:List α}{H1:Hp}{es0:Array MapEntry}{n0:Nat},Mine k0 f e H H1 a xs->Sep a (blS b2)->Mine k0 f e H (H1.put b2 (.map es0 n0)) a xs:=λ{k0 α f e a xs H1 es0 n0} hm hs =>
     hm.chg (v:=blS b2) (λc _ hc=>Ql _ _ λe=>hc ⟨b2,0,none⟩ rfl e.symm) hs
    have m50:Mine 1 fI 3 H H50 s (x6w l (yrc l y.2.1) (yrc l y.2.2)):=by subst e50;exact low m46 I.s2
    have d50:Mine 4 fG T.api_Meeting H H50 d left:=by subst e50;exact low md46 I.d2
    refine⟨V50,(y7w.putF (t:=T.map_int_int) (e:=T.int) (x:=y.2.2) (v:=kI (yrc l y.2.1:Int)) (by kernel_rfl) M50).mono λv52 H53 ⟨es2,k2,e53,M53⟩=>⟨v52,rfl,by have:=I.lot;unfold inI;omega,?_⟩⟩;have V53:Var H53 b4 (.map (some b2)) T.map_int_int:=by subst e53;exact V50.ne λe=>hne e.symm
    have l53:Qg H H53:=by subst e53;exact Qi l50 hb2
    have m53:Mine 1 fI 3 H H53 s (x6w l (yrc l y.2.1) (yrc l y.2.2)):=by subst e53;exact low m50 I.s2
    have d53:Mine 4 fG T.api_Meeting H H53 d left:=by subst e53;exact low d50 I.d2
    have M53':z14 kI H53 b2 (atF (x6w l (yrc l y.2.1) (yrc l y.2.2))) es2 k2:=M53.ext λx=>z8c I.nd ya yb yne x
    refine(zsu l53 d53 (i:=(i:Int)) (by omega) (by omega)).mono λv55 H56 ⟨d',hv,l56,md,c,x⟩=>⟨d',hv,?_,?_⟩
    ·rw[Qo] at md;have os:Old H53 s:=m53.isOld;refine⟨_,left.eraseIdx i,es2,k2,⟨l56,m53.chg c I.sd,md,(I.sd.symm.ext os x).symm,I.s2,I.s4,I.d2.ext (zam M53.blk) x,I.d4.ext (zam V53) x,V53.chg c (x09 I.d4),M53'.chg c (x09 I.d2),I.srt.erase i,x70 I.nd pa pb,by rw[x6y];exact hfew,by have:=I.lot;rw[Qw hil];omega,hpl.symm⟩⟩
    ·have:=md.rdG.len;rw[Qo,Qw hil] at this;omega
   refine⟨_,V46.at,⟨_,V46.at,put1.mono λv49 H50 ⟨es1,k1,e50,M50⟩=>⟨v49,rfl,(core H50 es1 k1 e50 M50).2⟩⟩,put1.mono λv58 H59 ⟨es1,k1,e50,M50⟩=>⟨v58,rfl,_,(core H59 es1 k1 e50 M50).1.at,(core H59 es1 k1 e50 M50).2⟩⟩
 ·have hn:=Zs hn;have hz:left=[]:=List.eq_nil_of_length_eq_zero (by omega);have hp:yqf m.length o m=some l:=by rw[← I.pl,hz];exact yqj _ _
  rw[yqr h hl64 og hp];exact⟨s,rfl,I.le,I.ms⟩
