/- The engine, parts PZ, QZ, put together. Conditions: none. -/
import Derived.Test.YtnhdkkblehadjaaGreatVgY
import Derived.Test.YtnhdkkblehadjaaGreatPQ4
open BitVec renaming ofInt->Qa
open Bool renaming and_eq_true->Qb
open Go.Eng.Hp renaming le_refl->Qc,le->Qd,le_new->Qe,put_ne->Qg,le_trans->Qh
open Int renaming toNat_natCast->Qi,tdiv_eq_ediv_of_nonneg->Qj
open Go.IntKind renaming u64->Ql
open List renaming range->Qm,getElem_mem->Qn,getElem?_eq_getElem->Qo
set_option linter.unusedVariables false
set_option maxHeartbeats 8000000
section
set_option maxRecDepth 100000
open Go Go.Eng Go.Proofs
namespace Go.Proofs.YtnhdkkblehadjaaGreat
variable{H:Hp}{n:Nat}{x lo hi r l:Int}{Q:Hp->Prop}{K:Int->Prop}
def fPr(x:Pr):List Value:=[vi x.1,vi x.2.1,vi x.2.2.1,vi x.2.2.2]
abbrev prV(x:Pr):Value:=sI4 x.1 x.2.1 x.2.2.1 x.2.2.2
def ylu(a b:Pr):Int:=if (cmpM a.2.2 b.2.2).1≠0 then (cmpM a.2.2 b.2.2).1 else if zoo a.1 b.1≠0 then zoo a.1 b.1 else zoo a.2.1 b.2.1
theorem yle{u:Slc}{y z:Int}(h:RdI H u [x,y,z]):qF F.f194 #[u.v] H (vi (if x≠0 then x else if y≠0 then y else z)):=by
 have un:(u.n:Int)=3:=by have:=h.len;simp at this;omega
 refine vc194 ?_;rw[un];refine upto (N:=3) (J:=λn=>(0<n->x=0)/\(1<n->y=0)/\(2<n->z=0)) (by omega) ⟨by omega,by omega,by omega⟩ λn h0 h1 ⟨j1,j2,j3⟩=>⟨λhn=>?_,λhn=>?_⟩
 ·have hn:n<3:=Zr hn;refine⟨h.inS h0 (by simp;omega),_,RdI.get h h0 (by simp;omega),λhz=>⟨?_,Qc _⟩,λhz=>upto.nx h0 hn (by omega) ?_⟩
  ·have hz:=bne_iff_ne.1 hz;have:n=0\/n=1\/n=2:=by omega
   rcases this with rfl|rfl|rfl
   ·exact congrArg _ (Zp (c:=x≠0) hz).symm
   ·rw[Zn (by simp[j1]),Zp (c:=y≠0) hz];rfl
   ·rw[Zn (by simp[j1]),Zn (by simp[j2])];rfl
  ·have hz:=bne_eq_false_iff_eq.1 hz;have:n=0\/n=1\/n=2:=by omega
   rcases this with rfl|rfl|rfl
   ·exact⟨λ_=>hz,by omega,by omega⟩
   ·exact⟨λ_=>j1 (by omega),λ_=>hz,by omega⟩
   ·exact⟨λ_=>j1 (by omega),λ_=>j2 (by omega),λ_=>hz⟩
 ·have hn:=Zs hn;refine⟨?_,Qc _⟩;rw[Zn (by simpa using j1 (by omega)),Zn (by simpa using j2 (by omega)),j3 (by omega)]
theorem yyb{a b:Pr}(fa:zzn a.2.2)(fb:zzn b.2.2):qF F.f153 #[.agg #[],prV a,prV b] H (vi (ylu a b)):=by
 have q:=yuj (H:=H) fa fb;refine vc153 ⟨_,_,q,_,zrk,_,zrk,λb5 H6 hb hH=>⟨_,yle (u:=⟨some ⟨b5,0,none⟩,3,3⟩) (yva (k:=1) (f:=fI) (λ_=>rfl) hH rfl rfl),rfl,Qe (Qc _) hb hH⟩⟩
abbrev L4(H:Hp)(p:Addr)(a b c d:Int):Prop:=H.at p=some (vi a)/\H.at (p.add 1)=some (vi b)/\H.at (p.add 2)=some (vi c)/\H.at (p.add 3)=some (vi d)
structure SE(H0:Hp)(e:TypeId)(u:Slc)(L:List Pr)(H:Hp):Prop where
 m:Mine 4 fPr e H0 H u L
 le:Qd H0 H
def SD(P:Pr->Prop)(H0:Hp)(e:TypeId)(u:Slc)(N:Nat)(H:Hp):Prop:=∃L:List Pr,L.length=N/\(∀x∈L,P x)/\SE H0 e u L H
def z0j(P:Pr->Prop)(cmp:Value)(H0:Hp):Prop:=∀(x y:Pr)(H:Hp),P x->P y->Qd H0 H->QfV Tryz.prog cmp [prV x,prV y] H (vi (ylu x y))
section
variable{P:Pr->Prop}{H0 H H':Hp}{e:TypeId}{u:Slc}{L:List Pr}{N bk:Nat}{cm:Value}{i j a b p:Int}{g:Bool}
theorem SE.inS(s:SE H0 e u L H)(h:0<=i/\i<L.length):y63 u.a u.n i:=(Mine.rd (k:=4) (f:=fPr) (λ_=>rfl) s.m).inS h.1 h.2
theorem SE.at(s:SE H0 e u L H)(h:0<=i/\i<L.length):∃x∈L,x=L.getD i.toNat (0,0,0,0)/\L[i.toNat]?=some x/\L4 H (zu4 u.a 4 i) x.1 x.2.1 x.2.2.1 x.2.2.2:=by
 have r:Rd 4 fPr H u L:=Mine.rd (λ_=>rfl) s.m;have g:L[i.toNat]?=some (L[i.toNat]'(by omega)):=Qo _;exact⟨_,Qn _,by rw[List.getD_eq_getElem?_getD,g];rfl,g,r.at0 h.1 g rfl,r.atj h.1 g (j:=1) rfl,r.atj h.1 g (j:=2) rfl,r.atj h.1 g (j:=3) rfl⟩
theorem SE.off(s:SE H0 e u L H)(o:Off bk H H')(hb:H0 bk=none)(hs:∀p,u.a=some p->p.block≠bk):SE H0 e u L H':=⟨Mine.off s.m o hs,o.le hb s.le⟩
theorem SD.inS(s:SD P H0 e u N H)(h:0<=i/\i<N):y63 u.a u.n i:=by
 obtain⟨L,rfl,_,s⟩:=s;exact s.inS h
theorem SD.at(s:SD P H0 e u N H)(h:0<=i/\i<N):∃x:Pr,P x/\L4 H (zu4 u.a 4 i) x.1 x.2.1 x.2.2.1 x.2.2.2:=by
 obtain⟨L,rfl,hp,s⟩:=s;obtain⟨x,hx,_,_,h⟩:=s.at h;exact⟨x,hp x hx,h⟩
theorem SD.set{vs:List Value}{y:Pr}(s:SD P H0 e u N H)(h:0<=i/\i<N)(hy:P y)(hv:vs=fPr y)(q:∀H',SD P H0 e u N H'->Chg H H' u->Q H') :
  H.canStore (zu4 u.a 4 i) 0 vs/\∀H',H'=H.store (zu4 u.a 4 i) 0 vs->Q H':=by
 obtain⟨L,rfl,hp,s⟩:=s;obtain⟨x,_,_,g,_⟩:=s.at h;exact Mine.setE (k:=4) (f:=fPr) (λ_=>rfl) s.m h.1 g (y:=y) (by subst hv;simp[fPr]) (by subst hv;simp[fPr]) λH' m c=>q H' ⟨_,by simp,λx hx=>(List.mem_or_eq_of_mem_set hx).elim (hp x) λh=>h▸hy,m,Hp.le_chg s.le c s.m.isNew⟩ c
theorem chg2{H'':Hp}(h:Chg H H' u)(h':Chg H' H'' u):Chg H H'' u:=λb hb hu=>by
 have e:=h b hb hu;rw[h' b (by rw[e];exact hb) hu,e]
theorem SD.swp(s:SD P H0 e u N H)(hi:0<=i/\i<N)(hj:0<=j/\j<N)(q:∀H',SD P H0 e u N H'->Chg H H' u->Q H') :
  y63 u.a u.n j/\∃n1 n2 n3 n4:Int,L4 H (zu4 u.a 4 j) n1 n2 n3 n4/\y63 u.a u.n i/\∃n5 n6 n7 n8:Int,L4 H (zu4 u.a 4 i) n5 n6 n7 n8 /\
   y63 u.a u.n i/\H.canStore (zu4 u.a 4 i) 0 [vi n1,vi n2,vi n3,vi n4]/\∀H9,H9=H.store (zu4 u.a 4 i) 0 [vi n1,vi n2,vi n3,vi n4] ->
   y63 u.a u.n j/\H9.canStore (zu4 u.a 4 j) 0 [vi n5,vi n6,vi n7,vi n8]/\∀H10,H10=H9.store (zu4 u.a 4 j) 0 [vi n5,vi n6,vi n7,vi n8]->Q H10:=by
 obtain⟨x,hx,lx⟩:=s.at hj;obtain⟨y,hy,ly⟩:=s.at hi;exact⟨s.inS hj,_,_,_,_,lx,s.inS hi,_,_,_,_,ly,s.inS hi,s.set (y:=x) hi hx rfl λH9 s9 c9=>⟨s9.inS hj,s9.set (y:=y) hj hy rfl λH10 s10 c10=>q H10 s10 (chg2 c9 c10)⟩⟩
theorem SD.two(s:SD P H0 e u N H)(hc:z0j P cm H0)(h:g=true->(0<=i/\i<N)/\0<=j/\j<N):∃(x y:Pr)(c:Int),g=true->y63 u.a u.n i/\L4 H (zu4 u.a 4 i) x.1 x.2.1 x.2.2.1 x.2.2.2/\y63 u.a u.n j/\L4 H (zu4 u.a 4 j) y.1 y.2.1 y.2.2.1 y.2.2.2/\QfV Tryz.prog cm [prV x,prV y] H (vi c):=by
 cases g with
 | false=>exact⟨(0,0,0,0),(0,0,0,0),0,λh=>by cases h⟩
 | true =>
  obtain⟨x,hx,lx⟩:=s.at (h rfl).1;obtain⟨y,hy,ly⟩:=s.at (h rfl).2;obtain⟨_,_,_,s'⟩:=id s;exact⟨x,y,_,λ_=>⟨s.inS (h rfl).1,lx,s.inS (h rfl).2,ly,hc x y H hx hy s'.le⟩⟩
theorem SD.cmpM{M:Prop}(s:SD P H0 e u N H)(hc:z0j P cm H0)(h:g=true->(0<=i/\i<N)/\0<=j/\j<N)(hM:M)(k:∀c,K c) :
  (g=true->y63 u.a u.n i)/\∃n1 n2 n3 n4:Int,(g=true->L4 H (zu4 u.a 4 i) n1 n2 n3 n4)/\M/\(g=true->y63 u.a u.n j)/\∃n5 n6 n7 n8:Int,(g=true->L4 H (zu4 u.a 4 j) n5 n6 n7 n8)/\∃c:Int,(g=true->QfV Tryz.prog cm [sI4 n1 n2 n3 n4,sI4 n5 n6 n7 n8] H (vi c))/\K c:=by
 obtain⟨x,y,c,h⟩:=s.two hc h;exact⟨λa=>(h a).1,_,_,_,_,λa=>(h a).2.1,hM,λa=>(h a).2.2.1,_,_,_,_,λa=>(h a).2.2.2.1,c,λa=>(h a).2.2.2.2,k c⟩
theorem SD.cp(s:SD P H0 e u N H)(hc:z0j P cm H0)(h:g=true->(0<=i/\i<N)/\0<=j/\j<N)(k:∀c,K c) :
  (g=true->y63 u.a u.n i)/\∃n1 n2 n3 n4:Int,(g=true->L4 H (zu4 u.a 4 i) n1 n2 n3 n4)/\(g=true->y63 u.a u.n j)/\∃n5 n6 n7 n8:Int,(g=true->L4 H (zu4 u.a 4 j) n5 n6 n7 n8)/\∃c:Int,(g=true->QfV Tryz.prog cm [sI4 n1 n2 n3 n4,sI4 n5 n6 n7 n8] H (vi c))/\K c:=by
 obtain⟨x,y,c,h⟩:=s.two hc h;exact⟨λa=>(h a).1,_,_,_,_,λa=>(h a).2.1,λa=>(h a).2.2.1,_,_,_,_,λa=>(h a).2.2.2.1,c,λa=>(h a).2.2.2.2,k c⟩
theorem SD.scan(s:SD P H0 e u N H)(hc:z0j P cm H0){p q st:Int->Int}{g t:Int->Bool}{R:Int->Hp->Prop}{n0:Int}(B:Int->Prop)(mu:Int->Nat)(b0:B n0)
  (hb:∀n,B n->g n=true->((0<=p n/\p n<N)/\0<=q n/\q n<N)/\inI (st n)/\B (st n)/\mu (st n)<mu n) (hR:∀n H',B n->SD P H0 e u N H'->R n H') :
  ∃(I:Int->Hp->Prop),∃(m:Int->Hp->Nat),I n0 H/\∀(n:Int)(H':Hp),I n H'->(g n=true->y63 u.a u.n (p n))/\∃n1 n2 n3 n4:Int,(g n=true->L4 H' (zu4 u.a 4 (p n)) n1 n2 n3 n4)/\(g n=true->y63 u.a u.n (q n))/\∃n5 n6 n7 n8:Int,(g n=true->L4 H' (zu4 u.a 4 (q n)) n5 n6 n7 n8) /\
   ∃c:Int,(g n=true->QfV Tryz.prog cm [sI4 n1 n2 n3 n4,sI4 n5 n6 n7 n8] H' (vi c))/\((g n&&t c)=true->inI (st n)/\I (st n) H'/\m (st n) H'<m n H')/\((g n&&t c)=false->R n H') :=
 ⟨λn H'=>B n/\SD P H0 e u N H',λn _=>mu n,⟨b0,s⟩,λn H' ⟨b,s'⟩=>s'.cp hc (λh=>(hb n b h).1) λc=>⟨λh=>by
  obtain⟨_,h1,h2,h3⟩:=hb n b (by rw[Qb] at h;exact h.1);exact⟨h1,⟨h2,s'⟩,h3⟩,λ_=>hR n H' b s'⟩⟩
theorem y6r(s:SD P H0 e u N H)(hc:z0j P cm H0)(h:0<=a/\a<=b/\b<=N)(hN:N<=40) :
  fN F.f266 #[u.v,vi a,vi b,cm] H λv H'=>v=.tuple #[]/\SD P H0 e u N H':=by
 refine vc266 ⟨by unfold inI;omega,λn H'=>a<n/\SD P H0 e u N H',λn _=>(b-n).toNat,⟨by omega,s⟩,λn H4 ⟨hn,s4⟩=>⟨λhb=>?_,λ_=>⟨rfl,s4⟩⟩⟩;have hb:=Zr hb;refine⟨λn' H'=>(a<=n'/\n'<=n)/\SD P H0 e u N H',λn' _=>n'.toNat,⟨by omega,s4⟩,λn7 H8 ⟨h7,s8⟩=>s8.cmpM hc (λhg=>?_) (λhg=>?_) λc=>⟨λhg=>?_,λ_=>⟨by unfold inI;omega,⟨by omega,s8⟩,by dsimp only;omega⟩⟩⟩
 ·have hg:=Zr hg;omega
 ·unfold inI;omega
 ·rw[Qb] at hg;have hg:=Zr hg.1;exact⟨by unfold inI;omega,by unfold inI;omega,s8.swp ⟨by omega,by omega⟩ ⟨by omega,by omega⟩ λH27 s27 _=>⟨by unfold inI;omega,⟨by omega,s27⟩,by dsimp only;omega⟩⟩
theorem ynm(s:SD P H0 e u N H)(hc:z0j P cm H0)(h:0<=a/\a<b/\b<=N)(hp:a<=p/\p<b)(hN:N<=40) :
  fN F.f272 #[u.v,vi a,vi b,vi p,cm] H λv H'=>∃i:Int,v=vi i/\(a<i/\i<=b)/\SD P H0 e u N H':=by
 refine vc272 (s.swp (i:=a) (j:=p) ⟨by omega,by omega⟩ ⟨by omega,by omega⟩ λH10 s10 _=>⟨by unfold inI;omega,by unfold inI;omega,λi j H'=>(a<i/\i<=b/\a<=j/\j<b)/\SD P H0 e u N H',λi j _=>(j+1-i).toNat,⟨by omega,s10⟩,λi j H15 ⟨hI,s15⟩=>?_⟩);refine s15.scan hc (λn=>i<=n/\n<=b) (λn=>(j+1-n).toNat) (by omega) (λn h g=>?_) λi' H19 hi s19=>s19.scan hc (λn=>n<=j/\a<=n) (λn=>(n+1-i').toNat) (by omega) (λn h g=>?_) λj' H32 hj s32=>⟨λ_=>⟨i',rfl,by omega,s32⟩,λhx=>?_⟩
 ·have g:=Zr g;exact⟨⟨by omega,by omega⟩,by unfold inI;omega,by omega,by omega⟩
 ·have g:=Zr g;exact⟨⟨by omega,by omega⟩,by unfold inI;omega,by omega,by omega⟩
 ·have hx:=Zs hx;exact s32.swp ⟨by omega,by omega⟩ ⟨by omega,by omega⟩ λH51 s51 _=>⟨by unfold inI;omega,by unfold inI;omega,⟨by omega,s51⟩,by dsimp only;omega⟩
theorem ynq(s:SD P H0 e u N H)(hc:z0j P cm H0)(h:0<=a/\a<b/\b<=N)(hp:a<=p/\p<b)(hN:N<=40) :
  fN F.f273 #[u.v,vi a,vi b,vi p,cm] H λv H'=>∃(j:Int)(c:Bool),v=.tuple #[vi j,.bool c]/\(a<=j/\j<b)/\SD P H0 e u N H':=by
 have up:∀{i j n:Int},i<=n/\n<=b->a<i->j<b->decide (n<=j)=true->((0<=n/\n<N)/\0<=a/\a<N)/\inI (n+1)/\(i<=n+1/\n+1<=b)/\(j+1-(n+1)).toNat<(j+1-n).toNat:=λh _ _ g=>by
  have g:=Zr g;exact⟨⟨by omega,by omega⟩,by unfold inI;omega,by omega,by omega⟩
 have dn:∀{i j n:Int},n<=j/\a<=n->a<i->j<b->decide (i<=n)=true->((0<=n/\n<N)/\0<=a/\a<N)/\inI (n-1)/\(n-1<=j/\a<=n-1)/\(n-1+1-i).toNat<(n+1-i).toNat:=λh _ _ g=>by
  have g:=Zr g;exact⟨⟨by omega,by omega⟩,by unfold inI;omega,by omega,by omega⟩
 refine vc273 (s.swp (i:=a) (j:=p) ⟨by omega,by omega⟩ ⟨by omega,by omega⟩ λH10 s10 _=>⟨by unfold inI;omega,by unfold inI;omega,?_⟩);refine s10.scan hc (λn=>a+1<=n/\n<=b) (λn=>(b-1+1-n).toNat) (by omega) (λn h g=>up h (by omega) (by omega) g) λi H19 hi s19=>s19.scan hc (λn=>n<=b-1/\a<=n) (λn=>(n+1-i).toNat) (by omega) (λn h g=>dn h (by omega) (by omega) g) λj H27 hj s27=>⟨λhx=>?_,λhx=>?_⟩
 ·exact s27.swp ⟨by omega,by omega⟩ ⟨by omega,by omega⟩ λH46 s46 _=>⟨j,true,rfl,by omega,s46⟩
 have hx:=Zs hx;refine s27.swp ⟨by omega,by omega⟩ ⟨by omega,by omega⟩ λH56 s56 _=>⟨by unfold inI;omega,by unfold inI;omega,λi j H'=>(a<i/\i<=b/\a<=j/\j<b)/\SD P H0 e u N H',λi j _=>(j+1-i).toNat,⟨by omega,s56⟩,λi j H61 ⟨hI,s61⟩=>?_⟩
 refine s61.scan hc (λn=>i<=n/\n<=b) (λn=>(j+1-n).toNat) (by omega) (λn h g=>up h (by omega) (by omega) g) λi' H65 hi s65=>s65.scan hc (λn=>n<=j/\a<=n) (λn=>(n+1-i').toNat) (by omega) (λn h g=>dn h (by omega) (by omega) g) λj' H78 hj s78=>⟨λhx=>?_,λhx=>?_⟩
 ·exact s78.swp ⟨by omega,by omega⟩ ⟨by omega,by omega⟩ λH97 s97 _=>⟨j',false,rfl,by omega,s97⟩
 ·have hx:=Zs hx;exact s78.swp ⟨by omega,by omega⟩ ⟨by omega,by omega⟩ λH107 s107 _=>⟨by unfold inI;omega,by unfold inI;omega,⟨by omega,s107⟩,by dsimp only;omega⟩
theorem ymx(s:SD P H0 e u N H)(hc:z0j P cm H0)(h:0<=a/\a<b/\b<=N)(hN:N<=40) :
  fN F.f271 #[u.v,vi a,vi b,cm] H λv H'=>∃c:Bool,v=.bool c/\SD P H0 e u N H':=by
 refine vc271 ⟨by unfold inI;omega,λn m H'=>(a<n/\m=0)/\SD P H0 e u N H',λ_ _ _=>0,⟨by omega,s⟩,λn m H5 ⟨hn,s5⟩=>⟨λ_=>?_,λh5=>by have:=Zs h5;omega⟩⟩;refine⟨λn H'=>a<n/\SD P H0 e u N H',λn _=>(b-n).toNat,⟨hn.1,s5⟩,λn8 H9 ⟨h8,s9⟩=>s9.cmpM hc (λhg=>?_) (λhg=>?_) λc=>⟨λhg=>?_,λ_=>⟨λ_=>⟨true,rfl,s9⟩,λ_=>⟨by unfold inI;omega,λ_=>⟨false,rfl,s9⟩,λhx=>by have:=Zs hx;omega⟩⟩⟩⟩
 ·have hg:=Zr hg;omega
 ·have hg:=Zr hg;unfold inI;omega
 ·rw[Qb] at hg;have hg:=Zr hg.1;exact⟨by unfold inI;omega,⟨by omega,s9⟩,by dsimp only;omega⟩
def or2(lt:Int->Int->Bool)(a b k:Int):Int×Int×Int:=if lt b a then (b,a,k+1) else (a,b,k)
def med(lt:Int->Int->Bool)(a b c k:Int):Int×Int :=
 ((or2 lt (or2 lt a b k).1 (or2 lt (or2 lt a b k).2.1 c (or2 lt a b k).2.2).1 (or2 lt (or2 lt a b k).2.1 c (or2 lt a b k).2.2).2.2).2.1,(or2 lt (or2 lt a b k).1 (or2 lt (or2 lt a b k).2.1 c (or2 lt a b k).2.2).1 (or2 lt (or2 lt a b k).2.1 c (or2 lt a b k).2.2).2.2).2.2)
theorem ylc{lt:Int->Int->Bool}{a b k:Int}(ha:lo<=a/\a<hi)(hb:lo<=b/\b<hi):((lo<=(or2 lt a b k).1/\(or2 lt a b k).1<hi)/\lo<=(or2 lt a b k).2.1/\(or2 lt a b k).2.1<hi)/\k<=(or2 lt a b k).2.2/\(or2 lt a b k).2.2<=k+1:=by
 unfold or2;split <;> dsimp only <;> omega
def ltL(L:List Pr)(a b:Int):Bool:=decide (ylu (L.getD a.toNat (0,0,0,0)) (L.getD b.toNat (0,0,0,0))<0)
theorem ym7{k:Int}(s:SE H0 e u L H)(hP:∀x∈L,P x)(v:Var H bk (vi k) 3)(hc:z0j P cm H0)(ha:0<=a/\a<L.length)(hb:0<=b/\b<L.length)(hk:0<=k/\k<=9) :
  fN F.f283 #[u.v,vi a,vi b,.pointer (some ⟨bk,0,none⟩),cm] H λv H'=>v=.tuple #[vi (or2 (ltL L) a b k).1,vi (or2 (ltL L) a b k).2.1]/\Var H' bk (vi (or2 (ltL L) a b k).2.2) 3/\Off bk H H':=by
 obtain⟨x,mx,ex,_,lx⟩:=s.at hb;obtain⟨y,my,ey,_,ly⟩:=s.at ha;refine vc283 ⟨s.inS hb,_,_,_,_,lx,s.inS ha,_,_,_,_,ly,_,hc x y H (hP x mx) (hP y my) s.le,λhx=>?_,λhx=>?_⟩
 ·have eo:or2 (ltL L) a b k=(b,a,k+1):=Zp (by unfold ltL;rw[← ex,← ey];exact hx);rw[eo];exact⟨k,v.at,by unfold inI;omega,v.set _ λH11 h11=>⟨rfl,Var.new h11,λc hc=>by rw[h11];exact Qg _ _ hc⟩⟩
 ·have eo:or2 (ltL L) a b k=(a,b,k):=Zn (by unfold ltL;rw[← ex,← ey,hx];simp);rw[eo];exact⟨rfl,v,λ_ _=>rfl⟩
theorem ycw{c:Int}(s:SE H0 e u L H)(hP:∀x∈L,P x)(v:Var H bk (vi 0) 3)(hc:z0j P cm H0)(nb:H0 bk=none)(sp:∀p,u.a=some p->p.block≠bk)(hl:0<=lo/\hi<=L.length)(ha:lo<=a/\a<hi)(hb:lo<=b/\b<hi)(hcc:lo<=c/\c<hi) :
  fN F.f281 #[u.v,vi a,vi b,vi c,.pointer (some ⟨bk,0,none⟩),cm] H λv H'=>v=vi (med (ltL L) a b c 0).1/\(Var H' bk (vi (med (ltL L) a b c 0).2) 3/\Off bk H H')/\(lo<=(med (ltL L) a b c 0).1/\(med (ltL L) a b c 0).1<hi)/\(med (ltL L) a b c 0).2<=3:=by
 refine vc281 ((ym7 s hP v hc (by omega) (by omega) (by omega)).mono λv H2 ⟨hv,v2,o2⟩=>⟨_,_,hv,?_⟩);unfold med;obtain⟨⟨a1,a2⟩,a3⟩:=ylc (lt:=ltL L) (k:=0) ha hb;generalize or2 (ltL L) a b 0=r1 at *
 have s2:=s.off o2 nb sp;refine(ym7 s2 hP v2 hc (by omega) (by omega) (by omega)).mono λv H6 ⟨hv,v6,o6⟩=>⟨_,_,hv,?_⟩
 obtain⟨⟨b1,b2⟩,b3⟩:=ylc (lt:=ltL L) (k:=r1.2.2) a2 hcc;generalize or2 (ltL L) r1.2.1 c r1.2.2=r2 at *
 refine(ym7 (s2.off o6 nb sp) hP v6 hc (by omega) (by omega) (by omega)).mono λv H10 ⟨hv,v10,o10⟩=>⟨_,_,hv,rfl,⟨v10,λc hc=>by rw[o10 c hc,o6 c hc,o2 c hc]⟩,?_⟩
 obtain⟨⟨c1,c2⟩,c3⟩:=ylc (lt:=ltL L) (k:=r2.2.2) a1 b1;exact⟨c2,by omega⟩
theorem yiy{H':Hp}{c:Nat}(l:Qd H H')(h:H' c=none):H c=none:=by
 cases hx:H c with
 | none=>rfl
 | some o=>rw[l _ _ hx] at h;cases h
theorem td4(h:0<=a):a.tdiv 4=a/4:=Qj h
theorem yps(s:SD P H0 e u N H)(hc:z0j P cm H0)(h:0<=a/\a+12<b/\b<=N)(hN:N<=40) :
  ∃m h:Int,(a<=m/\m<b)/\h≠2/\qF F.f269 #[u.v,vi a,vi b,cm] H (.tuple #[vi m,vi h]):=by
 obtain⟨L,rfl,hP,s⟩:=s;have key:∀{b1:Nat}{H2:Hp},H b1=none->H2=H.put b1 (.cells #[vi 0] 3 (0,0))->_:=λ{b1 H2} hb1 hH2 =>
  ycw (a:=a+(b-a)/4*1) (b:=a+(b-a)/4*2) (c:=a+(b-a)/4*3) (lo:=a) (hi:=b) ⟨s.m.le (Qe (Qc _) hb1 hH2),Qe s.le hb1 hH2⟩ hP (Var.new hH2) hc (yiy s.le hb1) (λp hp e=>s.m.isOld p hp (by rw[e];exact hb1)) ⟨by omega,by omega⟩ (by omega) (by omega) (by omega)
 refine⟨(med (ltL L) (a+(b-a)/4*1) (a+(b-a)/4*2) (a+(b-a)/4*3) 0).1,if (med (ltL L) (a+(b-a)/4*1) (a+(b-a)/4*2) (a+(b-a)/4*3) 0).2=0 then 1 else 0,?_,by split <;> omega,vc269 ⟨by unfold inI;omega,λb1 H2 hb1 hH2=>?_⟩⟩
 ·have i:∀{x:Int},x=1\/x=2\/x=3->a<=a+(b-a)/4*x/\a+(b-a)/4*x<b:=λh=>by rcases h with rfl|rfl|rfl <;> omega
  unfold med;obtain⟨⟨a1,a2⟩,a3⟩:=ylc (lt:=ltL L) (k:=0) (i (x:=1) (by omega)) (i (x:=2) (by omega));obtain⟨⟨b1,b2⟩,b3⟩:=ylc (lt:=ltL L) (k:=(or2 (ltL L) (a+(b-a)/4*1) (a+(b-a)/4*2) 0).2.2) a2 (i (x:=3) (by omega));exact(ylc a1 b1).1.2
 have i4:nz 4/\inI ((b-a)/4):=⟨by unfold nz;decide,by unfold inI;omega⟩;rw[td4 (by omega)];refine⟨i4,by unfold inI;omega,by unfold inI;omega,i4,by unfold inI;omega,by unfold inI;omega,i4,by unfold inI;omega,by unfold inI;omega,λ_=>⟨λh=>by have:=Zr h;omega,λ_=>(key hb1 hH2).mono λv H' ⟨hv,⟨v',o⟩,_,h3⟩=>⟨_,hv,_,v'.at,?_⟩⟩,λh=>by have:=Zs h;omega⟩;have l:Qd H H':=o.le hb1 (Qe (Qc _) hb1 hH2);refine⟨λh=>?_,λh=>⟨λh2=>?_,λ_=>?_⟩⟩
 ·rw[Zp (beq_iff_eq.1 h)];exact⟨rfl,l⟩
 ·have:=beq_iff_eq.1 h2;omega
 ·rw[Zn (beq_eq_false_iff_ne.1 h)];exact⟨rfl,l⟩
theorem yag(h0:0<=x)(h1:x<=18446744073709551615):qF F.f170 #[.int .u64 x] H (vi ((Go.Lib.bitLen x.toNat:Nat):Int)):=λw hv =>
 (Any.bits_Len Tryz.lenW x w h0 h1).mono λe w' ⟨he,hw⟩=>⟨_,H,he,by rw[hw];exact Tr.refl hv,rfl,Qc _⟩
theorem yaf:∀n:Nat,n<=15->Go.Lib.bitLen n<=4/\n<=Go.Lib.bitLen n+11/\(12<n->Go.Lib.bitLen n=4):=by decide
theorem ys6{n:Int}(h:12<n/\n<=15):qF F.f255 #[vi n] H (.int .u64 16):=by
 have q:=yag (H:=H) (x:=xcl n) (by unfold xcl;omega) (by unfold xcl;omega);rw[xcm (by omega) (by omega),(yaf n.toNat (by omega)).2.2 (by omega)] at q;exact vc255 ⟨_,by rw[xcm (by omega) (by omega)];exact q,by unfold nn;omega,by kernel_rfl,Qc _⟩
theorem z6z:∃o:Int,IntKind.i64.wrap (Ql.wrap (↑(Qa Ql.bits r &&& Qa Ql.bits (xcl (16-1))).toNat:Int))=o/\0<=o/\o<=15:=by
 have hle:(Qa Ql.bits r &&& Qa Ql.bits (xcl (16-1))).toNat<=15:=by
  rw[BitVec.toNat_and];exact Nat.le_trans Nat.and_le_right (by decide)
 generalize (Qa Ql.bits r &&& Qa Ql.bits (xcl (16-1))).toNat=o at hle;exact⟨o,by rw[xcq,xcm (by omega) (by omega),xco (by unfold inI;omega)],by omega,by omega⟩
theorem yh3(v:Var H bk (.int .u64 r) T.slices_xorshift) :
  fN F.f256 #[.pointer (some ⟨bk,0,none⟩)] H λv H'=>∃r':Int,v=.int .u64 r'/\Var H' bk (.int .u64 r') T.slices_xorshift/\Off bk H H':=by
 refine vc256 ⟨_,v.at,_,v.at,by unfold nn;omega,v.set _ λH3 h3=>?_⟩;have v3:Var H3 bk _ _:=Var.new h3;refine⟨_,v3.at,_,v3.at,by unfold nn;omega,v3.set _ λH6 h6=>?_⟩;have v6:Var H6 bk _ _:=Var.new h6;refine⟨_,v6.at,_,v6.at,by unfold nn;omega,v6.set _ λH9 h9=>?_⟩;exact⟨_,(Var.new h9).at,_,rfl,Var.new h9,λc hc=>by rw[h9,Qg _ _ hc,h6,Qg _ _ hc,h3,Qg _ _ hc]⟩
theorem zaz(s:SD P H0 e u N H)(h:0<=a/\a+12<b/\b<=N)(hN:N<=15) :
  fN F.f268 #[u.v,vi a,vi b,cm] H λv H'=>v=.tuple #[]/\SD P H0 e u N H':=by
 have i4:nz 4/\inI ((b-a)/4):=⟨by unfold nz;decide,by unfold inI;omega⟩;refine vc268 ⟨by unfold inI;omega,λh8=>λb1 H2 hb1 hH2=>?_,λh8=>by have:=Zs h8;omega⟩;obtain⟨L,hl,hP,sL⟩:=s;have nb:H0 b1=none:=yiy sL.le hb1;have sp:∀p,u.a=some p->p.block≠b1:=λp hp e=>sL.m.isOld p hp (by rw[e];exact hb1)
 have s2:SD P H0 e u N H2:=⟨L,hl,hP,sL.m.le (Qe (Qc _) hb1 hH2),Qe sL.le hb1 hH2⟩;refine(Var.new hH2).set _ λH3 h3=>?_
 have off:∀{H1 H2:Hp},SD P H0 e u N H1->Off b1 H1 H2->SD P H0 e u N H2:=λ⟨L,h1,h2,h3⟩ o=>⟨L,h1,h2,h3.off o nb sp⟩
 refine⟨_,ys6 ⟨by omega,by omega⟩,?_⟩;rw[td4 (by omega)];refine⟨i4,by unfold inI;omega,by unfold inI;omega,by unfold inI;omega,λn H8=>(a+(b-a)/4*2-1<=n/\n<=a+(b-a)/4*2+2)/\SD P H0 e u N H8/\∃r,Var H8 b1 (.int .u64 r) T.slices_xorshift,λn _=>(a+(b-a)/4*2+2-n).toNat,
  ⟨by omega,off s2 λc hc=>by rw[h3];exact Qg _ _ hc,_,Var.new h3⟩,λn H8 ⟨hn,s8,r,v8⟩=>⟨i4,by unfold inI;omega,by unfold inI;omega,by unfold inI;omega,λhx=>(yh3 v8).mono λv H10 ⟨r',hv,v10,o10⟩=>⟨r',hv,?_⟩,λ_=>⟨rfl,s8⟩⟩⟩
 have hx:=Zr hx;have s10:=off s8 o10;obtain⟨o,eo,ho⟩:=z6z (r:=r');rw[eo];refine⟨λhx=>?_,λhx=>?_⟩
 ·have hx:=Zr hx;exact⟨by unfold inI;omega,by unfold inI;omega,by unfold inI;omega,s10.swp ⟨by omega,by omega⟩ ⟨by omega,by omega⟩ λH21 s21 c21=>⟨by unfold inI;omega,⟨by omega,s21,_,v10.chg c21 sp⟩,by dsimp only;omega⟩⟩
 ·have hx:=Zs hx;exact⟨by unfold inI;omega,by unfold inI;omega,s10.swp ⟨by omega,by omega⟩ ⟨by omega,by omega⟩ λH21 s21 c21=>⟨by unfold inI;omega,⟨by omega,s21,_,v10.chg c21 sp⟩,by dsimp only;omega⟩⟩
theorem yns(s:SD P H0 e u N H)(hc:z0j P cm H0)(h:0<=a/\a<=b/\b<=N/\b-a<=12)(hN:N<=15) :
  fN F.f245 #[u.v,vi a,vi b,vi l,cm] H λv H'=>v=.tuple #[]/\SD P H0 e u N H':=by
 refine vc245 ⟨λx y _ _ _ H'=>x=a/\y=b/\SD P H0 e u N H',λ_ _ _ _ _ _=>0,⟨rfl,rfl,s⟩,?_⟩;rintro _ _ _ _ _ H8 ⟨rfl,rfl,s8⟩;exact⟨by unfold inI;omega,λ_=>(y6r s8 hc ⟨by omega,by omega,by omega⟩ (by omega)).mono λv H' ⟨hv,s'⟩=>⟨hv,rfl,s'⟩,λh=>by have:=Zs h;omega⟩
theorem ynu(s:SD P H0 e u N H)(hc:z0j P cm H0)(hN:N<=15)(hl:N<=l+11/\l<=64) :
  fN F.f245 #[u.v,vi 0,vi N,vi l,cm] H λv H'=>v=.tuple #[]/\SD P H0 e u N H':=by
 refine vc245 ⟨λx y l _ _ H'=>(0<=x/\x<=y/\y<=N/\y-x<=l+11/\l<=64)/\SD P H0 e u N H',λx y _ _ _ _=>(y-x).toNat,⟨by omega,s⟩,?_⟩;rintro a b l c6 c7 H8 ⟨h,s8⟩;refine⟨by unfold inI;omega,λ_=>(y6r s8 hc ⟨by omega,by omega,by omega⟩ (by omega)).mono λv H' ⟨hv,s'⟩=>⟨hv,rfl,s'⟩,λhb=>?_⟩;have hb:=Zs hb;refine⟨λhz=>by have:=beq_iff_eq.1 hz;omega,λ_=>⟨λ_=>(zaz s8 ⟨by omega,by omega,by omega⟩ (by omega)).mono λv H9 ⟨hv,s9⟩=>⟨hv,by unfold inI;omega,?_⟩,λ_=>?_⟩⟩
 ·obtain⟨m,hh,hm,h2,q⟩:=yps (a:=a) (b:=b) s9 hc ⟨by omega,by omega,by omega⟩ (by omega);refine⟨m,hh,q,λx=>absurd (beq_iff_eq.1 x) h2,λ_=>⟨λ_=>(ymx s9 hc ⟨by omega,by omega,by omega⟩ (by omega)).mono λv H9 ⟨c,hv,s9⟩=>⟨c,hv,λ_=>⟨rfl,s9⟩,λ_=>?_⟩,λ_=>?_⟩⟩
  all_goals
   exact⟨λh=>by have:=Zr h;unfold inI;omega,s9.cp hc (λh=>by have:=Zr h;omega) λc=>⟨λ_=>(ynm s9 hc ⟨by omega,by omega,by omega⟩ hm (by omega)).mono λv H' ⟨i,hv,hi,s'⟩=>⟨i,hv,⟨by omega,s'⟩,by dsimp only;omega⟩,
    λ_=>(ynq s9 hc ⟨by omega,by omega,by omega⟩ hm (by omega)).mono λv H' ⟨i,c,hv,hi,s'⟩=>⟨i,c,hv,by unfold inI;omega,by unfold inI;omega,⟨by unfold nz;decide,by rw[Qj (by omega)];unfold inI;omega⟩,λhx=>(yns s' hc (by have:=Zr hx;omega) hN).mono λv H'' ⟨hv,s''⟩=>⟨hv,by unfold inI;omega,⟨by omega,s''⟩,by dsimp only;omega⟩,
     λhx=>⟨by unfold inI;omega,(yns s' hc (by have:=Zs hx;omega) hN).mono λv H'' ⟨hv,s''⟩=>⟨hv,⟨by omega,s''⟩,by dsimp only;omega⟩⟩⟩⟩⟩
 ·have s9:SD P H0 e u N H8:=s8;obtain⟨m,hh,hm,h2,q⟩:=yps (a:=a) (b:=b) s9 hc ⟨by omega,by omega,by omega⟩ (by omega);refine⟨m,hh,q,λx=>absurd (beq_iff_eq.1 x) h2,λ_=>⟨λ_=>(ymx s9 hc ⟨by omega,by omega,by omega⟩ (by omega)).mono λv H9 ⟨c,hv,s9⟩=>⟨c,hv,λ_=>⟨rfl,s9⟩,λ_=>?_⟩,λ_=>?_⟩⟩
  all_goals
   exact⟨λh=>by have:=Zr h;unfold inI;omega,s9.cp hc (λh=>by have:=Zr h;omega) λc=>⟨λ_=>(ynm s9 hc ⟨by omega,by omega,by omega⟩ hm (by omega)).mono λv H' ⟨i,hv,hi,s'⟩=>⟨i,hv,⟨by omega,s'⟩,by dsimp only;omega⟩,
    λ_=>(ynq s9 hc ⟨by omega,by omega,by omega⟩ hm (by omega)).mono λv H' ⟨i,c,hv,hi,s'⟩=>⟨i,c,hv,by unfold inI;omega,by unfold inI;omega,⟨by unfold nz;decide,by rw[Qj (by omega)];unfold inI;omega⟩,λhx=>(yns s' hc (by have:=Zr hx;omega) hN).mono λv H'' ⟨hv,s''⟩=>⟨hv,by unfold inI;omega,⟨by omega,s''⟩,by dsimp only;omega⟩,
     λhx=>⟨by unfold inI;omega,(yns s' hc (by have:=Zs hx;omega) hN).mono λv H'' ⟨hv,s''⟩=>⟨hv,⟨by omega,s''⟩,by dsimp only;omega⟩⟩⟩⟩⟩
theorem x4z(s:SD P H0 e u N H)(hc:z0j P cm H0)(hN:N<=15)(un:(u.n:Int)=N) :
  fN F.f198 #[u.v,cm] H λv H'=>v=.tuple #[]/\SD P H0 e u N H':=by
 have q:=yag (H:=H) (x:=xcl (N:Int)) (by unfold xcl;omega) (by unfold xcl;omega);rw[xcm (by omega) (by omega),Qi] at q;have b:=yaf N hN;refine vc198 ⟨_,by rw[un,xcm (by omega) (by omega)];exact q,?_⟩;rw[un];exact(ynu s hc hN ⟨by omega,by omega⟩).mono λv H' ⟨hv,h⟩=>⟨hv,rfl,h⟩
end
theorem zx0:∀(x:Pr),∀v∈fPr x,v.oneCell'=true:=λx v hv=>by
 simp[fPr] at hv;rcases hv with rfl|rfl|rfl|rfl <;> rfl
theorem yu4{α:Type}{g:Nat->α}:((Qm n).map g).length=n:=by simp
theorem yu3{α:Type}{g:Nat->α}{k:Nat}(h:k<n):((Qm n).map g)[k]?=some (g k):=by
 rw[List.getElem?_map,List.getElem?_range h];rfl
theorem yu5{α:Type}{g:Nat->α}:(Qm (n+1)).map g=(Qm n).map g++[g n]:=by
 rw[List.range_succ,List.map_append];rfl
abbrev x5d(f:List Pt)(t:Int×Int)(n:Nat):List (Int×Int):=(Qm n).map λk=>(spot f t k).1
section
variable{H:Hp}{w:Slc}{f:List Pt}{t:Int×Int}{i k:Nat}
theorem y1i(of:okF f)(a:z7z t)(hi:i<f.length)(hk:k<f.length):(y1j f t i k).2=0:=z83 (yz9 of hi) (yz9 of hk) a
theorem x5a(of:okF f)(a:z7z t)(hk:k<f.length):okR (spot f t k).1:=(x5c of a.1 hk ((z84 of a).T k hk)).choose_spec.2.2.2
theorem yma(of:okF f)(ot:okR t):ym8 f t=(yll f t,0):=by unfold ym8;rw[Zp (x8v.2 ⟨of,ot⟩)]
theorem y1m(of:okF f)(a:z7z t)(hi:i<f.length)(hk:k<f.length):okR (y1j f t i k).1:=((z84 of a).gap hi hk (y1i of a hi hk)).1
theorem y1q(of:okF f)(a:z7z t)(hik:i<k)(hk:k<f.length):leR (y1j f t i (i+1)).1 (y1j f t i k).1:=by
 refine((z84 of a).le (by omega) (by omega) (by omega) hk (y1i of a (by omega) (by omega)) (y1i of a (by omega) hk)).2 ?_;rcases Nat.lt_or_ge (i+1) k with h|h
 ·have:=yzc of (t:=t) h hk;omega
 ·rw[show k=i+1 by omega];exact Int.le_refl _
theorem ybm(hf:Rd 3 fD H w f)(of:okF f)(a:z7z t) :
  fN F.f151 #[vFd w,raW t] H λv H'=>∃x y:Slc,v=.tuple #[.agg #[x.v,y.v],vi 0]/\Qd H H'/\RdI H' x (yll f t)/\Rd 2 fH H' y (x5d f t f.length):=by
 have sm:=of.small;have q:=zxt hf a.1.fit;rw[yma of a.1] at q;refine vc151 (q.mono λv H2 ⟨x,hv,l2,m⟩=>⟨x,_,hv,?_⟩);have m:Mine 1 fI T.int H H2 x (yll f t):=m;have xn:(x.n:Int)=f.length:=by have:=m.rdI.len;rw[ylo] at this;omega
 rw[xn];refine⟨λn x' y H'=>∃k:Nat,n=k/\k<=f.length/\x'=x/\Qd H2 H'/\Mine 2 fH T.api_Ratio H2 H' y (x5d f t k),λn _ _ _=>(f.length-n).toNat,⟨0,rfl,by omega,rfl,Qc _,.inl ⟨rfl,rfl⟩⟩,?_⟩;rintro n x' y H10 ⟨k,rfl,hk,rfl,l10,m10⟩;refine⟨λhn=>?_,λhn=>?_⟩
 ·have hn:k<f.length:=by have:=Zr hn;omega
  have r10:=m.rdI.le l10;have gk:=RdI.get (i:=(k:Int)) r10 (by omega) (by rw[ylo];omega);rw[Qi,yzb hn] at gk;have qf:=zxr (id:=(sP f t k).1) (hf.le (Qh l2 l10)) of (yrb (yz7 hn));rw[yz4 of hn] at qf;have qa:=zs4 (H:=H10) (p:=sP f t k) a.1.fit;have he:(ypx (sP f t k) t).2=0:=(z84 of a).T k hn;rw[he] at qa;have ms:((f.length:Int)-((k:Int)+1)).toNat<((f.length:Int)-(k:Int)).toNat:=by omega
  exact⟨r10.inS (by omega) (by rw[ylo];omega),_,gk,_,_,_,_,qf,_,_,_,qa,λh=>by simp at h,λ_ b19 H20 hb hH=>(z7b (k:=2) (f:=fH) (bytes:=16) (x:=(spot f t k).1) (by kernel_rfl) (by decide) (λ_=>rfl) zww l10 m10 hb hH rfl (by rw[yu4];omega) (by omega)).mono λv H22 ⟨u,hu,l22,m22,_,_⟩=>⟨u,hu,by unfold inI;omega,⟨k+1,by omega,by omega,rfl,l22,by unfold x5d;rw[yu5];exact m22⟩,ms⟩⟩
 ·have hn:k=f.length:=by have:=Zs hn;omega
  subst hn;exact⟨x',y,rfl,Qh l2 l10,m.rdI.le l10,Mine.rd (λ_=>rfl) m10⟩
theorem ynd{a b:Slc}(of:okF f)(at_:z7z t)(hi:i<f.length)(hk:k<f.length)(ra:RdI H a (yll f t))(rb:Rd 2 fH H b (x5d f t f.length)){I K:Int}(eI:I=i)(eK:K=k) :
  qF F.f152 #[.agg #[a.v,b.v],vi I,vi K] H (.tuple #[prV (prM f t i k),vi 0]):=by
 subst eI;subst eK;have g:∀{j:Nat},j<f.length->(H.at (zu4 b.a 2 j)=some (vi (spot f t j).1.1)/\H.at ((zu4 b.a 2 j).add 1)=some (vi (spot f t j).1.2))/\y63 b.a b.n j:=λ{j} h =>
  have e:(x5d f t f.length)[(j:Int).toNat]?=some (spot f t j).1:=by rw[Qi];exact yu3 h
  ⟨⟨rb.at0 (by omega) e rfl,rb.atj (by omega) e (j:=1) rfl⟩,rb.inS (by omega) (by rw[yu4];omega)⟩
 have o:∀{j:Nat},j<f.length->H.at (zu4 a.a 1 j)=some (vi (sP f t j).1)/\y63 a.a a.n j:=λ{j} h=>by
  have e:=RdI.get (i:=(j:Int)) ra (by omega) (by rw[ylo];omega);rw[Qi,yzb h] at e;exact⟨e,ra.inS (by omega) (by rw[ylo];omega)⟩
 have q:=yur (H:=H) (x5a of at_ hi) (x5a of at_ hk);rw[show (x6a (spot f t i).1 (spot f t k).1).2=0 from y1i of at_ hi hk] at q;refine vc152 ⟨(g hi).2,_,_,(g hi).1,(g hk).2,_,_,(g hk).1,_,_,_,q,λh=>by simp at h,λ_=>⟨(o hi).2,_,(o hi).1,(o hk).2,_,(o hk).1,(o hi).2,_,(o hi).1,(o hk).2,_,(o hk).1,?_,Qc _⟩⟩;rw[show (if (sP f t k).1<(sP f t i).1 then (sP f t k).1 else (sP f t i).1)=min (sP f t i).1 (sP f t k).1 by rw[Int.min_def];split <;> split <;> omega,show (if (sP f t k).1>(sP f t i).1 then (sP f t k).1 else (sP f t i).1)=max (sP f t i).1 (sP f t k).1 by rw[Int.max_def];split <;> split <;> omega];rfl
abbrev yg5(f:List Pt)(t:Int×Int)(n:Nat):List Pr:=(Qm n).map λk=>prM f t k (k+1)
theorem yge{x:Pr}(h:x∈yg5 f t n):∃i,i<n/\x=prM f t i (i+1):=by
 obtain⟨i,hi,rfl⟩:=List.mem_map.1 h;exact⟨i,List.mem_range.1 hi,rfl⟩
theorem ygm(hf:Rd 3 fD H w f)(of:okF f)(a:z7z t)(hl:f.length<=16) :
  fN F.f150 #[vFd w,raW t] H λv H'=>∃u:Slc,v=.tuple #[u.v,vi 0]/\Qd H H'/\∃L:List Pr,L.length=f.length-1/\(∀x∈L,x∈yg5 f t (f.length-1))/\Rd 4 fPr H' u L:=by
 refine vc150 ((ybm hf of a).mono λv H2 ⟨x,y,hv,l2,rx,ry⟩=>⟨x,y,0,hv,λh=>by simp at h,λ_=>?_⟩);have xn:(x.n:Int)=f.length:=by have:=rx.len;rw[ylo] at this;omega
 rw[xn];refine⟨λu n H'=>∃k:Nat,n=(k:Int)+1/\k<=f.length-1/\Qd H2 H'/\Mine 4 fPr 117 H2 H' u (yg5 f t k),λ_ n _=>(f.length-n).toNat,⟨0,rfl,by omega,Qc _,.inl ⟨rfl,rfl⟩⟩,?_⟩;rintro u n H10 ⟨k,rfl,hk,l10,m10⟩;refine⟨λhn=>?_,λhn=>?_⟩
 ·have hn:k+1<f.length:=by have:=Zr hn;omega
  have ms:((f.length:Int)-((k:Int)+1+1)).toNat<((f.length:Int)-((k:Int)+1)).toNat:=by omega
  exact⟨by unfold inI;omega,_,_,_,_,_,ynd (i:=k) (k:=k+1) of a (by omega) hn (rx.le l10) (ry.le l10) (by omega) (by omega),λh=>by simp at h,λ_ b16 H17 hb hH=>(z7b (k:=4) (f:=fPr) (bytes:=32) (x:=prM f t k (k+1)) (by kernel_rfl) (by decide) (λ_=>rfl) zx0 l10 m10 hb hH rfl (by rw[yu4];omega) (by omega)).mono λv H19 ⟨u,hu,l19,m19,_,_⟩=>⟨u,hu,by unfold inI;omega,⟨k+1,by omega,by omega,l19,by unfold yg5;rw[yu5];exact m19⟩,ms⟩⟩
 ·have hn:k=f.length-1:=by have:=Zs hn;omega
  subst hn;have un:(u.n:Int)=(f.length-1:Nat):=by have:=(Mine.rd (k:=4) (f:=fPr) (λ_=>rfl) m10).len;rw[yu4] at this;omega
  have ok:∀x∈yg5 f t (f.length-1),zzn x.2.2:=λx hx=>by
   obtain⟨i,hi,rfl⟩:=yge hx;exact(y1m of a (by omega) (by omega)).fit
  refine(x4z (P:=λx=>x∈yg5 f t (f.length-1)) (cm:=.func (.func F.f153) #[.agg #[]] #[]) ⟨_,yu4,λx h=>h,m10,l10⟩ (λx y H' hx hy _=>⟨F.f153,#[.agg #[]],#[],rfl,⟨_,Tryz.func153,by kernel_rfl⟩,yyb (ok x hx) (ok y hy)⟩) (by omega) un).mono λv H22 ⟨hv,L,e,h,m⟩=>⟨hv,u,rfl,Qh l2 m.le,L,e,h,Mine.rd (λ_=>rfl) m.m⟩
structure z0a(f:List Pt)(t:Int×Int)(n:Nat)(B:Pr):Prop where
 is:∃i k,i<k/\k<f.length/\B=prM f t i k
 le:∀a,a<n->a+1<f.length->leR B.2.2 (y1j f t a (a+1)).1
theorem zok(hf:Rd 3 fD H w f)(of:okF f)(at_:z7z t)(hl:f.length<=16)(h2:2<=f.length) :
  fN F.f94 #[vFd w,raW t] H λv H'=>∃B:Pr,v=.tuple #[prV B,vi 0]/\Qd H H'/\z0a f t f.length B:=by
 have wn:(w.n:Int)=f.length:=by have:=hf.len;omega
 refine vc94 ?_;rw[wn];refine⟨λh=>by have:=Zr h;omega,λ_=>(ygm hf of at_ hl).mono λv H2 ⟨u,hv,l2,L,eL,hL,rL⟩=>⟨u,0,hv,λh=>by simp at h,λ_=>?_⟩⟩;have g0:L[(0:Int).toNat]?=some (L[0]'(by omega)):=Qo _;obtain⟨j,hj,e0⟩:=yge (hL _ (Qn (by omega:0<L.length)));generalize L[0]'(by omega)=B0 at g0 e0;refine⟨rL.inS (by omega) (by omega),_,_,_,_,⟨rL.at0 (by omega) g0 rfl,rL.atj (by omega) g0 (j:=1) rfl,rL.atj (by omega) g0 (j:=2) rfl,rL.atj (by omega) g0 (j:=3) rfl⟩,?_⟩;refine(ybm (hf.le l2) of at_).mono λv H10 ⟨x,y,hv,l10,rx,ry⟩=>⟨x,y,0,hv,?_⟩
 have xn:(x.n:Int)=f.length:=by have:=rx.len;rw[ylo] at this;omega
 rw[xn];have oB:∀{n:Nat}{B:Pr},z0a f t n B->okR B.2.2:=λb=>by
  obtain⟨i,k,h1,h2,rfl⟩:=b.is;exact y1m of at_ (by omega) h2
 refine⟨λn x1 x2 x3 x4 H'=>∃(i:Nat)(B:Pr),n=i/\x1=B.1/\x2=B.2.1/\x3=B.2.2.1/\x4=B.2.2.2/\i<=f.length/\z0a f t i B/\Qd H10 H',λn _ _ _ _ _=>(f.length-n).toNat,⟨0,B0,rfl,rfl,rfl,rfl,rfl,by omega,⟨⟨j,j+1,by omega,by omega,e0⟩,λa h=>by omega⟩,Qc _⟩,?_⟩;rintro n16 n17 n18 n19 n20 H21 ⟨i,B,rfl,rfl,rfl,rfl,rfl,hi,bs,l21⟩;refine⟨λhn=>?_,λhn=>?_⟩
 ·have hn:i<f.length:=by have:=Zr hn;omega
  refine⟨by unfold inI;omega,λn x1 x2 x3 x4 H'=>∃(k:Nat)(B:Pr),n=k/\x1=B.1/\x2=B.2.1/\x3=B.2.2.1/\x4=B.2.2.2/\i<k/\k<=f.length/\z0a f t (if k=i+1 then i else i+1) B/\Qd H10 H',λn _ _ _ _ _=>(f.length-n).toNat,⟨i+1,B,by omega,rfl,rfl,rfl,rfl,by omega,by omega,by rw[Zp rfl];exact bs,l21⟩,?_⟩;rintro n24 n25 n26 n27 n28 H29 ⟨k,B,rfl,rfl,rfl,rfl,rfl,hik,hk,bs,l29⟩;have nxt:z0a f t (i+1) B->inI ((i:Int)+1)/\(∃(i':Nat)(B':Pr),(i:Int)+1=i'/\B.1=B'.1/\B.2.1=B'.2.1/\B.2.2.1=B'.2.2.1/\B.2.2.2=B'.2.2.2/\i'<=f.length/\z0a f t i' B'/\Qd H10 H29)/\((f.length:Int)-((i:Int)+1)).toNat<((f.length:Int)-(i:Int)).toNat :=
   λh=>⟨by unfold inI;omega,⟨i+1,B,by omega,rfl,rfl,rfl,rfl,by omega,h,l29⟩,by omega⟩
  have up:∀{C:Pr},(∃i k,i<k/\k<f.length/\C=prM f t i k)->leR C.2.2 B.2.2->(k=i+1->k<f.length->leR C.2.2 (y1j f t i k).1)->z0a f t (i+1) C:=λ{C} hC h1 h2=>by
   refine⟨hC,λa ha ha2=>?_⟩;have oC:okR C.2.2:=by
    obtain⟨_,_,_,h,rfl⟩:=hC;exact y1m of at_ (by omega) h
   by_cases e:a=i/\k=i+1
   ·obtain⟨rfl,rfl⟩:=e;exact h2 rfl (by omega)
   ·exact y9b oC (oB bs) (y1m of at_ (by omega) (by omega)) h1 (bs.le a (by split <;> omega) ha2)
  refine⟨λhm=>?_,λhm=>?_⟩
  ·have hm:k<f.length:=by have:=Zr hm;omega
   have op:okR (prM f t i k).2.2:=y1m of at_ hn hm;have ob:=oB bs;have qc:=yuj (H:=H29) (a:=(prM f t i k).2.2) (b:=B.2.2) op.fit ob.fit;have ec:cmpM (prM f t i k).2.2 B.2.2=(zp5 (prM f t i k).2.2 B.2.2,0):=by unfold cmpM;rw[Zp ⟨op,ob⟩]
   rw[ec] at qc;have ms:((f.length:Int)-((k:Int)+1)).toNat<((f.length:Int)-(k:Int)).toNat:=by omega
   refine⟨_,_,_,_,_,ynd of at_ hn hm (rx.le l29) (ry.le l29) rfl rfl,λh=>by simp at h,λ_=>⟨_,_,qc,λhy=>?_,λhy=>⟨_,yyb op.fit ob.fit,λhz=>⟨by unfold inI;omega,⟨k+1,prM f t i k,by omega,rfl,rfl,rfl,rfl,by omega,by omega,?_,l29⟩,ms⟩,λhz=>⟨by unfold inI;omega,⟨k+1,B,by omega,rfl,rfl,rfl,rfl,by omega,by omega,?_,l29⟩,ms⟩⟩⟩⟩
   ·have hy:0<zp5 (prM f t i k).2.2 B.2.2:=Zr hy;refine nxt (up bs.is (y99 _) λ_ _=>(y9a _ _).resolve_right λh=>?_);have:zp5 (prM f t i k).2.2 B.2.2<=0:=zpb.2 h;omega
   ·have hy:¬ 0<zp5 (prM f t i k).2.2 B.2.2:=Zs hy;rw[Zn (by omega)];exact up ⟨i,k,hik,hm,rfl⟩ (zpb.1 (by omega)) λ_ _=>y99 _
   ·have hy:¬ 0<zp5 (prM f t i k).2.2 B.2.2:=Zs hy;have hz:¬ ylu (prM f t i k) B<0:=Zs hz;rw[Zn (by omega)];refine up bs.is (y99 _) λ_ _=>Decidable.byContradiction λh=>hz ?_
    have h:zp5 (prM f t i k).2.2 B.2.2<0:=zpe.2 h;unfold ylu;rw[ec,Zp (by dsimp only;omega)];exact h
  ·have hm:k=f.length:=by have:=Zs hm;omega
   exact nxt (up bs.is (y99 _) λ_ h=>by omega)
 ·have hn:i=f.length:=by have:=Zs hn;omega
  subst hn;exact⟨B,rfl,Qh l2 (Qh l10 l21),bs⟩
end
