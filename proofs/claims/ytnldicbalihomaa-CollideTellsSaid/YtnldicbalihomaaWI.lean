/- A log is played, by the reference: Play. Conditions: none. -/
import Derived.Test.YtnldicbalihomaaWH
import Derived.Test.YtnldicbalihomaaVgCollide
import Derived.Test.YtnldicbalihomaaFs
set_option linter.unusedVariables false
set_option maxRecDepth 100000
open Go Go.Eng Go.Proofs
namespace Go.Proofs.Ytnldicbalihomaa

theorem _root_.Go.Eng.Rd.sub {α:Type} {k:Nat} {f:α→List Value} {H:Hp} {u:Slc} {xs:List α} (h:Rd k f H u xs) {l hi m:Int} (l0:0≤l) (lh:l≤hi) (hx:hi≤xs.length) (hm:hi≤m) :
  Rd k f H ⟨subA u.a k l m,hi.toNat-l.toNat,m.toNat-l.toNat⟩ ((xs.take hi.toNat).drop l.toNat):=by
 have hlen:((xs.take hi.toNat).drop l.toNat).length=hi.toNat-l.toNat:=by simp; omega
 refine ⟨hlen.symm,by show hi.toNat-l.toNat≤m.toNat-l.toNat; omega,fun hne=>?_,fun i x hi' j v hv=>?_⟩
 ·have h1:0<((xs.take hi.toNat).drop l.toNat).length:=List.length_pos_iff.2 hne
  have h2:xs≠[]:=fun e=>by rw [e] at h1; simp at h1
  have:=h.isS h2
  show (subA u.a k l m).isSome=true
  unfold subA; split
  ·exact this
  ·simpa using this
 ·have hl:=(List.getElem?_eq_some_iff.1 hi').1
  rw [hlen] at hl
  have hg:xs[l.toNat+i]?=some x:=by
   rw [List.getElem?_drop,List.getElem?_take] at hi'
   split at hi'
   ·exact hi'
   ·cases hi'
  have h2:xs≠[]:=fun e=>by rw [e] at hg; simp at hg
  obtain ⟨p,hp⟩:=Option.isSome_iff_exists.1 (h.isS h2)
  have c:=h.cell _ _ hg j v hv
  rw [hp] at c
  have e:subA u.a k l m=some (p.add (l.toNat * k)):=by unfold subA; rw [if_neg (by omega),hp]; rfl
  show H.at ((eaddr (subA u.a k l m) k i).add j)=some v
  rw [e]
  show H.at (((p.add (l.toNat * k)).add ((i:Int).toNat * k)).add j)=some v
  rw [Int.toNat_natCast,add_add,add_add,← Nat.add_assoc,← Nat.add_mul]
  have c':H.at ((p.add (((l.toNat+i:Nat):Int).toNat * k)).add j)=some v:=c
  rw [Int.toNat_natCast,add_add] at c'
  exact c'
theorem posG_take {l:List Int} {n:Nat} {id:Int} (h:id∈l.take n):posG l id=posG (l.take n) id:=by
 unfold posG
 conv=>lhs; rw [← List.take_append_drop n l]
 rw [List.idxOf_append,if_pos h]
theorem posG_hit {l:List Int} {n:Nat} {id:Int} (hn:n<l.length) (h:l.getD n 0=id) (hj:id∉l.take n):posG l id=n:=by
 have hm:id∈l.take (n+1):=by rw [take_snocI hn,h]; simp
 rw [posG_take hm,take_snocI hn,h,posG_snoc,if_neg hj,if_pos rfl,List.length_take]; omega
theorem posG_in_take {l:List Int} {n:Nat} {id:Int} (hm:id∈l) (h:posG l id<n):id∈l.take n:=by
 have hg:=posG_get hm
 have hl:=posG_lt.2 hm
 refine List.mem_of_getElem? (i:=posG l id) ?_
 rw [List.getElem?_take,if_pos h,List.getElem?_eq_getElem hl]
 rw [List.getD_eq_getElem?_getD,List.getElem?_eq_getElem hl] at hg
 exact congrArg some hg
theorem posG_out_take {l:List Int} {n:Nat} {id:Int} (h:¬ posG l id<n):id∉l.take n:=fun hm=>by
 have:=posG_lt.2 hm
 rw [← posG_take hm,List.length_take] at this
 omega
def atI (l:List Int) (id:Int):Int:=if id∈l then (posG l id:Int) else -1
theorem refAt29 {H:Hp} {w:Slc} {l:List Int} {id:Int} (r:RdI H w l) (hl:l.length≤1000000):Qf Try.prog F.pelotonref29_at #[w.v,.int .i64 id] H (.int .i64 (atI l id)):=by
 have wn:(w.n:Int)=l.length:=by have:=r.len; omega
 refine pelotonref29_at_vc ?_
 rw [wn]
 refine upto (N:=(l.length:Int)) (J:=fun n=>id∉l.take n.toNat) (by omega) (by simp) fun n h0 h1 hJ=>⟨fun hn=>?_,fun hn=>⟨?_,Hp.le_refl _⟩⟩
 ·have hn:n<l.length:=by simpa using hn
  have hin:n.toNat<l.length:=by omega
  refine ⟨r.inS h0 hn,_,RdI.get r h0 hn,fun hc=>⟨?_,Hp.le_refl _⟩,fun hc=>?_⟩
  ·have hc:l.getD n.toNat 0=id:=beq_iff_eq.1 hc
   have hm:id∈l:=List.mem_of_mem_take (i:=n.toNat+1) (by rw [take_snocI hin,hc]; simp)
   unfold atI; rw [if_pos hm,posG_hit hin hc hJ,Int.toNat_of_nonneg h0]
  ·have hc:l.getD n.toNat 0≠id:=beq_eq_false_iff_ne.1 hc
   refine upto.nx h0 hn (by omega) ?_
   rw [show (n+1).toNat=n.toNat+1 by omega,take_snocI hin]
   intro hm
   rcases List.mem_append.1 hm with hm | hm
   ·exact hJ hm
   ·simp only [List.mem_singleton] at hm; exact hc hm.symm
 ·have hn:¬ n<l.length:=by simpa using hn
  rw [show n.toNat=l.length by omega,List.take_length] at hJ
  unfold atI; rw [if_neg hJ]
theorem atI_ge (l:List Int) (id:Int):-1≤atI l id∧atI l id<(l.length:Int)∧(0≤atI l id↔id∈l):=by
 unfold atI
 by_cases h:id∈l
 ·rw [if_pos h]; have:=posG_lt.2 h; exact ⟨by omega,by omega,fun _=>h,fun _=>by omega⟩
 ·rw [if_neg h]; exact ⟨by omega,by omega,fun e=>by omega,fun e=>absurd e h⟩
theorem adj_eq (l:List Int) (x:Mg):(decide (atI l x.2.1≥0)&&decide (atI l x.2.2≥0)&&(atI l x.2.1-atI l x.2.2==1||atI l x.2.2-atI l x.2.1==1))=adjG l x:=by
 rw [Bool.eq_iff_iff]
 unfold adjG atI
 simp only [Bool.and_eq_true,Bool.or_eq_true,beq_iff_eq,decide_eq_true_eq]
 by_cases h1:x.2.1∈l
 ·by_cases h2:x.2.2∈l
  ·rw [if_pos h1,if_pos h2]
   constructor
   ·rintro ⟨_,h⟩; exact ⟨⟨h1,h2⟩,by omega⟩
   ·rintro ⟨_,h⟩; exact ⟨⟨by omega,by omega⟩,by omega⟩
  ·rw [if_neg h2]
   constructor
   ·rintro ⟨⟨_,h⟩,_⟩; omega
   ·rintro ⟨⟨_,h⟩,_⟩; exact absurd h h2
 ·rw [if_neg h1]
  constructor
  ·rintro ⟨⟨h,_⟩,_⟩; omega
  ·rintro ⟨⟨h,_⟩,_⟩; exact absurd h h1
theorem refReady29 {H:Hp} {w q:Slc} {l:List Int} {ys:List Mg} (r:RdI H w l) (rq:Rd 4 fG H q ys) (hl:l.length≤1000000) (hy:ys.length≤1000000):Qf Try.prog F.pelotonref29_ready #[w.v,q.v] H (.int .i64 (fiI (adjG l) ys)):=by
 have qn:(q.n:Int)=ys.length:=by have:=rq.len; omega
 refine pelotonref29_ready_vc ?_
 rw [qn]
 refine upto (N:=(ys.length:Int)) (J:=fun n=>∀ j,j<n.toNat→adjG l (ys.getD j zMg)=false) (by omega) (fun j hj=>by simp at hj) fun n h0 h1 hJ=>⟨fun hn=>?_,fun hn=>⟨?_,Hp.le_refl _⟩⟩
 ·have hn:n<ys.length:=by simpa using hn
  have hin:n.toNat<ys.length:=by omega
  have a1:=atI_ge l (ys.getD n.toNat zMg).2.1
  have a2:=atI_ge l (ys.getD n.toNat zMg).2.2
  refine ⟨rq.inS h0 hn,_,RdG.gI rq h0 hn,_,refAt29 r hl,rq.inS h0 hn,_,RdG.gJ rq h0 hn,_,refAt29 r hl,fun _=>by unfold inI; omega,fun _=>by unfold inI; omega,fun hc=>⟨?_,Hp.le_refl _⟩,fun hc=>?_⟩
  ·rw [adj_eq] at hc
   rw [(fiI_hit hin hc hJ).1,Int.toNat_of_nonneg h0]
  ·rw [adj_eq] at hc
   refine upto.nx h0 hn (by omega) fun j hj=>?_
   by_cases hjn:j<n.toNat
   ·exact hJ j hjn
   ·rw [show j=n.toNat by omega]; exact hc
 ·have hn:¬ n<ys.length:=by simpa using hn
  rw [(fiI_miss fun j hj=>hJ j (by omega)).1]
theorem front_find {l:List Int} {left:List Mg} (s:sortG left) {t:Int × Int} {c:Nat} (ht:t=(left.getD 0 zMg).1) (hc:c≤left.length) (h1:∀ j,j<c→(left.getD j zMg).1=t) (h2:c=left.length∨(left.getD c zMg).1≠t) :
  left.findIdx? (rdyG l t)=(left.take c).findIdx? (adjG l):=by
 have gt:∀ {j:Nat},j<c→(left.take c).getD j zMg=left.getD j zMg:=fun {j} hj=>by
  rw [List.getD_eq_getElem?_getD,List.getElem?_take,if_pos hj,List.getD_eq_getElem?_getD]
 have tl:(left.take c).length=c:=by rw [List.length_take]; omega
 have rd:∀ {j:Nat},j<c→rdyG l t (left.getD j zMg)=adjG l (left.getD j zMg):=fun {j} hj=>by
  unfold rdyG; rw [h1 j hj,decide_eq_true rfl,Bool.true_and]
 cases hx:(left.take c).findIdx? (adjG l) with
 | some i =>
  have hi:i<(left.take c).length:=(List.findIdx?_eq_some_iff_getElem.1 hx).1
  have hic:i<c:=by omega
  have hp:=(List.findIdx?_eq_some_iff_getElem.1 hx).2.1
  have hj:=(List.findIdx?_eq_some_iff_getElem.1 hx).2.2
  have conv:∀ {j:Nat} (h:j<(left.take c).length),(left.take c)[j]=left.getD j zMg:=fun {j} h=>by
   rw [← gt (by omega),List.getD_eq_getElem?_getD,List.getElem?_eq_getElem h]; rfl
  refine (fiI_hit (by omega) ?_ fun j hji=>?_).2
  ·rw [rd hic,← conv hi]; exact hp
  ·rw [rd (by omega),← conv (by omega)]; exact Bool.eq_false_iff.2 (hj j hji)
 | none =>
  have hn:=List.findIdx?_eq_none_iff.1 hx
  refine (fiI_miss fun j hj=>?_).2
  by_cases hjc:j<c
  ·rw [rd hjc,← gt hjc]
   exact hn _ (getG_mem (by omega))
  ·by_cases et:(left.getD j zMg).1=t
   ·exfalso
    have:=s.front hj (by rw [et,ht]) (show c≤j by omega)
    rcases h2 with h2 | h2
    ·omega
    ·exact h2 (this.trans ht.symm)
   ·unfold rdyG; rw [decide_eq_false et,Bool.false_and]

structure RPlay (H:Hp) (s:Slc) (o:List Int) (m:List Mg) (d:Slc) (H':Hp) (l:List Int) (left:List Mg):Prop where
 le:Hp.le H H'
 ms:Mine 1 fI 3 H H' s l
 md:Mine 4 fG T.api_Meeting H H' d left
 sd:Sep s d
 srt:sortG left
 nd:l.Nodup
 few:l.length≤64
 lot:left.length≤5000
 pl:playG left.length l left=playG m.length o m

set_option maxHeartbeats 4000000 in
theorem refPlay {H:Hp} {w u:Slc} {o:List Int} {m:List Mg} (ro:RdI H w o) (r:Rd 4 fG H u m) (ft:∀ x∈m,fitR x.1) :
  Go.Eng.Fn Try.prog F.pelotonref29_Play #[w.v,u.v] H fun v H'=>∃ s:Slc,v=.tuple #[s.v,.int .i64 (playM o m).2]∧Hp.le H H'∧Mine 1 fI 3 H H' s (playM o m).1:=by
 have wn:(w.n:Int)=o.length:=by have:=ro.len; omega
 refine pelotonref29_Play_vc ?_
 rw [wn]
 refine ⟨_,refCheckG r ft,fun h=>?_,fun h=>⟨fun hb=>?_,fun hb=>?_⟩⟩
 ·rw [playM_bad (nz0 h)]; exact ⟨zs,rfl,Hp.le_refl _,.inl ⟨rfl,rfl⟩⟩
 ·have hb:=of_decide_eq_true hb
  rw [playM_many (ez0 h) (by omega)]; exact ⟨zs,rfl,Hp.le_refl _,.inl ⟨rfl,rfl⟩⟩
 have h:=ez0 h
 have ok:=chkG_zero.1 h
 have few:=ok.few
 have hb:=of_decide_eq_false hb
 have hl64:¬ 64<o.length:=by omega
 refine upto (N:=(o.length:Int)) (J:=fun n=>ordG (o.take n.toNat)) (by omega) (by simp [ordG]) fun n n0 n1 og=>⟨fun hn=>?_,fun hn=>?_⟩
 ·have hn:n<o.length:=of_decide_eq_true hn
  have hin:n.toNat<o.length:=by omega
  have g:=RdI.get ro n0 hn
  have is:=ro.inS n0 hn
  have hm:o.getD n.toNat 0∈o:=List.mem_of_getElem? (getI n0 hn)
  have ea:atI o (o.getD n.toNat 0)=posG o (o.getD n.toNat 0):=by unfold atI; rw [if_pos hm]
  refine ⟨is,_,g,fun _=>is,_,fun _=>g,fun _=>is,_,fun _=>g,_,fun _=>refAt29 ro (by omega),fun hc=>?_,fun hc=>?_⟩
  ·rw [playM_ord h hl64 fun ho=>?_]
   ·exact ⟨zs,rfl,Hp.le_refl _,.inl ⟨rfl,rfl⟩⟩
   ·obtain ⟨⟨a1,a2⟩,a3⟩:=ordG_at ho hin
    simp only [Bool.or_eq_true,decide_eq_true_eq] at hc
    rcases hc with (hc | hc) | hc
    ·omega
    ·omega
    ·rw [ea] at hc; exact a3 (posG_in_take hm (by omega))
  ·simp only [Bool.or_eq_false_iff,decide_eq_false_iff_not] at hc
   obtain ⟨⟨c1,c2⟩,c3⟩:=hc
   rw [ea] at c3
   refine upto.nx n0 hn (by omega) ?_
   rw [show (n+1).toNat=n.toNat+1 by omega,take_snocI hin]
   exact ordG_snoc og (posG_out_take (by omega)) (by omega) (by omega)
 have hn:¬ n<o.length:=of_decide_eq_false hn
 rw [show n.toNat=o.length by omega,List.take_length] at og
 intro b10 H11 hb10 hH11
 refine (copy_ok (k:=1) (f:=fI) (bytes:=8) (e:=3) (by kernel_rfl) (by decide) (fun _=>rfl) fI_one hb10 hH11 ro (by omega) (by omega)).mono fun v12 H13 ⟨s,hv,l13,m13⟩=>⟨s,hv,fun b15 H16 hb15 hH16=>?_⟩
 refine (copy_ok (k:=4) (f:=fG) (bytes:=32) (e:=T.api_Meeting) (by kernel_rfl) (by decide) (fun _=>rfl) fG_one hb15 hH16 (r.le l13) (by omega) (by omega)).mono fun v17 H18 ⟨d0,hv,l18,m18⟩=>⟨d0,hv,?_⟩
 refine ⟨fun d H'=>∃ l left,RPlay H s o m d H' l left,fun d _=>d.n,⟨o,m,⟨Hp.le_trans l13 l18,m13.le l18,m18.low l13,Sep.of m13.isOld m18.isNew,ok.srt,og.2,by omega,by omega,rfl⟩⟩,?_⟩
 rintro d H23 ⟨l,left,I⟩
 have rd:=I.md.rdG
 have dn:d.n=left.length:=rd.len
 have dc:d.n≤d.c:=rd.cap
 have hfew:=I.few; have hlot:=I.lot
 refine ⟨fun hn=>?_,fun hn=>?_⟩
 ·have hn:=of_decide_eq_true hn
  have hpos:0<left.length:=by omega
  obtain ⟨t,ht⟩:∃ t,t=(left.getD 0 zMg).1:=⟨_,rfl⟩
  have g0:=RdG.gA rd (i:=0) (by omega) (by omega)
  have g0':H23.at (eaddr d.a 4 0)=some (.int .i64 t.1)∧H23.at ((eaddr d.a 4 0).add 1)=some (.int .i64 t.2):=by rw [ht]; exact g0
  refine ⟨fun n H'=>H'=H23∧0≤n∧n≤left.length∧∀ j,j<n.toNat→(left.getD j zMg).1=t,fun n _=>((left.length:Int)-n).toNat,⟨rfl,Int.le_refl _,by omega,fun j hj=>by simp at hj⟩,?_⟩
  rintro n H27 ⟨rfl,n0,n1,hJ⟩
  refine ⟨fun h=>rd.inS n0 (by have:=of_decide_eq_true h; omega),(left.getD n.toNat zMg).1.1,(left.getD n.toNat zMg).1.2,fun h=>RdG.gA rd n0 (by have:=of_decide_eq_true h; omega),fun h=>rd.inS (by omega) (by omega),t.1,t.2,fun _=>g0',fun hq=>?_,fun hq=>?_⟩
  ·simp only [Bool.and_eq_true,beq_iff_eq,decide_eq_true_eq] at hq
   obtain ⟨h1,h2,h3⟩:=hq
   refine ⟨by unfold inI; omega,⟨rfl,by omega,by omega,fun j hj=>?_⟩,by dsimp only; omega⟩
   by_cases hjn:j<n.toNat
   ·exact hJ j hjn
   ·rw [show j=n.toNat by omega]; exact Prod.ext h2 h3
  ·obtain ⟨c,rfl⟩:=Int.eq_ofNat_of_zero_le n0
   rw [Int.toNat_natCast] at hJ hq
   have hc:c≤left.length:=by omega
   have h2:c=left.length∨(left.getD c zMg).1≠t:=by
    by_cases hcl:c=left.length
    ·exact .inl hcl
    ·right; intro et
     rw [et] at hq
     simp only [beq_self_eq_true,Bool.and_self,Bool.and_true,decide_eq_false_iff_not] at hq
     omega
   have ff:=front_find (l:=l) I.srt ht hc hJ h2
   have hK:Try.prog.cellsOf 52=4:=by kernel_rfl
   have rcut:Rd 4 fG H27 ⟨d.a,c,d.c⟩ (left.take c):=Rd.cut rd hc (by omega)
   have tl:(left.take c).length=c:=by rw [List.length_take]; omega
   refine ⟨⟨by omega,by omega,by omega,by omega⟩,?_⟩
   rw [slcCut,Int.toNat_natCast]
   have qr:=refReady29 I.ms.rdI rcut (by omega) (by omega)
   refine ⟨_,qr,fun hi=>?_,fun hi=>?_⟩
   ·have hi:=fiI_neg (of_decide_eq_true hi)
    have hp:playG m.length o m=none:=by
     rw [← I.pl,playG_go (n:=left.length-1) (by omega),← ht,ff,hi]
    rw [playM_none h hl64 og hp]
    exact ⟨zs,rfl,I.le,.inl ⟨rfl,rfl⟩⟩
   ·obtain ⟨i,e1,e2,hil,hrd⟩:=fiI_pos (of_decide_eq_false hi)
    rw [e1]
    have hic:i<c:=by omega
    have gi1:=RdG.gI rd (i:=(i:Int)) (by omega) (by omega)
    have gi2:=RdG.gJ rd (i:=(i:Int)) (by omega) (by omega)
    rw [Int.toNat_natCast] at gi1 gi2
    have egt:(left.take c).getD i zMg=left.getD i zMg:=by rw [List.getD_eq_getElem?_getD,List.getElem?_take,if_pos hic,List.getD_eq_getElem?_getD]
    rw [egt] at hrd
    obtain ⟨y,hy⟩:∃ y,y=left.getD i zMg:=⟨_,rfl⟩
    rw [← hy] at gi1 gi2 hrd
    have ya:y.2.1∈l:=by unfold adjG at hrd; simp only [Bool.and_eq_true,decide_eq_true_eq] at hrd; exact hrd.1.1
    have yb:y.2.2∈l:=by unfold adjG at hrd; simp only [Bool.and_eq_true,decide_eq_true_eq] at hrd; exact hrd.1.2
    have pa:=posG_lt.2 ya
    have pb:=posG_lt.2 yb
    have hpl:playG m.length o m=playG (left.eraseIdx i).length (swapI l (posG l y.2.1) (posG l y.2.2)) (left.eraseIdx i):=by
     rw [← I.pl,playG_go (n:=left.length-1) (by omega),← ht,ff,e2]
     simp only
     rw [hy]
    have q1:=refAt29 (id:=y.2.1) I.ms.rdI (by omega)
    have q2:=refAt29 (id:=y.2.2) I.ms.rdI (by omega)
    have ea:atI l y.2.1=posG l y.2.1:=by unfold atI; rw [if_pos ya]
    have eb:atI l y.2.2=posG l y.2.2:=by unfold atI; rw [if_pos yb]
    rw [ea] at q1; rw [eb] at q2
    have f1:=RdI.get I.ms.rdI (i:=(posG l y.2.2:Int)) (by omega) (by omega)
    have f2:=RdI.get I.ms.rdI (i:=(posG l y.2.1:Int)) (by omega) (by omega)
    rw [Int.toNat_natCast] at f1 f2
    have is1:=I.ms.rdI.inS (i:=(posG l y.2.1:Int)) (by omega) (by omega)
    have is2:=I.ms.rdI.inS (i:=(posG l y.2.2:Int)) (by omega) (by omega)
    refine ⟨rd.inS (by omega) (by omega),_,gi1,_,q1,rd.inS (by omega) (by omega),_,gi2,_,q2,is2,_,f1,is1,_,f2,is1,?_⟩
    refine Mine.setI I.ms (by omega) (by omega) _ fun H45 m45 c45=>⟨is2,?_⟩
    refine Mine.setI m45 (by omega) (by rw [List.length_set]; omega) _ fun H46 m46 c46=>?_
    rw [Int.toNat_natCast,Int.toNat_natCast] at m46
    have m46:Mine 1 fI 3 H H46 s (swapI l (posG l y.2.1) (posG l y.2.2)):=m46
    have md46:=(I.md.chg c45 I.sd.symm).chg c46 I.sd.symm
    have l46:Hp.le H H46:=Hp.le_chg (Hp.le_chg I.le c45 I.ms.isNew) c46 I.ms.isNew
    have cut:=Mine.cut (k:=4) (f:=fG) (fun _=>rfl) md46 (n:=i) (by omega)
    have r2:=md46.rdG.sub (l:=(i:Int)+1) (hi:=(d.n:Int)) (m:=(d.c:Int)) (by omega) (by omega) (by omega) (by omega)
    rw [show ((i:Int)+1).toNat=i+1 by omega,Int.toNat_natCast,Int.toNat_natCast,dn,List.take_length] at r2
    have ev:Value.slice (subA d.a 4 ((i:Int)+1) (d.c:Int)) ((d.n:Int).toNat-((i:Int)+1).toNat) ((d.c:Int).toNat-((i:Int)+1).toNat)=(⟨subA d.a 4 ((i:Int)+1) (d.c:Int),left.length-(i+1),d.c-(i+1)⟩:Slc).v:=by
     rw [show ((i:Int)+1).toNat=i+1 by omega]; simp [Slc.v,dn]
    refine ⟨⟨by omega,by omega,by omega,by omega⟩,by unfold inI; omega,⟨by omega,by omega,by omega,by omega⟩,?_⟩
    rw [slcCut,Int.toNat_natCast,hK,ev]
    have til:(left.take i).length=i:=by rw [List.length_take]; omega
    have dil:(left.drop (i+1)).length=left.length-(i+1):=List.length_drop
    refine (append_any (k:=4) (f:=fG) (bytes:=32) (q:=⟨subA d.a 4 ((i:Int)+1) (d.c:Int),left.length-(i+1),d.c-(i+1)⟩) (by kernel_rfl) (by decide) (fun _=>rfl) fG_one l46 cut r2 (by omega) (by omega)).mono fun v H56 ⟨d',hv,l56,md,c,x⟩=>⟨d',hv,?_,?_⟩
    ·have ee:left.take i++left.drop (i+1)=left.eraseIdx i:=(List.eraseIdx_eq_take_drop_succ ..).symm
     rw [ee] at md
     have os:Old H46 s:=m46.isOld
     have cs:Chg H46 H56 ⟨d.a,i,d.c⟩:=c
     have xs:Ext H46 ⟨d.a,i,d.c⟩ d':=x
     have sds:Sep s ⟨d.a,i,d.c⟩:=I.sd
     refine ⟨_,left.eraseIdx i,⟨l56,m46.chg cs sds,md,(sds.symm.ext os xs).symm,I.srt.erase i,swapI_nodup I.nd pa pb,by rw [swapI_len]; exact hfew,by rw [List.length_eraseIdx_of_lt (by omega)]; omega,hpl.symm⟩⟩
    ·have:=md.rdG.len
     rw [List.length_append,til,dil] at this
     dsimp only; omega
 ·have hn:=of_decide_eq_false hn
  have hz:left=[]:=List.eq_nil_of_length_eq_zero (by omega)
  have hp:playG m.length o m=some l:=by rw [← I.pl,hz]; exact playG_nil _ _
  rw [playM_some h hl64 og hp]
  exact ⟨s,rfl,I.le,I.ms⟩
end Go.Proofs.Ytnldicbalihomaa
