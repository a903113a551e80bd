/- Who is in the most meetings, by the program: a map is gone over. Conditions: none. -/
import Derived.Test.YtnldicbalihomaaWE
import Derived.Test.YtnldicbalihomaaVgCollide
import Derived.Test.YtnldicbalihomaaFs
set_option linter.unusedVariables false
set_option maxRecDepth 100000
open Go Go.Eng Go.Proofs
namespace Go.Proofs.Ytnldicbalihomaa

abbrev kI (x:Int):Value:=.int .i64 x
theorem keyI:KL Try.prog T.int kI:=KL.int (by kernel_rfl)
theorem kI_inj {x y:Int} (h:kI x=kI y):x=y:=by injection h
def seenOf (H:Hp) (c:Nat):Array Nat:=match H c with
 | some (.mapIter _ _ s _)=>s
 | _=>#[]
theorem seenOf_at {H:Hp} {c:Nat} {a:Option Nat} {s:Array Nat} {n k:Nat} (h:H c=some (.mapIter a n s k)):seenOf H c=s:=by unfold seenOf; rw [h]
def outE (es:Array MapEntry) (seen:Array Nat) (e:Int × Int):Prop:=∃ q∈es.toList,seen.contains q.born=true∧q.key=kI e.1∧q.val=kI e.2
theorem outE_none (es:Array MapEntry) (e:Int × Int):¬ outE es #[] e:=fun ⟨q,_,h,_⟩=>by simp at h
theorem outE_push {es:Array MapEntry} {seen:Array Nat} {q:MapEntry} {x:Int × Int} (hu:(es.toList.map (·.born)).Nodup) (hq:q∈es.toList) (hk:q.key=kI x.1) (hv:q.val=kI x.2) (e:Int × Int) :
  outE es (seen.push q.born) e↔outE es seen e∨e=x:=by
 constructor
 ·rintro ⟨p,hp,hs,h1,h2⟩
  rw [contains_push,Bool.or_eq_true,beq_iff_eq] at hs
  rcases hs with hs | hs
  ·exact .inl ⟨p,hp,hs,h1,h2⟩
  ·right
   have e1:=find_born p es.toList hu hp
   have e2:=find_born q es.toList hu hq
   rw [hs,e2] at e1
   cases e1
   rw [hk] at h1; rw [hv] at h2
   exact Prod.ext (kI_inj h1.symm) (kI_inj h2.symm)
 ·rintro (⟨p,hp,hs,h1,h2⟩ | rfl)
  ·exact ⟨p,hp,by rw [contains_push,hs]; rfl,h1,h2⟩
  ·exact ⟨q,hq,by rw [contains_push]; simp,hk,hv⟩
theorem left_none {es:Array MapEntry} {seen:Array Nat} (h:(leftOf es seen).size=0) {q:MapEntry} (hq:q∈es.toList):seen.contains q.born=true:=by
 have hem:leftOf es seen=#[]:=Array.eq_empty_of_size_eq_zero h
 unfold leftOf at hem
 rw [Array.filter_eq_empty_iff] at hem
 have:=hem q (Array.mem_toList_iff.1 hq)
 simpa using this
set_option maxHeartbeats 4000000 in
theorem colMost {H:Hp} {u:Slc} {m:List Mg} (r:Rd 4 fG H u m) (ft:∀ x∈m,fitR x.1) :
  Go.Eng.Fn Try.prog F.collide_Most #[u.v] H fun v H'=>v=mostV m∧Hp.le H H':=by
 have wn:(u.n:Int)=m.length:=by have:=r.len; omega
 refine collide_Most_vc ?_
 rw [wn]
 refine ⟨_,colCheck r ft,fun h=>?_,fun h b H3 hb hH3=>?_⟩
 ·unfold mostV; rw [mostG_bad (nz0 h)]; exact ⟨rfl,Hp.le_refl _⟩
 have h:=ez0 h
 have ok:=chkG_zero.1 h
 have few:=ok.few
 have l3:Hp.le H H3:=by subst hH3; exact Hp.put_le _ _ hb
 refine uptoH (N:=(m.length:Int)) (J:=fun n H'=>Hp.le H H'∧∃ es k,MapF kI H' b (cntF m n.toNat) es k) (by omega) ⟨l3,_,_,(MapF.new hH3).ext fun x=>?_⟩ fun n H7 h0 h1 ⟨l7,es,k,hM⟩=>⟨fun hn=>?_,fun hn=>?_⟩
 ·unfold cntF cntG; simp
 ·have hn:n<m.length:=by simpa using hn
  have hin:n.toNat<m.length:=by omega
  have r7:=r.le l7
  obtain ⟨_,g2,g3,_⟩:=ok.at hin
  have hne:(m.getD n.toNat zMg).2.1≠(m.getD n.toNat zMg).2.2:=by omega
  have c1:=cntG_le (m.take n.toNat) (m.getD n.toNat zMg).2.1
  have c2:=cntG_le (m.take n.toNat) (m.getD n.toNat zMg).2.2
  have ct:=List.length_take_le n.toNat m
  have q1:=keyI.lookF (t:=T.map_int_int) (e:=T.int) (z:=kI 0) (by kernel_rfl) (by kernel_rfl) (x:=(m.getD n.toNat zMg).2.1) hM
  rw [cntF_get] at q1
  refine ⟨r7.inS h0 hn,_,_,_,_,RdG.get r7 h0 hn,_,q1,by unfold inI; omega,(keyI.putF (t:=T.map_int_int) (e:=T.int) (by kernel_rfl) hM).mono fun v13 H14 ⟨es',k',e14,hM14⟩=>⟨v13,rfl,?_⟩⟩
  have q2:=keyI.lookF (t:=T.map_int_int) (e:=T.int) (z:=kI 0) (by kernel_rfl) (by kernel_rfl) (x:=(m.getD n.toNat zMg).2.2) hM14
  have e2:(updM (cntF m n.toNat) (m.getD n.toNat zMg).2.1 (.int .i64 ((cntG (m.take n.toNat) (m.getD n.toNat zMg).2.1:Int)+1)) (m.getD n.toNat zMg).2.2).getD (kI 0)=kI (cntG (m.take n.toNat) (m.getD n.toNat zMg).2.2:Int):=by
   unfold updM
   rw [if_neg fun e=>hne e.symm]; exact cntF_get _ _ _
  rw [e2] at q2
  refine ⟨_,q2,by unfold inI; omega,(keyI.putF (t:=T.map_int_int) (e:=T.int) (by kernel_rfl) hM14).mono fun v17 H18 ⟨es'',k'',e18,hM18⟩=>⟨v17,rfl,?_⟩⟩
  refine uptoH.nx h0 hn (by omega) ⟨?_,es'',k'',hM18.ext fun x=>?_⟩
  ·subst e18; subst e14; exact Hp.le_put (Hp.le_put l7 hb) hb
  ·rw [show (n+1).toNat=n.toNat+1 by omega]; exact cntF_succ hin hne x
 ·have hn:¬ n<m.length:=by simpa using hn
  rw [show n.toNat=m.length by omega] at hM
  refine rangeF (t:=T.map_int_int) (k:=T.int) (e:=T.int) (by kernel_rfl) hM fun c H21 hc hH21=>⟨⟨c,0,none⟩,rfl,fun id x H'=>Hp.le H H'∧MapF kI H' b (cntF m m.length) es k∧∃ seen,H' c=some (.mapIter (some b) k seen k)∧Best (outE es seen) (id,x),fun _ _ H'=>(leftOf es (seenOf H' c)).size,?_,?_⟩
  ·have hcb:b≠c:=fun e=>by subst e; rw [hM.blk] at hc; cases hc
   have l21:Hp.le H7 H21:=by subst hH21; exact Hp.put_le _ _ hc
   exact ⟨Hp.le_trans l7 l21,hM.le l21,#[],by subst hH21; exact Hp.put_same _ _ _,.inl ⟨rfl,outE_none es⟩⟩
  rintro id x H27 ⟨l27,hM27,seen,hc27,hB⟩
  have hcb:b≠c:=fun e=>by subst e; rw [hM.blk] at hc; cases hc
  have hHc:H c=none:=by
   cases hx:H c with
   | none=>rfl
   | some o=>rw [l7 c o hx] at hc; cases hc
  refine nextF hM27 hc27 rfl rfl (fun hz=>.inl ⟨undef,undef,rfl,fun h=>(by cases h),fun _=>?_⟩) (fun q hq H29 hH29=>.inr ⟨q.key,q.val,rfl,fun _=>?_,fun h=>(by cases h)⟩)
  ·have hB2:Best (fun e=>1≤cntG m e.1∧e.2=cntG m e.1) (id,x):=hB.congr fun e=>by
    rw [← cntF_all]
    constructor
    ·intro he
     obtain ⟨q,hq,h1,h2⟩:=hM27.has he
     exact ⟨q,hq,left_none hz hq,h1,h2⟩
    ·rintro ⟨q,hq,_,h1,h2⟩
     obtain ⟨y,g1,g2⟩:=hM27.entry hq
     rw [h1] at g1
     rw [kI_inj g1,g2,h2]
   have hb:=hB2.uniq (bestG_best m)
   refine ⟨fun hx=>⟨?_,l27⟩,fun hx=>⟨?_,l27⟩⟩
   ·have hx:x=0:=by simpa using hx
    have h0:m.length=0:=by
     rcases Nat.eq_zero_or_pos m.length with h0 | h0
     ·exact h0
     ·obtain ⟨b1,b2,_⟩:=bestG_of (m:=m) fun e=>by rw [e] at h0; simp at h0
      rw [← hb] at b1 b2
      have b2:x=cntG m id:=b2
      have b1:1≤cntG m id:=b1
      omega
    unfold mostV; rw [mostG_none h h0]
   ·have hx:x≠0:=by simpa using hx
    have h0:m.length≠0:=fun h0=>by
     have em:m=[]:=List.length_eq_zero_iff.1 h0
     subst em
     have:bestG []=(0,0):=rfl
     rw [this] at hb
     exact hx (Prod.mk.inj hb).2
    unfold mostV; rw [mostG_some h h0,← hb]
  ·have hmem:=(mem_left hq).1
   obtain ⟨y,g1,g2⟩:=hM27.entry hmem
   have g3:1≤cntG m y∧q.val=kI (cntG m y:Int):=by
    unfold cntF at g2
    rw [List.take_length] at g2
    split at g2
    ·rename_i hy; exact ⟨hy,(Option.some.inj g2).symm⟩
    ·cases g2
   have hM29:MapF kI H29 b (cntF m m.length) es k:=hM27.at (by subst hH29; exact Hp.put_ne _ _ hcb)
   have hc29:H29 c=some (.mapIter (some b) k (seen.push q.born) k):=by subst hH29; exact Hp.put_same _ _ _
   have l29:Hp.le H H29:=by subst hH29; exact Hp.le_put l27 hHc
   have hB2:Best (outE es (seen.push q.born)) (bstep (id,x) (y,(cntG m y:Int))):=(hB.step (e:=(y,(cntG m y:Int))) (show (1:Int)≤(cntG m y:Int) by omega)).congr fun e=>outE_push (x:=(y,(cntG m y:Int))) hM27.uniq hmem g1 g3.2 e
   have hlt:(leftOf es (seenOf H29 c)).size<(leftOf es (seenOf H27 c)).size:=by
    rw [seenOf_at hc29,seenOf_at hc27]; exact left_shrinks es seen q hq
   refine entryF (last:=0) hM29 hmem hc29 ⟨y,(cntG m y:Int),by rw [g1,g3.2],fun hx=>?_,fun hx=>?_⟩
   ·rw [bstep_yes (b:=(id,x)) (e:=(y,(cntG m y:Int))) hx] at hB2
    exact ⟨⟨l29,hM29,_,hc29,hB2⟩,hlt⟩
   ·rw [bstep_no (b:=(id,x)) (e:=(y,(cntG m y:Int))) hx] at hB2
    exact ⟨⟨l29,hM29,_,hc29,hB2⟩,hlt⟩
end Go.Proofs.Ytnldicbalihomaa
