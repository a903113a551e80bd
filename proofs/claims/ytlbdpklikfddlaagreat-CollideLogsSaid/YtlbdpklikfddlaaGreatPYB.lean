/- The engine, parts Y1, Y2, PT, Y3, Y4, put together. Conditions: none. -/
import Derived.Test.YtlbdpklikfddlaaGreatPYA
import Derived.Test.YtlbdpklikfddlaaGreatPL1
import Derived.Test.YtlbdpklikfddlaaGreatVgBase
import Derived.Test.YtlbdpklikfddlaaGreatVgMeet
import Derived.Test.YtlbdpklikfddlaaGreatFs
import Derived.Test.YtlbdpklikfddlaaGreatPRW
import Derived.Test.YtlbdpklikfddlaaGreatVgStd
set_option linter.unusedVariables false
section
/- meet.pairs: an iterator of pairs of points; meet.all. Conditions: none. -/
set_option maxRecDepth 100000
open Go Go.Eng Go.Proofs
namespace Go.Proofs.YtlbdpklikfddlaaGreat

theorem storeAll {H:Hp} {b:Nat} {cs:Array Value} {T:TypeId} (h:Cel H b cs T) (vs:List Value) (hv:vs.length=cs.size):H.canStore ⟨b,0,none⟩ 0 vs∧H.store ⟨b,0,none⟩ 0 vs=H.put b (.cells vs.toArray T (0,0)):=by
 obtain ⟨can,st⟩:=store_row (b:=b) (off:=0) vs 0 H cs h (by omega)
 refine ⟨can,?_⟩
 rw [st]
 have:cs.toList.drop (0+0+vs.length)=[]:=List.drop_eq_nil_of_le (by rw [Array.length_toList]; omega)
 rw [this]; simp
theorem put_put' {H:Hp} {b:Nat} {o o':Obj}:(H.put b o).put b o'=H.put b o':=by
 funext k; unfold Hp.put; split <;> rfl
/-! ### Pairs,in plain Lean -/
def rowPr (f:List Pt) (i k:Nat):List (Pt × Pt):=((f.drop (i+1)).take k).map fun q=>(ptF f i,q)
def prsN (f:List Pt) (i:Nat):List (Pt × Pt):=(List.range i).flatMap fun j=>(f.drop (j+1)).map fun q=>(ptF f j,q)
theorem prsN_succ (f:List Pt) (i:Nat):prsN f (i+1)=prsN f i++(f.drop (i+1)).map fun q=>(ptF f i,q):=by
 unfold prsN; rw [List.range_succ,List.flatMap_append]; simp
theorem rowPr_all {f:List Pt} {i k:Nat} (h:(f.drop (i+1)).length≤k):rowPr f i k=(f.drop (i+1)).map fun q=>(ptF f i,q):=by
 unfold rowPr; rw [List.take_of_length_le h]
theorem rowPr_succ {f:List Pt} {i k:Nat} {q:Pt} (h:(f.drop (i+1))[k]?=some q):rowPr f i (k+1)=rowPr f i k++[(ptF f i,q)]:=by
 unfold rowPr; rw [take_succ h,List.map_append]; rfl
def metOf (x:Pt × Pt):Option Pr:=if x.1.2.2=x.2.2.2 then none else some (mtPr (atP x.1 x.2,x.1.1,x.2.1))
theorem metR_of (p:Pt) (ps:List Pt):(metR p ps).map mtPr=(ps.map fun q=>(p,q)).filterMap metOf:=by
 unfold metR
 rw [List.map_filterMap,List.filterMap_map]
 congr 1
 funext q
 unfold metOf
 simp only [Function.comp]
 split <;> rfl
theorem mets_of (f:List Pt):(prsN f f.length).filterMap metOf=(metL f).map mtPr:=by
 rw [metL_rows,List.map_flatMap]
 unfold prsN
 rw [List.filterMap_flatMap]
 congr 1
 funext j
 exact (metR_of _ _).symm
theorem meetZero {p q:Pt} (op:okP p) (oq:okP q) (h:p.2.2≠q.2.2):(makeM (p.2.1-q.2.1) (q.2.2-p.2.2)).2=0:=by
 rcases Int.lt_or_gt_of_ne h with hl | hl
 ·obtain ⟨x,y,g,_,hm,_⟩:=meet_parts op oq hl
  rw [hm]
 ·rw [makeM_neg (show q.2.2-p.2.2≠0 by omega),show -(p.2.1-q.2.1)=q.2.1-p.2.1 by omega,show -(q.2.2-p.2.2)=p.2.2-q.2.2 by omega]
  obtain ⟨x,y,g,_,hm,_⟩:=meet_parts oq op (show q.2.2<p.2.2 from hl)
  rw [hm]
theorem courseSame {H:Hp} {p q:Pt} (hp:okP p) (hq:okP q) (hne:p.1≠q.1) (hb:p.2.2=q.2.2):Qf Tryz.prog F.course_Meet #[ptW p,ptW q] H (.tuple #[raW (0,0),.int .i64 6]):=by
 have h2:twoM p q (0,1)=0:=twoM_zero.2 ⟨hp,hq,ok01,hne⟩
 refine course_Meet_vc ⟨_,courseTwo (p:=p) (q:=q) (t:=(0,1)) ok01.fit,fun hc=>?_,fun hc=>⟨fun he=>⟨rfl,Hp.le_refl _⟩,fun he=>?_⟩⟩
 ·rw [h2] at hc; simp at hc
 ·exact absurd hb (by simpa using he)

/-! ### The iterator -/
def hideB (H:Hp) (b:Nat):Hp:=fun k=>if k=b then none else H k
theorem hideB_le {H:Hp} {b:Nat}:Hp.le (hideB H b) H:=fun k o h=>by
 unfold hideB at h
 split at h
 ·cases h
 ·exact h
theorem le_hideB {H H':Hp} {b:Nat} (h:Hp.le H H') (hb:H b=none):Hp.le H (hideB H' b):=fun k o hk=>by
 unfold hideB
 rw [if_neg fun e=>by rw [e,hb] at hk; cases hk]
 exact h k o hk
structure InvP (B:Hp) (b3:Nat) (pre:List (Pt × Pt)) (H:Hp) (s:Slc):Prop where
 le:Hp.le B H
 vr:Var H b3 s.v T.s_api_Meeting
 ms:Mine 4 fM T.api_Meeting B H s (pre.filterMap metOf)
 ne:∀ p,s.a=some p→p.block≠b3
def OkP (f:List Pt) (b3:Nat) (x:Pt × Pt) (vs:List Value) (H:Hp):Prop:=vs=[.int .i64 x.1.1,.int .i64 x.1.2.1,.int .i64 x.1.2.2,.int .i64 x.2.1,.int .i64 x.2.2.1,.int .i64 x.2.2.2]∧x.1∈f∧x.2∈f∧x.1.1≠x.2.1∧∀ s:Slc,Var H b3 s.v T.s_api_Meeting→s.n≤10000
theorem Slc.v_inj {s t:Slc} (h:s.v=t.v):s=t:=by
 cases s; cases t
 simp only [Slc.v] at h
 injection h with h1 h2 h3
 subst h1 h2 h3; rfl
theorem var_slc {H:Hp} {b:Nat} {s t:Slc} {T:TypeId} (h1:Var H b s.v T) (h2:Var H b t.v T):s=t:=by
 have a:=h1.at; rw [h2.at] at a
 exact Slc.v_inj (Option.some.inj a).symm
theorem prsN_len (f:List Pt):∀ i,(prsN f i).length≤i * f.length
 | 0=>by simp [prsN]
 | i+1=>by
  rw [prsN_succ,List.length_append,List.length_map,List.length_drop]
  have:=prsN_len f i
  rw [Nat.add_mul,Nat.one_mul]; omega
theorem rowPr_len (f:List Pt) (i k:Nat):(rowPr f i k).length≤f.length:=by
 unfold rowPr; rw [List.length_map,List.length_take,List.length_drop]; omega
theorem ofPts (x:Pt × Pt):OfL (cfg91.yp.flatMap (·.2)) [.int .i64 x.1.1,.int .i64 x.1.2.1,.int .i64 x.1.2.2,.int .i64 x.2.1,.int .i64 x.2.2.1,.int .i64 x.2.2.2]:=fun f h=>h x.1.1 x.1.2.1 x.1.2.2 x.2.1 x.2.2.1 x.2.2.2

set_option maxHeartbeats 4000000 in
theorem pairsIter {Hs B:Hp} {bp b3:Nat} {w:Slc} {f:List Pt} (of:okF f) (r:Rd 3 fD B w f) (hc:Cel B bp #[w.v] 24) (st:∃ s,InvP B b3 [] Hs s) :
  IterOk Tryz.prog (.func (.func F.meet_pairs_1) #[] #[.pointer (some ⟨bp,0,none⟩)]) Hs (prsN f f.length) (fun pre H=>∃ s,InvP B b3 pre H s) (OkP f b3) cfg91.yp:=by
 refine ⟨_,_,rfl,⟨_,Tryz.func200,by kernel_rfl⟩,fun L o hL round=>?_⟩
 show Go.Eng.Fn Tryz.prog F.meet_pairs_1 #[.func (.yield L) #[] #[],.pointer (some ⟨bp,0,none⟩)] (Hs.put L o) _
 have lf:=of.small
 have wn:w.n=f.length:=r.len
 have wc:w.n≤w.c:=r.cap
 have box:∀ {H:Hp},Hp.le B H→H L=none→(H.put L o).at (((Addr.mk bp 0 none).add 0).add 0)=some w.v:=fun {H} hl hn=>by
  rw [add_zero',add_zero',Cel.at ((hc.le hl).le (Hp.put_le _ _ hn))]; rfl
 have hK:Tryz.prog.cellsOf 112=3:=by kernel_rfl
 obtain ⟨s0,i0⟩:=st
 refine meet_pairs_1_vc ⟨w,box i0.le hL,fun n Hx=>∃ i H,n=(i:Nat)∧i≤f.length∧Hx=Hp.put H L o∧H L=none∧∃ s,InvP B b3 (prsN f i) H s,fun n _=>((f.length:Int)-n).toNat,⟨0,Hs,rfl,by omega,rfl,hL,s0,i0⟩,?_⟩
 rintro n4 Hx ⟨i,H,rfl,hi,rfl,hn,s,iv⟩
 refine ⟨fun h=>?_,fun h=>?_⟩
 ·have h:i<f.length:=by have:=of_decide_eq_true h; omega
  have rx:Rd 3 fD (H.put L o) w f:=(r.le iv.le).le (Hp.put_le _ _ hn)
  have g:=Rd.gD (xs:=f) rx (i:=(i:Int)) (by omega) (by omega)
  rw [Int.toNat_natCast] at g
  have ei:((i:Int)+1).toNat=i+1:=by omega
  refine ⟨rx.inS (by omega) (by omega),_,_,_,g,w,box iv.le hn,by unfold inI; omega,⟨by omega,by omega,by omega,by omega⟩,?_⟩
  rw [hK,ei]
  have dl:(f.drop (i+1)).length=f.length-(i+1):=List.length_drop
  have iv0:InvP B b3 (prsN f i++rowPr f i 0) H s:=by
   have e0:rowPr f i 0=[]:=by simp [rowPr]
   rw [e0,List.append_nil]; exact iv
  refine ⟨fun n Hx=>∃ k H,n=(k:Nat)∧k≤f.length-(i+1)∧Hx=Hp.put H L o∧H L=none∧∃ s,InvP B b3 (prsN f i++rowPr f i k) H s,fun n _=>(((f.length-(i+1):Nat):Int)-n).toNat,⟨0,H,rfl,by omega,rfl,hn,s,iv0⟩,?_⟩
  rintro n12 Hy ⟨k,H2,rfl,hk,rfl,hn2,s2,iv2⟩
  refine ⟨fun h2=>?_,fun h2=>?_⟩
  ·have h2:k<f.length-(i+1):=by have:=of_decide_eq_true h2; rw [wn] at this; omega
   have ry:Rd 3 fD (H2.put L o) w f:=(r.le iv2.le).le (Hp.put_le _ _ hn2)
   have rs:=ry.sub (l:=(i:Int)+1) (hi:=(w.n:Int)) (m:=(w.c:Int)) (by omega) (by omega) (by omega) (by omega)
   rw [ei,Int.toNat_natCast,Int.toNat_natCast,wn,List.take_length] at rs
   have gk:=Rd.gD (xs:=f.drop (i+1)) rs (i:=(k:Int)) (by omega) (by omega)
   have is:=rs.inS (i:=(k:Int)) (by omega) (by omega)
   rw [Int.toNat_natCast] at gk
   have hq:(f.drop (i+1))[k]?=some ((f.drop (i+1)).getD k (0,0,0)):=by rw [List.getD_eq_getElem?_getD,List.getElem?_eq_getElem (by omega)]; rfl
   generalize (f.drop (i+1)).getD k (0,0,0)=q at gk hq
   have mp:ptF f i∈f:=ptF_mem h
   have mq:q∈f:=List.mem_of_mem_drop (List.mem_of_getElem? hq)
   have hne:(ptF f i).1≠q.1:=by
    have hp:=List.pairwise_iff_getElem.1 (okF_ids of)
    rw [List.getElem?_drop] at hq
    obtain ⟨b1,b2⟩:=List.getElem?_eq_some_iff.1 hq
    have:=hp i (i+1+k) h b1 (by omega)
    rw [b2] at this
    have e:f[i]=ptF f i:=by have:=ptF_get h; rw [List.getElem?_eq_getElem h] at this; exact Option.some.inj this
    rwa [e] at this
   have bnd:∀ s':Slc,Var H2 b3 s'.v T.s_api_Meeting→s'.n≤10000:=fun s' hs'=>by
    rw [var_slc hs' iv2.vr]
    have h1:=iv2.ms.rdM.len
    have h2:=List.length_filterMap_le metOf (prsN f i++rowPr f i k)
    rw [List.length_append] at h2
    have h3:=prsN_len f i
    have h4:=rowPr_len f i k
    have h5:i * f.length≤64 * 64:=Nat.mul_le_mul (by have:=of.len; omega) of.len
    have:=of.len
    omega
   rw [wn]
   refine ⟨is,_,_,_,gk,?_⟩
   have R:FnY Tryz.prog L [sI3 (ptF f i).1 (ptF f i).2.1 (ptF f i).2.2,sI3 q.1 q.2.1 q.2.2] (H2.put L o) fun v Hx=>v=.bool true∧∃ H3,(∃ s,InvP B b3 ((prsN f i++rowPr f i k)++[(ptF f i,q)]) H3 s)∧H3 L=none∧Hx=H3.put L o :=
    round (prsN f i++rowPr f i k) (ptF f i,q) _ H2 (ofPts (ptF f i,q)) ⟨s2,iv2⟩ ⟨rfl,mp,mq,hne,bnd⟩ hn2
   refine R.mono fun v H18 ⟨ev,H3,i3,n3,e3⟩=>⟨true,ev,fun h=>by simp at h,fun _=>⟨by unfold inI; omega,⟨k+1,H3,by omega,by omega,e3,n3,?_⟩,by dsimp only; omega⟩⟩
   rw [rowPr_succ hq,← List.append_assoc]; exact i3
  ·have h2:¬ k<f.length-(i+1):=by have:=of_decide_eq_false h2; rw [wn] at this; omega
   refine ⟨by unfold inI; omega,⟨i+1,H2,by omega,by omega,rfl,hn2,s2,?_⟩,by dsimp only; omega⟩
   rw [prsN_succ,← rowPr_all (k:=k) (by omega)]; exact iv2
 ·have h:¬ i<f.length:=by have:=of_decide_eq_false h; omega
  have e:i=f.length:=by omega
  subst e
  exact ⟨H,⟨s,iv⟩,hn,rfl⟩

theorem cel3 {H:Hp} {b:Nat} {x y z:Value} {T:TypeId} (h:Cel H b #[x,y,z] T):H.at ((Addr.mk b 0 none).add 0)=some x∧H.at ((Addr.mk b 0 none).add 1)=some y∧H.at ((Addr.mk b 0 none).add 2)=some z:=by
 have e1:(Addr.mk b 0 none).add 1=Addr.mk b 1 none:=rfl
 have e2:(Addr.mk b 0 none).add 2=Addr.mk b 2 none:=rfl
 rw [add_zero',e1,e2,Cel.at h,Cel.at h,Cel.at h]
 exact ⟨rfl,rfl,rfl⟩
theorem cel2 {H:Hp} {b:Nat} {x y:Value} {T:TypeId} (h:Cel H b #[x,y] T):H.at ((Addr.mk b 0 none).add 0)=some x∧H.at ((Addr.mk b 0 none).add 1)=some y:=by
 have e1:(Addr.mk b 0 none).add 1=Addr.mk b 1 none:=rfl
 rw [add_zero',e1,Cel.at h,Cel.at h]
 exact ⟨rfl,rfl⟩
theorem mets_few {f:List Pt} (of:okF f):((metL f).map mtPr).length≤4096:=by
 have sm:=of.len
 rw [← upM4_end]
 have:=upM4_len f f.length
 have:f.length * f.length≤64 * 64:=Nat.mul_le_mul (by omega) (by omega)
 omega
set_option maxHeartbeats 4000000 in
theorem meetAllL {H:Hp} {w:Slc} {f:List Pt} (hf:Rd 3 fD H w f) (of:okF f) :
  Go.Eng.Fn Tryz.prog F.meet_all #[vFd w] H fun v H'=>∃ u:Slc,v=u.v∧Hp.le H H'∧Mine 4 fM T.api_Meeting H H' u (metsM f):=by
 have sm:=of.len
 refine meet_all_vc fun b1 H2 hb1 hH2 b3 H4 hb3 hH4=>?_
 have l2:Hp.le H H2:=Hp.le_new (Hp.le_refl _) hb1 hH2
 have l4':Hp.le H2 H4:=Hp.le_new (Hp.le_refl _) hb3 hH4
 have C1:Cel H4 b1 #[w.v] 24:=Cel.le (by subst hH2; exact Cel.put) l4'
 have nb3:H b3=none:=by
  cases hx:H b3 with
  | none=>rfl
  | some o=>rw [l2 _ _ hx] at hb3; cases hb3
 refine ⟨w,by rw [add_zero',Cel.at C1]; rfl,meet_pairs_vc fun bp H7 hbp hH7=>⟨_,rfl,fun _=>rfl,Pt × Pt,prsN f f.length,OkP f b3,fun pre H=>∃ s,InvP (hideB H7 b3) b3 pre H s,?_⟩⟩
 have l7':Hp.le H4 H7:=Hp.le_new (Hp.le_refl _) hbp hH7
 have l7:Hp.le H H7:=Hp.le_trans l2 (Hp.le_trans l4' l7')
 have V4:Var H4 b3 (⟨none,0,0⟩:Slc).v T.s_api_Meeting:=Var.new hH4
 have V7:=V4.le l7'
 have lB:Hp.le H (hideB H7 b3):=le_hideB l7 nb3
 have nB:(hideB H7 b3) b3=none:=by unfold hideB; rw [if_pos rfl]
 have hbp3:bp≠b3:=fun e=>by subst e; unfold Var Cel at V4; rw [V4] at hbp; cases hbp
 have CB:Cel (hideB H7 b3) bp #[w.v] 24:=by
  unfold Cel hideB
  rw [if_neg hbp3,hH7]; exact Hp.put_same _ _ _
 have i0:InvP (hideB H7 b3) b3 [] H7 ⟨none,0,0⟩:=⟨hideB_le,V7,.inl ⟨rfl,rfl⟩,fun p hp=>by cases hp⟩
 refine ⟨pairsIter of (hf.le lB) CB ⟨_,i0⟩,⟨_,i0⟩,?_,?_⟩
 ·rintro pre x n15 n16 n17 n18 n19 n20 H21 ⟨s,iv⟩ ⟨evs,m1,m2,hne,hbd⟩ b22 H23 hb22 hH23
  simp only [List.cons.injEq,Value.int.injEq,true_and,and_true] at evs
  obtain ⟨rfl,rfl,rfl,rfl,rfl,rfl⟩:=evs
  have o1:=of.each _ m1
  have o2:=of.each _ m2
  have C23:Cel H23 b22 #[.int .i64 0,.int .i64 0,.int .i64 0] 112:=by subst hH23; exact Cel.put
  obtain ⟨can,sto⟩:=storeAll C23 [.int .i64 x.1.1,.int .i64 x.1.2.1,.int .i64 x.1.2.2] rfl
  refine ⟨can,fun H24 hH24=>?_⟩
  rw [sto,hH23,put_put'] at hH24
  have l24:Hp.le H21 H24:=Hp.le_new (Hp.le_refl _) hb22 hH24
  have C24:Cel H24 b22 #[.int .i64 x.1.1,.int .i64 x.1.2.1,.int .i64 x.1.2.2] 112:=by subst hH24; exact Cel.put
  intro b25 H26 hb25 hH26
  have C26:Cel H26 b25 #[.int .i64 0,.int .i64 0,.int .i64 0] 112:=by subst hH26; exact Cel.put
  obtain ⟨can,sto⟩:=storeAll C26 [.int .i64 x.2.1,.int .i64 x.2.2.1,.int .i64 x.2.2.2] rfl
  refine ⟨can,fun H27 hH27=>?_⟩
  rw [sto,hH26,put_put'] at hH27
  have l27:Hp.le H24 H27:=Hp.le_new (Hp.le_refl _) hb25 hH27
  have C27:Cel H27 b25 #[.int .i64 x.2.1,.int .i64 x.2.2.1,.int .i64 x.2.2.2] 112:=by subst hH27; exact Cel.put
  have C27a:=C24.le l27
  refine ⟨fun _=>rfl,_,_,_,cel3 C27a,_,_,_,cel3 C27,?_⟩
  have fin:∀ t:Int × Int,∀ b37 H38,H27 b37=none→H38=H27.put b37 (.cells #[.int .i64 0,.int .i64 0] 26)→H38.canStore (Addr.mk b37 0 none) 0 [.int .i64 t.1,.int .i64 t.2]∧∀ H39,H39=H38.store (Addr.mk b37 0 none) 0 [.int .i64 t.1,.int .i64 t.2]→Hp.le H27 H39∧Cel H39 b37 #[.int .i64 t.1,.int .i64 t.2] 26:=fun t b37 H38 hb hH=>by
   have C38:Cel H38 b37 #[.int .i64 0,.int .i64 0] 26:=by subst hH; exact Cel.put
   obtain ⟨can,sto⟩:=storeAll C38 [.int .i64 t.1,.int .i64 t.2] rfl
   refine ⟨can,fun H39 hH39=>?_⟩
   rw [sto,hH,put_put'] at hH39
   exact ⟨Hp.le_new (Hp.le_refl _) hb hH39,by subst hH39; exact Cel.put⟩
  by_cases hsp:x.1.2.2=x.2.2.2
  ·refine ⟨0,0,6,courseSame o1 o2 hne hsp,fun b37 H38 hb37 hH38=>?_⟩
   obtain ⟨can,f39⟩:=fin (0,0) b37 H38 hb37 hH38
   refine ⟨can,fun H39 hH39=>⟨fun h=>by simp at h,fun _=>?_⟩⟩
   obtain ⟨l39,_⟩:=f39 H39 hH39
   have l2139:=Hp.le_trans l24 (Hp.le_trans l27 l39)
   have e:(pre++[x]).filterMap metOf=pre.filterMap metOf:=by
    rw [List.filterMap_append]
    have:[x].filterMap metOf=[]:=by simp [metOf,hsp]
    rw [this,List.append_nil]
   exact ⟨s,Hp.le_trans iv.le l2139,iv.vr.le l2139,by rw [e]; exact iv.ms.le l2139,iv.ne⟩
  ·have q:=courseMeet (H:=H27) o1 o2 hne hsp
   rw [meetZero o1 o2 hsp] at q
   refine ⟨(atP x.1 x.2).1,(atP x.1 x.2).2,0,q,fun b37 H38 hb37 hH38=>?_⟩
   obtain ⟨can,f39⟩:=fin (atP x.1 x.2) b37 H38 hb37 hH38
   refine ⟨can,fun H39 hH39=>⟨fun _=>?_,fun h=>by simp at h⟩⟩
   obtain ⟨l39,C39⟩:=f39 H39 hH39
   have l2139:=Hp.le_trans l24 (Hp.le_trans l27 l39)
   have V39:=iv.vr.le l2139
   have m39:=iv.ms.le l2139
   have lB39:=Hp.le_trans iv.le l2139
   have g1:=(cel3 (C27a.le l39)).1
   have g2:=(cel3 (C27.le l39)).1
   have z1:((Addr.mk b22 0 none).add 0).add 0=(Addr.mk b22 0 none).add 0:=rfl
   have z2:((Addr.mk b25 0 none).add 0).add 0=(Addr.mk b25 0 none).add 0:=rfl
   refine ⟨s,V39.at,_,_,cel2 C39,_,by rw [z1]; exact g1,_,by rw [z2]; exact g2,fun b45 H46 hb45 hH46=>?_⟩
   have e:(pre++[x]).filterMap metOf=pre.filterMap metOf++[mtPr (atP x.1 x.2,x.1.1,x.2.1)]:=by
    rw [List.filterMap_append]
    have:[x].filterMap metOf=[mtPr (atP x.1 x.2,x.1.1,x.2.1)]:=by simp [metOf,hsp]
    rw [this]
   have fewp:(pre.filterMap metOf).length≤100000000:=by have h1:=iv.ms.rdM.len; have h2:=hbd s iv.vr; omega
   refine (append1 (k:=4) (f:=fM) (bytes:=32) (x:=mtPr (atP x.1 x.2,x.1.1,x.2.1)) (by kernel_rfl) (by decide) (fun _=>rfl) fM_one lB39 m39 hb45 hH46 rfl fewp (by omega)).mono fun v H48 ⟨u,hv,l48,m48,c48,x48⟩=>⟨u,hv,?_⟩
   have V48:=V39.chg c48 iv.ne
   have nu:∀ p,u.a=some p→p.block≠b3:=fun p hp=>by
    rcases x48 p hp with h | h
    ·exact iv.ne p h
    ·intro e3; rw [e3] at h; unfold Var Cel at V39; rw [V39] at h; cases h
   refine Var.set V48 u.v fun H50 hH50=>⟨u,by subst hH50; exact Hp.le_put l48 nB,Var.new hH50,?_,nu⟩
   rw [e,hH50]
   exact m48.chg (v:=⟨some ⟨b3,0,none⟩,1,1⟩) (fun c _ hc=>Hp.put_ne _ _ fun e3=>hc ⟨b3,0,none⟩ rfl e3.symm) (fun p q hp hq=>by cases hq; exact nu p hp)
 ·rintro H51 ⟨s,iv⟩
  have ms:=iv.ms
  rw [mets_of] at ms
  have few:=mets_few of
  refine ⟨s,iv.vr.at,(sortMts (metPr_ok of) (by omega) ms).mono fun v H54 ⟨hv,m54,c54⟩=>⟨hv,s,(iv.vr.chg c54 iv.ne).at,s,rfl,Hp.le_trans lB (Hp.le_chg iv.le c54 ms.isNew),?_⟩⟩
  exact m54.low lB

theorem filter_takeD {α:Type} {p:α→Bool}:∀ {l:List α},(l.Pairwise fun x y=>p y=true→p x=true)→l.filter p=l.take (l.countP p)∧l.filter (fun x=>!p x)=l.drop (l.countP p)
 | [],_=>⟨rfl,rfl⟩
 | x :: l,h=>by
  obtain ⟨h1,h2⟩:=List.pairwise_cons.1 h
  obtain ⟨i1,i2⟩:=filter_takeD h2
  cases e:p x with
  | true =>
   rw [List.countP_cons_of_pos e,List.filter_cons_of_pos e,List.filter_cons_of_neg (by rw [e]; simp),i1,i2]
   exact ⟨rfl,rfl⟩
  | false =>
   have z:l.countP p=0:=List.countP_eq_zero.2 fun y hy hp=>by have:=h1 y hy hp; rw [e] at this; cases this
   rw [List.countP_cons_of_neg (by rw [e]; simp),z,List.filter_cons_of_neg (by rw [e]; simp),List.filter_cons_of_pos (by rw [e]; rfl)]
   rw [z] at i1 i2
   rw [i1,i2]; exact ⟨rfl,rfl⟩
def cntT (f:List Pt) (t:Int × Int):Nat:=(metsM f).countP fun x=>decide (cmpR x.2.2 t≤0)
theorem metsM_down {f:List Pt} (of:okF f) {t:Int × Int} (ot:okR t):(metsM f).Pairwise fun x y=>decide (cmpR y.2.2 t≤0)=true→decide (cmpR x.2.2 t≤0)=true :=
 List.Pairwise.imp_of_mem (fun {x y} hx hy h hq=>by
  rw [decide_eq_true_eq,cmpR_le] at hq ⊢
  exact leR_trans (metsM_ok of x hx) (metsM_ok of y hy) ot (clP_no.1 h).1 hq) (metsM_srt of)
theorem cntT_le {f:List Pt} (of:okF f) {a b:Int × Int} (oa:okR a) (ob:okR b) (h:leR a b):cntT f a≤cntT f b:=by
 refine List.countP_mono_left fun x hx hp=>?_
 rw [decide_eq_true_eq,cmpR_le] at hp ⊢
 exact leR_trans (metsM_ok of x hx) oa ob hp h
theorem cntT_len (f:List Pt) (t:Int × Int):cntT f t≤(metsM f).length:=List.countP_le_length
theorem between_part {f:List Pt} (of:okF f) {a b:Int × Int} (oa:okR a) (ob:okR b) (h:leR a b):betweenM f a b=((metsM f).take (cntT f b)).drop (cntT f a):=by
 obtain ⟨b1,_⟩:=filter_takeD (metsM_down of ob)
 have hs:=(metsM_down of oa).sublist (List.take_sublist (cntT f b) (metsM f))
 obtain ⟨_,a2⟩:=filter_takeD hs
 have ec:((metsM f).take (cntT f b)).countP (fun x=>decide (cmpR x.2.2 a≤0))=cntT f a:=by
  unfold cntT
  rw [← b1,List.countP_filter]
  refine List.countP_congr fun x hx=>?_
  have ox:=metsM_ok of x hx
  rw [Bool.and_eq_true,decide_eq_true_eq,decide_eq_true_eq,cmpR_le,cmpR_le]
  exact ⟨fun hh=>hh.1,fun hh=>⟨hh,leR_trans ox oa ob hh h⟩⟩
 rw [ec] at a2
 rw [← a2]
 unfold cntT
 rw [← b1,List.filter_filter]
 rfl
theorem metL_len:∀ f:List Pt,2 * (metL f).length≤f.length * f.length
 | []=>Nat.le_refl _
 | p :: f=>by
  have ih:=metL_len f
  have h1:(metR p f).length≤f.length:=List.length_filterMap_le _ _
  show 2 * (metR p f++metL f).length≤(f.length+1) * (f.length+1)
  have e:(f.length+1) * (f.length+1)=f.length * f.length+2 * f.length+1:=by rw [Nat.add_mul,Nat.mul_add]; omega
  rw [List.length_append]
  omega
theorem metsM_len (f:List Pt):(metsM f).length=(metL f).length:=by
 unfold metsM
 rw [(sortP_perm _).length_eq,List.length_map]
theorem metsM_small {f:List Pt} (of:okF f):(metsM f).length≤2048:=by
 have h:=metL_len f
 have l:=of.len
 have:=Nat.mul_le_mul l l
 rw [metsM_len]; omega

theorem behind1 {H:Hp} {x:Pr} {t:Int × Int} (ox:okPr x) (ot:okR t):QfV Tryz.prog (.func (.func F.meet_behind_1) #[] #[]) [mtV x,raW t] H (.int .i64 (if cmpR x.2.2 t≤0 then -1 else 1)):=by
 have e:cmpM x.2.2 t=(cmpR x.2.2 t,0):=if_pos ⟨ox,ot⟩
 have q:=meetLater (H:=H) (a:=x.2.2) (b:=t) (okR.fit ox) (okR.fit ot)
 rw [e] at q
 refine ⟨F.meet_behind_1,#[],_,rfl,⟨_,Tryz.func143,by kernel_rfl⟩,meet_behind_1_vc ⟨_,q,fun h=>?_,fun h=>?_⟩⟩
 ·have h:=of_decide_eq_true h
  rw [if_neg (by dsimp only at h; omega)]; exact ⟨rfl,Hp.le_refl _⟩
 ·have h:=of_decide_eq_false h
  rw [if_pos (by dsimp only at h; omega)]; exact ⟨rfl,Hp.le_refl _⟩
set_option maxHeartbeats 1000000 in
theorem meetBehind {H:Hp} {u:Slc} {l:List Pr} {t:Int × Int} (r:Rd 4 fM H u l) (ok:∀ x∈l,okPr x) (ot:okR t) (down:l.Pairwise fun x y=>decide (cmpR y.2.2 t≤0)=true→decide (cmpR x.2.2 t≤0)=true) (hl:l.length≤100000000) :
  Qf Tryz.prog F.meet_behind #[u.v,raW t] H (.int .i64 (l.countP fun x=>decide (cmpR x.2.2 t≤0):Nat)):=by
 have un:(u.n:Int)=l.length:=by have:=r.len; omega
 have gm:∀ {k:Nat},k<l.length→l.getD k zPr∈l:=fun h=>mem_getP h
 have dn:∀ {i j:Nat},i<j→j<l.length→cmpR (l.getD j zPr).2.2 t≤0→cmpR (l.getD i zPr).2.2 t≤0:=fun {i j} hij hj h=>by
  have:=List.pairwise_iff_getElem.1 down i j (by omega) hj hij
  rw [decide_eq_true_eq,decide_eq_true_eq] at this
  rw [List.getD_eq_getElem?_getD,List.getElem?_eq_getElem hj] at h
  rw [List.getD_eq_getElem?_getD,List.getElem?_eq_getElem (show i<l.length by omega)]
  exact this h
 have cnt:∀ n:Nat,n≤l.length→(∀ k,k<n→cmpR (l.getD k zPr).2.2 t≤0)→(∀ k,n≤k→k<l.length→¬ cmpR (l.getD k zPr).2.2 t≤0)→l.countP (fun x=>decide (cmpR x.2.2 t≤0))=n:=fun n hn h1 h2=>by
  rw [← List.take_append_drop n l,List.countP_append]
  have a:(l.take n).countP (fun x=>decide (cmpR x.2.2 t≤0))=(l.take n).length:=by
   rw [List.countP_eq_length]
   intro x hx
   obtain ⟨k,hk,e⟩:=List.mem_take_iff_getElem.1 hx
   have:=h1 k (by omega)
   rw [List.getD_eq_getElem?_getD,List.getElem?_eq_getElem (by omega),Option.getD_some,e] at this
   exact decide_eq_true this
  have b:(l.drop n).countP (fun x=>decide (cmpR x.2.2 t≤0))=0:=by
   rw [List.countP_eq_zero]
   intro x hx
   obtain ⟨k,hk,e⟩:=List.mem_iff_getElem.1 hx
   rw [List.length_drop] at hk
   have:=h2 (n+k) (by omega) (by omega)
   rw [List.getD_eq_getElem?_getD,List.getElem?_eq_getElem (by omega),Option.getD_some] at this
   rw [List.getElem_drop] at e
   rw [e] at this
   simpa using this
  rw [a,b,List.length_take]; omega
 have S:Qf Tryz.prog F.slices_BinarySearchFunc_api_Meeting_api_Meeting_api_Ratio #[u.v,raW t,.func (.func F.meet_behind_1) #[] #[]] H (.tuple #[.int .i64 (l.countP fun x=>decide (cmpR x.2.2 t≤0):Nat),.bool false]):=by
  refine slices_BinarySearchFunc_api_Meeting_api_Meeting_api_Ratio_vc ?_
  rw [un]
  refine ⟨fun i j H'=>H'=H∧0≤i∧i≤j∧j≤l.length∧(∀ k,k<i.toNat→cmpR (l.getD k zPr).2.2 t≤0)∧∀ k,j.toNat≤k→k<l.length→¬ cmpR (l.getD k zPr).2.2 t≤0,fun i j _=>(j-i).toNat,⟨rfl,Int.le_refl _,by omega,by omega,fun k hk=>by simp at hk,fun k h1 h2=>by omega⟩,?_⟩
  rintro i j H5 ⟨rfl,i0,ij,jl,hA,hB⟩
  refine ⟨fun h=>?_,fun h=>?_⟩
  ·have h:=of_decide_eq_true h
   rw [mid_eq i0 h (by omega)]
   have m0:0≤(i+j) / 2:=by omega
   have m1:(i+j) / 2<l.length:=by omega
   have om:=ok _ (gm (k:=((i+j) / 2).toNat) (by omega))
   refine ⟨by unfold inI; omega,by unfold nn; omega,r.inS m0 m1,_,_,_,_,RdM.get r m0 m1,_,behind1 om ot,fun hc=>?_,fun hc=>?_⟩
   ·have hc:cmpR (l.getD ((i+j) / 2).toNat zPr).2.2 t≤0:=by
     by_cases h3:cmpR (l.getD ((i+j) / 2).toNat zPr).2.2 t≤0
     ·exact h3
     ·rw [if_neg h3] at hc; simp at hc
    refine ⟨by unfold inI; omega,⟨rfl,by omega,by omega,jl,fun k hk=>?_,hB⟩,by dsimp only; omega⟩
    rcases Nat.lt_or_ge k ((i+j) / 2).toNat with h4 | h4
    ·exact dn h4 (by omega) hc
    ·rw [show k=((i+j) / 2).toNat by omega]; exact hc
   ·have hc:¬ cmpR (l.getD ((i+j) / 2).toNat zPr).2.2 t≤0:=fun h3=>by rw [if_pos h3] at hc; simp at hc
    refine ⟨⟨rfl,i0,by omega,by omega,hA,fun k h4 h5 h6=>?_⟩,by dsimp only; omega⟩
    rcases Nat.lt_or_ge ((i+j) / 2).toNat k with h7 | h7
    ·exact hc (dn h7 h5 h6)
    ·rw [show k=((i+j) / 2).toNat by omega] at h6; exact hc h6
  ·have h:=of_decide_eq_false h
   have hij:i=j:=by omega
   subst hij
   have ec:=cnt i.toNat (by omega) hA hB
   by_cases hi:i<l.length
   ·have oi:=ok _ (gm (k:=i.toNat) (by omega))
    refine ⟨fun _=>r.inS i0 hi,_,_,_,_,fun _=>RdM.get r i0 hi,_,fun _=>behind1 oi ot,?_,Hp.le_refl _⟩
    rw [ec,Int.toNat_of_nonneg i0]
    congr 3
    split <;> simp
   ·refine ⟨fun h=>absurd (of_decide_eq_true h) hi,0,0,0,0,fun h=>absurd (of_decide_eq_true h) hi,0,fun h=>absurd (of_decide_eq_true h) hi,?_,Hp.le_refl _⟩
    rw [ec,Int.toNat_of_nonneg i0,decide_eq_false hi]; rfl
 exact meet_behind_vc ⟨_,false,S,rfl,Hp.le_refl _⟩

def fRa (x:Int × Int):List Value:=[.int .i64 x.1,.int .i64 x.2]
theorem RdRa.get {H:Hp} {u:Slc} {m:List (Int × Int)} {i:Int} {x:Int × Int} (h:Rd 2 fRa H u m) (h0:0≤i) (hx:m[i.toNat]?=some x) :
  H.at (eaddr u.a 2 i)=some (.int .i64 x.1)∧H.at ((eaddr u.a 2 i).add 1)=some (.int .i64 x.2):=by
 exact ⟨h.at0 h0 hx rfl,h.atj h0 hx (j:=1) rfl⟩
theorem meetCheck {H:Hp} {w u:Slc} {f:List Pt} {a b:Int × Int} (hf:Rd 3 fD H w f) (of:okF f) (oa:okR a) (ob:okR b) (hab:leR a b) (r:Rd 2 fRa H u [a,b]):Qf Tryz.prog F.meet_check #[vFd w,u.v] H (.int .i64 0):=by
 have un:(u.n:Int)=2:=by have:=r.len; simp at this; omega
 refine meet_check_vc ?_
 rw [un]
 refine ⟨0,by have:=fieldCheck (H:=H) hf; rwa [chkF_zero.2 of] at this,fun h=>by simp at h,fun _=>?_⟩
 refine upto (N:=2) (J:=fun _=>True) (by omega) trivial fun n h0 h1 _=>⟨fun hn=>?_,fun hn=>?_⟩
 ·have hn:n<2:=of_decide_eq_true hn
  have h2:n=0∨n=1:=by omega
  have:∃ x,[a,b][n.toNat]?=some x∧okR x:=by
   rcases h2 with rfl | rfl
   ·exact ⟨a,rfl,oa⟩
   ·exact ⟨b,rfl,ob⟩
  obtain ⟨x,hx,ox⟩:=this
  refine ⟨r.inS h0 (by simp; omega),_,_,RdRa.get r h0 hx,0,by have:=ratioCheck (H:=H) (okR.fit ox); rwa [chkR_ok ox] at this,fun h=>by simp at h,fun _=>upto.nx h0 hn (by omega) trivial⟩
 ·have e:cmpM a b=(cmpR a b,0):=if_pos ⟨oa,ob⟩
  have q:=meetLater (H:=H) (okR.fit oa) (okR.fit ob)
  rw [e] at q
  have hle:=cmpR_le.2 hab
  refine ⟨fun _=>r.inS (by omega) (by simp),a.1,a.2,fun _=>RdRa.get (i:=0) r (by omega) rfl,fun _=>r.inS (by omega) (by simp),b.1,b.2,fun _=>RdRa.get (i:=1) r (by omega) rfl,_,fun _=>q,fun h=>?_,fun _=>⟨rfl,Hp.le_refl _⟩⟩
  simp only [Bool.and_eq_true,decide_eq_true_eq] at h
  omega
theorem meetAll {H:Hp} {w:Slc} {f:List Pt} {a b:Int × Int} (hf:Rd 3 fD H w f) (of:okF f) (oa:okR a) (ob:okR b) (hab:leR a b) :
  Go.Eng.Fn Tryz.prog F.meet_All #[vFd w,raW a,raW b] H fun v H'=>∃ u:Slc,v=.tuple #[u.v,.int .i64 0]∧Hp.le H H'∧Rd 4 fM H' u (betweenM f a b):=by
 refine meet_All_vc fun b1 H2 hb1 hH2=>?_
 have l2:Hp.le H H2:=Hp.le_new (Hp.le_refl _) hb1 hH2
 have r2:Rd 2 fRa H2 ⟨some ⟨b1,0,none⟩,2,2⟩ [a,b]:=rdConst (k:=2) (f:=fRa) (fun _=>rfl) hH2 rfl rfl
 have qc:=meetCheck (hf.le l2) of oa ob hab r2
 refine ⟨0,qc,fun h=>by simp at h,fun _=>(meetAllL (hf.le l2) of).mono fun v H5 ⟨u,hv,l5,m5⟩=>⟨u,hv,?_⟩⟩
 have r5:=m5.rdM
 have sm:=metsM_small of
 have okm:=metsM_ok of
 have q1:=meetBehind r5 okm oa (metsM_down of oa) (by omega)
 have q2:=meetBehind r5 okm ob (metsM_down of ob) (by omega)
 have h1:=cntT_le of oa ob hab
 have h2:=cntT_len f b
 have un:=r5.len
 have uc:=r5.cap
 have hK:Tryz.prog.cellsOf 74=4:=by kernel_rfl
 refine ⟨_,q1,_,q2,?_,?_⟩
 ·show okSl ((cntT f a:Nat):Int) ((cntT f b:Nat):Int) ((cntT f b:Nat):Int) (u.c:Int)
  exact ⟨by omega,by omega,by omega,by omega⟩
 ·have rs:=r5.sub (l:=((cntT f a:Nat):Int)) (hi:=((cntT f b:Nat):Int)) (m:=((cntT f b:Nat):Int)) (by omega) (by omega) (by omega) (by omega)
  rw [hK]
  refine ⟨⟨subA u.a 4 ((cntT f a:Nat):Int) ((cntT f b:Nat):Int),((cntT f b:Nat):Int).toNat-((cntT f a:Nat):Int).toNat,((cntT f b:Nat):Int).toNat-((cntT f a:Nat):Int).toNat⟩,rfl,Hp.le_trans l2 l5,?_⟩
  rw [between_part of oa ob hab]
  rw [Int.toNat_natCast,Int.toNat_natCast] at rs ⊢
  exact rs
end Go.Proofs.YtlbdpklikfddlaaGreat
end
