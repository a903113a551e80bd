/- A log is played, by the program: Play. Conditions: none. -/
import Derived.Test.YtnldicbalihomaaWG
import Derived.Test.YtnldicbalihomaaVgCollide
import Derived.Test.YtnldicbalihomaaFs
set_option linter.unusedVariables false
set_option maxRecDepth 100000
open Go Go.Eng Go.Proofs
namespace Go.Proofs.Ytnldicbalihomaa

theorem storeAll {H:Hp} {b:Nat} {cs:Array Value} {T:TypeId} (h:Cel H b cs T) (vs:List Value) (hv:vs.length=cs.size):H.canStore ⟨b,0,none⟩ 0 vs∧H.store ⟨b,0,none⟩ 0 vs=H.put b (.cells vs.toArray T (0,0)):=by
 obtain ⟨can,st⟩:=store_row (b:=b) (off:=0) vs 0 H cs h (by omega)
 refine ⟨can,?_⟩
 rw [st]
 have:cs.toList.drop (0+0+vs.length)=[]:=List.drop_eq_nil_of_le (by rw [Array.length_toList]; omega)
 rw [this]; simp
def blS (b:Nat):Slc:=⟨some ⟨b,0,none⟩,1,1⟩
theorem blS_old {H:Hp} {b:Nat} {o:Obj} (h:H b=some o):Old H (blS b):=fun p hp e=>by
 cases hp; rw [h] at e; cases e
theorem sep_bl {u:Slc} {b:Nat} (h:Sep u (blS b)):∀ p,u.a=some p→p.block≠b:=fun p hp=>h p ⟨b,0,none⟩ hp rfl
theorem _root_.Go.Eng.Var.ne {H:Hp} {b c:Nat} {v:Value} {T:TypeId} {o:Obj} (h:Var H b v T) (hne:b≠c):Var (H.put c o) b v T:=by
 unfold Var Cel at *; rw [Hp.put_ne _ _ hne]; exact h
theorem playM_bad {o:List Int} {m:List Mg} (h:chkG m≠0):playM o m=([],chkG m):=if_neg h
theorem playM_many {o:List Int} {m:List Mg} (h:chkG m=0) (hl:64<o.length):playM o m=([],4):=by unfold playM; rw [if_pos h,if_pos hl]
theorem playM_ord {o:List Int} {m:List Mg} (h:chkG m=0) (hl:¬ 64<o.length) (ho:¬ ordG o):playM o m=([],8):=by unfold playM; rw [if_pos h,if_neg hl,if_neg ho]
theorem playM_none {o:List Int} {m:List Mg} (h:chkG m=0) (hl:¬ 64<o.length) (ho:ordG o) (hp:playG m.length o m=none):playM o m=([],36):=by unfold playM; rw [if_pos h,if_neg hl,if_pos ho,hp]
theorem playM_some {o:List Int} {m:List Mg} {l:List Int} (h:chkG m=0) (hl:¬ 64<o.length) (ho:ordG o) (hp:playG m.length o m=some l):playM o m=(l,0):=by unfold playM; rw [if_pos h,if_neg hl,if_pos ho,hp]
theorem rdyG_in {l:List Int} {t:Int × Int} {x:Mg} (h:rdyG l t x=true):x.2.1∈l∧x.2.2∈l:=by
 unfold rdyG adjG at h
 simp only [Bool.and_eq_true,decide_eq_true_eq] at h
 exact h.2.1
theorem fiI_neg {p:Mg→Bool} {m:List Mg} (h:fiI p m<0):m.findIdx? p=none:=by
 unfold fiI at h
 cases hx:m.findIdx? p with
 | none=>rfl
 | some i=>rw [hx] at h; simp only at h; omega
theorem fiI_pos {p:Mg→Bool} {m:List Mg} (h:¬ fiI p m<0):∃ i,fiI p m=(i:Nat)∧m.findIdx? p=some i∧i<m.length∧p (m.getD i zMg)=true:=by
 unfold fiI at h ⊢
 cases hx:m.findIdx? p with
 | none=>rw [hx] at h; simp only at h; omega
 | some i =>
  obtain ⟨hi,hp,_⟩:=List.findIdx?_eq_some_iff_getElem.1 hx
  refine ⟨i,rfl,rfl,hi,?_⟩
  rw [List.getD_eq_getElem?_getD,List.getElem?_eq_getElem hi]; exact hp

structure PlayI (H:Hp) (b2 b4:Nat) (s:Slc) (o:List Int) (m:List Mg) (d:Slc) (H':Hp) (l:List Int) (left:List Mg) (es:Array MapEntry) (k:Nat):Prop where
 le:Hp.le H H'
 ms:Mine 1 fI 3 H H' s l
 md:Mine 4 fG T.api_Meeting H H' d left
 sd:Sep s d
 s2:Sep s (blS b2)
 s4:Sep s (blS b4)
 d2:Sep d (blS b2)
 d4:Sep d (blS b4)
 vr:Var H' b4 (.map (some b2)) T.map_int_int
 mp:MapF kI H' b2 (atF l) es k
 srt:sortG left
 nd:l.Nodup
 few:l.length≤64
 lot:left.length≤5000
 pl:playG left.length l left=playG m.length o m

set_option maxHeartbeats 4000000 in
theorem colPlay {H:Hp} {w u:Slc} {o:List Int} {m:List Mg} (ro:RdI H w o) (r:Rd 4 fG H u m) (ft:∀ x∈m,fitR x.1) :
  Go.Eng.Fn Try.prog F.collide_Play #[w.v,u.v] H fun v H'=>∃ s:Slc,v=.tuple #[s.v,.int .i64 (playM o m).2]∧Hp.le H H'∧Mine 1 fI 3 H H' s (playM o m).1:=by
 have wn:(w.n:Int)=o.length:=by have:=ro.len; omega
 refine collide_Play_vc ?_
 rw [wn]
 refine ⟨_,colCheck r ft,fun h=>?_,fun h=>⟨fun hb=>?_,fun hb b2 H3 hb2 hH3 b4 H5 hb4 hH5=>?_⟩⟩
 ·rw [playM_bad (nz0 h)]; exact ⟨zs,rfl,Hp.le_refl _,.inl ⟨rfl,rfl⟩⟩
 ·have hb:=of_decide_eq_true hb
  rw [playM_many (ez0 h) (by omega)]; exact ⟨zs,rfl,Hp.le_refl _,.inl ⟨rfl,rfl⟩⟩
 have h:=ez0 h
 have ok:=chkG_zero.1 h
 have few:=ok.few
 have hb:=of_decide_eq_false hb
 have hl64:¬ 64<o.length:=by omega
 have l3:Hp.le H H3:=Hp.le_new (Hp.le_refl _) hb2 hH3
 have l5:Hp.le H H5:=Hp.le_new l3 hb4 hH5
 have nb4:H b4=none:=by
  cases hx:H b4 with
  | none=>rfl
  | some x=>rw [l3 _ _ hx] at hb4; cases hb4
 have M3:=MapF.new (fk:=kI) hH3
 have hne:b2≠b4:=fun e=>by subst e; rw [M3.blk] at hb4; cases hb4
 have M5:=M3.le (Hp.le_new (Hp.le_refl _) hb4 hH5)
 have V5:Var H5 b4 (.map none) T.map_int_int:=Var.new hH5
 refine Var.set V5 (.map (some b2)) fun H6 hH6=>?_
 have l6:Hp.le H H6:=by subst hH6; exact Hp.le_put l5 nb4
 have V6:Var H6 b4 (.map (some b2)) T.map_int_int:=Var.new hH6
 have M6:MapF kI H6 b2 (atF []) #[] 0:=(M5.at (by rw [hH6,Hp.put_ne _ _ hne])).ext fun x=>by simp [atF,posN]
 refine ⟨fun n H'=>0≤n∧n≤o.length∧Hp.le H H'∧Var H' b4 (.map (some b2)) T.map_int_int∧(∃ es k,MapF kI H' b2 (atF (o.take n.toNat)) es k)∧ordG (o.take n.toNat),fun n _=>((o.length:Int)-n).toNat,⟨Int.le_refl _,by omega,l6,V6,⟨_,_,M6⟩,by simp [ordG]⟩,fun n H10 ⟨n0,n1,l10,V10,⟨es,k,M10⟩,og⟩=>⟨fun hn=>?_,fun hn=>?_⟩⟩
 ·have hn:n<o.length:=of_decide_eq_true hn
  have hin:n.toNat<o.length:=by omega
  have r10:=ro.le l10
  have q1:=keyI.lookOkF (t:=T.map_int_int) (e:=T.int) (z:=kI 0) (by kernel_rfl) (by kernel_rfl) (x:=o.getD n.toNat 0) M10
  rw [atF_get,atF_some] at q1
  refine ⟨r10.inS n0 hn,_,RdI.get r10 n0 hn,_,V10.at,_,_,q1,fun hc=>?_,fun hc=>?_⟩
  ·rw [playM_ord h hl64 fun ho=>?_]
   ·exact ⟨zs,rfl,l10,.inl ⟨rfl,rfl⟩⟩
   ·obtain ⟨⟨a1,a2⟩,a3⟩:=ordG_at ho hin
    simp only [Bool.or_eq_true,decide_eq_true_eq] at hc
    rcases hc with (hc | hc) | hc
    ·exact a3 hc
    ·omega
    ·omega
  ·simp only [Bool.or_eq_false_iff,decide_eq_false_iff_not] at hc
   obtain ⟨⟨c1,c2⟩,c3⟩:=hc
   have tl:(o.take n.toNat).length=n.toNat:=by rw [List.length_take]; omega
   refine ⟨_,V10.at,(keyI.putF (t:=T.map_int_int) (e:=T.int) (v:=kI n) (by kernel_rfl) M10).mono fun v16 H17 ⟨es',k',e17,M17⟩=>⟨v16,rfl,by unfold inI; omega,⟨by omega,by omega,?_,?_,⟨es',k',M17.ext fun y=>?_⟩,?_⟩,by dsimp only; omega⟩⟩
   ·subst e17; exact Hp.le_put l10 hb2
   ·subst e17; exact V10.ne fun e=>hne e.symm
   ·rw [show (n+1).toNat=n.toNat+1 by omega,take_snocI hin,atF_snoc c1,tl,Int.toNat_of_nonneg n0]
   ·rw [show (n+1).toNat=n.toNat+1 by omega,take_snocI hin]
    exact ordG_snoc og c1 (by omega) (by omega)
 have hn:¬ n<o.length:=of_decide_eq_false hn
 rw [show n.toNat=o.length by omega,List.take_length] at M10 og
 refine (clone_int (ro.le l10) (by omega)).mono fun v19 H20 ⟨s,hv,l20,m20⟩=>⟨s,hv,?_⟩
 have l020:=Hp.le_trans l10 l20
 refine (cloneG (r.le l020) (by omega)).mono fun v22 H23 ⟨d0,hv,l23,m23⟩=>⟨d0,hv,?_⟩
 have o2:Old H10 (blS b2):=blS_old M10.blk
 have o4:Old H10 (blS b4):=blS_old V10
 refine ⟨fun d H'=>∃ l left es k,PlayI H b2 b4 s o m d H' l left es k,fun d _=>d.n,
  ⟨o,m,es,k,⟨Hp.le_trans l020 l23,(m20.le l23).low l10,m23.low l020,Sep.of m20.isOld m23.isNew,(Sep.of o2 m20.isNew).symm,(Sep.of o4 m20.isNew).symm,(Sep.of (o2.le l20) m23.isNew).symm,(Sep.of (o4.le l20) m23.isNew).symm,(V10.le l20).le l23,(M10.le l20).le l23,ok.srt,og.2,by omega,by omega,rfl⟩⟩,?_⟩
 rintro d H28 ⟨l,left,es,k,I⟩
 have rd28:=I.md.rdG
 have dn:d.n=left.length:=rd28.len
 refine ⟨fun hn=>?_,fun hn=>?_⟩
 ·have hn:=of_decide_eq_true hn
  have hpos:0<left.length:=by omega
  obtain ⟨t,ht⟩:∃ t,t=(left.getD 0 zMg).1:=⟨_,rfl⟩
  have g0:=RdG.gA rd28 (i:=0) (by omega) (by omega)
  have g0':H28.at (eaddr d.a 4 0)=some (.int .i64 t.1)∧H28.at ((eaddr d.a 4 0).add 1)=some (.int .i64 t.2):=by rw [ht]; exact g0
  refine ⟨rd28.inS (by omega) (by omega),_,_,g0',fun b31 H32 hb31 hH32=>?_⟩
  have C32:Cel H32 b31 #[.int .i64 0,.int .i64 0] T.api_Ratio:=by subst hH32; exact Cel.put
  obtain ⟨can,sto⟩:=storeAll C32 [.int .i64 t.1,.int .i64 t.2] rfl
  refine ⟨can,fun H33 hH33=>?_⟩
  rw [sto] at hH33
  have C33:Cel H33 b31 #[.int .i64 t.1,.int .i64 t.2] T.api_Ratio:=by subst hH33; exact Cel.put
  have l33:Hp.le H28 H33:=by subst hH33; exact Hp.le_put (Hp.le_new (Hp.le_refl _) hb31 hH32) hb31
  have V33:=I.vr.le l33
  have M33:=I.mp.le l33
  have rd33:=rd28.le l33
  have ms33:=I.ms.le l33
  have md33:=I.md.le l33
  have le33:=Hp.le_trans I.le l33
  have hf:∀ x∈left,QfV Try.prog (.func (.func F.collide_Play_1) #[] #[.pointer (some ⟨b4,0,none⟩),.pointer (some ⟨b31,0,none⟩)]) [mgV x] H33 (.bool (rdyG l t x)):=fun x hx =>
   ⟨_,#[],_,rfl,collide_Play_1_callable,colPlay1 V33 M33 C33 I.few⟩
  have qi:=idxMeeting rd33 hf (by have:=I.lot; omega)
  refine ⟨_,qi,fun hi=>?_,fun hi=>?_⟩
  ·have hi:=fiI_neg (of_decide_eq_true hi)
   have hp:playG m.length o m=none:=by
    rw [← I.pl,playG_go (n:=left.length-1) (by omega),← ht,hi]
   rw [playM_none h hl64 og hp]
   exact ⟨zs,rfl,le33,.inl ⟨rfl,rfl⟩⟩
  ·obtain ⟨i,e1,e2,hil,hrd⟩:=fiI_pos (of_decide_eq_false hi)
   rw [e1]
   have gi:=RdG.get rd33 (i:=(i:Int)) (by omega) (by omega)
   rw [Int.toNat_natCast] at gi
   obtain ⟨y,hy⟩:∃ y,y=left.getD i zMg:=⟨_,rfl⟩
   rw [← hy] at gi hrd
   have gy:goodG y:=by rw [hy]; exact I.srt.1 _ (getG_mem hil)
   obtain ⟨ya,yb⟩:=rdyG_in hrd
   have yne:y.2.1≠y.2.2:=by have:=gy.2.2.1; omega
   have pa:=posG_lt.2 ya
   have pb:=posG_lt.2 yb
   have hfew:=I.few
   have hpl:playG m.length o m=playG (left.eraseIdx i).length (swapI l (posG l y.2.1) (posG l y.2.2)) (left.eraseIdx i):=by
    rw [← I.pl,playG_go (n:=left.length-1) (by omega),← ht,e2]
    simp only
    rw [hy]
   have q1:=keyI.lookF (t:=T.map_int_int) (e:=T.int) (z:=kI 0) (by kernel_rfl) (by kernel_rfl) (x:=y.2.1) M33
   have q2:=keyI.lookF (t:=T.map_int_int) (e:=T.int) (z:=kI 0) (by kernel_rfl) (by kernel_rfl) (x:=y.2.2) M33
   rw [atF_get,posN_in ya,Option.getD_some] at q1
   rw [atF_get,posN_in yb,Option.getD_some] at q2
   have f1:=RdI.get ms33.rdI (i:=(posG l y.2.2:Int)) (by omega) (by omega)
   have f2:=RdI.get ms33.rdI (i:=(posG l y.2.1:Int)) (by omega) (by omega)
   rw [Int.toNat_natCast] at f1 f2
   have is1:=ms33.rdI.inS (i:=(posG l y.2.1:Int)) (by omega) (by omega)
   have is2:=ms33.rdI.inS (i:=(posG l y.2.2:Int)) (by omega) (by omega)
   refine ⟨rd33.inS (by omega) (by omega),_,_,_,_,gi,_,V33.at,_,q1,_,V33.at,_,q2,is2,_,f1,is1,_,f2,is1,?_⟩
   refine Mine.setI ms33 (by omega) (by omega) _ fun H45 m45 c45=>⟨is2,?_⟩
   refine Mine.setI m45 (by omega) (by rw [List.length_set]; omega) _ fun H46 m46 c46=>?_
   rw [Int.toNat_natCast,Int.toNat_natCast] at m46
   have m46:Mine 1 fI 3 H H46 s (swapI l (posG l y.2.1) (posG l y.2.2)):=m46
   have V46:=(V33.chg c45 (sep_bl I.s4)).chg c46 (sep_bl I.s4)
   have M46:=(M33.chg c45 (sep_bl I.s2)).chg c46 (sep_bl I.s2)
   have md46:=(md33.chg c45 I.sd.symm).chg c46 I.sd.symm
   have l46:Hp.le H H46:=Hp.le_chg (Hp.le_chg le33 c45 I.ms.isNew) c46 I.ms.isNew
   have put1:=keyI.putF (t:=T.map_int_int) (e:=T.int) (x:=y.2.1) (v:=kI (posG l y.2.2:Int)) (by kernel_rfl) M46
   have core:∀ H50 es1 k1,H50=H46.put b2 (.map es1 k1)→MapF kI H50 b2 (updM (atF l) y.2.1 (kI (posG l y.2.2:Int))) es1 k1 →
     Var H50 b4 (.map (some b2)) T.map_int_int∧OpSem Try.prog (semU (Instr.mapUpdate 53 (Value.map (some b2)) (Value.int .i64 y.2.2) (Value.int .i64 (posG l y.2.1:Int)))) H50 fun v52 H53=>∃ v54:Value,v52=v54 ∧
      inI ((i:Int)+1)∧Go.Eng.Fn Try.prog F.slices_Delete_api_Meeting_api_Meeting #[d.v,Value.int .i64 (i:Int),Value.int .i64 ((i:Int)+1)] H53 fun v55 H56=>∃ u57:Slc,v55=u57.v ∧
       (∃ l left es k,PlayI H b2 b4 s o m u57 H56 l left es k)∧u57.n<d.n:=fun H50 es1 k1 e50 M50=>by
    have V50:Var H50 b4 (.map (some b2)) T.map_int_int:=by subst e50; exact V46.ne fun e=>hne e.symm
    have l50:Hp.le H H50:=by subst e50; exact Hp.le_put l46 hb2
    have low:∀ {k0:Nat} {α:Type} {f:α→List Value} {e:TypeId} {a:Slc} {xs:List α} {H1:Hp} {es0:Array MapEntry} {n0:Nat},Mine k0 f e H H1 a xs→Sep a (blS b2)→Mine k0 f e H (H1.put b2 (.map es0 n0)) a xs:=fun {k0 α f e a xs H1 es0 n0} hm hs =>
     hm.chg (v:=blS b2) (fun c _ hc=>Hp.put_ne _ _ fun e=>hc ⟨b2,0,none⟩ rfl e.symm) hs
    have m50:Mine 1 fI 3 H H50 s (swapI l (posG l y.2.1) (posG l y.2.2)):=by subst e50; exact low m46 I.s2
    have d50:Mine 4 fG T.api_Meeting H H50 d left:=by subst e50; exact low md46 I.d2
    refine ⟨V50,(keyI.putF (t:=T.map_int_int) (e:=T.int) (x:=y.2.2) (v:=kI (posG l y.2.1:Int)) (by kernel_rfl) M50).mono fun v52 H53 ⟨es2,k2,e53,M53⟩=>⟨v52,rfl,by have:=I.lot; unfold inI; omega,?_⟩⟩
    have V53:Var H53 b4 (.map (some b2)) T.map_int_int:=by subst e53; exact V50.ne fun e=>hne e.symm
    have l53:Hp.le H H53:=by subst e53; exact Hp.le_put l50 hb2
    have m53:Mine 1 fI 3 H H53 s (swapI l (posG l y.2.1) (posG l y.2.2)):=by subst e53; exact low m50 I.s2
    have d53:Mine 4 fG T.api_Meeting H H53 d left:=by subst e53; exact low d50 I.d2
    have M53':MapF kI H53 b2 (atF (swapI l (posG l y.2.1) (posG l y.2.2))) es2 k2:=M53.ext fun x=>atF_swap I.nd ya yb yne x
    refine (deleteG l53 d53 (i:=(i:Int)) (by omega) (by omega)).mono fun v55 H56 ⟨d',hv,l56,md,c,x⟩=>⟨d',hv,?_,?_⟩
    ·rw [Int.toNat_natCast] at md
     have os:Old H53 s:=m53.isOld
     refine ⟨_,left.eraseIdx i,es2,k2,⟨l56,m53.chg c I.sd,md,(I.sd.symm.ext os x).symm,I.s2,I.s4,I.d2.ext (blS_old M53.blk) x,I.d4.ext (blS_old V53) x,V53.chg c (sep_bl I.d4),M53'.chg c (sep_bl I.d2),I.srt.erase i,swapI_nodup I.nd pa pb,by rw [swapI_len]; exact hfew,by have:=I.lot; rw [List.length_eraseIdx_of_lt hil]; omega,hpl.symm⟩⟩
    ·have:=md.rdG.len
     rw [Int.toNat_natCast,List.length_eraseIdx_of_lt hil] at this
     omega
   refine ⟨_,V46.at,⟨_,V46.at,put1.mono fun v49 H50 ⟨es1,k1,e50,M50⟩=>⟨v49,rfl,(core H50 es1 k1 e50 M50).2⟩⟩,put1.mono fun v58 H59 ⟨es1,k1,e50,M50⟩=>⟨v58,rfl,_,(core H59 es1 k1 e50 M50).1.at,(core H59 es1 k1 e50 M50).2⟩⟩
 ·have hn:=of_decide_eq_false hn
  have hz:left=[]:=List.eq_nil_of_length_eq_zero (by omega)
  have hp:playG m.length o m=some l:=by rw [← I.pl,hz]; exact playG_nil _ _
  rw [playM_some h hl64 og hp]
  exact ⟨s,rfl,I.le,I.ms⟩
end Go.Proofs.Ytnldicbalihomaa
