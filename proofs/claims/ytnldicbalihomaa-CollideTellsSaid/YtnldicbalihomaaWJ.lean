/- The law CollideTells. Conditions: none. -/
import Derived.Test.YtnldicbalihomaaWI
import Derived.Test.YtnldicbalihomaaVgCollide
import Derived.Test.YtnldicbalihomaaVgKlist
import Derived.Test.YtnldicbalihomaaVgLCollideTells
import Derived.Test.YtnldicbalihomaaVgR04
import Derived.Test.YtnldicbalihomaaFs
set_option linter.unusedVariables false
set_option maxRecDepth 100000
open Go Go.Eng Go.Proofs
namespace Go.Proofs.Ytnldicbalihomaa

theorem sameMg {H:Hp} {a b:Slc} {xs:List Mg} (ha:Rd 4 fG H a xs) (hb:Rd 4 fG H b xs) (h63:xs.length≤1000000000):Qf Try.prog F.pelotonref04_Same #[a.v,b.v] H (.bool true):=by
 have la:=ha.len; have lb:=hb.len
 have an:(a.n:Int)=xs.length:=by omega
 refine pelotonref04_Same_vc ⟨fun hc=>?_,fun hc=>?_⟩
 ·have hc:=bne_iff_ne.1 hc; omega
 rw [an]
 refine upto (N:=(xs.length:Int)) (J:=fun _=>True) (by omega) trivial fun n h0 h1 _=>⟨fun hn=>?_,fun hn=>⟨rfl,Hp.le_refl _⟩⟩
 have hn:n<xs.length:=of_decide_eq_true hn
 have ga:=RdG.get ha h0 hn
 have gb:=RdG.get hb h0 hn
 refine ⟨ha.inS h0 hn,_,_,_,_,ga,hb.inS h0 hn,_,_,_,_,gb,fun hc=>?_,fun hc=>upto.nx h0 hn (by omega) trivial⟩
 simp at hc
theorem sameTi {H:Hp} {a b:Slc} {xs:List (Int × Int)} (ha:Rd 2 fQ H a xs) (hb:Rd 2 fQ H b xs) (h63:xs.length≤1000000000):Qf Try.prog F.pelotonref25_SameTimes #[a.v,b.v] H (.bool true):=by
 have la:=ha.len; have lb:=hb.len
 have an:(a.n:Int)=xs.length:=by omega
 refine pelotonref25_SameTimes_vc ⟨fun hc=>?_,fun hc=>?_⟩
 ·have hc:=bne_iff_ne.1 hc; omega
 rw [an]
 refine upto (N:=(xs.length:Int)) (J:=fun _=>True) (by omega) trivial fun n h0 h1 _=>⟨fun hn=>?_,fun hn=>⟨rfl,Hp.le_refl _⟩⟩
 have hn:n<xs.length:=of_decide_eq_true hn
 have ga:=RdQ.get ha h0 hn
 have gb:=RdQ.get hb h0 hn
 refine ⟨ha.inS h0 hn,_,_,ga,hb.inS h0 hn,_,_,gb,fun hc=>?_,fun hc=>upto.nx h0 hn (by omega) trivial⟩
 simp at hc
theorem sameIDs' {H:Hp} {a b:Slc} {xs:List Int} (ha:RdI H a xs) (hb:RdI H b xs) (h63:xs.length≤1000000000):Qf Try.prog F.pelotonref03_SameIDs #[a.v,b.v] H (.bool true):=by
 have q:=sameIDs ha hb h63
 rwa [beq_self_eq_true] at q
theorem timesM_len (m:List Mg) (h:m.length≤1000000):(timesM m).1.length≤1000000∧(timesM m).2.length≤1000000:=by
 unfold timesM
 split
 ·have:=timesN_len m m.length; omega
 ·simp
theorem ofM_len (m:List Mg) (id:Int):(ofM m id).length≤m.length:=by
 unfold ofM
 split
 ·exact ofG_lenle m id
 ·simp
theorem playG_len:∀ (n:Nat) {l r:List Int} {left:List Mg},playG n l left=some r→r.length=l.length
 | 0,l,r,left,h=>by cases h; rfl
 | n+1,l,r,left,h=>by
  have h:(if left.length=0 then some l else match left.findIdx? (rdyG l (left.getD 0 zMg).1) with
   | none=>none
   | some i=>playG n (swapI l (posG l (left.getD i zMg).2.1) (posG l (left.getD i zMg).2.2)) (left.eraseIdx i))=some r:=h
  split at h
  ·cases h; rfl
  ·split at h
   ·cases h
   ·rw [playG_len n h,swapI_len]
theorem playM_small (o:List Int) (m:List Mg):(playM o m).1.length≤1000000:=by
 unfold playM
 split
 ·split
  ·simp
  ·split
   ·split
    ·rename_i h; have:=playG_len _ h; simp only; omega
    ·simp
   ·simp
 ·simp

set_option maxHeartbeats 2000000 in
theorem collideTells {H:Hp} {w u:Slc} {id:Int} {o:List Int} {m:List Mg} (ro:RdI H w o) (r:Rd 4 fG H u m) (ft:∀ x∈m,fitR x.1) :
  Qf Try.prog F.pelotonlaw29_CollideTells #[u.v,.int .i64 id,w.v] H (.bool true):=by
 have wn:(w.n:Int)=o.length:=by have:=ro.len; omega
 have un:(u.n:Int)=m.length:=by have:=r.len; omega
 refine pelotonlaw29_CollideTells_vc ⟨_,pelotonref29_Great_vc ⟨rfl,Hp.le_refl _⟩,fun _=>⟨rfl,Hp.le_refl _⟩,fun hc=>?_⟩
 simp only [Bool.or_eq_false_iff,decide_eq_false_iff_not] at hc
 obtain ⟨⟨_,c1⟩,c2⟩:=hc
 have hm:m.length≤1000000:=by omega
 have ho:o.length≤1000000:=by omega
 intro b2 H3 hb2 hH3
 refine (copy_ok (k:=4) (f:=fG) (bytes:=32) (e:=T.api_Meeting) (by kernel_rfl) (by decide) (fun _=>rfl) fG_one hb2 hH3 r (by omega) (by omega)).mono fun v4 H5 ⟨a,hv,l5,ma⟩=>⟨a,hv,fun b7 H8 hb7 hH8=>?_⟩
 refine (copy_ok (k:=1) (f:=fI) (bytes:=8) (e:=3) (by kernel_rfl) (by decide) (fun _=>rfl) fI_one hb7 hH8 (ro.le l5) (by omega) (by omega)).mono fun v9 H10 ⟨b,hv,l10,mb⟩=>⟨b,hv,?_⟩
 have L10:=Hp.le_trans l5 l10
 have ra:=ma.rdG.le l10
 have rb:=mb.rdI
 refine (colOf (id:=id) (r.le L10) ft).mono fun v12 H13 ⟨s1,hv,l13,m1⟩=>⟨s1,_,hv,?_⟩
 refine (refOf (id:=id) (ra.le l13) ft).mono fun v16 H17 ⟨s2,hv,l17,m2⟩=>⟨s2,_,hv,?_⟩
 have l1017:=Hp.le_trans l13 l17
 refine (colTimes (r.le (Hp.le_trans L10 l1017)) ft).mono fun v20 H21 ⟨t1,n1,hv,T1⟩=>⟨t1,n1,_,hv,?_⟩
 have l1021:=Hp.le_trans l1017 T1.le
 refine (refTimes (ra.le l1021) ft).mono fun v25 H26 ⟨t2,n2,hv,T2⟩=>⟨t2,n2,_,hv,?_⟩
 have l1026:=Hp.le_trans l1021 T2.le
 refine ⟨_,_,_,colMost (r.le (Hp.le_trans L10 l1026)) ft,_,_,_,refMost (ra.le l1026) ft,?_⟩
 refine (colPlay (ro.le (Hp.le_trans L10 l1026)) (r.le (Hp.le_trans L10 l1026)) ft).mono fun v36 H37 ⟨p1,hv,l37,mp1⟩=>⟨p1,_,hv,?_⟩
 have l1037:=Hp.le_trans l1026 l37
 refine (refPlay (rb.le l1037) (ra.le l1037) ft).mono fun v40 H41 ⟨p2,hv,l41,mp2⟩=>⟨p2,_,hv,?_⟩
 have l1041:=Hp.le_trans l1037 l41
 have l2641:=Hp.le_trans l37 l41
 have l2141:=Hp.le_trans T2.le l2641
 have l1741:=Hp.le_trans T1.le l2141
 have u41:=r.le (Hp.le_trans L10 l1041)
 have a41:=ra.le l1041
 have w41:=ro.le (Hp.le_trans L10 l1041)
 have b41:=rb.le l1041
 have so:=ofM_len m id
 obtain ⟨st1,st2⟩:=timesM_len m hm
 have sp:=playM_small o m
 refine ⟨_,colCheck u41 ft,_,refCheckG a41 ft,true,fun _=>sameMg (m1.rdG.le (Hp.le_trans l17 l1741)) (m2.rdG.le l1741) (by omega),true,fun _=>sameTi (T1.ma.rdQ.le l2141) (T2.ma.rdQ.le l2641) (by omega),true,fun _=>sameIDs' (T1.mb.rdI.le l2141) (T2.mb.rdI.le l2641) (by omega),fun h=>by simp at h,fun _=>?_⟩
 refine ⟨true,fun _=>sameIDs' (mp1.rdI.le l41) mp2.rdI (by omega),true,fun _=>sameMg u41 a41 (by omega),true,fun _=>sameIDs' w41 b41 (by omega),by simp,Hp.le_trans L10 l1041⟩
end Go.Proofs.Ytnldicbalihomaa
