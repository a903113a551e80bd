/- The engine, parts HB, HC, HD, HE, put together. Conditions: none. -/
import Derived.Test.YtjhbjjdipmpgjaaGreatPH2
import Derived.Test.YtjhbjjdipmpgjaaGreatVgBase
import Derived.Test.YtjhbjjdipmpgjaaGreatVgLedit
import Derived.Test.YtjhbjjdipmpgjaaGreatFs
set_option linter.unusedVariables false
section
/- The reference's Put, Without; opened, shut. Conditions: none. -/
set_option maxRecDepth 100000
open Go Go.Eng Go.Proofs
namespace Go.Proofs.YtjhbjjdipmpgjaaGreat

theorem ref26Opened {H:Hp} {u:Slc} {xs:List Int} {i:Nat} {x:Int} (r:RdI H u xs) (hi:i≤xs.length) (hl:xs.length≤1000000) :
  Go.Eng.Fn Tryz.prog F.pelotonref26_opened #[u.v,.int .i64 (i:Int),.int .i64 x] H fun v H'=>∃ w:Slc,v = w.v∧Hp.le H H'∧RdI H' w (insI xs i x):=by
 have ln:=r.len; have cp:=r.cap
 refine pelotonref26_opened_vc ⟨⟨by omega,by omega,by omega,by omega⟩,⟨by omega,by omega,by omega,by omega⟩,fun b1 H2 hb1 hH2=>?_⟩
 rw [slcCut,Int.toNat_natCast]
 have l2:Hp.le H H2:=Hp.le_new (Hp.le_refl _) hb1 hH2
 have r1:RdI H ⟨u.a,i,u.c⟩ (xs.take i):=Rd.cut r hi (by omega)
 have tl:(xs.take i).length = i:=by rw [List.length_take]; omega
 refine (copy_ok (k:=1) (f:=fI) (bytes:=8) (e:=3) (by kernel_rfl) (by decide) (fun _=>rfl) fI_one hb1 hH2 r1 (by omega) (by omega)).mono fun v H4 ⟨w,hv,l4,m4⟩=>⟨w,hv,fun b6 H7 hb6 hH7=>?_⟩
 refine (append1 (k:=1) (f:=fI) (bytes:=8) (x:=x) (by kernel_rfl) (by decide) (fun _=>rfl) fI_one l4 m4 hb6 hH7 rfl (by omega) (by omega)).mono fun v H9 ⟨w2,hv,l9,m9,_,_⟩=>⟨w2,hv,?_⟩
 have r2:=(r.le l9).sub (l:=(i:Int)) (hi:=(u.n:Int)) (m:=(u.c:Int)) (by omega) (by omega) (by omega) (by omega)
 rw [Int.toNat_natCast,Int.toNat_natCast,Int.toNat_natCast,ln,List.take_length] at r2
 have hK:Tryz.prog.cellsOf 3 = 1:=by kernel_rfl
 have ev:Value.slice (subA u.a 1 (i:Int) (u.c:Int)) ((u.n:Int).toNat - i) ((u.c:Int).toNat - i) = (⟨subA u.a 1 (i:Int) (u.c:Int),xs.length - i,u.c - i⟩:Slc).v:=by simp [Slc.v,ln]
 rw [hK,ev]
 refine (append_any (k:=1) (f:=fI) (bytes:=8) (q:=⟨subA u.a 1 (i:Int) (u.c:Int),xs.length - i,u.c - i⟩) (by kernel_rfl) (by decide) (fun _=>rfl) fI_one l9 m9 r2 (by simp; omega) (by simp; omega)).mono fun v H12 ⟨w3,hv,l12,m12,_,_⟩=>⟨w3,hv,w3,rfl,l12,?_⟩
 have:=m12.rdI
 rw [List.append_assoc] at this
 exact this
def partP (f:List Pt) (p:Pt) (n:Nat):List Pt:=if lowF f p.1 < n then f.take (lowF f p.1)++p :: (f.drop (lowF f p.1)).take (n - lowF f p.1) else f.take n
set_option maxHeartbeats 1000000 in
theorem ref03Put {H:Hp} {u:Slc} {f:List Pt} {p:Pt} (hf:Rd 3 fD H u f) :
    Go.Eng.Fn Tryz.prog F.pelotonref03_Put #[vFd u,.agg #[.int .i64 p.1,.int .i64 p.2.1,.int .i64 p.2.2]] H fun v H'=>∃ w:Slc,v = .tuple #[vFd w,.int .i64 (putF f p).2]∧Hp.le H H'∧Rd 3 fD H' w (putF f p).1:=by
  have lu:=hf.len
  unfold putF
  refine pelotonref03_Put_vc ⟨_,refFCheck hf,fun h=>?_,fun h=>⟨_,refPCheck,fun h2=>?_,fun h2=>?_⟩⟩
  · have h:chkF f≠0:=by simpa using h
    rw [if_pos h]; exact ⟨⟨none,0,0⟩,rfl,Hp.le_refl _,Rd.nil⟩
  · have h:chkF f = 0:=by simpa using h
    have h2:¬ okP p:=fun op=>by rw [chkP_ok op] at h2; simp at h2
    rw [if_neg (by rw [h]; simp),if_pos h2]; exact ⟨⟨none,0,0⟩,rfl,Hp.le_refl _,Rd.nil⟩
  have h:chkF f = 0:=by simpa using h
  have h2:okP p:=chkP_zero.1 (by simpa using h2)
  have of:=chkF_zero.1 h
  have lf:=of.len
  rw [if_neg (by rw [h]; simp),if_neg (by simpa using h2)]
  refine ⟨_,refFAt hf (by omega),fun hb=>?_,fun hb=>?_⟩
  · have hb:0≤posF f p.1:=by simpa using hb
    rw [if_pos hb]; exact ⟨⟨none,0,0⟩,rfl,Hp.le_refl _,Rd.nil⟩
  have hb:¬ 0≤posF f p.1:=by simpa using hb
  rw [if_neg hb,lu]
  refine ⟨fun hc=>?_,fun hc=>?_⟩
  · have hc:f.length = 64:=by have:(f.length:Int) = 64:=by simpa using hc
                              omega
    rw [if_pos hc]; exact ⟨⟨none,0,0⟩,rfl,Hp.le_refl _,Rd.nil⟩
  have hc:f.length≠64:=by have:¬ (f.length:Int) = 64:=by simpa using hc
                          omega
  rw [if_neg hc]
  have hlow:lowF f p.1≤f.length:=by
    have:=posI_le (f.map (·.1)) p.1
    rw [List.length_map] at this; exact this
  have before:∀ i x,i < lowF f p.1→f[i]? = some x→x.1 < p.1:=fun i x hi hx=>posI_lt (l:=f.map (·.1)) (t:=p.1) (i:=i) (by unfold lowF at hi; omega) (by rw [List.getElem?_map,hx]; rfl)
  have behind:∀ i x,lowF f p.1≤i→f[i]? = some x→p.1 < x.1:=fun i x hi hx=>by
    have h1:=posI_ge of.inc (t:=p.1) (i:=i) (x:=x.1) (by unfold lowF at hi; omega) (by rw [List.getElem?_map,hx]; rfl)
    have:=posF_no (f:=f) (id:=p.1) (by omega) x (List.mem_of_getElem? hx)
    omega
  have hpl:∀ n,(partP f p n).length≤100000000:=fun n=>by
    unfold partP
    split
    · simp only [List.length_append,List.length_take,List.length_cons,List.length_drop]; omega
    · rw [List.length_take]; omega
  refine ⟨fun c n w H'=>0≤n∧n≤f.length∧Hp.le H H'∧c = decide (lowF f p.1 < n.toNat)∧Mine 3 fD T.api_Point H H' w (partP f p n.toNat),fun _ n _ _=>(f.length - n).toNat,⟨Int.le_refl _,by omega,Hp.le_refl _,rfl,.inl ⟨rfl,rfl⟩⟩,fun c n w H9 ⟨n0,n1,l9,ec,m9⟩=>?_⟩
  subst ec
  refine ⟨fun hn=>?_,fun hn=>?_⟩
  · have hn:n < f.length:=by have:n < (f.length:Int):=by simpa using hn
                             omega
    have hg:=getX (d:=((0:Int),(0:Int),(0:Int))) n0 hn
    have h3:=(hf.le l9).gD n0 hn
    have hs:=(hf.le l9).inS n0 hn
    rw [lu] at hs
    have bf:=fun h=>before n.toNat _ h hg
    have bh:=fun h=>behind n.toNat _ h hg
    generalize f.getD n.toNat (0,0,0) = x at *
    have e1:(n + 1).toNat = n.toNat + 1:=by omega
    refine ⟨fun _=>hs,_,fun _=>h3.1,fun hcc=>?_,fun hcc=>?_⟩
    · have hlw:lowF f p.1 = n.toNat:=by
        simp only [Bool.and_eq_true,Bool.not_eq_true',decide_eq_false_iff_not,decide_eq_true_eq] at hcc
        rcases Nat.lt_or_ge n.toNat (lowF f p.1) with h | h
        · have:=bf h; omega
        · omega
      have ep:partP f p n.toNat = f.take n.toNat:=by unfold partP; rw [if_neg (by omega)]
      have ep1:partP f p (n.toNat + 1) = (f.take n.toNat++[p])++[x]:=by
        unfold partP
        rw [if_pos (by omega),hlw,show n.toNat + 1 - n.toNat = 1 by omega,List.append_assoc]
        congr 1
        show p :: (f.drop n.toNat).take 1 = [p,x]
        have hd:(f.drop n.toNat)[0]? = some x:=by rw [List.getElem?_drop]; exact hg
        rw [take_succ hd]; rfl
      have hl1:(f.take n.toNat++[p]).length≤100000000:=by simp; omega
      rw [ep] at m9
      refine fun b11 H12 hb11 hH12=>(append1 (k:=3) (f:=fD) (bytes:=24) (x:=p) (by kernel_rfl) (by decide) (fun _=>rfl) fD_one l9 m9 hb11 hH12 rfl (by rw [List.length_take]; omega) (by omega)).mono fun v H14 ⟨w2,hw,l14,m14,_,_⟩=>⟨w2,hw,?_⟩
      have h4:=(hf.le l14).gD n0 hn
      have hs4:=(hf.le l14).inS n0 hn
      rw [lu] at hs4
      have hgd:f.getD n.toNat (0,0,0) = x:=by rw [List.getD_eq_getElem?_getD,hg]; rfl
      rw [hgd] at h4
      refine ⟨hs4,_,_,_,h4,fun b19 H20 hb19 hH20=>(append1 (k:=3) (f:=fD) (bytes:=24) (x:=x) (by kernel_rfl) (by decide) (fun _=>rfl) fD_one l14 m14 hb19 hH20 rfl hl1 (by omega)).mono fun v H22 ⟨w3,hw,l22,m22,_,_⟩=>⟨w3,hw,by unfold inI; omega,⟨by omega,by omega,l22,?_,?_⟩,by show ((f.length:Int) - (n + 1)).toNat < ((f.length:Int) - n).toNat; omega⟩⟩
      · rw [decide_eq_true (by omega)]
      · rw [e1,ep1]; exact m22
    · have ed:decide (lowF f p.1 < n.toNat) = decide (lowF f p.1 < (n + 1).toNat)∧partP f p (n.toNat + 1) = partP f p n.toNat++[x]:=by
        unfold partP
        rcases Nat.lt_or_ge (lowF f p.1) n.toNat with h | h
        · rw [decide_eq_true h,decide_eq_true (by omega),if_pos h,if_pos (by omega),show n.toNat + 1 - lowF f p.1 = (n.toNat - lowF f p.1) + 1 by omega]
          refine ⟨rfl,?_⟩
          have hd:(f.drop (lowF f p.1))[n.toNat - lowF f p.1]? = some x:=by rw [List.getElem?_drop,show lowF f p.1 + (n.toNat - lowF f p.1) = n.toNat by omega]; exact hg
          rw [take_succ hd,List.append_assoc,List.cons_append]
        · rcases Nat.eq_or_lt_of_le h with h' | h'
          · exfalso
            have:=bh (by omega)
            have:(!decide (lowF f p.1 < n.toNat)&&decide (x.1 > p.1)) = true:=by
              simp only [Bool.and_eq_true,Bool.not_eq_true',decide_eq_false_iff_not,decide_eq_true_eq]; omega
            rw [this] at hcc; cases hcc
          · rw [decide_eq_false (by omega),decide_eq_false (by omega),if_neg (by omega),if_neg (by omega)]
            exact ⟨rfl,take_succ hg⟩
      refine ⟨hs,_,_,_,h3,fun b27 H28 hb27 hH28=>(append1 (k:=3) (f:=fD) (bytes:=24) (x:=x) (by kernel_rfl) (by decide) (fun _=>rfl) fD_one l9 m9 hb27 hH28 rfl (hpl _) (by omega)).mono fun v H30 ⟨w3,hw,l30,m30,_,_⟩=>⟨w3,hw,by unfold inI; omega,⟨by omega,by omega,l30,ed.1,?_⟩,by show ((f.length:Int) - (n + 1)).toNat < ((f.length:Int) - n).toNat; omega⟩⟩
      rw [e1,ed.2]; exact m30
  · have hn:n = f.length:=by have:¬ n < (f.length:Int):=by simpa using hn
                             omega
    subst hn
    rw [Int.toNat_natCast] at m9 ⊢
    refine ⟨fun hc=>?_,fun hc=>?_⟩
    · have hc:¬ lowF f p.1 < f.length:=by simpa using hc
      have ep:partP f p f.length = f.take f.length:=by unfold partP; rw [if_neg hc]
      have ei:insF f p = f.take f.length++[p]:=by
        unfold insF
        rw [show lowF f p.1 = f.length by omega,List.drop_length]
      rw [ep] at m9
      rw [ei]
      exact fun b32 H33 hb32 hH33=>(append1 (k:=3) (f:=fD) (bytes:=24) (x:=p) (by kernel_rfl) (by decide) (fun _=>rfl) fD_one l9 m9 hb32 hH33 rfl (by rw [List.length_take]; omega) (by omega)).mono fun v H35 ⟨w3,hw,l35,m35,_,_⟩=>⟨w3,hw,w3,rfl,l35,m35.rdD⟩
    · have hc:lowF f p.1 < f.length:=by simpa using hc
      have ep:partP f p f.length = insF f p:=by
        unfold partP insF
        have e:(f.drop (lowF f p.1)).take (f.length - lowF f p.1) = f.drop (lowF f p.1):=List.take_of_length_le (by rw [List.length_drop]; omega)
        rw [if_pos hc,e]
      rw [ep] at m9
      exact ⟨w,rfl,l9,m9.rdD⟩

theorem permPosM {l:Ls} {lo hi:Nat} (m:Mid l lo hi):∀ x∈l.ord,0≤posF l.ck.f x:=fun _ hx=>permPos m.ck.f m.perm hx

set_option maxHeartbeats 1000000 in
theorem refPutTail {H0 H:Hp} {u:Lu} {l:Ls} {rk ln:Nat} {post:Value→Hp→Prop} (r:RdL H u l) (l0:Hp.le H0 H) (m:Mid l (rk - 1) (min (rk + 1) ln)) (eln:l.num.length = ln)
    (hpost:∀ (v:Value) (H':Hp) (w:Lu),v = .tuple #[lsV w (makesN l (rk - 1) (min (rk + 1) ln - (rk - 1))).1,.int .i64 (makesN l (rk - 1) (min (rk + 1) ln - (rk - 1))).2]→Hp.le H0 H'→RdL H' w (makesN l (rk - 1) (min (rk + 1) ln - (rk - 1))).1→post v H') :
     inI ((rk:Int) - 1)∧∃ (I55:Int→Int→Int→Slc→Int→Slc→Slc→Slc→Slc→Slc→Slc→Slc→Slc→Slc→Hp→Prop),∃ (m56:Int→Int→Int→Slc→Int→Slc→Slc→Slc→Slc→Slc→Slc→Slc→Slc→Slc→Hp→Nat),I55 (if (rk:Int) - 1 > 0 then (rk:Int) - 1 else 0) l.ck.now.1
      l.ck.now.2 u.k.f l.ck.ct.next u.k.cl u.k.u1 u.k.u2 u.k.u3 u.k.u4 u.k.u5 u.k.d u.o u.n H∧∀ (n57 n58 n59:Int) (u60:Slc) (n61:Int) (u62 u63 u64 u65 u66 u67 u68 u69 u70:Slc) (H71:Hp),I55 n57 n58 n59 u60 n61 u62 u63 u64 u65 u66 u67 u68 u69 u70 H71→((decide (n57≤(rk:Int))&&decide
      (n57 < (↑u70.n:Int))) = true→Go.Eng.Fn Tryz.prog F.pelotonref25_Made #[(vLs n58 n59 u60 n61 u62 u63 u64 u65 u66 u67 u68 u69 u70),Value.int .i64 n57] H71 fun (v72:Value) (H73:Hp)=>∃ n74 n75:Int,∃ u76:Slc,∃ n77:Int,∃ u78 u79 u80 u81 u82 u83 u84 u85 u86:Slc,∃ n87:Int,v72
      = Value.tuple #[(vLs n74 n75 u76 n77 u78 u79 u80 u81 u82 u83 u84 u85 u86),Value.int .i64 n87]∧((n87 != 0) = true→post (Value.tuple #[(vLs 0 0 zs 0 zs zs zs zs zs zs zs zs zs),Value.int .i64 n87]) H73)∧((n87 != 0) = false→inI (n57 + 1)∧I55 (n57 + 1) n74 n75 u76 n77 u78 u79 u80 u81
      u82 u83 u84 u85 u86 H73∧m56 (n57 + 1) n74 n75 u76 n77 u78 u79 u80 u81 u82 u83 u84 u85 u86 H73 < m56 n57 n58 n59 u60 n61 u62 u63 u64 u65 u66 u67 u68 u69 u70 H71))∧((decide (n57≤(rk:Int))&&decide (n57 < (↑u70.n:Int))) = false→post (Value.tuple #[(vLs n58 n59 u60 n61 u62 u63 u64 u65
      u66 u67 u68 u69 u70),Value.int .i64 0]) H71):=by
  have sm:=m.small; have nl:=m.nl; have mle:=m.le
  have em:(if (rk:Int) - 1 > 0 then (rk:Int) - 1 else 0) = ((rk - 1:Nat):Int):=by split <;> omega
  rw [em]
  refine ⟨by unfold inI; omega,fun k n1 n2 a1 n3 a2 v1 v2 v3 v4 v5 d uo un H'=>((rk - 1:Nat):Int)≤k∧k≤(min (rk + 1) ln:Nat)∧Hp.le H0 H'∧(makesN l (rk - 1) (k.toNat - (rk - 1))).2 = 0 ∧
      n1 = (makesN l (rk - 1) (k.toNat - (rk - 1))).1.ck.now.1∧n2 = (makesN l (rk - 1) (k.toNat - (rk - 1))).1.ck.now.2∧n3 = (makesN l (rk - 1) (k.toNat - (rk - 1))).1.ck.ct.next ∧
      RdL H' ⟨⟨a1,a2,v1,v2,v3,v4,v5,d⟩,uo,un⟩ (makesN l (rk - 1) (k.toNat - (rk - 1))).1,
    fun k _ _ _ _ _ _ _ _ _ _ _ _ _ _=>((min (rk + 1) ln:Nat) - k).toNat,⟨Int.le_refl _,by omega,l0,?_,?_,?_,?_,?_⟩,fun k n1 n2 a1 n3 a2 v1 v2 v3 v4 v5 d uo un H89 ⟨k0,k1,le,kz,e1,e2,e3,r⟩=>?_⟩
  · rw [Int.toNat_natCast,Nat.sub_self]; rfl
  · rw [Int.toNat_natCast,Nat.sub_self]; rfl
  · rw [Int.toNat_natCast,Nat.sub_self]; rfl
  · rw [Int.toNat_natCast,Nat.sub_self]; rfl
  · rw [Int.toNat_natCast,Nat.sub_self]; exact r
  subst e1; subst e2; subst e3
  obtain ⟨kn,rfl⟩:∃ kn:Nat,k = kn:=⟨k.toNat,by omega⟩
  rw [Int.toNat_natCast] at kz r ⊢
  obtain ⟨a1',a2',a3',a4',a5'⟩:=m.makes (kn - (rk - 1)) (by omega) kz
  rw [show rk - 1 + (kn - (rk - 1)) = kn by omega] at a1'
  have es:=makesN_succ kz
  rw [show rk - 1 + (kn - (rk - 1)) = kn by omega] at es
  have lun:un.n = ln:=(r.n.len).trans (a5'.trans eln)
  have hol:(makesN l (rk - 1) (kn - (rk - 1))).1.ord.length = l.ord.length:=by rw [a4']
  rw [lun]
  have tN:((kn:Int) + 1).toNat - (rk - 1) = kn - (rk - 1) + 1:=by omega
  refine ⟨fun hc=>?_,fun hc=>?_⟩
  · simp only [Bool.and_eq_true,decide_eq_true_eq] at hc
    refine (refMadeL (u:=⟨⟨a1,a2,v1,v2,v3,v4,v5,d⟩,uo,un⟩) (i:=(kn:Int)) r a1'.fit a1'.ck (permPosM a1') (by omega) (by omega) (by omega)).mono fun v H91 ⟨q,hv,l91,rq⟩=>?_
    rw [Int.toNat_natCast] at hv rq
    refine ⟨_,_,q.k.f,_,q.k.cl,q.k.u1,q.k.u2,q.k.u3,q.k.u4,q.k.u5,q.k.d,q.o,q.n,_,hv,fun he=>?_,fun he=>?_⟩
    · have he:(madeL (makesN l (rk - 1) (kn - (rk - 1))).1 kn).2≠0:=by simpa using he
      have e9:makesN l (rk - 1) (min (rk + 1) ln - (rk - 1)) = makesN l (rk - 1) (kn - (rk - 1) + 1):=makesN_err (n:=kn - (rk - 1) + 1) (by rw [es]; exact he) _ (by omega)
      have ez:=madeL_zero he
      refine hpost _ _ zlu ?_ (Hp.le_trans le l91) ?_
      · rw [e9,es,ez]; rfl
      · rw [e9,es,ez]; exact RdL.zero
    · have he:(madeL (makesN l (rk - 1) (kn - (rk - 1))).1 kn).2 = 0:=by simpa using he
      refine ⟨by unfold inI; omega,⟨by omega,by omega,Hp.le_trans le l91,?_,?_,?_,?_,?_⟩,by show (((min (rk + 1) ln:Nat):Int) - ((kn:Int) + 1)).toNat < (((min (rk + 1) ln:Nat):Int) - (kn:Int)).toNat; omega⟩
      · rw [tN,es]; exact he
      · rw [tN,es]
      · rw [tN,es]
      · rw [tN,es]
      · rw [tN,es]; exact rq
  · have hk:kn = min (rk + 1) ln:=by
      by_cases hx:(kn:Int)≤(rk:Int)∧(kn:Int) < ln
      · have:(decide ((kn:Int)≤(rk:Int))&&decide ((kn:Int) < ln)) = true:=by simp only [Bool.and_eq_true,decide_eq_true_eq]; exact hx
        rw [this] at hc; cases hc
      · omega
    subst hk
    refine hpost _ _ ⟨⟨a1,a2,v1,v2,v3,v4,v5,d⟩,uo,un⟩ ?_ le r
    rw [kz]


set_option maxHeartbeats 1000000 in
theorem ref26Put0 {H:Hp} {u:Lu} {l:Ls} {p:Pt} (r:RdL H u l) (ok:okLs l) (op:okP p) :
  Go.Eng.Fn Tryz.prog F.pelotonref26_put #[lsV u l,.agg #[.int .i64 p.1,.int .i64 p.2.1,.int .i64 p.2.2]] H fun v H'=>∃ w:Lu,v = .tuple #[lsV w (putL l p).1,.int .i64 (putL l p).2]∧Hp.le H H'∧RdL H' w (putL l p).1:=by
 have fl:=ok.fit
 refine pelotonref26_put_vc ((ref03Put (p:=p) r.k.f).mono fun v H2 ⟨u3,hv,l2,rf⟩=>⟨u3,_,hv,fun he=>?_,fun he=>?_⟩)
 ·have he:(putF l.ck.f p).2≠0:=by simpa using he
  unfold putL
  rw [if_pos he]
  exact ⟨zlu,rfl,l2,RdL.zero⟩
 have he:(putF l.ck.f p).2 = 0:=by simpa using he
 obtain ⟨_,hn,hl,ef⟩:=put_parts ok he
 have P:=putOk ok op hn hl
 rw [ef] at rf
 have r2:=r.le l2
 have of':=okF_insF ok.ck.f op hn hl
 refine ⟨_,ref26Where r2 ok op,(rAltered (f:=insF l.ck.f p) r2.k ok.ck rf of' (known_ins ok p)).mono fun v H7 ⟨z,hv,l7,rz⟩=>⟨_,_,z.f,_,z.cl,z.u1,z.u2,z.u3,z.u4,z.u5,z.d,_,hv,fun h=>absurd P.calm.z (by simpa using h),fun _=>?_⟩⟩
 have r7:=r2.le l7
 have nl:=ok.nl
 have rkle:=P.rk
 have hlen:=ok.len
 have hsm:=ok.ck.f.len
 have lo:(u.o.n:Int) = l.ord.length:=congrArg Nat.cast r.o.len
 refine (refLTwinM r7 fl).mono fun v H21 ⟨t,hv,l21,rt,_,_,_⟩=>⟨_,_,t.k.f,_,t.k.cl,t.k.u1,t.k.u2,t.k.u3,t.k.u4,t.k.u5,t.k.d,t.o,t.n,hv,?_⟩
 refine (ref26Opened rt.o (i:=rkI l p) (x:=p.1) (by omega) (by omega)).mono fun v H36 ⟨o2,hv,l36,ro2⟩=>⟨o2,hv,?_⟩
 have rn36:=rt.n.le l36
 have rz36:=(rz.le l21).le l36
 have l036:Hp.le H H36:=Hp.le_trans (Hp.le_trans l2 l7) (Hp.le_trans l21 l36)
 have e:putL l p = makesN (putS l p) (rkI l p - 1) (min (rkI l p + 1) l.ord.length - (rkI l p - 1)):=by
  unfold putL
  rw [if_neg (by rw [‹(putF l.ck.f p).2 = 0›]; simp),if_neg (by rw [P.calm.z]; simp)]
 have fin:∀ (v:Value) (H':Hp) (w:Lu),v = .tuple #[lsV w (makesN (putS l p) (rkI l p - 1) (min (rkI l p + 1) l.ord.length - (rkI l p - 1))).1,.int .i64 (makesN (putS l p) (rkI l p - 1) (min (rkI l p + 1) l.ord.length - (rkI l p - 1))).2]→Hp.le H H'→RdL H' w (makesN (putS l p) (rkI l p - 1) (min (rkI l p + 1) l.ord.length - (rkI l p - 1))).1 →
   ∃ w:Lu,v = .tuple #[lsV w (putL l p).1,.int .i64 (putL l p).2]∧Hp.le H H'∧RdL H' w (putL l p).1:=fun v H' w hv lH hr=>by
  rw [e]; exact ⟨w,hv,lH,hr⟩
 have emin:(if (u.o.n:Int) - 1 < (rkI l p:Int) then (u.o.n:Int) - 1 else (rkI l p:Int)) = min ((l.ord.length:Int) - 1) (rkI l p:Int):=by rw [lo]; split <;> omega
 refine ⟨fun hc=>?_,fun hc=>?_⟩
 ·have hc:0 < rkI l p∧rkI l p < l.ord.length:=by
   rw [lo] at hc
   simp only [Bool.and_eq_true,decide_eq_true_eq] at hc
   omega
  refine ⟨by unfold inI; omega,rn36.inS (by omega) (by omega),_,RdI.get rn36 (by omega) (by omega),?_⟩
  rw [show ((rkI l p:Int) - 1).toNat = rkI l p - 1 by omega]
  refine (rGone (n:=l.num.getD (rkI l p - 1) 0) rz36 P.calm.ok).mono fun v H40 ⟨g,hv,l40,rg⟩=>⟨l40,_,_,g.f,_,g.cl,g.u1,g.u2,g.u3,g.u4,g.u5,g.d,hv,?_⟩
  refine (ref26Opened (rn36.le l40) (i:=rkI l p) (x:=0) (by omega) (by omega)).mono fun v H53 ⟨n2,hv,l53,rn2⟩=>⟨n2,hv,?_⟩
  have es:putS l p = ⟨goneK (alteredK l.ck (insF l.ck.f p)).1 (l.num.getD (rkI l p - 1) 0),insI l.ord (rkI l p) p.1,insI l.num (rkI l p) 0⟩:=by
   unfold putS goneIf
   rw [if_pos (by simp only [Bool.and_eq_true,decide_eq_true_eq]; exact hc),if_neg (by omega),Nat.min_eq_left (by omega)]
  have pm:=P.mid; have pn:=P.nlen
  rw [es] at pm pn fin
  exact refPutTail (u:=⟨g,o2,n2⟩) ⟨rg.le l53,(ro2.le l40).le l53,rn2⟩ (Hp.le_trans l036 (Hp.le_trans l40 l53)) pm pn fin
 have hc:¬ (0 < rkI l p∧rkI l p < l.ord.length):=fun h=>by
  rw [lo] at hc
  have:(decide ((rkI l p:Int) > 0)&&decide ((rkI l p:Int) < (l.ord.length:Int))) = true:=by simp only [Bool.and_eq_true,decide_eq_true_eq]; omega
  rw [this] at hc; cases hc
 have es:putS l p = ⟨(alteredK l.ck (insF l.ck.f p)).1,insI l.ord (rkI l p) p.1,if l.ord.length = 0 then l.num else insI l.num (min (rkI l p) (l.ord.length - 1)) 0⟩:=by
  unfold putS goneIf
  rw [if_neg (by simp only [Bool.and_eq_true,decide_eq_true_eq]; exact hc)]
 have pm:=P.mid; have pn:=P.nlen
 rw [es] at pm pn fin
 refine ⟨fun h1=>?_,fun h1=>?_⟩
 ·have h1:0 < l.ord.length:=by
   rw [lo] at h1
   have:(l.ord.length:Int) > 0:=by simpa using h1
   omega
  rw [if_neg (by omega)] at pm pn fin
  have em2:(if (u.o.n:Int) - 1 < (rkI l p:Int) then (u.o.n:Int) - 1 else (rkI l p:Int)) = ((min (rkI l p) (l.ord.length - 1):Nat):Int):=by rw [emin]; omega
  rw [em2]
  refine ⟨by unfold inI; omega,(ref26Opened rn36 (i:=min (rkI l p) (l.ord.length - 1)) (x:=0) (by omega) (by omega)).mono fun v H53 ⟨n2,hv,l53,rn2⟩=>⟨n2,hv,?_⟩⟩
  exact refPutTail (u:=⟨z,o2,n2⟩) ⟨rz36.le l53,ro2.le l53,rn2⟩ (Hp.le_trans l036 l53) pm pn fin
 ·have h1:l.ord.length = 0:=by
   rw [lo] at h1
   have:¬ (l.ord.length:Int) > 0:=by simpa using h1
   omega
  rw [if_pos h1] at pm pn fin
  exact refPutTail (u:=⟨z,o2,t.n⟩) (l:=⟨(alteredK l.ck (insF l.ck.f p)).1,insI l.ord (rkI l p) p.1,l.num⟩) ⟨rz36,ro2,rn36⟩ l036 pm pn fin

theorem ref26Put {H:Hp} {u:Lu} {l:Ls} {p:Pt} (r:RdL H u l) (fl:fitL l) :
  Go.Eng.Fn Tryz.prog F.pelotonref26_Put #[lsV u l,.agg #[.int .i64 p.1,.int .i64 p.2.1,.int .i64 p.2.2]] H fun v H'=>∃ w:Lu,v = .tuple #[lsV w (putM l p).1,.int .i64 (putM l p).2]∧Hp.le H H'∧RdL H' w (putM l p).1:=by
 unfold putM
 refine pelotonref26_Put_vc ⟨_,ref26Asked r fl,fun hc=>?_,fun hc=>?_⟩
 ·have hn:¬ (okLs l∧okP p):=fun h=>by rw [if_pos h] at hc; simp at hc
  rw [if_neg hn,if_neg hn]; exact ⟨zlu,rfl,Hp.le_refl _,RdL.zero⟩
 ·have hn:okLs l∧okP p:=Decidable.byContradiction fun h=>by rw [if_neg h] at hc; simp at hc
  rw [if_pos hn]
  exact (ref26Put0 r hn.1 hn.2).mono fun v H3 ⟨w,hv,l3,rw3⟩=>⟨_,_,w.k.f,_,w.k.cl,w.k.u1,w.k.u2,w.k.u3,w.k.u4,w.k.u5,w.k.d,w.o,w.n,_,hv,w,rfl,l3,rw3⟩

end Go.Proofs.YtjhbjjdipmpgjaaGreat
end
