/- The engine, parts HB, HC, HD, HE, put together. Conditions: none. -/
import Derived.Test.YtjhbjjdipmpgjaaGreatPH2
import Derived.Test.YtjhbjjdipmpgjaaGreatVgBase
import Derived.Test.YtjhbjjdipmpgjaaGreatVgLedit
import Derived.Test.YtjhbjjdipmpgjaaGreatFs
set_option linter.unusedVariables false
section
/- The reference's Put, Without; opened, shut. Conditions: none. -/
set_option maxRecDepth 100000
open Go Go.Eng Go.Proofs
namespace Go.Proofs.YtjhbjjdipmpgjaaGreat

theorem ym5 {H:Hp} {u:Slc} {xs:List Int} {i:Nat} {x:Int} (r:RdI H u xs) (hi:i≤xs.length) (hl:xs.length≤1000000) :
  Go.Eng.Fn Tryz.prog F.f87 #[u.v,.int .i64 (i:Int),.int .i64 x] H fun v H'=>∃ w:Slc,v=w.v∧Hp.le H H'∧RdI H' w (y05 xs i x):=by
 have ln:=r.len; have cp:=r.cap
 refine vc87 ⟨⟨by omega,by omega,by omega,by omega⟩,⟨by omega,by omega,by omega,by omega⟩,fun b1 H2 hb1 hH2=>?_⟩
 rw [yrt,Int.toNat_natCast]
 have l2:Hp.le H H2:=Hp.le_new (Hp.le_refl _) hb1 hH2
 have r1:RdI H ⟨u.a,i,u.c⟩ (xs.take i):=Rd.cut r hi (by omega)
 have tl:(xs.take i).length=i:=by rw [List.length_take]; omega
 refine (znt (k:=1) (f:=fI) (bytes:=8) (e:=3) (by kernel_rfl) (by decide) (fun _=>rfl) zs7 hb1 hH2 r1 (by omega) (by omega)).mono fun v H4 ⟨w,hv,l4,m4⟩=>⟨w,hv,fun b6 H7 hb6 hH7=>?_⟩
 refine (z6l (k:=1) (f:=fI) (bytes:=8) (x:=x) (by kernel_rfl) (by decide) (fun _=>rfl) zs7 l4 m4 hb6 hH7 rfl (by omega) (by omega)).mono fun v H9 ⟨w2,hv,l9,m9,_,_⟩=>⟨w2,hv,?_⟩
 have r2:=(r.le l9).sub (l:=(i:Int)) (hi:=(u.n:Int)) (m:=(u.c:Int)) (by omega) (by omega) (by omega) (by omega)
 rw [Int.toNat_natCast,Int.toNat_natCast,Int.toNat_natCast,ln,List.take_length] at r2
 have hK:Tryz.prog.cellsOf 3=1:=by kernel_rfl
 have ev:Value.slice (yvk u.a 1 (i:Int) (u.c:Int)) ((u.n:Int).toNat-i) ((u.c:Int).toNat-i)=(⟨yvk u.a 1 (i:Int) (u.c:Int),xs.length-i,u.c-i⟩:Slc).v:=by simp [Slc.v,ln]
 rw [hK,ev]
 refine (z6m (k:=1) (f:=fI) (bytes:=8) (q:=⟨yvk u.a 1 (i:Int) (u.c:Int),xs.length-i,u.c-i⟩) (by kernel_rfl) (by decide) (fun _=>rfl) zs7 l9 m9 r2 (by simp; omega) (by simp; omega)).mono fun v H12 ⟨w3,hv,l12,m12,_,_⟩=>⟨w3,hv,w3,rfl,l12,?_⟩
 have:=m12.rdI
 rw [List.append_assoc] at this
 exact this
theorem ym8 {H:Hp} {u:Slc} {xs:List Int} {i:Nat} (r:RdI H u xs) (hi:i<xs.length) (hl:xs.length≤1000000) :
  Go.Eng.Fn Tryz.prog F.f133 #[u.v,.int .i64 (i:Int)] H fun v H'=>∃ w:Slc,v=w.v∧Hp.le H H'∧RdI H' w (zoi xs i):=by
 have ln:=r.len; have cp:=r.cap
 refine vc133 ⟨⟨by omega,by omega,by omega,by omega⟩,by unfold inI; omega,⟨by omega,by omega,by omega,by omega⟩,fun b1 H2 hb1 hH2=>?_⟩
 rw [yrt,Int.toNat_natCast]
 have r1:RdI H ⟨u.a,i,u.c⟩ (xs.take i):=Rd.cut r (by omega) (by omega)
 have tl:(xs.take i).length=i:=by rw [List.length_take]; omega
 refine (znt (k:=1) (f:=fI) (bytes:=8) (e:=3) (by kernel_rfl) (by decide) (fun _=>rfl) zs7 hb1 hH2 r1 (by omega) (by omega)).mono fun v H4 ⟨w,hv,l4,m4⟩=>⟨w,hv,?_⟩
 have r2:=(r.le l4).sub (l:=(i:Int)+1) (hi:=(u.n:Int)) (m:=(u.c:Int)) (by omega) (by omega) (by omega) (by omega)
 rw [show ((i:Int)+1).toNat=i+1 by omega,Int.toNat_natCast,Int.toNat_natCast,ln,List.take_length] at r2
 have hK:Tryz.prog.cellsOf 3=1:=by kernel_rfl
 have ev:Value.slice (yvk u.a 1 ((i:Int)+1) (u.c:Int)) ((u.n:Int).toNat-((i:Int)+1).toNat) ((u.c:Int).toNat-((i:Int)+1).toNat)=(⟨yvk u.a 1 ((i:Int)+1) (u.c:Int),xs.length-(i+1),u.c-(i+1)⟩:Slc).v:=by
  rw [show ((i:Int)+1).toNat=i+1 by omega]; simp [Slc.v,ln]
 rw [hK,ev]
 refine (z6m (k:=1) (f:=fI) (bytes:=8) (q:=⟨yvk u.a 1 ((i:Int)+1) (u.c:Int),xs.length-(i+1),u.c-(i+1)⟩) (by kernel_rfl) (by decide) (fun _=>rfl) zs7 l4 m4 r2 (by simp; omega) (by simp; omega)).mono fun v H12 ⟨w3,hv,l12,m12,_,_⟩=>⟨w3,hv,w3,rfl,l12,m12.rdI⟩

theorem yd5 {f:List Pt} {id:Int} {n:Nat} {x:Pt} (hx:f[n]?=some x):ycz (f.take (n+1)) id=if (x.1 != id)=true then ycz (f.take n) id++[x] else ycz (f.take n) id:=by
 unfold ycz
 rw [yx0 hx,List.filter_append,List.filter_cons]
 split
 ·rfl
 ·simp
theorem ym1 {H:Hp} {u:Slc} {f:List Pt} {id:Int} (hf:Rd 3 fD H u f) (hl:f.length≤1000000) :
    Go.Eng.Fn Tryz.prog F.f134 #[vFd u,.int .i64 id] H fun v H'=>Hp.le H H'∧∃ w:Slc,v=vFd w∧Rd 3 fD H' w (ycz f id):=by
  have ln:=hf.len
  refine vc134 ⟨fun n w H'=>0≤n∧n≤f.length∧Hp.le H H'∧Mine 3 fD T.api_Point H H' w (ycz (f.take n.toNat) id),fun n _ _=>(f.length-n).toNat,⟨Int.le_refl _,by omega,Hp.le_refl _,.inl ⟨rfl,rfl⟩⟩,fun n w H5 ⟨n0,n1,l5,m5⟩=>⟨fun hn=>?_,fun hn=>?_⟩⟩
  · have hn:n<f.length:=by have:n<u.n:=by simpa using hn
                           omega
    have hg:=zxd (d:=((0:Int),(0:Int),(0:Int))) n0 hn
    have h2:=(hf.le l5).gD n0 hn
    have es:=yd5 (id:=id) hg
    rw [show n.toNat+1=(n+1).toNat by omega] at es
    have hs:=(hf.le l5).inS n0 hn
    generalize f.getD n.toNat (0,0,0)=x at *
    refine ⟨hs,_,h2.1,fun hb=>⟨hs,_,_,_,h2,fun b10 H11 hb10 hH11=>?_⟩,fun hb=>⟨by unfold inI; omega,⟨by omega,by omega,l5,?_⟩,by show ((f.length:Int)-(n+1)).toNat<((f.length:Int)-n).toNat; omega⟩⟩
    · have hlen:(ycz (f.take n.toNat) id).length≤100000000:=Nat.le_trans (List.length_filter_le _ _) (by rw [List.length_take]; omega)
      refine (z6l (k:=3) (f:=fD) (bytes:=24) (x:=x) (by kernel_rfl) (by decide) (fun _=>rfl) zs2 l5 m5 hb10 hH11 rfl hlen (by omega)).mono fun v H14 ⟨w',hw,l14,mw,_,_⟩=>⟨w',hw,by unfold inI; omega,⟨by omega,by omega,l14,?_⟩,by show ((f.length:Int)-(n+1)).toNat<((f.length:Int)-n).toNat; omega⟩
      rw [es,if_pos hb]; exact mw
    · rw [es,if_neg (by rw [hb]; simp)]; exact m5
  · have hn:n=f.length:=by have:¬ n<u.n:=by simpa using hn
                           omega
    subst hn
    rw [Int.toNat_natCast,List.take_length] at m5
    exact ⟨l5,w,rfl,m5.rdD⟩

def ydy (f:List Pt) (p:Pt) (n:Nat):List Pt:=if y50 f p.1<n then f.take (y50 f p.1)++p :: (f.drop (y50 f p.1)).take (n-y50 f p.1) else f.take n
set_option maxHeartbeats 1000000 in
theorem ym0 {H:Hp} {u:Slc} {f:List Pt} {p:Pt} (hf:Rd 3 fD H u f) :
    Go.Eng.Fn Tryz.prog F.f85 #[vFd u,.agg #[.int .i64 p.1,.int .i64 p.2.1,.int .i64 p.2.2]] H fun v H'=>∃ w:Slc,v=.tuple #[vFd w,.int .i64 (yjw f p).2]∧Hp.le H H'∧Rd 3 fD H' w (yjw f p).1:=by
  have lu:=hf.len
  unfold yjw
  refine vc85 ⟨_,ymu hf,fun h=>?_,fun h=>⟨_,yny,fun h2=>?_,fun h2=>?_⟩⟩
  · have h:zj5 f≠0:=by simpa using h
    rw [if_pos h]; exact ⟨⟨none,0,0⟩,rfl,Hp.le_refl _,Rd.nil⟩
  · have h:zj5 f=0:=by simpa using h
    have h2:¬ okP p:=fun op=>by rw [zjm op] at h2; simp at h2
    rw [if_neg (by rw [h]; simp),if_pos h2]; exact ⟨⟨none,0,0⟩,rfl,Hp.le_refl _,Rd.nil⟩
  have h:zj5 f=0:=by simpa using h
  have h2:okP p:=zjn.1 (by simpa using h2)
  have of:=zj6.1 h
  have lf:=of.len
  rw [if_neg (by rw [h]; simp),if_neg (by simpa using h2)]
  refine ⟨_,ymt hf (by omega),fun hb=>?_,fun hb=>?_⟩
  · have hb:0≤yie f p.1:=by simpa using hb
    rw [if_pos hb]; exact ⟨⟨none,0,0⟩,rfl,Hp.le_refl _,Rd.nil⟩
  have hb:¬ 0≤yie f p.1:=by simpa using hb
  rw [if_neg hb,lu]
  refine ⟨fun hc=>?_,fun hc=>?_⟩
  · have hc:f.length=64:=by have:(f.length:Int)=64:=by simpa using hc
                            omega
    rw [if_pos hc]; exact ⟨⟨none,0,0⟩,rfl,Hp.le_refl _,Rd.nil⟩
  have hc:f.length≠64:=by have:¬ (f.length:Int)=64:=by simpa using hc
                          omega
  rw [if_neg hc]
  have hlow:y50 f p.1≤f.length:=by
    have:=yio (f.map (·.1)) p.1
    rw [List.length_map] at this; exact this
  have before:∀ i x,i<y50 f p.1→f[i]?=some x→x.1<p.1:=fun i x hi hx=>yip (l:=f.map (·.1)) (t:=p.1) (i:=i) (by unfold y50 at hi; omega) (by rw [List.getElem?_map,hx]; rfl)
  have behind:∀ i x,y50 f p.1≤i→f[i]?=some x→p.1<x.1:=fun i x hi hx=>by
    have h1:=yin of.inc (t:=p.1) (i:=i) (x:=x.1) (by unfold y50 at hi; omega) (by rw [List.getElem?_map,hx]; rfl)
    have:=yih (f:=f) (id:=p.1) (by omega) x (List.mem_of_getElem? hx)
    omega
  have hpl:∀ n,(ydy f p n).length≤100000000:=fun n=>by
    unfold ydy
    split
    · simp only [List.length_append,List.length_take,List.length_cons,List.length_drop]; omega
    · rw [List.length_take]; omega
  refine ⟨fun c n w H'=>0≤n∧n≤f.length∧Hp.le H H'∧c=decide (y50 f p.1<n.toNat)∧Mine 3 fD T.api_Point H H' w (ydy f p n.toNat),fun _ n _ _=>(f.length-n).toNat,⟨Int.le_refl _,by omega,Hp.le_refl _,rfl,.inl ⟨rfl,rfl⟩⟩,fun c n w H9 ⟨n0,n1,l9,ec,m9⟩=>?_⟩
  subst ec
  refine ⟨fun hn=>?_,fun hn=>?_⟩
  · have hn:n<f.length:=by have:n<(f.length:Int):=by simpa using hn
                           omega
    have hg:=zxd (d:=((0:Int),(0:Int),(0:Int))) n0 hn
    have h3:=(hf.le l9).gD n0 hn
    have hs:=(hf.le l9).inS n0 hn
    rw [lu] at hs
    have bf:=fun h=>before n.toNat _ h hg
    have bh:=fun h=>behind n.toNat _ h hg
    generalize f.getD n.toNat (0,0,0)=x at *
    have e1:(n+1).toNat=n.toNat+1:=by omega
    refine ⟨fun _=>hs,_,fun _=>h3.1,fun hcc=>?_,fun hcc=>?_⟩
    · have hlw:y50 f p.1=n.toNat:=by
        simp only [Bool.and_eq_true,Bool.not_eq_true',decide_eq_false_iff_not,decide_eq_true_eq] at hcc
        rcases Nat.lt_or_ge n.toNat (y50 f p.1) with h | h
        · have:=bf h; omega
        · omega
      have ep:ydy f p n.toNat=f.take n.toNat:=by unfold ydy; rw [if_neg (by omega)]
      have ep1:ydy f p (n.toNat+1)=(f.take n.toNat++[p])++[x]:=by
        unfold ydy
        rw [if_pos (by omega),hlw,show n.toNat+1-n.toNat=1 by omega,List.append_assoc]
        congr 1
        show p :: (f.drop n.toNat).take 1=[p,x]
        have hd:(f.drop n.toNat)[0]?=some x:=by rw [List.getElem?_drop]; exact hg
        rw [yx0 hd]; rfl
      have hl1:(f.take n.toNat++[p]).length≤100000000:=by simp; omega
      rw [ep] at m9
      refine fun b11 H12 hb11 hH12=>(z6l (k:=3) (f:=fD) (bytes:=24) (x:=p) (by kernel_rfl) (by decide) (fun _=>rfl) zs2 l9 m9 hb11 hH12 rfl (by rw [List.length_take]; omega) (by omega)).mono fun v H14 ⟨w2,hw,l14,m14,_,_⟩=>⟨w2,hw,?_⟩
      have h4:=(hf.le l14).gD n0 hn
      have hs4:=(hf.le l14).inS n0 hn
      rw [lu] at hs4
      have hgd:f.getD n.toNat (0,0,0)=x:=by rw [List.getD_eq_getElem?_getD,hg]; rfl
      rw [hgd] at h4
      refine ⟨hs4,_,_,_,h4,fun b19 H20 hb19 hH20=>(z6l (k:=3) (f:=fD) (bytes:=24) (x:=x) (by kernel_rfl) (by decide) (fun _=>rfl) zs2 l14 m14 hb19 hH20 rfl hl1 (by omega)).mono fun v H22 ⟨w3,hw,l22,m22,_,_⟩=>⟨w3,hw,by unfold inI; omega,⟨by omega,by omega,l22,?_,?_⟩,by show ((f.length:Int)-(n+1)).toNat<((f.length:Int)-n).toNat; omega⟩⟩
      · rw [decide_eq_true (by omega)]
      · rw [e1,ep1]; exact m22
    · have ed:decide (y50 f p.1<n.toNat)=decide (y50 f p.1<(n+1).toNat)∧ydy f p (n.toNat+1)=ydy f p n.toNat++[x]:=by
        unfold ydy
        rcases Nat.lt_or_ge (y50 f p.1) n.toNat with h | h
        · rw [decide_eq_true h,decide_eq_true (by omega),if_pos h,if_pos (by omega),show n.toNat+1-y50 f p.1=(n.toNat-y50 f p.1)+1 by omega]
          refine ⟨rfl,?_⟩
          have hd:(f.drop (y50 f p.1))[n.toNat-y50 f p.1]?=some x:=by rw [List.getElem?_drop,show y50 f p.1+(n.toNat-y50 f p.1)=n.toNat by omega]; exact hg
          rw [yx0 hd,List.append_assoc,List.cons_append]
        · rcases Nat.eq_or_lt_of_le h with h' | h'
          · exfalso
            have:=bh (by omega)
            have:(!decide (y50 f p.1<n.toNat)&&decide (x.1>p.1))=true:=by
              simp only [Bool.and_eq_true,Bool.not_eq_true',decide_eq_false_iff_not,decide_eq_true_eq]; omega
            rw [this] at hcc; cases hcc
          · rw [decide_eq_false (by omega),decide_eq_false (by omega),if_neg (by omega),if_neg (by omega)]
            exact ⟨rfl,yx0 hg⟩
      refine ⟨hs,_,_,_,h3,fun b27 H28 hb27 hH28=>(z6l (k:=3) (f:=fD) (bytes:=24) (x:=x) (by kernel_rfl) (by decide) (fun _=>rfl) zs2 l9 m9 hb27 hH28 rfl (hpl _) (by omega)).mono fun v H30 ⟨w3,hw,l30,m30,_,_⟩=>⟨w3,hw,by unfold inI; omega,⟨by omega,by omega,l30,ed.1,?_⟩,by show ((f.length:Int)-(n+1)).toNat<((f.length:Int)-n).toNat; omega⟩⟩
      rw [e1,ed.2]; exact m30
  · have hn:n=f.length:=by have:¬ n<(f.length:Int):=by simpa using hn
                           omega
    subst hn
    rw [Int.toNat_natCast] at m9 ⊢
    refine ⟨fun hc=>?_,fun hc=>?_⟩
    · have hc:¬ y50 f p.1<f.length:=by simpa using hc
      have ep:ydy f p f.length=f.take f.length:=by unfold ydy; rw [if_neg hc]
      have ei:zzx f p=f.take f.length++[p]:=by
        unfold zzx
        rw [show y50 f p.1=f.length by omega,List.drop_length]
      rw [ep] at m9
      rw [ei]
      exact fun b32 H33 hb32 hH33=>(z6l (k:=3) (f:=fD) (bytes:=24) (x:=p) (by kernel_rfl) (by decide) (fun _=>rfl) zs2 l9 m9 hb32 hH33 rfl (by rw [List.length_take]; omega) (by omega)).mono fun v H35 ⟨w3,hw,l35,m35,_,_⟩=>⟨w3,hw,w3,rfl,l35,m35.rdD⟩
    · have hc:y50 f p.1<f.length:=by simpa using hc
      have ep:ydy f p f.length=zzx f p:=by
        unfold ydy zzx
        have e:(f.drop (y50 f p.1)).take (f.length-y50 f p.1)=f.drop (y50 f p.1):=List.take_of_length_le (by rw [List.length_drop]; omega)
        rw [if_pos hc,e]
      rw [ep] at m9
      exact ⟨w,rfl,l9,m9.rdD⟩

theorem yh6 {l:Ls} {lo hi:Nat} (m:Mid l lo hi):∀ x∈l.ord,0≤yie l.ck.f x:=fun _ hx=>yh5 m.ck.f m.perm hx

set_option maxHeartbeats 1000000 in
theorem yo8 {H0 H:Hp} {u:Lu} {l:Ls} {rk ln:Nat} {post:Value→Hp→Prop} (r:RdL H u l) (l0:Hp.le H0 H) (m:Mid l (rk-1) (min (rk+1) ln)) (eln:l.num.length=ln)
    (hpost:∀ (v:Value) (H':Hp) (w:Lu),v=.tuple #[lsV w (y5d l (rk-1) (min (rk+1) ln-(rk-1))).1,.int .i64 (y5d l (rk-1) (min (rk+1) ln-(rk-1))).2]→Hp.le H0 H'→RdL H' w (y5d l (rk-1) (min (rk+1) ln-(rk-1))).1→post v H') :
     inI ((rk:Int)-1)∧∃ (I55:Int→Int→Int→Slc→Int→Slc→Slc→Slc→Slc→Slc→Slc→Slc→Slc→Slc→Hp→Prop),∃ (m56:Int→Int→Int→Slc→Int→Slc→Slc→Slc→Slc→Slc→Slc→Slc→Slc→Slc→Hp→Nat),I55 (if (rk:Int)-1>0 then (rk:Int)-1 else 0) l.ck.now.1
      l.ck.now.2 u.k.f l.ck.ct.next u.k.cl u.k.u1 u.k.u2 u.k.u3 u.k.u4 u.k.u5 u.k.d u.o u.n H∧∀ (n57 n58 n59:Int) (u60:Slc) (n61:Int) (u62 u63 u64 u65 u66 u67 u68 u69 u70:Slc) (H71:Hp),I55 n57 n58 n59 u60 n61 u62 u63 u64 u65 u66 u67 u68 u69 u70 H71→((decide (n57≤(rk:Int))&&decide
      (n57<(↑u70.n:Int)))=true→Go.Eng.Fn Tryz.prog F.f89 #[(vLs n58 n59 u60 n61 u62 u63 u64 u65 u66 u67 u68 u69 u70),Value.int .i64 n57] H71 fun (v72:Value) (H73:Hp)=>∃ n74 n75:Int,∃ u76:Slc,∃ n77:Int,∃ u78 u79 u80 u81 u82 u83 u84 u85 u86:Slc,∃ n87:Int,v72
      = Value.tuple #[(vLs n74 n75 u76 n77 u78 u79 u80 u81 u82 u83 u84 u85 u86),Value.int .i64 n87]∧((n87 != 0)=true→post (Value.tuple #[(vLs 0 0 zs 0 zs zs zs zs zs zs zs zs zs),Value.int .i64 n87]) H73)∧((n87 != 0)=false→inI (n57+1)∧I55 (n57+1) n74 n75 u76 n77 u78 u79 u80 u81
      u82 u83 u84 u85 u86 H73∧m56 (n57+1) n74 n75 u76 n77 u78 u79 u80 u81 u82 u83 u84 u85 u86 H73<m56 n57 n58 n59 u60 n61 u62 u63 u64 u65 u66 u67 u68 u69 u70 H71))∧((decide (n57≤(rk:Int))&&decide (n57<(↑u70.n:Int)))=false→post (Value.tuple #[(vLs n58 n59 u60 n61 u62 u63 u64 u65
      u66 u67 u68 u69 u70),Value.int .i64 0]) H71):=by
  have sm:=m.small; have nl:=m.nl; have mle:=m.le
  have em:(if (rk:Int)-1>0 then (rk:Int)-1 else 0)=((rk-1:Nat):Int):=by split <;> omega
  rw [em]
  refine ⟨by unfold inI; omega,fun k n1 n2 a1 n3 a2 v1 v2 v3 v4 v5 d uo un H'=>((rk-1:Nat):Int)≤k∧k≤(min (rk+1) ln:Nat)∧Hp.le H0 H'∧(y5d l (rk-1) (k.toNat-(rk-1))).2=0 ∧
      n1=(y5d l (rk-1) (k.toNat-(rk-1))).1.ck.now.1∧n2=(y5d l (rk-1) (k.toNat-(rk-1))).1.ck.now.2∧n3=(y5d l (rk-1) (k.toNat-(rk-1))).1.ck.ct.next ∧
      RdL H' ⟨⟨a1,a2,v1,v2,v3,v4,v5,d⟩,uo,un⟩ (y5d l (rk-1) (k.toNat-(rk-1))).1,
    fun k _ _ _ _ _ _ _ _ _ _ _ _ _ _=>((min (rk+1) ln:Nat)-k).toNat,⟨Int.le_refl _,by omega,l0,?_,?_,?_,?_,?_⟩,fun k n1 n2 a1 n3 a2 v1 v2 v3 v4 v5 d uo un H89 ⟨k0,k1,le,kz,e1,e2,e3,r⟩=>?_⟩
  · rw [Int.toNat_natCast,Nat.sub_self]; rfl
  · rw [Int.toNat_natCast,Nat.sub_self]; rfl
  · rw [Int.toNat_natCast,Nat.sub_self]; rfl
  · rw [Int.toNat_natCast,Nat.sub_self]; rfl
  · rw [Int.toNat_natCast,Nat.sub_self]; exact r
  subst e1; subst e2; subst e3
  obtain ⟨kn,rfl⟩:∃ kn:Nat,k=kn:=⟨k.toNat,by omega⟩
  rw [Int.toNat_natCast] at kz r ⊢
  obtain ⟨a1',a2',a3',a4',a5'⟩:=m.makes (kn-(rk-1)) (by omega) kz
  rw [show rk-1+(kn-(rk-1))=kn by omega] at a1'
  have es:=y5g kz
  rw [show rk-1+(kn-(rk-1))=kn by omega] at es
  have lun:un.n=ln:=(r.n.len).trans (a5'.trans eln)
  have hol:(y5d l (rk-1) (kn-(rk-1))).1.ord.length=l.ord.length:=by rw [a4']
  rw [lun]
  have tN:((kn:Int)+1).toNat-(rk-1)=kn-(rk-1)+1:=by omega
  refine ⟨fun hc=>?_,fun hc=>?_⟩
  · simp only [Bool.and_eq_true,decide_eq_true_eq] at hc
    refine (ynq (u:=⟨⟨a1,a2,v1,v2,v3,v4,v5,d⟩,uo,un⟩) (i:=(kn:Int)) r a1'.fit a1'.ck (yh6 a1') (by omega) (by omega) (by omega)).mono fun v H91 ⟨q,hv,l91,rq⟩=>?_
    rw [Int.toNat_natCast] at hv rq
    refine ⟨_,_,q.k.f,_,q.k.cl,q.k.u1,q.k.u2,q.k.u3,q.k.u4,q.k.u5,q.k.d,q.o,q.n,_,hv,fun he=>?_,fun he=>?_⟩
    · have he:(y55 (y5d l (rk-1) (kn-(rk-1))).1 kn).2≠0:=by simpa using he
      have e9:y5d l (rk-1) (min (rk+1) ln-(rk-1))=y5d l (rk-1) (kn-(rk-1)+1):=y5e (n:=kn-(rk-1)+1) (by rw [es]; exact he) _ (by omega)
      have ez:=y57 he
      refine hpost _ _ zlu ?_ (Hp.le_trans le l91) ?_
      · rw [e9,es,ez]; rfl
      · rw [e9,es,ez]; exact RdL.zero
    · have he:(y55 (y5d l (rk-1) (kn-(rk-1))).1 kn).2=0:=by simpa using he
      refine ⟨by unfold inI; omega,⟨by omega,by omega,Hp.le_trans le l91,?_,?_,?_,?_,?_⟩,by show (((min (rk+1) ln:Nat):Int)-((kn:Int)+1)).toNat<(((min (rk+1) ln:Nat):Int)-(kn:Int)).toNat; omega⟩
      · rw [tN,es]; exact he
      · rw [tN,es]
      · rw [tN,es]
      · rw [tN,es]
      · rw [tN,es]; exact rq
  · have hk:kn=min (rk+1) ln:=by
      by_cases hx:(kn:Int)≤(rk:Int)∧(kn:Int)<ln
      · have:(decide ((kn:Int)≤(rk:Int))&&decide ((kn:Int)<ln))=true:=by simp only [Bool.and_eq_true,decide_eq_true_eq]; exact hx
        rw [this] at hc; cases hc
      · omega
    subst hk
    refine hpost _ _ ⟨⟨a1,a2,v1,v2,v3,v4,v5,d⟩,uo,un⟩ ?_ le r
    rw [kz]

set_option maxHeartbeats 1000000 in
theorem yof {H0 H:Hp} {w:Cu} {c:Ck} {so sn:Slc} {ord num:List Int} {id:Int} {i ln:Nat} {post:Value→Hp→Prop} (rk:RdK H w c) (ro:RdI H so ord) (rn:RdI H sn num) (l0:Hp.le H0 H) (hf:okF c.f) (ok:okK c)
    (eln:ln=ord.length) (enl:num.length=ln-1) (hs:ln≤100) (hi:i<ln) (kn:y1v c.ct (ycz c.f id)=true) (hz:(z6b c (ycz c.f id)).2=0)
    (m:Mid ⟨(z6b c (ycz c.f id)).1,zoi ord i,zoi num (min i (num.length-1))⟩ (i-1) (i-1+if 0<i∧i<num.length then 1 else 0))
    (hpost:∀ (v:Value) (H':Hp) (w:Lu) (r:Ls × Int),r=(if 0<i∧i<num.length then y55 ⟨(z6b c (ycz c.f id)).1,zoi ord i,zoi num (min i (num.length-1))⟩ (i-1) else (⟨(z6b c (ycz c.f id)).1,zoi ord i,zoi num (min i (num.length-1))⟩,0))→v=.tuple #[lsV w r.1,.int .i64 r.2]→Hp.le H0 H'→RdL H' w r.1→post v H') :
     Go.Eng.Fn Tryz.prog F.f133 #[so.v,Value.int .i64 (i:Int)] H fun (v46:Value) (H47:Hp)=>∃ u48:Slc,v46=u48.v∧(decide ((ln:Int)>1)=true→inI ((ln:Int)-2)∧Go.Eng.Fn Tryz.prog F.f133 #[sn.v,Value.int .i64 (if (ln:Int)-2<(i:Int) then (ln :
      Int)-2 else (i:Int))] H47 fun (v49:Value) (H50:Hp)=>∃ u51:Slc,v49=u51.v∧Go.Eng.Fn Tryz.prog F.f134 #[(vFd w.f),Value.int .i64 id] H50 fun (v52:Value) (H53:Hp)=>H50.le H53∧∃ u54:Slc,v52=(vFd u54)∧Go.Eng.Fn Tryz.prog F.f86 #[(vCk
      c.now.1 c.now.2 w.f c.ct.next w.cl w.u1 w.u2 w.u3 w.u4 w.u5 w.d),(vFd u54)] H53 fun (v55:Value) (H56:Hp)=>H53.le H56∧∃ n57 n58:Int,∃ u59:Slc,∃ n60:Int,∃ u61 u62 u63 u64 u65 u66 u67:Slc,∃ n68:Int,v55=Value.tuple #[(vCk n57 n58 u59 n60 u61 u62 u63 u64 u65 u66 u67),
      Value.int .i64 n68]∧((n68 != 0)=true→post (Value.tuple #[(vLs 0 0 zs 0 zs zs zs zs zs zs zs zs zs),Value.int .i64 n68]) H56)∧((n68 != 0)=false→(decide ((i:Int)>0)=true→inI ((ln:Int)-1))∧((decide ((i:Int)>0)&&decide ((i:Int)<(ln:Int)-1))=true→inI ((i
      : Int)-1)∧Go.Eng.Fn Tryz.prog F.f89 #[(vLs n57 n58 u59 n60 u61 u62 u63 u64 u65 u66 u67 u48 u51),Value.int .i64 ((i:Int)-1)] H56 fun (v69:Value) (H70:Hp)=>∃ n71 n72:Int,∃ u73:Slc,∃ n74:Int,∃ u75 u76 u77 u78 u79 u80 u81 u82 u83:Slc,∃ n84:Int,v69 =
      Value.tuple #[(vLs n71 n72 u73 n74 u75 u76 u77 u78 u79 u80 u81 u82 u83),Value.int .i64 n84]∧post (Value.tuple #[(vLs n71 n72 u73 n74 u75 u76 u77 u78 u79 u80 u81 u82 u83),Value.int .i64 n84]) H70)∧((decide ((i:Int)>0)&&decide ((i:Int)<(ln:Int)-1))=false→post (Value.tuple
      #[(vLs n57 n58 u59 n60 u61 u62 u63 u64 u65 u66 u67 u48 u51),Value.int .i64 0]) H56)))∧(decide ((ln:Int)>1)=false→Go.Eng.Fn Tryz.prog F.f134 #[(vFd w.f),Value.int .i64 id] H47 fun (v85:Value) (H86:Hp)=>H47.le H86∧∃ u87:Slc,v85=(vFd u87)∧Go.Eng.Fn
      Tryz.prog F.f86 #[(vCk c.now.1 c.now.2 w.f c.ct.next w.cl w.u1 w.u2 w.u3 w.u4 w.u5 w.d),(vFd u87)] H86 fun (v88:Value) (H89:Hp)=>H86.le H89∧∃ n90 n91:Int,∃ u92:Slc,∃ n93:Int,∃ u94 u95 u96 u97 u98 u99 u100:Slc,∃ n101:Int,v88=Value.tuple #[(vCk n90 n91
      u92 n93 u94 u95 u96 u97 u98 u99 u100),Value.int .i64 n101]∧((n101 != 0)=true→post (Value.tuple #[(vLs 0 0 zs 0 zs zs zs zs zs zs zs zs zs),Value.int .i64 n101]) H89)∧((n101 != 0)=false→(decide ((i:Int)>0)=true→inI ((ln:Int)-1))∧((decide ((i:Int)>0)&&decide ((i
      : Int)<(ln:Int)-1))=true→inI ((i:Int)-1)∧Go.Eng.Fn Tryz.prog F.f89 #[(vLs n90 n91 u92 n93 u94 u95 u96 u97 u98 u99 u100 u48 sn),Value.int .i64 ((i:Int)-1)] H89 fun (v102:Value) (H103:Hp)=>∃ n104 n105:Int,∃ u106:Slc,∃ n107:Int,∃ u108 u109 u110
      u111 u112 u113 u114 u115 u116:Slc,∃ n117:Int,v102=Value.tuple #[Value.agg #[Value.int IntKind.i64 n104,Value.int .i64 n105,u106.v,Value.int .i64 n107,u108.v,u109.v,u110.v,u111.v,u112.v,u113.v,u114.v,u115.v,u116.v],Value.int .i64 n117]∧post (Value.tuple #[(vLs n104 n105
      u106 n107 u108 u109 u110 u111 u112 u113 u114 u115 u116),Value.int .i64 n117]) H103)∧((decide ((i:Int)>0)&&decide ((i:Int)<(ln:Int)-1))=false→post (Value.tuple #[(vLs n90 n91 u92 n93 u94 u95 u96 u97 u98 u99 u100 u48 sn),Value.int IntKind.i64 0]) H89))):=by
  have lf:=hf.small
  refine (ym8 ro (i:=i) (by omega) (by omega)).mono fun v H47 ⟨o2,hv,l47,ro2⟩=>⟨o2,hv,?_⟩
  -- what is done once the numbers are cut
  have rest:∀ {H:Hp} {n2:Slc},Hp.le H47 H→RdI H n2 (zoi num (min i (num.length-1)))→Go.Eng.Fn Tryz.prog F.f134 #[vFd w.f,.int .i64 id] H fun v H53=>Hp.le H H53∧∃ u54:Slc,v=vFd u54 ∧
      Go.Eng.Fn Tryz.prog F.f86 #[ckV w c,vFd u54] H53 fun v H56=>Hp.le H53 H56∧∃ z:Cu,v=.tuple #[ckV z (z6b c (ycz c.f id)).1,.int .i64 0]∧RdL H56 ⟨z,o2,n2⟩ ⟨(z6b c (ycz c.f id)).1,zoi ord i,zoi num (min i (num.length-1))⟩∧Hp.le H0 H56:=by
    intro H' n2 lH rn2
    refine (ym1 (rk.f.le (Hp.le_trans l47 lH)) (by omega)).mono fun v H53 ⟨l53,w54,hv,r54⟩=>⟨l53,w54,hv,?_⟩
    have up:=Hp.le_trans (Hp.le_trans l47 lH) l53
    refine (ykt (rk.le up) ok r54 (ybc hf id) kn).mono fun v H56 ⟨z,hv,l56,rz⟩=>⟨l56,z,?_,⟨rz,ro2.le (Hp.le_trans (Hp.le_trans lH l53) l56),rn2.le (Hp.le_trans l53 l56)⟩,Hp.le_trans l0 (Hp.le_trans up l56)⟩
    rw [hv,hz]
  have fin:∀ {H56:Hp} {z:Cu} {n2:Slc},RdL H56 ⟨z,o2,n2⟩ ⟨(z6b c (ycz c.f id)).1,zoi ord i,zoi num (min i (num.length-1))⟩→Hp.le H0 H56 →
      ((decide ((i:Int)>0)=true→inI ((ln:Int)-1))∧((decide ((i:Int)>0)&&decide ((i:Int)<(ln:Int)-1))=true→inI ((i:Int)-1)∧Go.Eng.Fn Tryz.prog F.f89 #[lsV ⟨z,o2,n2⟩ ⟨(z6b c (ycz c.f id)).1,zoi ord i,zoi num (min i (num.length-1))⟩,.int .i64 ((i:Int)-1)] H56 fun v69 H70=>∃ n71 n72:Int,∃ u73:Slc,∃ n74:Int,∃ u75 u76 u77 u78 u79 u80 u81 u82 u83:Slc,∃ n84:Int,v69=.tuple #[vLs n71 n72 u73 n74 u75 u76 u77 u78 u79 u80 u81 u82 u83,.int .i64 n84]∧post (.tuple #[vLs n71 n72 u73 n74 u75 u76 u77 u78 u79 u80 u81 u82 u83,.int .i64 n84]) H70) ∧
        ((decide ((i:Int)>0)&&decide ((i:Int)<(ln:Int)-1))=false→post (.tuple #[lsV ⟨z,o2,n2⟩ ⟨(z6b c (ycz c.f id)).1,zoi ord i,zoi num (min i (num.length-1))⟩,.int .i64 0]) H56)):=by
    intro H56 z n2 r56 l56
    refine ⟨fun _=>by unfold inI; omega,fun hc=>?_,fun hc=>?_⟩
    · have hc:0<i∧i<num.length:=by simp only [Bool.and_eq_true,decide_eq_true_eq] at hc; omega
      rw [if_pos hc] at m
      have co:=zok (o:=ord) (i:=i) (by omega)
      have cn:=zok (o:=num) (i:=min i (num.length-1)) (by omega)
      refine ⟨by unfold inI; omega,(ynq (i:=(i:Int)-1) r56 m.fit m.ck (yh6 m) (by omega) (by show (i:Int)-1+1<(zoi ord i).length; omega) (by show (i:Int)-1<(zoi num (min i (num.length-1))).length; omega)).mono fun v H70 ⟨q,hv,l70,rq⟩=>?_⟩
      rw [show ((i:Int)-1).toNat=i-1 by omega] at hv rq
      exact ⟨_,_,q.k.f,_,q.k.cl,q.k.u1,q.k.u2,q.k.u3,q.k.u4,q.k.u5,q.k.d,q.o,q.n,_,hv,hpost _ _ q _ (by rw [if_pos hc]) rfl (Hp.le_trans l56 l70) rq⟩
    · have hc:¬ (0<i∧i<num.length):=fun h=>by
        have:(decide ((i:Int)>0)&&decide ((i:Int)<(ln:Int)-1))=true:=by simp only [Bool.and_eq_true,decide_eq_true_eq]; omega
        rw [this] at hc; cases hc
      exact hpost _ _ ⟨z,o2,n2⟩ _ (by rw [if_neg hc]) rfl l56 r56
  refine ⟨fun hc=>?_,fun hc=>?_⟩
  · have hc:1<ln:=by have:(ln:Int)>1:=by simpa using hc
                     omega
    have emin:(if (ln:Int)-2<(i:Int) then (ln:Int)-2 else (i:Int))=((min i (num.length-1):Nat):Int):=by split <;> omega
    rw [emin]
    refine ⟨by unfold inI; omega,(ym8 (rn.le l47) (i:=min i (num.length-1)) (by omega) (by omega)).mono fun v H50 ⟨n2,hv,l50,rn2⟩=>⟨n2,hv,?_⟩⟩
    refine (rest l50 rn2).mono fun v H53 ⟨l53,u54,hv,q⟩=>⟨l53,u54,hv,q.mono fun v H56 ⟨l56,z,hv,r56,l06⟩=>⟨l56,_,_,z.f,_,z.cl,z.u1,z.u2,z.u3,z.u4,z.u5,z.d,_,hv,fun he=>by simp at he,fun _=>fin r56 l06⟩⟩
  · have hc:ln=1:=by have:¬ (ln:Int)>1:=by simpa using hc
                     omega
    have en:num=zoi num (min i (num.length-1)):=by
      have:num=[]:=List.length_eq_zero_iff.1 (by omega)
      rw [this]; simp [zoi]
    have rn2:RdI H47 sn (zoi num (min i (num.length-1))):=by rw [← en]; exact rn.le l47
    refine (rest (Hp.le_refl _) rn2).mono fun v H53 ⟨l53,u54,hv,q⟩=>⟨l53,u54,hv,q.mono fun v H56 ⟨l56,z,hv,r56,l06⟩=>⟨l56,_,_,z.f,_,z.cl,z.u1,z.u2,z.u3,z.u4,z.u5,z.d,_,hv,fun he=>by simp at he,fun _=>fin r56 l06⟩⟩

set_option maxHeartbeats 1000000 in
theorem ym7 {H:Hp} {u:Lu} {l:Ls} {p:Pt} (r:RdL H u l) (ok:ybg l) (op:okP p) :
  Go.Eng.Fn Tryz.prog F.f44 #[lsV u l,.agg #[.int .i64 p.1,.int .i64 p.2.1,.int .i64 p.2.2]] H fun v H'=>∃ w:Lu,v=.tuple #[lsV w (yjy l p).1,.int .i64 (yjy l p).2]∧Hp.le H H'∧RdL H' w (yjy l p).1:=by
 have fl:=ok.fit
 refine vc44 ((ym0 (p:=p) r.k.f).mono fun v H2 ⟨u3,hv,l2,rf⟩=>⟨u3,_,hv,fun he=>?_,fun he=>?_⟩)
 ·have he:(yjw l.ck.f p).2≠0:=by simpa using he
  unfold yjy
  rw [if_pos he]
  exact ⟨zlu,rfl,l2,RdL.zero⟩
 have he:(yjw l.ck.f p).2=0:=by simpa using he
 obtain ⟨_,hn,hl,ef⟩:=ykh ok he
 have P:=yk8 ok op hn hl
 rw [ef] at rf
 have r2:=r.le l2
 have of':=yba ok.ck.f op hn hl
 refine ⟨_,ymb r2 ok op,(ykt (f:=zzx l.ck.f p) r2.k ok.ck rf of' (y1y ok p)).mono fun v H7 ⟨z,hv,l7,rz⟩=>⟨_,_,z.f,_,z.cl,z.u1,z.u2,z.u3,z.u4,z.u5,z.d,_,hv,fun h=>absurd P.calm.z (by simpa using h),fun _=>?_⟩⟩
 have r7:=r2.le l7
 have nl:=ok.nl
 have rkle:=P.rk
 have hlen:=ok.len
 have hsm:=ok.ck.f.len
 have lo:(u.o.n:Int)=l.ord.length:=congrArg Nat.cast r.o.len
 refine (yne r7 fl).mono fun v H21 ⟨t,hv,l21,rt,_,_,_⟩=>⟨_,_,t.k.f,_,t.k.cl,t.k.u1,t.k.u2,t.k.u3,t.k.u4,t.k.u5,t.k.d,t.o,t.n,hv,?_⟩
 refine (ym5 rt.o (i:=rkI l p) (x:=p.1) (by omega) (by omega)).mono fun v H36 ⟨o2,hv,l36,ro2⟩=>⟨o2,hv,?_⟩
 have rn36:=rt.n.le l36
 have rz36:=(rz.le l21).le l36
 have l036:Hp.le H H36:=Hp.le_trans (Hp.le_trans l2 l7) (Hp.le_trans l21 l36)
 have e:yjy l p=y5d (ykc l p) (rkI l p-1) (min (rkI l p+1) l.ord.length-(rkI l p-1)):=by
  unfold yjy
  rw [if_neg (by rw [‹(yjw l.ck.f p).2=0›]; simp),if_neg (by rw [P.calm.z]; simp)]
 have fin:∀ (v:Value) (H':Hp) (w:Lu),v=.tuple #[lsV w (y5d (ykc l p) (rkI l p-1) (min (rkI l p+1) l.ord.length-(rkI l p-1))).1,.int .i64 (y5d (ykc l p) (rkI l p-1) (min (rkI l p+1) l.ord.length-(rkI l p-1))).2]→Hp.le H H'→RdL H' w (y5d (ykc l p) (rkI l p-1) (min (rkI l p+1) l.ord.length-(rkI l p-1))).1 →
   ∃ w:Lu,v=.tuple #[lsV w (yjy l p).1,.int .i64 (yjy l p).2]∧Hp.le H H'∧RdL H' w (yjy l p).1:=fun v H' w hv lH hr=>by
  rw [e]; exact ⟨w,hv,lH,hr⟩
 have emin:(if (u.o.n:Int)-1<(rkI l p:Int) then (u.o.n:Int)-1 else (rkI l p:Int))=min ((l.ord.length:Int)-1) (rkI l p:Int):=by rw [lo]; split <;> omega
 refine ⟨fun hc=>?_,fun hc=>?_⟩
 ·have hc:0<rkI l p∧rkI l p<l.ord.length:=by
   rw [lo] at hc
   simp only [Bool.and_eq_true,decide_eq_true_eq] at hc
   omega
  refine ⟨by unfold inI; omega,rn36.inS (by omega) (by omega),_,RdI.get rn36 (by omega) (by omega),?_⟩
  rw [show ((rkI l p:Int)-1).toNat=rkI l p-1 by omega]
  refine (ykw (n:=l.num.getD (rkI l p-1) 0) rz36 P.calm.ok).mono fun v H40 ⟨g,hv,l40,rg⟩=>⟨l40,_,_,g.f,_,g.cl,g.u1,g.u2,g.u3,g.u4,g.u5,g.d,hv,?_⟩
  refine (ym5 (rn36.le l40) (i:=rkI l p) (x:=0) (by omega) (by omega)).mono fun v H53 ⟨n2,hv,l53,rn2⟩=>⟨n2,hv,?_⟩
  have es:ykc l p=⟨zxm (z6b l.ck (zzx l.ck.f p)).1 (l.num.getD (rkI l p-1) 0),y05 l.ord (rkI l p) p.1,y05 l.num (rkI l p) 0⟩:=by
   unfold ykc goneIf
   rw [if_pos (by simp only [Bool.and_eq_true,decide_eq_true_eq]; exact hc),if_neg (by omega),Nat.min_eq_left (by omega)]
  have pm:=P.mid; have pn:=P.nlen
  rw [es] at pm pn fin
  exact yo8 (u:=⟨g,o2,n2⟩) ⟨rg.le l53,(ro2.le l40).le l53,rn2⟩ (Hp.le_trans l036 (Hp.le_trans l40 l53)) pm pn fin
 have hc:¬ (0<rkI l p∧rkI l p<l.ord.length):=fun h=>by
  rw [lo] at hc
  have:(decide ((rkI l p:Int)>0)&&decide ((rkI l p:Int)<(l.ord.length:Int)))=true:=by simp only [Bool.and_eq_true,decide_eq_true_eq]; omega
  rw [this] at hc; cases hc
 have es:ykc l p=⟨(z6b l.ck (zzx l.ck.f p)).1,y05 l.ord (rkI l p) p.1,if l.ord.length=0 then l.num else y05 l.num (min (rkI l p) (l.ord.length-1)) 0⟩:=by
  unfold ykc goneIf
  rw [if_neg (by simp only [Bool.and_eq_true,decide_eq_true_eq]; exact hc)]
 have pm:=P.mid; have pn:=P.nlen
 rw [es] at pm pn fin
 refine ⟨fun h1=>?_,fun h1=>?_⟩
 ·have h1:0<l.ord.length:=by
   rw [lo] at h1
   have:(l.ord.length:Int)>0:=by simpa using h1
   omega
  rw [if_neg (by omega)] at pm pn fin
  have em2:(if (u.o.n:Int)-1<(rkI l p:Int) then (u.o.n:Int)-1 else (rkI l p:Int))=((min (rkI l p) (l.ord.length-1):Nat):Int):=by rw [emin]; omega
  rw [em2]
  refine ⟨by unfold inI; omega,(ym5 rn36 (i:=min (rkI l p) (l.ord.length-1)) (x:=0) (by omega) (by omega)).mono fun v H53 ⟨n2,hv,l53,rn2⟩=>⟨n2,hv,?_⟩⟩
  exact yo8 (u:=⟨z,o2,n2⟩) ⟨rz36.le l53,ro2.le l53,rn2⟩ (Hp.le_trans l036 l53) pm pn fin
 ·have h1:l.ord.length=0:=by
   rw [lo] at h1
   have:¬ (l.ord.length:Int)>0:=by simpa using h1
   omega
  rw [if_pos h1] at pm pn fin
  exact yo8 (u:=⟨z,o2,t.n⟩) (l:=⟨(z6b l.ck (zzx l.ck.f p)).1,y05 l.ord (rkI l p) p.1,l.num⟩) ⟨rz36,ro2,rn36⟩ l036 pm pn fin

set_option maxHeartbeats 1000000 in
theorem yma {H:Hp} {u:Lu} {l:Ls} {id:Int} (r:RdL H u l) (ok:ybg l) (h0:0≤yiq l.ord id) :
    Go.Eng.Fn Tryz.prog F.f77 #[lsV u l,.int .i64 id] H fun v H'=>∃ w:Lu,v=.tuple #[lsV w (ywj l id).1,.int .i64 (ywj l id).2]∧Hp.le H H'∧RdL H' w (ywj l id).1:=by
  have fl:=ok.fit
  have T:=yws ok (id:=id) h0
  have qr:=yn4 (id:=id) r fl
  unfold y19 at qr
  rw [if_pos ok,if_neg (by omega)] at qr
  have ei:yiq l.ord id=(yd6 l id:Int):=by unfold yd6; omega
  rw [ei] at qr
  have nl:=ok.nl
  have hlen:=ok.len
  have hsm:=ok.ck.f.len
  have tlt:=T.lt
  have lo:(u.o.n:Int)=l.ord.length:=congrArg Nat.cast r.o.len
  refine vc77 ⟨_,_,qr,(yne r fl).mono fun v H4 ⟨t,hv,l4,rt,_,_,_⟩=>⟨_,_,t.k.f,_,t.k.cl,t.k.u1,t.k.u2,t.k.u3,t.k.u4,t.k.u5,t.k.d,t.o,t.n,hv,?_⟩⟩
  rw [lo]
  have fin:∀ (v:Value) (H':Hp) (w:Lu) (r:Ls × Int),r=(if 0<yd6 l id∧yd6 l id<l.num.length then y55 (yd7 l id) (yd6 l id-1) else (yd7 l id,0))→v=.tuple #[lsV w r.1,.int .i64 r.2]→Hp.le H H'→RdL H' w r.1 →
      ∃ w:Lu,v=.tuple #[lsV w (ywj l id).1,.int .i64 (ywj l id).2]∧Hp.le H H'∧RdL H' w (ywj l id).1:=fun v H' w r er hv lH hr=>by
    have e:ywj l id=r:=by
      rw [er]
      unfold ywj
      rw [if_neg (by rw [T.calm.z]; simp)]
    rw [e]
    exact ⟨w,hv,lH,hr⟩
  have pm:=T.mid
  have fc:=T.fc
  have tail:∀ {H':Hp} {w:Cu} {c:Ck},c=ywh l id→RdK H' w c→Hp.le H4 H'→RdK H' w (ywh l id)∧RdI H' t.o l.ord∧RdI H' t.n l.num∧Hp.le H H':=fun {H' w c} ec rk lH=>by
    rw [ec] at rk
    exact ⟨rk,rt.o.le lH,rt.n.le lH,Hp.le_trans l4 lH⟩
  have known:=T.known; have cz:=T.calm.z; have okc:=T.okc
  have fin2:=fin
  unfold yd7 at fin2 pm
  rw [← fc] at known cz fin2 pm
  have go:∀ {H':Hp} {w:Cu},RdK H' w (ywh l id)→Hp.le H4 H'→_:=fun {H' w} rk lH =>
    yof (i:=yd6 l id) (ln:=l.ord.length) rk (rt.o.le lH) (rt.n.le lH) (Hp.le_trans l4 lH) (by rw [fc]; exact ok.ck.f) okc rfl nl (by omega) tlt known cz pm fin2
  have rn4:RdI H4 u.n l.num:=r.n.le l4
  -- the second one
  have second:∀ {H':Hp} {w:Cu} {c:Ck},c=goneIf l.ck (decide (0<yd6 l id)) (l.num.getD (yd6 l id-1) 0)→RdK H' w c→Hp.le H4 H'→True:=fun _ _ _=>trivial
  refine ⟨fun hc=>?_,fun hc=>?_⟩
  · have hc:0<yd6 l id:=by have:(yd6 l id:Int)>0:=by simpa using hc
                           omega
    refine ⟨by unfold inI; omega,rn4.inS (by omega) (by omega),_,RdI.get rn4 (by omega) (by omega),?_⟩
    rw [show ((yd6 l id:Int)-1).toNat=yd6 l id-1 by omega]
    refine (ykw (n:=l.num.getD (yd6 l id-1) 0) rt.k ok.ck).mono fun v H20 ⟨g,hv,l20,rg⟩=>⟨l20,_,_,g.f,_,g.cl,g.u1,g.u2,g.u3,g.u4,g.u5,g.d,hv,by unfold inI; omega,fun hd=>?_,fun hd=>?_⟩
    · have hd:yd6 l id<l.num.length:=by have:(yd6 l id:Int)<(l.ord.length:Int)-1:=by simpa using hd
                                        omega
      have rn20:=rn4.le l20
      refine ⟨rn20.inS (by omega) (by omega),_,RdI.get rn20 (by omega) (by omega),?_⟩
      rw [Int.toNat_natCast]
      have ec:ywh l id=zxm (zxm l.ck (l.num.getD (yd6 l id-1) 0)) (l.num.getD (yd6 l id) 0):=by unfold ywh; rw [decide_eq_true hc,decide_eq_true hd]; rfl
      have k1:=(T.held1 hd).1
      rw [decide_eq_true hc] at k1
      refine (ykw (n:=l.num.getD (yd6 l id) 0) rg k1).mono fun v H34 ⟨g2,hv,l34,rg2⟩=>⟨l34,_,_,g2.f,_,g2.cl,g2.u1,g2.u2,g2.u3,g2.u4,g2.u5,g2.d,hv,?_⟩
      have rg2:RdK H34 g2 (ywh l id):=by rw [ec]; exact rg2
      have q:=go rg2 (Hp.le_trans l20 l34)
      rw [ec] at q
      exact q
    · have hd:¬ yd6 l id<l.num.length:=by have:¬ (yd6 l id:Int)<(l.ord.length:Int)-1:=by simpa using hd
                                          omega
      have ec:ywh l id=zxm l.ck (l.num.getD (yd6 l id-1) 0):=by unfold ywh; rw [decide_eq_true hc,decide_eq_false hd]; rfl
      have rg:RdK H20 g (ywh l id):=by rw [ec]; exact rg
      have q:=go rg l20
      rw [ec] at q
      exact q
  · have hc:¬ 0<yd6 l id:=by have:¬ (yd6 l id:Int)>0:=by simpa using hc
                             omega
    refine ⟨by unfold inI; omega,fun hd=>?_,fun hd=>?_⟩
    · have hd:yd6 l id<l.num.length:=by have:(yd6 l id:Int)<(l.ord.length:Int)-1:=by simpa using hd
                                        omega
      refine ⟨rn4.inS (by omega) (by omega),_,RdI.get rn4 (by omega) (by omega),?_⟩
      rw [Int.toNat_natCast]
      have ec:ywh l id=zxm l.ck (l.num.getD (yd6 l id) 0):=by unfold ywh; rw [decide_eq_false hc,decide_eq_true hd]; rfl
      refine (ykw (n:=l.num.getD (yd6 l id) 0) rt.k ok.ck).mono fun v H34 ⟨g2,hv,l34,rg2⟩=>⟨l34,_,_,g2.f,_,g2.cl,g2.u1,g2.u2,g2.u3,g2.u4,g2.u5,g2.d,hv,?_⟩
      have rg2:RdK H34 g2 (ywh l id):=by rw [ec]; exact rg2
      have q:=go rg2 l34
      rw [ec] at q
      exact q
    · have hd:¬ yd6 l id<l.num.length:=by have:¬ (yd6 l id:Int)<(l.ord.length:Int)-1:=by simpa using hd
                                          omega
      have ec:ywh l id=l.ck:=by unfold ywh; rw [decide_eq_false hc,decide_eq_false hd]; rfl
      have rg:RdK H4 t.k (ywh l id):=by rw [ec]; exact rt.k
      have q:=go rg (Hp.le_refl _)
      rw [ec] at q
      exact q

theorem ym6 {H:Hp} {u:Lu} {l:Ls} {p:Pt} (r:RdL H u l) (fl:zui l) :
  Go.Eng.Fn Tryz.prog F.f13 #[lsV u l,.agg #[.int .i64 p.1,.int .i64 p.2.1,.int .i64 p.2.2]] H fun v H'=>∃ w:Lu,v=.tuple #[lsV w (yk3 l p).1,.int .i64 (yk3 l p).2]∧Hp.le H H'∧RdL H' w (yk3 l p).1:=by
 unfold yk3
 refine vc13 ⟨_,ym3 r fl,fun hc=>?_,fun hc=>?_⟩
 ·have hn:¬ (ybg l∧okP p):=fun h=>by rw [if_pos h] at hc; simp at hc
  rw [if_neg hn,if_neg hn]; exact ⟨zlu,rfl,Hp.le_refl _,RdL.zero⟩
 ·have hn:ybg l∧okP p:=Decidable.byContradiction fun h=>by rw [if_neg h] at hc; simp at hc
  rw [if_pos hn]
  exact (ym7 r hn.1 hn.2).mono fun v H3 ⟨w,hv,l3,rw3⟩=>⟨_,_,w.k.f,_,w.k.cl,w.k.u1,w.k.u2,w.k.u3,w.k.u4,w.k.u5,w.k.d,w.o,w.n,_,hv,w,rfl,l3,rw3⟩

theorem ym9 {H:Hp} {u:Lu} {l:Ls} {id:Int} (r:RdL H u l) (fl:zui l) :
  Go.Eng.Fn Tryz.prog F.f35 #[lsV u l,.int .i64 id] H fun v H'=>Hp.le H H'∧∃ w:Lu,v=.tuple #[lsV w (ywm l id).1,.int .i64 (ywm l id).2]∧RdL H' w (ywm l id).1:=by
 have qr:=yn4 (id:=id) r fl
 unfold y19 at qr
 unfold ywm
 by_cases ok:ybg l
 ·rw [if_pos ok] at qr ⊢
  by_cases h0:yiq l.ord id<0
  ·rw [if_pos h0] at qr ⊢
   exact vc35 ⟨_,_,qr,fun _=>⟨Hp.le_refl _,zlu,rfl,RdL.zero⟩,fun h=>by simp at h⟩
  ·rw [if_neg h0] at qr ⊢
   exact vc35 ⟨_,_,qr,fun h=>by simp at h,fun _=>(yma (id:=id) r ok (by omega)).mono fun v H4 ⟨w,hv,l4,rw4⟩=>⟨_,_,w.k.f,_,w.k.cl,w.k.u1,w.k.u2,w.k.u3,w.k.u4,w.k.u5,w.k.d,w.o,w.n,_,hv,l4,w,rfl,rw4⟩⟩
 ·rw [if_neg ok] at qr ⊢
  exact vc35 ⟨_,_,qr,fun _=>⟨Hp.le_refl _,zlu,rfl,RdL.zero⟩,fun h=>by simp at h⟩

theorem ym4 {H:Hp} {u:Lu} {l:Ls} {p:Pt} (r:RdL H u l) (fl:zui l) :
  Go.Eng.Fn Tryz.prog F.f36 #[lsV u l,.agg #[.int .i64 p.1,.int .i64 p.2.1,.int .i64 p.2.2]] H fun v H'=>∃ w:Lu,v=.tuple #[lsV w (zis l p).1,.int .i64 (zis l p).2]∧Hp.le H H'∧RdL H' w (zis l p).1:=by
 unfold zis
 refine vc36 ⟨_,ym3 r fl,fun hc=>?_,fun hc=>?_⟩
 ·have hn:¬ (ybg l∧okP p):=fun h=>by rw [if_pos h] at hc; simp at hc
  rw [if_neg hn,if_neg hn]; exact ⟨zlu,rfl,Hp.le_refl _,RdL.zero⟩
 have hn:ybg l∧okP p:=Decidable.byContradiction fun h=>by rw [if_neg h] at hc; simp at hc
 rw [if_pos hn]
 refine (ym9 (id:=p.1) r fl).mono fun v H3 ⟨l3,w,hv,rw3⟩=>⟨_,_,w.k.f,_,w.k.cl,w.k.u1,w.k.u2,w.k.u3,w.k.u4,w.k.u5,w.k.d,w.o,w.n,_,hv,fun he=>?_,fun he=>?_⟩
 ·have he:(ywm l p.1).2≠0:=by simpa using he
  rw [if_neg he]; exact ⟨zlu,rfl,l3,RdL.zero⟩
 ·have he:(ywm l p.1).2=0:=by simpa using he
  rw [if_pos he]
  obtain ⟨_,_,_,K⟩:=ywo he
  exact (ym7 rw3 K.ok hn.2).mono fun v H19 ⟨z,hv,l19,rw19⟩=>⟨_,_,z.k.f,_,z.k.cl,z.k.u1,z.k.u2,z.k.u3,z.k.u4,z.k.u5,z.k.d,z.o,z.n,_,hv,z,rfl,Hp.le_trans l3 l19,rw19⟩

theorem ykl:∀ (ps:List Pt) (r:Ls × Int),r.2≠0→ykj r ps=r
 | [],_,_=>rfl
 | p :: ps,r,h=>by
  show ykj (if r.2=0 then yk3 r.1 p else r) ps=r
  rw [if_neg h]; exact ykl ps r h
theorem yx4:∀ (ps:List Int) (r:Ls × Int),r.2≠0→yx2 r ps=r
 | [],_,_=>rfl
 | p :: ps,r,h=>by
  show yx2 (if r.2=0 then ywm r.1 p else r) ps=r
  rw [if_neg h]; exact yx4 ps r h
theorem ykm {r:Ls × Int} {ps:List Pt} {n:Nat} (h:(ykj r (ps.take n)).2≠0):ykj r ps=ykj r (ps.take n):=by
 have:=ykk (ps.take n) (ps.drop n) r
 rw [List.take_append_drop] at this
 rw [this,ykl _ _ h]
theorem yx5 {r:Ls × Int} {ps:List Int} {n:Nat} (h:(yx2 r (ps.take n)).2≠0):yx2 r ps=yx2 r (ps.take n):=by
 have:=yx3 (ps.take n) (ps.drop n) r
 rw [List.take_append_drop] at this
 rw [this,yx4 _ _ h]

set_option maxHeartbeats 2000000 in
theorem ym2 {H:Hp} {u:Lu} {l:Ls} {pv iv:Slc} {ps:List Pt} {ids:List Int} (r:RdL H u l) (fl:zui l) (rp:Rd 3 fD H pv ps) (ri:RdI H iv ids) (hp:ps.length≤1000) (hi:ids.length≤1000) :
    Go.Eng.Fn Tryz.prog F.f37 #[lsV u l,pv.v,iv.v] H fun v H'=>∃ w:Lu,v=.tuple #[lsV w (z5e l ps ids).1,.int .i64 (z5e l ps ids).2]∧Hp.le H H'∧RdL H' w (z5e l ps ids).1:=by
  have lp:=rp.len; have li:=ri.len
  unfold z5e
  refine vc37 ⟨_,yn9 r fl,fun hc=>⟨_,yn9 r fl,?_⟩,fun hc=>?_⟩
  · have hn:¬ ybg l:=fun ok=>by rw [zjh ok] at hc; simp at hc
    rw [zjg hn,if_neg hn]; exact ⟨zlu,rfl,Hp.le_refl _,RdL.zero⟩
  have ok:ybg l:=zji.1 (by simpa using hc)
  rw [if_pos ok]
  refine (yne r fl).mono fun v H3 ⟨w,hv,l3,r3,_,_,_⟩=>?_
  have s0:z1w (l,0):=⟨fun _=>ok,fun h=>absurd rfl h⟩
  refine ⟨_,_,w.k.f,_,w.k.cl,w.k.u1,w.k.u2,w.k.u3,w.k.u4,w.k.u5,w.k.d,w.o,w.n,hv,?_⟩
  refine ⟨fun n n1 n2 a1 n3 a2 v1 v2 v3 v4 v5 d uo un H'=>0≤n∧n≤ps.length∧Hp.le H H'∧(ykj (l,0) (ps.take n.toNat)).2=0∧n1=(ykj (l,0) (ps.take n.toNat)).1.ck.now.1∧n2=(ykj (l,0) (ps.take n.toNat)).1.ck.now.2∧n3=(ykj (l,0) (ps.take n.toNat)).1.ck.ct.next ∧
      RdL H' ⟨⟨a1,a2,v1,v2,v3,v4,v5,d⟩,uo,un⟩ (ykj (l,0) (ps.take n.toNat)).1,
    fun n _ _ _ _ _ _ _ _ _ _ _ _ _ _=>(ps.length-n).toNat,⟨Int.le_refl _,by omega,l3,rfl,rfl,rfl,rfl,r3⟩,fun n n1 n2 a1 n3 a2 v1 v2 v3 v4 v5 d uo un H36 ⟨n0,nn,l36,ee,e1,e2,e3,r36⟩=>⟨fun hn=>?_,fun hn=>?_⟩⟩
  · subst e1; subst e2; subst e3
    have hn:n<ps.length:=by have:n<pv.n:=by simpa using hn
                            omega
    have hg:=zxd (d:=((0:Int),(0:Int),(0:Int))) n0 hn
    have es:=ykn (r:=(l,0)) hg
    rw [show n.toNat+1=(n+1).toNat by omega,if_pos ee] at es
    have sd:=z1w.puts (ps.take n.toNat) s0
    refine (rp.le l36).ldD n0 hn ?_
    generalize ps.getD n.toNat (0,0,0)=p at *
    refine (ym6 (p:=p) r36 (sd.fit ee)).mono fun v H41 ⟨q,hv,l41,rq⟩=>⟨l41,_,_,q.k.f,_,q.k.cl,q.k.u1,q.k.u2,q.k.u3,q.k.u4,q.k.u5,q.k.d,q.o,q.n,_,hv,fun he=>?_,fun he=>⟨by unfold inI; omega,?_,by dsimp only; omega⟩⟩
    · have he:(yk3 (ykj (l,0) (ps.take n.toNat)).1 p).2≠0:=by simpa using he
      have e9:=ykm (r:=(l,0)) (ps:=ps) (n:=(n+1).toNat) (by rw [es]; exact he)
      rw [e9,es,yx4 _ _ he,yk7 he]
      exact ⟨zlu,rfl,Hp.le_trans l36 l41,RdL.zero⟩
    · have he:(yk3 (ykj (l,0) (ps.take n.toNat)).1 p).2=0:=by simpa using he
      dsimp only
      rw [es]
      exact ⟨by omega,by omega,Hp.le_trans l36 l41,he,rfl,rfl,rfl,rq⟩
  · have hn:n=ps.length:=by have:¬ n<pv.n:=by simpa using hn
                            omega
    subst hn
    rw [Int.toNat_natCast,List.take_length] at ee e1 e2 e3 r36
    have sd:=z1w.puts ps s0
    generalize ykj (l,0) ps=R at *
    refine ⟨fun n n1 n2 a1 n3 a2 v1 v2 v3 v4 v5 d uo un H'=>0≤n∧n≤ids.length∧Hp.le H H'∧(yx2 R (ids.take n.toNat)).2=0∧n1=(yx2 R (ids.take n.toNat)).1.ck.now.1∧n2=(yx2 R (ids.take n.toNat)).1.ck.now.2∧n3=(yx2 R (ids.take n.toNat)).1.ck.ct.next ∧
        RdL H' ⟨⟨a1,a2,v1,v2,v3,v4,v5,d⟩,uo,un⟩ (yx2 R (ids.take n.toNat)).1,
      fun n _ _ _ _ _ _ _ _ _ _ _ _ _ _=>(ids.length-n).toNat,⟨Int.le_refl _,by omega,l36,ee,e1,e2,e3,r36⟩,fun n n1 n2 a1 n3 a2 v1 v2 v3 v4 v5 d uo un H73 ⟨n0,nn,l73,ee,e1,e2,e3,r73⟩=>⟨fun hn=>?_,fun hn=>?_⟩⟩
    · subst e1; subst e2; subst e3
      have hn:n<ids.length:=by have:n<iv.n:=by simpa using hn
                               omega
      have hg:=zx9 n0 hn
      have es:=yx6 (r:=R) hg
      rw [show n.toNat+1=(n+1).toNat by omega,if_pos ee] at es
      have sd:=z1w.takes (ids.take n.toNat) sd
      refine (ri.le l73).ldI n0 hn ?_
      generalize ids.getD n.toNat 0=p at *
      refine (ym9 (id:=p) r73 (sd.fit ee)).mono fun v H41 ⟨l41,q,hv,rq⟩=>⟨l41,_,_,q.k.f,_,q.k.cl,q.k.u1,q.k.u2,q.k.u3,q.k.u4,q.k.u5,q.k.d,q.o,q.n,_,hv,fun he=>?_,fun he=>⟨by unfold inI; omega,?_,by dsimp only; omega⟩⟩
      · have he:(ywm (yx2 R (ids.take n.toNat)).1 p).2≠0:=by simpa using he
        have e9:=yx5 (r:=R) (ps:=ids) (n:=(n+1).toNat) (by rw [es]; exact he)
        rw [e9,es,ywr he]
        exact ⟨zlu,rfl,Hp.le_trans l73 l41,RdL.zero⟩
      · have he:(ywm (yx2 R (ids.take n.toNat)).1 p).2=0:=by simpa using he
        dsimp only
        rw [es]
        exact ⟨by omega,by omega,Hp.le_trans l73 l41,he,rfl,rfl,rfl,rq⟩
    · subst e1; subst e2; subst e3
      have hn:n=ids.length:=by have:¬ n<iv.n:=by simpa using hn
                               omega
      subst hn
      rw [Int.toNat_natCast,List.take_length] at r73 ee ⊢
      rw [ee]
      exact ⟨_,rfl,l73,r73⟩
end Go.Proofs.YtjhbjjdipmpgjaaGreat
end
