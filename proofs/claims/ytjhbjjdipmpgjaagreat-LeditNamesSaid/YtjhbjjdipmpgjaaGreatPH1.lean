/- The engine, parts H1, H2, H3, H4, H5, put together. Conditions: none. -/
import Derived.Test.YtjhbjjdipmpgjaaGreatUP
import Derived.Test.YtjhbjjdipmpgjaaGreatPF1
import Derived.Test.YtjhbjjdipmpgjaaGreatVgBase
import Derived.Test.YtjhbjjdipmpgjaaGreatVgStd
import Derived.Test.YtjhbjjdipmpgjaaGreatFs
import Derived.Test.YtjhbjjdipmpgjaaGreatPL4
import Derived.Test.YtjhbjjdipmpgjaaGreatPM4
import Derived.Test.YtjhbjjdipmpgjaaGreatVgLedit
import Derived.Test.YtjhbjjdipmpgjaaGreatPS1
set_option linter.unusedVariables false
section
/- slices.Insert and Delete on points and numbers; field.Put, Take, Change. Conditions: none. -/
set_option maxRecDepth 100000
open Go Go.Eng Go.Proofs
namespace Go.Proofs.YtjhbjjdipmpgjaaGreat

theorem noPt {H:Hp} {a b:Addr} {la ca lb cb:Nat} {c1 c2:Array Value} {T1 T2:TypeId} (h1:H a.block=some (.cells c1 T1 (0,0))) (h2:H b.block=some (.cells c2 T2 (0,0))) (hne:a.block≠b.block) :
  OpQ Tryz.prog (Go.callFunc F.overlapsPt #[.slice (some a) la ca,.slice (some b) lb cb]) H (.bool false) :=
 overlapsNo (t:=24) (e:=43) (rs:=#[4]) func_overlapsPt (by kernel_rfl) (by kernel_rfl) (by kernel_rfl) (by kernel_rfl) Tryz.underlying24 Tryz.underlying43 h1 h2 hne
theorem noInt {H:Hp} {a b:Addr} {la ca lb cb:Nat} {c1 c2:Array Value} {T1 T2:TypeId} (h1:H a.block=some (.cells c1 T1 (0,0))) (h2:H b.block=some (.cells c2 T2 (0,0))) (hne:a.block≠b.block) :
  OpQ Tryz.prog (Go.callFunc F.overlapsInt #[.slice (some a) la ca,.slice (some b) lb cb]) H (.bool false) :=
 overlapsNo (t:=30) (e:=3) (rs:=#[4]) func_overlapsInt (by kernel_rfl) (by kernel_rfl) (by kernel_rfl) (by kernel_rfl) Tryz.underlying30 Tryz.underlying3 h1 h2 hne

theorem insertInt {H0 H:Hp} {s:Slc} {xs:List Int} {i:Int} {bv:Nat} {x:Int} {TT:TypeId} (hl:Hp.le H0 H) (h:Mine 1 fI 3 H0 H s xs) (h0:0≤i) (hi:i≤xs.length) (hlen:xs.length≤100000000) (hv:H bv=some (.cells #[.int .i64 x] TT (0,0))) (hvo:∀ p,s.a=some p→p.block≠bv) :
  Go.Eng.Fn Tryz.prog F.slices_Insert_int_int #[s.v,.int .i64 i,.slice (some ⟨bv,0,none⟩) 1 1] H fun v H'=>∃ u:Slc,v=u.v∧Hp.le H0 H'∧Mine 1 fI 3 H0 H' u (insI xs i.toNat x)∧Chg H H' s∧Ext H s u :=
 slices_Insert_int_int_vc (a2:=⟨some ⟨bv,0,none⟩,1,1⟩) (insert_mine (k:=1) (f:=fI) (bytes:=8) (post:=fun v H'=>∃ u:Slc,v=u.v∧Hp.le H0 H'∧Mine 1 fI 3 H0 H' u (insI xs i.toNat x)∧Chg H H' s∧Ext H s u) (by kernel_rfl) (by decide) (fun _=>rfl) (fun x v hv=>by simp [fI] at hv; subst hv; rfl) (by kernel_rfl) Tryz.underlying3 Tryz.underlying3 (fun a b c=>noInt a b c) hl h h0 hi hv hvo hlen (by decide)
  (fun u H' g1 g2 g3 g4=>⟨u,rfl,g1,g2,g3,g4⟩) rfl)
theorem insertPt {H0 H:Hp} {s:Slc} {xs:List Pt} {i:Int} {bv:Nat} {x:Pt} {TT:TypeId} (hl:Hp.le H0 H) (h:Mine 3 fD T.api_Point H0 H s xs) (h0:0≤i) (hi:i≤xs.length) (hlen:xs.length≤100000000) (hv:H bv=some (.cells (fD x).toArray TT (0,0))) (hvo:∀ p,s.a=some p→p.block≠bv) :
  Go.Eng.Fn Tryz.prog F.slices_Insert_api_Point_api_Point #[s.v,.int .i64 i,.slice (some ⟨bv,0,none⟩) 1 1] H fun v H'=>∃ u:Slc,v=u.v∧Hp.le H0 H'∧Mine 3 fD T.api_Point H0 H' u (xs.take i.toNat++x :: xs.drop i.toNat)∧Chg H H' s∧Ext H s u :=
 slices_Insert_api_Point_api_Point_vc (a2:=⟨some ⟨bv,0,none⟩,1,1⟩) (insert_mine (k:=3) (f:=fD) (bytes:=24) (post:=fun v H'=>∃ u:Slc,v=u.v∧Hp.le H0 H'∧Mine 3 fD T.api_Point H0 H' u (xs.take i.toNat++x :: xs.drop i.toNat)∧Chg H H' s∧Ext H s u) (by kernel_rfl) (by decide) (fun _=>rfl) fD_one (by kernel_rfl) Tryz.underlying3 Tryz.underlying43 (fun a b c=>noPt a b c) hl h h0 hi hv hvo hlen (by decide)
  (fun u H' g1 g2 g3 g4=>⟨u,rfl,g1,g2,g3,g4⟩) rfl)
theorem deleteInt {H0 H:Hp} {s:Slc} {xs:List Int} {i:Int} (hl:Hp.le H0 H) (h:Mine 1 fI 3 H0 H s xs) (h0:0≤i) (hi:i<xs.length) :
  Go.Eng.Fn Tryz.prog F.slices_Delete_int_int #[s.v,.int .i64 i,.int .i64 (i+1)] H fun v H'=>∃ u:Slc,v=u.v∧Hp.le H0 H'∧Mine 1 fI 3 H0 H' u (cutI xs i.toNat)∧Chg H H' s∧Ext H s u :=
 slices_Delete_int_int_vc (delete_mine (k:=1) (f:=fI) (bytes:=8) (j:=i+1) (post:=fun v H'=>∃ u:Slc,v=u.v∧Hp.le H0 H'∧Mine 1 fI 3 H0 H' u (cutI xs i.toNat)∧Chg H H' s∧Ext H s u) (by kernel_rfl) (by kernel_rfl) (by decide) (fun _=>rfl) (fun x v hv=>by simp [fI] at hv; subst hv; rfl) (by kernel_rfl) hl h h0 (by omega) (by omega)
  fun u H' g1 g2 g3 g4=>⟨u,rfl,g1,by rw [show (i+1).toNat=i.toNat+1 by omega] at g2; exact g2,g3,g4⟩)
theorem deletePt {H0 H:Hp} {s:Slc} {xs:List Pt} {i:Int} (hl:Hp.le H0 H) (h:Mine 3 fD T.api_Point H0 H s xs) (h0:0≤i) (hi:i<xs.length) :
  Go.Eng.Fn Tryz.prog F.slices_Delete_api_Point_api_Point #[s.v,.int .i64 i,.int .i64 (i+1)] H fun v H'=>∃ u:Slc,v=u.v∧Hp.le H0 H'∧Mine 3 fD T.api_Point H0 H' u (xs.take i.toNat++xs.drop (i.toNat+1))∧Chg H H' s∧Ext H s u :=
 slices_Delete_api_Point_api_Point_vc (delete_mine (k:=3) (f:=fD) (bytes:=24) (j:=i+1) (post:=fun v H'=>∃ u:Slc,v=u.v∧Hp.le H0 H'∧Mine 3 fD T.api_Point H0 H' u (xs.take i.toNat++xs.drop (i.toNat+1))∧Chg H H' s∧Ext H s u) (by kernel_rfl) (by kernel_rfl) (by decide) (fun _=>rfl) fD_one (by kernel_rfl) hl h h0 (by omega) (by omega)
  fun u H' g1 g2 g3 g4=>⟨u,rfl,g1,by rw [show (i+1).toNat=i.toNat+1 by omega] at g2; exact g2,g3,g4⟩)

theorem fieldFindQ {H:Hp} {u:Slc} {f:List Pt} {id:Int} (hf:Rd 3 fD H u f) (of:okF f) :
  Qf Tryz.prog F.field_find #[vFd u,.int .i64 id] H (.tuple #[.int .i64 (lowF f id),.bool (decide (0≤posF f id))])∧(0≤posF f id→posF f id=lowF f id)∧lowF f id≤f.length:=by
 have hl:=of.small
 have hb:=bsearch_fd (n:=id) hf of.inc (by omega)
 have hle:=posI_le (f.map (·.1)) id
 rw [List.length_map] at hle
 rcases pos_dich of.inc id with ⟨h1,h2⟩ | ⟨h1,h2⟩
 ·have e:posF f id=posI (f.map (·.1)) id:=h2
  rw [h1] at hb
  refine ⟨field_find_vc ⟨_,_,hb,?_,Hp.le_refl _⟩,fun _=>e,hle⟩
  have:decide (0≤posF f id)=true:=decide_eq_true (by omega)
  rw [this]; rfl
 ·have e:posF f id = -1:=h2
  rw [h1] at hb
  refine ⟨field_find_vc ⟨_,_,hb,?_,Hp.le_refl _⟩,fun h=>by omega,hle⟩
  have:decide (0≤posF f id)=false:=decide_eq_false (by omega)
  rw [this]; rfl
def placeF (f:List Pt) (id:Int):Int × Int:=if chkF f≠0 then (0,chkF f) else if posF f id<0 then (0,6) else (posF f id,0)
theorem fieldPlace {H:Hp} {u:Slc} {f:List Pt} {id:Int} (hf:Rd 3 fD H u f) :
  Qf Tryz.prog F.field_place #[vFd u,.int .i64 id] H (.tuple #[.int .i64 (placeF f id).1,.int .i64 (placeF f id).2]):=by
 unfold placeF
 refine field_place_vc ⟨_,fieldCheck hf,fun h=>?_,fun h=>?_⟩
 ·have h:chkF f≠0:=by simpa using h
  rw [if_pos h]; exact ⟨rfl,Hp.le_refl _⟩
 have h:chkF f=0:=by simpa using h
 rw [if_neg (by rw [h]; simp)]
 obtain ⟨q,e,_⟩:=fieldFindQ (id:=id) hf (chkF_zero.1 h)
 refine ⟨_,_,q,fun hb=>?_,fun hb=>?_⟩
 ·have hb:posF f id<0:=by simpa using hb
  rw [if_pos hb]; exact ⟨rfl,Hp.le_refl _⟩
 ·have hb:0≤posF f id:=by simpa using hb
  rw [if_neg (by omega),e hb]; exact ⟨rfl,Hp.le_refl _⟩

theorem chkP_eq (p:Pt):chkP p=if okP p then 0 else 8:=by
 by_cases h:okP p
 ·rw [if_pos h,chkP_ok h]
 ·rw [if_neg h,chkP_bad h]

theorem fieldPut {H:Hp} {u:Slc} {f:List Pt} {p:Pt} (hf:Rd 3 fD H u f) :
  Go.Eng.Fn Tryz.prog F.field_Put #[vFd u,.agg #[.int .i64 p.1,.int .i64 p.2.1,.int .i64 p.2.2]] H fun v H'=>∃ w:Slc,v=.tuple #[vFd w,.int .i64 (putF f p).2]∧Hp.le H H'∧Rd 3 fD H' w (putF f p).1:=by
 have lu:=hf.len
 unfold putF
 refine field_Put_vc ⟨_,fieldCheck hf,fun h=>?_,fun h=>⟨_,courseCheck,fun h2=>?_,fun h2=>?_⟩⟩
 ·have h:chkF f≠0:=by simpa using h
  rw [if_pos h]; exact ⟨⟨none,0,0⟩,rfl,Hp.le_refl _,Rd.nil⟩
 ·have h:chkF f=0:=by simpa using h
  have h2:¬ okP p:=fun op=>by rw [chkP_ok op] at h2; simp at h2
  rw [if_neg (by rw [h]; simp),if_pos h2,chkP_bad h2]; exact ⟨⟨none,0,0⟩,rfl,Hp.le_refl _,Rd.nil⟩
 have h:chkF f=0:=by simpa using h
 have h2:okP p:=chkP_zero.1 (by simpa using h2)
 have of:=chkF_zero.1 h
 have lf:=of.small
 rw [if_neg (by rw [h]; simp),if_neg (by simpa using h2)]
 obtain ⟨q,e,hle⟩:=fieldFindQ (id:=p.1) hf of
 refine ⟨_,_,q,fun hb=>?_,fun hb=>?_⟩
 ·have hb:0≤posF f p.1:=by simpa using hb
  rw [if_pos hb]; exact ⟨⟨none,0,0⟩,rfl,Hp.le_refl _,Rd.nil⟩
 have hb:¬ 0≤posF f p.1:=by simpa using hb
 rw [if_neg hb,lu]
 refine ⟨fun hc=>?_,fun hc=>?_⟩
 ·have hc:f.length=64:=by have:(f.length:Int)=64:=by simpa using hc
                          omega
  rw [if_pos hc]; exact ⟨⟨none,0,0⟩,rfl,Hp.le_refl _,Rd.nil⟩
 have hc:f.length≠64:=by have:¬ (f.length:Int)=64:=by simpa using hc
                         omega
 rw [if_neg hc]
 refine (clone_pt hf (by omega)).mono fun v H6 ⟨w,hv,l6,m6⟩=>⟨l6,w,hv,fun b8 H9 hb8 hH9=>?_⟩
 have l9:Hp.le H6 H9:=Hp.le_new (Hp.le_refl _) hb8 hH9
 refine (insertPt (x:=p) (Hp.le_trans l6 l9) (m6.le l9) (i:=(lowF f p.1:Int)) (by omega) (by omega) (by omega) (by rw [hH9]; exact Hp.put_same _ _ _) fun p hp e=>?_).mono fun v H11 ⟨z,hv,l11,m11,_,_⟩=>⟨z,hv,z,rfl,l11,?_⟩
 ·have:=m6.isOld p hp
  rw [e] at this; exact this hb8
 ·rw [Int.toNat_natCast] at m11; exact m11.rdD

theorem outF_at {f:List Pt} (of:okF f) {id:Int} (h0:0≤posF f id):f.take (posF f id).toNat++f.drop ((posF f id).toNat+1)=outF f id:=by
 obtain ⟨h1,h2,h3⟩:=posF_range h0
 obtain ⟨hlt,hx⟩:=List.getElem?_eq_some_iff.1 h2
 have hsplit:f=f.take (posF f id).toNat++gP f (posF f id) :: f.drop ((posF f id).toNat+1):=by
  conv=>lhs; rw [← List.take_append_drop (posF f id).toNat f]
  rw [List.drop_eq_getElem_cons hlt,hx]
 have hs:=of.inc
 generalize hA:f.take (posF f id).toNat=A at *
 generalize hB:f.drop ((posF f id).toNat+1)=B at *
 generalize gP f (posF f id)=q at *
 unfold outF
 rw [hsplit,List.filter_append,List.filter_cons]
 rw [hsplit,List.map_append,List.map_cons,List.pairwise_append,List.pairwise_cons] at hs
 obtain ⟨s1,⟨s2,s3⟩,s4⟩:=hs
 have a1:A.filter (fun x=>x.1 != id)=A:=List.filter_eq_self.2 fun x hx=>by
  have:=s4 x.1 (List.mem_map_of_mem hx) q.1 List.mem_cons_self
  rw [bne_iff_ne]; omega
 have b1:B.filter (fun x=>x.1 != id)=B:=List.filter_eq_self.2 fun x hx=>by
  have:=s2 x.1 (List.mem_map_of_mem hx)
  rw [bne_iff_ne]; omega
 rw [a1,b1,if_neg (by rw [h3]; simp)]

theorem fieldTake {H:Hp} {u:Slc} {f:List Pt} {id:Int} (hf:Rd 3 fD H u f) :
  Go.Eng.Fn Tryz.prog F.field_Take #[vFd u,.int .i64 id] H fun v H'=>∃ w:Slc,v=.tuple #[vFd w,.int .i64 (takeF f id).2]∧Hp.le H H'∧Rd 3 fD H' w (takeF f id).1:=by
 have q:=fieldPlace (id:=id) hf
 unfold placeF at q
 unfold takeF
 by_cases h:chkF f≠0
 ·rw [if_pos h] at q ⊢
  exact field_Take_vc ⟨_,_,q,fun _=>⟨⟨none,0,0⟩,rfl,Hp.le_refl _,Rd.nil⟩,fun hc=>absurd (by simpa using hc) h⟩
 rw [if_neg h] at q ⊢
 have h:chkF f=0:=by simpa using h
 have of:=chkF_zero.1 h
 have lf:=of.small
 by_cases h1:posF f id<0
 ·rw [if_pos h1] at q ⊢
  exact field_Take_vc ⟨_,_,q,fun _=>⟨⟨none,0,0⟩,rfl,Hp.le_refl _,Rd.nil⟩,fun hc=>by simp at hc⟩
 rw [if_neg h1] at q ⊢
 have h0:0≤posF f id:=by omega
 have hlt:=posF_lt h0
 refine field_Take_vc ⟨_,_,q,fun hc=>by simp at hc,fun _=>(clone_pt hf (by omega)).mono fun v H4 ⟨w,hv,l4,m4⟩=>⟨w,hv,by unfold inI; omega,?_⟩⟩
 refine (deletePt l4 m4 h0 hlt).mono fun v H7 ⟨z,hv,l7,m7,_,_⟩=>⟨z,hv,z,rfl,l7,?_⟩
 rw [outF_at of h0] at m7
 exact m7.rdD


theorem clearTail {H0 H:Hp} {s:Slc} {xs:List Int} {i:Int} {ty:TypeId} {cs:Array Bool} (hl:Hp.le H0 H) (h:Mine 1 fI 3 H0 H s xs) (h0:0≤i) (hi:i<xs.length) :
  OpSem Tryz.prog (bcall .clear #[30] ty cs [.slice (subA s.a (Tryz.prog.cellsOf 3) i (s.c:Int)) ((s.n:Int).toNat-i.toNat) ((s.c:Int).toNat-i.toNat)]) H fun v H'=>v=.tuple #[]∧Hp.le H0 H'∧Mine 1 fI 3 H0 H' ⟨s.a,i.toNat,s.c⟩ (xs.take i.toNat)∧Chg H H' s:=by
 obtain ⟨ti,z,h1,h2,h3,h4,h5,h6⟩:=sliceOk_out (show sliceOk Tryz.prog 30 3 1 8=true by kernel_rfl)
 have hO:zeroOne Tryz.prog 3=true:=by kernel_rfl
 have hK:Tryz.prog.cellsOf 3=1:=by kernel_rfl
 have hz1:∀ v∈z.cells.toList,v.oneCell'=true:=by
  unfold zeroOne at hO
  rw [h2] at hO
  simp only [h3,List.all_eq_true] at hO
  exact hO
 rcases h with ⟨rfl,rfl⟩ | ⟨b,hb0,o1,o2,o3,cells,o4,o5,o6⟩
 ·simp at hi; omega
 obtain ⟨I,rfl⟩:∃ I:Nat,i=I:=⟨i.toNat,by omega⟩
 rw [hK,o3,subA_add (show s.c≠I by omega),Nat.zero_add,Nat.mul_one]
 simp only [Int.toNat_natCast]
 rw [h5] at h4
 have hck:cells.size=s.c:=by rw [o5,Nat.mul_one]
 refine (clear_ok (P:=Tryz.prog) (ty:=ty) (cs:=cs) h1 h2 h3 hz1 o4 (by rw [h4,hck]; omega)).mono fun v H5 ⟨hv,zs,hzs,hH5⟩=>?_
 have hbb:H5 b=some (.cells (cells.toList.take I++zs++cells.toList.drop (I+zs.length)).toArray 3 (0,0)):=by rw [hH5]; exact Hp.put_same _ _ _
 refine ⟨hv,by rw [hH5]; exact Hp.le_put hl hb0,.inr ⟨b,hb0,?_,?_,rfl,_,hbb,?_,?_⟩,fun c hc hne=>by rw [hH5]; exact Hp.put_ne _ _ fun e=>hne _ o3 e.symm⟩
 ·simp; omega
 ·show I≤s.c; omega
 ·rw [h4] at hzs
  simp only [List.size_toArray,List.length_append,List.length_take,List.length_drop,Array.length_toList,hck,hzs]
  show _=s.c * 1
  omega
 ·have ht:(xs.take I).length=I:=by rw [List.length_take]; omega
  have:=congrArg (List.take I) o6
  rw [List.take_take,Nat.min_eq_left (by omega)] at this
  rw [ht,Nat.mul_one]
  simp only [List.append_assoc]
  rw [List.take_left' (by rw [List.length_take,Array.length_toList]; omega),this]
  conv=>lhs; rw [← List.take_append_drop I xs,List.flatMap_append]
  rw [List.take_left' (by rw [flatMap_len (k:=1) (fun _=>rfl),ht,Nat.mul_one])]

theorem filter_none {q:Int→Bool} {l:List Int} (h:∀ y∈l,q y=false):l.filter (fun x=>!q x)=l:=List.filter_eq_self.2 fun y hy=>by rw [h y hy]; rfl
theorem deleteFuncInt {H0 H:Hp} {s:Slc} {xs:List Int} {fv:Value} {q:Int→Bool} {c:Nat} (hl:Hp.le H0 H) (h:Mine 1 fI 3 H0 H s xs) (hlen:xs.length≤1000000000) (hc:H c≠none) (hs:∀ p,s.a=some p→p.block≠c)
  (hq:∀ x H',H' c=H c→QfV Tryz.prog fv [.int .i64 x] H' (.bool (q x))) :
  Go.Eng.Fn Tryz.prog F.slices_DeleteFunc_int_int #[s.v,fv] H fun v H'=>∃ u:Slc,v=u.v∧Hp.le H0 H'∧Mine 1 fI 3 H0 H' u (xs.filter fun x=>!q x)∧(∀ b,H b≠none→(∀ p,s.a=some p→p.block≠b)→H' b=H b):=by
 have hn:=h.rdI.len
 refine slices_DeleteFunc_int_int_vc (indexFunc_int (J:=fun n H'=>Hp.le H H'∧∀ y∈xs.take n.toNat,q y=false) hlen (fun n H' j=>h.rdI.le j.1) ⟨Hp.le_refl _,by simp⟩ (fun n H' n0 n1 ⟨l1,j⟩=>?_) (fun H' ⟨l1,j⟩=>⟨-1,rfl,fun _=>?_,fun hc=>by simp at hc⟩))
 ·have hcc:H' c=H c:=by
   cases hx:H c with
   | none=>exact absurd hx hc
   | some o=>exact l1 _ _ hx
  refine (hq (xs.getD n.toNat 0) H' hcc).mono fun v H2 ⟨hv,l2⟩=>⟨_,hv,fun hb=>?_,fun hb=>?_⟩
  ·have l12:=Hp.le_trans l1 l2
   have h2:=h.le l12
   have hg:=getI n0 n1
   refine ⟨n,rfl,fun hm=>(by have:n = -1:=by simpa using hm
                             omega),fun _=>⟨by unfold inI; omega,?_⟩⟩
   refine ⟨fun i j H'=>0≤i∧i<j∧j≤xs.length∧Hp.le H0 H'∧Chg H2 H' s∧∃ ys:List Int,ys.length=xs.length∧Mine 1 fI 3 H0 H' s ys∧ys.take i.toNat=(xs.take j.toNat).filter (fun x=>!q x)∧ys.drop j.toNat=xs.drop j.toNat,fun i j _=>(xs.length-j).toNat,
    ⟨n0,by omega,by omega,Hp.le_trans hl l12,fun _ _ _=>rfl,xs,rfl,h2,?_,rfl⟩,fun i j H8 ⟨i0,i1,i2,l8,c8,ys,y1,y2,y3,y4⟩=>⟨fun hj=>?_,fun hj=>?_⟩⟩
   ·rw [show (n+1).toNat=n.toNat+1 by omega,take_succ hg,List.filter_append,filter_none j,List.filter_cons,hb]
    simp
   ·have hj:j<xs.length:=by have:j<s.n:=by simpa using hj
                            omega
    have yj:ys.getD j.toNat 0=xs.getD j.toNat 0:=by
     have:=congrArg (fun l=>l[0]?) y4
     simp only [List.getElem?_drop,Nat.add_zero] at this
     rw [List.getD_eq_getElem?_getD,List.getD_eq_getElem?_getD,this]
    have hg:=getI (xs:=xs) (i:=j) (by omega) hj
    have hcc8:H8 c=H c:=by
     have e2:H2 c=H c:=by
      cases hx:H c with
      | none=>exact absurd hx hc
      | some o=>exact l12 _ _ hx
     rw [c8 c (by rw [e2]; exact hc) hs,e2]
    refine ⟨y2.rdI.inS (by omega) (by omega),_,RdI.get y2.rdI (by omega) (by omega),q (xs.getD j.toNat 0),?_⟩
    rw [yj]
    refine ⟨hq _ _ hcc8,fun hb2=>?_,fun hb2=>?_⟩
    ·have hb2:q (xs.getD j.toNat 0)=false:=by simpa using hb2
     refine ⟨y2.rdI.inS (by omega) (by omega),y2.setI (by omega) (by omega) _ fun H11 m11 c11=>⟨by unfold inI; omega,by unfold inI; omega,⟨by omega,by omega,by omega,Hp.le_chg l8 c11 y2.isNew,fun b hb hne=>?_,ys.set i.toNat (xs.getD j.toNat 0),?_,m11,?_,?_⟩,?_⟩⟩
     ·have e:=c8 b hb hne
      rw [c11 b (by rw [e]; exact hb) hne,e]
     ·rw [List.length_set]; exact y1
     ·rw [show (i+1).toNat=i.toNat+1 by omega,show (j+1).toNat=j.toNat+1 by omega,take_succ hg,List.filter_append,← y3,List.filter_cons,hb2]
      have e1:(ys.set i.toNat (xs.getD j.toNat 0))[i.toNat]?=some (xs.getD j.toNat 0):=by rw [List.getElem?_set_self (by omega)]
      rw [take_succ e1,List.take_set_of_le (Nat.le_refl _)]
      rfl
     ·rw [show (j+1).toNat=j.toNat+1 by omega,List.drop_set_of_lt (by omega)]
      have:=congrArg (List.drop 1) y4
      rw [List.drop_drop,List.drop_drop] at this
      exact this
     ·show (xs.length-(j+1)).toNat<(xs.length-j).toNat; omega
    ·have hb2:q (xs.getD j.toNat 0)=true:=by simpa using hb2
     refine ⟨by unfold inI; omega,⟨by omega,by omega,by omega,l8,c8,ys,y1,y2,?_,?_⟩,by show (xs.length-(j+1)).toNat<(xs.length-j).toNat; omega⟩
     ·rw [show (j+1).toNat=j.toNat+1 by omega,take_succ hg,List.filter_append,← y3,List.filter_cons,hb2]
      simp
     ·rw [show (j+1).toNat=j.toNat+1 by omega]
      have:=congrArg (List.drop 1) y4
      rw [List.drop_drop,List.drop_drop] at this
      exact this
   ·have hj:j=xs.length:=by have:¬ j<s.n:=by simpa using hj
                            omega
    subst hj
    have hcap:=y2.rdI.cap
    refine ⟨⟨i0,by omega,by omega,by omega⟩,(clearTail l8 y2 i0 (by omega)).mono fun v H13 ⟨hv,l13,m13,c13⟩=>⟨hv,⟨by omega,i0,by omega,by omega⟩,?_⟩⟩
    rw [slcCut]
    refine ⟨⟨s.a,i.toNat,s.c⟩,rfl,l13,?_,fun b hb hne=>?_⟩
    ·rw [y3,Int.toNat_natCast,List.take_length] at m13; exact m13
    ·have e2:H2 b=H b:=by
      cases hx:H b with
      | none=>exact absurd hx hb
      | some o=>exact l12 _ _ hx
     have e8:=c8 b (by rw [e2]; exact hb) hne
     rw [c13 b (by rw [e8,e2]; exact hb) hne,e8,e2]
  ·have hg:=getI n0 n1
   refine ⟨Hp.le_trans l1 l2,fun y hy=>?_⟩
   rw [show (n+1).toNat=n.toNat+1 by omega,take_succ hg] at hy
   rcases List.mem_append.1 hy with hy | hy
   ·exact j y hy
   ·simp only [List.mem_singleton] at hy; subst hy; exact hb
 ·rw [Int.toNat_natCast,List.take_length] at j
  refine ⟨s,rfl,Hp.le_trans hl l1,?_,fun b hb _=>?_⟩
  ·rw [filter_none j]; exact h.le l1
  ·cases hx:H b with
   | none=>exact absurd hx hb
   | some o=>exact l1 _ _ hx

theorem count_pre {α:Type} {p:α→Bool}:∀ {l:List α},(l.Pairwise fun a b=>p b=true→p a=true)→∀ i (h:i<l.length),p l[i]=decide (i<l.countP p)
 | [],_,i,h=>by simp at h
 | a :: l,hp,i,h=>by
  obtain ⟨h1,h2⟩:=List.pairwise_cons.1 hp
  rw [List.countP_cons]
  cases ha:p a with
  | true =>
   cases i with
   | zero=>simp [ha]
   | succ i =>
    have:=count_pre h2 i (by simpa using h)
    simp only [List.getElem_cons_succ,this]
    simp
  | false =>
   have hz:l.countP p=0:=by
    rw [List.countP_eq_zero]
    intro b hb e
    have:=h1 b hb e
    rw [ha] at this; cases this
   rw [hz]
   cases i with
   | zero=>simp [ha]
   | succ i =>
    have:=count_pre h2 i (by simpa using h)
    rw [hz] at this
    simp only [List.getElem_cons_succ,this]
    simp
theorem others {l:Ls} (ok:okLs l) {p:Pt}:∃ S:List Pt,l.ord.filter (fun x=>!(x==p.1))=S.map (·.1)∧(∀ q∈S,q∈l.ck.f∧q.1≠p.1)∧rkI l p≤S.length∧∀ i (h:i<S.length),leads S[i] p l.ck.now=decide (i<rkI l p):=by
 refine ⟨(sortM l.ck.f l.ck.now).filter fun q=>q.1 != p.1,?_,fun q hq=>?_,?_,?_⟩
 ·rw [ok.ord]
  unfold ordM
  rw [List.filter_map]
  rfl
 ·obtain ⟨h1,h2⟩:=List.mem_filter.1 hq
  exact ⟨(sortM_perm _ _).mem_iff.1 h1,by simpa using h2⟩
 ·unfold rkI rankM
  rw [← (sortM_perm l.ck.now l.ck.f).countP_eq]
  have:(fun q:Pt=>q.1 != p.1&&leads q p l.ck.now)=fun q=>(fun q:Pt=>leads q p l.ck.now) q&&(fun q:Pt=>q.1 != p.1) q:=by funext q; rw [Bool.and_comm]
  rw [this,← List.countP_filter]
  exact List.countP_le_length
 ·have e:rkI l p=((sortM l.ck.f l.ck.now).filter fun q=>q.1 != p.1).countP fun q=>leads q p l.ck.now:=by
   unfold rkI rankM
   rw [← (sortM_perm l.ck.now l.ck.f).countP_eq,List.countP_filter]
   congr 1
   funext q; rw [Bool.and_comm]
  rw [e]
  have hs:=(sortM_sorted (okF_ids ok.ck.f) l.ck.now).ord
  exact count_pre (p:=fun q=>leads q p l.ck.now) ((hs.filter _).imp fun hab hb=>leads_trans hab hb)

theorem leditWhere1 {H:Hp} {b:Nat} {p:Pt} {x:Int} {T:TypeId} (h:H b=some (.cells #[.int .i64 p.1,.int .i64 p.2.1,.int .i64 p.2.2] T (0,0))) :
  QfV Tryz.prog (.func (.func F.ledit_where_1) #[] #[.pointer (some ⟨b,0,none⟩)]) [.int .i64 x] H (.bool (x==p.1)) :=
 ⟨F.ledit_where_1,#[],_,rfl,ledit_where_1_callable,ledit_where_1_vc ⟨p.1,Cel.at (show Cel H b _ T from h) 0,rfl,Hp.le_refl _⟩⟩
set_option maxHeartbeats 1000000 in
theorem leditWhere {H:Hp} {u:Lu} {l:Ls} {p:Pt} (r:RdL H u l) (ok:okLs l) (op:okP p) :
  Qf Tryz.prog F.ledit_where #[lsV u l,.agg #[.int .i64 p.1,.int .i64 p.2.1,.int .i64 p.2.2]] H (.int .i64 (rkI l p)):=by
 have fl:=ok.fit
 have f1:=fl.o
 refine ledit_where_vc fun b1 H2 hb1 hH2 b3 H4 hb3 hH4=>?_
 have l2:Hp.le H H2:=Hp.le_new (Hp.le_refl _) hb1 hH2
 have l4:Hp.le H2 H4:=Hp.le_new (Hp.le_refl _) hb3 hH4
 have l04:=Hp.le_trans l2 l4
 have box2:Cel H2 b1 (lsC u l) 41:=by rw [hH2]; exact Cel.put
 have box4:=box2.le l4
 have c4:H4 b3=some (.cells #[.int .i64 p.1,.int .i64 p.2.1,.int .i64 p.2.2] 43 (0,0)):=by rw [hH4]; exact Hp.put_same _ _ _
 refine ⟨u.o,Cel.at box4 11,(clone_int (r.o.le l04) (by omega)).mono fun v H7 ⟨w,hv,l7,m7⟩=>⟨w,hv,?_⟩⟩
 have c7:H7 b3=some (.cells #[.int .i64 p.1,.int .i64 p.2.1,.int .i64 p.2.2] 43 (0,0)):=l7 _ _ c4
 have new7:∀ b,H4 b≠none→∀ q,w.a=some q→q.block≠b:=fun b hb q hq e=>hb (by rw [← e]; exact m7.isNew q hq)
 refine (deleteFuncInt (c:=b3) (q:=fun x=>x==p.1) l7 m7 (by omega) (by rw [c7]; simp) (new7 b3 (by rw [c4]; simp)) (fun x H' e=>leditWhere1 (T:=43) (by rw [e]; exact c7))).mono fun v H10 ⟨z,hv,l10,m10,ch10⟩=>⟨z,hv,fun b12 H13 hb12 hH13=>?_⟩
 have l13:Hp.le H10 H13:=Hp.le_new (Hp.le_refl _) hb12 hH13
 have box13:Cel H13 b12 #[.slice none 0 0] 30:=by rw [hH13]; exact Cel.put
 have n12:H4 b12=none:=by
  cases hx:H4 b12 with
  | none=>rfl
  | some o=>rw [l10 _ _ hx] at hb12; cases hb12
 refine boxSet (i:=0) (cs':=#[z.v]) box13 (by decide) rfl fun H14 box14 off=>?_
 have l14:Hp.le H4 H14:=off.le n12 (Hp.le_trans l10 l13)
 have m14:RdI H14 z (l.ord.filter fun x=>!(x==p.1)):=(Go.Proofs.YtjhbjjdipmpgjaaGreat.Mine.off (m10.le l13) off fun q hq e=>by
  have:=m10.isOld q hq
  rw [e] at this; exact this hb12).rdI
 obtain ⟨S,e1,e2,e3,e4⟩:=others ok (p:=p)
 rw [e1] at m14
 have hz:=m14.len
 rw [List.length_map] at hz
 have hf14:Rd 3 fD H14 u.k.f l.ck.f:=r.k.f.le (Hp.le_trans l04 l14)
 have b14:=box4.le l14
 have p14:Cel H14 b3 #[.int .i64 p.1,.int .i64 p.2.1,.int .i64 p.2.2] 43:=l14 _ _ c4
 have hlen:S.length≤l.ord.length:=by
  have:=congrArg List.length e1
  rw [List.length_map] at this
  rw [← this]; exact List.length_filter_le _ _
 refine ⟨z,Cel.at box14 0,_,sortSearch (K:=rkI l p) (p:=fun i=>decide (rkI l p≤i)) (by omega) (by omega) (fun i i0 i1=>?_) (by omega) (fun i hi=>decide_eq_false (by omega)) (fun i hi _=>decide_eq_true hi),rfl,Hp.le_trans l04 l14⟩
 have hi:i.toNat<S.length:=by omega
 have hm:=List.getElem_mem hi
 obtain ⟨q1,q2⟩:=e2 _ hm
 have eg:(S.map (·.1)).getD i.toNat 0=S[i.toNat].1:=by rw [List.getD_eq_getElem?_getD,List.getElem?_map,List.getElem?_eq_getElem hi]; rfl
 have hp0:=posF_yes q1
 have qf:=fieldFind hf14 ok.ck.f hp0
 rw [gP_of ok.ck.f q1] at qf
 have h4:=e4 i.toNat hi
 have oq:=ok.ck.f.each _ q1
 generalize S[i.toNat]=s at *
 have tw:twoM p s l.ck.now=0:=twoM_zero.2 ⟨op,oq,ok.ck.now,fun e=>q2 e.symm⟩
 have ha:leads p s l.ck.now=decide (rkI l p≤i.toNat):=by
  by_cases hk:i.toNat<rkI l p
  ·rw [decide_eq_true hk] at h4
   rw [leads_asymm h4,decide_eq_false (by omega)]
  ·rw [decide_eq_false hk] at h4
   rw [decide_eq_true (by omega)]
   rcases leads_total (p:=s) (q:=p) (t:=l.ck.now) q2 with h | h
   ·rw [h] at h4; cases h4
   ·exact h
 have qa:=courseAhead (p:=p) (q:=s) (t:=l.ck.now) (H:=H14) ok.ck.now.fit
 unfold aheadM at qa
 rw [if_pos tw,ha] at qa
 refine ⟨F.ledit_where_2,#[],_,rfl,ledit_where_2_callable,ledit_where_2_vc ⟨u.k.f,Cel.at b14 2,z,Cel.at box14 0,m14.inS i0 (by rw [List.length_map]; omega),_,RdI.get m14 i0 (by rw [List.length_map]; omega),?_⟩⟩
 rw [eg]
 exact ⟨_,_,_,_,qf,_,_,_,⟨Cel.at p14 0,Cel.at p14 1,Cel.at p14 2⟩,_,_,⟨Cel.at b14 0,Cel.at b14 1⟩,_,_,qa,rfl,Hp.le_refl _⟩

theorem leditCheck {H:Hp} {u:Lu} {l:Ls} {p:Pt} (r:RdL H u l) (fl:fitL l) :
  Qf Tryz.prog F.ledit_check #[lsV u l,.agg #[.int .i64 p.1,.int .i64 p.2.1,.int .i64 p.2.2]] H (.int .i64 (if okLs l∧okP p then 0 else 8)):=by
 refine ledit_check_vc ⟨_,klistCheck r fl,fun hc=>?_,fun hc=>⟨_,courseCheck,?_,Hp.le_refl _⟩⟩
 ·have hn:¬ okLs l:=fun ok=>by rw [chkLs_ok ok] at hc; simp at hc
  rw [chkLs_bad hn,if_neg fun h=>hn h.1]; exact ⟨rfl,Hp.le_refl _⟩
 ·have ok:okLs l:=chkLs_zero.1 (by simpa using hc)
  rw [chkP_eq]
  by_cases op:okP p
  ·rw [if_pos op,if_pos ⟨ok,op⟩]
  ·rw [if_neg op,if_neg fun h=>op h.2]
theorem leditWhereQ {H:Hp} {u:Lu} {l:Ls} {p:Pt} (r:RdL H u l) (fl:fitL l) :
  Qf Tryz.prog F.ledit_Where #[lsV u l,.agg #[.int .i64 p.1,.int .i64 p.2.1,.int .i64 p.2.2]] H (.tuple #[.int .i64 (whereM l p).1,.int .i64 (whereM l p).2]):=by
 unfold whereM
 refine ledit_Where_vc ⟨_,leditCheck r fl,fun hc=>?_,fun hc=>?_⟩
 ·have hn:¬ (okLs l∧okP p):=fun h=>by rw [if_pos h] at hc; simp at hc
  rw [if_neg hn,if_neg hn]; exact ⟨rfl,Hp.le_refl _⟩
 ·have hn:okLs l∧okP p:=Decidable.byContradiction fun h=>by rw [if_neg h] at hc; simp at hc
  rw [if_pos hn]
  exact ⟨_,leditWhere r hn.1 hn.2,rfl,Hp.le_refl _⟩
theorem leditCopied {H:Hp} {u:Lu} {l:Ls} (r:RdL H u l) (fl:fitL l) :
  Go.Eng.Fn Tryz.prog F.ledit_copied #[lsV u l] H fun v H'=>∃ (b:Nat) (so sn:Slc),v=.pointer (some ⟨b,0,none⟩)∧BoxL H H' b ⟨u.k,so,sn⟩ l:=by
 have f1:=fl.o; have f2:=fl.n
 refine ledit_copied_vc ((clone_int r.o (by omega)).mono fun v H17 ⟨so,hv,l17,m1⟩=>⟨l17,so,hv,?_⟩)
 refine (clone_int (r.n.le l17) (by omega)).mono fun v H20 ⟨sn,hv,l20,m2⟩=>⟨l20,sn,hv,fun b22 H23 hb22 hH23=>⟨b22,so,sn,rfl,?_⟩⟩
 have l23:Hp.le H20 H23:=Hp.le_new (Hp.le_refl _) hb22 hH23
 have down:∀ {G:Hp} {x:Nat},Hp.le G H20→H20 x=none→G x=none:=fun {G x} hl hx=>by
  cases hy:G x with
  | none=>rfl
  | some o=>rw [hl x o hy] at hx; cases hx
 have l020:=Hp.le_trans l17 l20
 refine ⟨by rw [hH23]; exact Cel.put,⟨H,Hp.le_trans l020 l23,fun x hx=>?_,r.k⟩,(m1.le l20).le l23,(m2.low l17).le l23,Sep.of m1.isOld m2.isNew,Hp.le_trans l020 l23,down l020 hb22,fun p hp e=>?_,fun p hp e=>?_⟩
 ·rcases hx with rfl | ⟨p,hp,rfl⟩ | ⟨p,hp,rfl⟩
  ·exact down l020 hb22
  ·exact m1.isNew p hp
  ·exact (m2.low l17).isNew p hp
 ·have:=(m1.le l20).isOld p hp; rw [e] at this; exact this hb22
 ·have:=m2.isOld p hp; rw [e] at this; exact this hb22

theorem lsC_setO (u:Lu) (l:Ls) (w:Slc) (o:List Int):(lsC u l).setIfInBounds 11 w.v=lsC ⟨u.k,w,u.n⟩ ⟨l.ck,o,l.num⟩:=rfl
theorem lsC_setN (u:Lu) (l:Ls) (w:Slc) (n:List Int):(lsC u l).setIfInBounds 12 w.v=lsC ⟨u.k,u.o,w⟩ ⟨l.ck,l.ord,n⟩:=rfl
theorem BoxL.newO {H0 H H1:Hp} {b:Nat} {u:Lu} {l:Ls} (B:BoxL H0 H b u l) {w:Slc} {o':List Int} (l1:Hp.le H0 H1) (m:Mine 1 fI 3 H0 H1 w o') (ch:Chg H H1 u.o) (ex:Ext H u.o w) {Q:Hp→Prop}
  (hQ:∀ H',BoxL H0 H' b ⟨u.k,w,u.n⟩ ⟨l.ck,o',l.num⟩→Off b H1 H'→Q H'):H1.canStore ⟨b,11,none⟩ 0 [w.v]∧∀ H',H'=H1.store ⟨b,11,none⟩ 0 [w.v]→Q H':=by
 obtain ⟨c1,G,c2,c3,c4⟩:=B.chg ch B.ob fun p hp=>.inr (.inl ⟨p,hp,rfl⟩)
 obtain ⟨G,d2,d3,d4⟩:=B.k
 have hbb:H b≠none:=by have:=B.box; unfold Cel at this; rw [this]; simp
 have wb:∀ p,w.a=some p→p.block≠b:=fun p hp e=>by
  rcases ex p hp with h | h
  ·exact B.ob p h e
  ·rw [e] at h; exact hbb h
 refine boxSet (i:=11) (cs':=lsC ⟨u.k,w,u.n⟩ ⟨l.ck,o',l.num⟩) c1 (by show 11<13; decide) (lsC_setO u l w o') fun H' box off=>hQ H' ⟨box,⟨G,fun x o hx=>?_,fun x hx=>?_,d4⟩,Go.Proofs.YtjhbjjdipmpgjaaGreat.Mine.off m off wb,Go.Proofs.YtjhbjjdipmpgjaaGreat.Mine.off (B.n.chg ch B.sep.symm) off B.nn,Sep.ext B.sep B.n.isOld ex,off.le B.nb l1,B.nb,wb,B.nn⟩ off
 ·have hx1:=d2 x o hx
  have hne:x≠b:=fun e=>by rw [e,d3 b (.inl rfl)] at hx; cases hx
  rw [off x hne,ch x (by rw [hx1]; simp) fun p hp e=>by rw [← e,d3 _ (.inr (.inl ⟨p,hp,rfl⟩))] at hx; cases hx]
  exact hx1
 ·rcases hx with rfl | ⟨p,hp,rfl⟩ | ⟨p,hp,rfl⟩
  ·exact d3 _ (.inl rfl)
  ·rcases ex p hp with h | h
   ·exact d3 _ (.inr (.inl ⟨p,h,rfl⟩))
   ·cases hy:G p.block with
    | none=>rfl
    | some o=>rw [d2 _ _ hy] at h; cases h
  ·exact d3 _ (.inr (.inr ⟨p,hp,rfl⟩))
theorem BoxL.newN {H0 H H1:Hp} {b:Nat} {u:Lu} {l:Ls} (B:BoxL H0 H b u l) {w:Slc} {n':List Int} (l1:Hp.le H0 H1) (m:Mine 1 fI 3 H0 H1 w n') (ch:Chg H H1 u.n) (ex:Ext H u.n w) {Q:Hp→Prop}
  (hQ:∀ H',BoxL H0 H' b ⟨u.k,u.o,w⟩ ⟨l.ck,l.ord,n'⟩→Off b H1 H'→Q H'):H1.canStore ⟨b,12,none⟩ 0 [w.v]∧∀ H',H'=H1.store ⟨b,12,none⟩ 0 [w.v]→Q H':=by
 obtain ⟨c1,G,c2,c3,c4⟩:=B.chg ch B.nn fun p hp=>.inr (.inr ⟨p,hp,rfl⟩)
 obtain ⟨G,d2,d3,d4⟩:=B.k
 have hbb:H b≠none:=by have:=B.box; unfold Cel at this; rw [this]; simp
 have wb:∀ p,w.a=some p→p.block≠b:=fun p hp e=>by
  rcases ex p hp with h | h
  ·exact B.nn p h e
  ·rw [e] at h; exact hbb h
 refine boxSet (i:=12) (cs':=lsC ⟨u.k,u.o,w⟩ ⟨l.ck,l.ord,n'⟩) c1 (by show 12<13; decide) (lsC_setN u l w n') fun H' box off=>hQ H' ⟨box,⟨G,fun x o hx=>?_,fun x hx=>?_,d4⟩,Go.Proofs.YtjhbjjdipmpgjaaGreat.Mine.off (B.o.chg ch B.sep) off B.ob,Go.Proofs.YtjhbjjdipmpgjaaGreat.Mine.off m off wb,(Sep.ext B.sep.symm B.o.isOld ex).symm,off.le B.nb l1,B.nb,B.ob,wb⟩ off
 ·have hx1:=d2 x o hx
  have hne:x≠b:=fun e=>by rw [e,d3 b (.inl rfl)] at hx; cases hx
  rw [off x hne,ch x (by rw [hx1]; simp) fun p hp e=>by rw [← e,d3 _ (.inr (.inr ⟨p,hp,rfl⟩))] at hx; cases hx]
  exact hx1
 ·rcases hx with rfl | ⟨p,hp,rfl⟩ | ⟨p,hp,rfl⟩
  ·exact d3 _ (.inl rfl)
  ·exact d3 _ (.inr (.inl ⟨p,hp,rfl⟩))
  ·rcases ex p hp with h | h
   ·exact d3 _ (.inr (.inr ⟨p,h,rfl⟩))
   ·cases hy:G p.block with
    | none=>rfl
    | some o=>rw [d2 _ _ hy] at h; cases h
theorem BoxL.clockG {H0 H H1 G:Hp} {b:Nat} {u:Lu} {l:Ls} (B:BoxL H0 H b u l) {w:Cu} {c:Ck} (hl:Hp.le H H1) (g1:Hp.le G H1) (g2:∀ x,prot b u.o u.n x→G x=none) (g3:RdK G w c) {Q:Hp→Prop}
  (hQ:∀ H',BoxL H0 H' b ⟨w,u.o,u.n⟩ ⟨c,l.ord,l.num⟩→Q H') :
  H1.canStore ⟨b,0,none⟩ 0 [.int .i64 c.now.1,.int .i64 c.now.2,w.f.v,.int .i64 c.ct.next,w.cl.v,w.u1.v,w.u2.v,w.u3.v,w.u4.v,w.u5.v,w.d.v]∧∀ H',H'=H1.store ⟨b,0,none⟩ 0 [.int .i64 c.now.1,.int .i64 c.now.2,w.f.v,.int .i64 c.ct.next,w.cl.v,w.u1.v,w.u2.v,w.u3.v,w.u4.v,w.u5.v,w.d.v]→Q H':=by
 have B1:=B.up hl
 obtain ⟨can,st⟩:=store_row (b:=b) (off:=0) (T:=41) [.int .i64 c.now.1,.int .i64 c.now.2,w.f.v,.int .i64 c.ct.next,w.cl.v,w.u1.v,w.u2.v,w.u3.v,w.u4.v,w.u5.v,w.d.v] 0 H1 _ B1.box (by show 0+0+11≤13; omega)
 refine ⟨can,fun H' e=>hQ H' ?_⟩
 have e':H'=H1.put b (.cells (lsC ⟨w,u.o,u.n⟩ ⟨c,l.ord,l.num⟩) 41 (0,0)):=e.trans st
 have ch:Chg H1 H' ⟨some ⟨b,0,none⟩,0,0⟩:=fun x hx hn=>by rw [e']; exact Hp.put_ne _ _ fun e=>hn _ rfl e.symm
 refine ⟨by rw [e']; exact Cel.put,⟨G,fun x o hx=>?_,g2,g3⟩,B1.o.chg ch (fun p q hp hq=>by cases hq; exact B.ob p hp),B1.n.chg ch (fun p q hp hq=>by cases hq; exact B.nn p hp),B.sep,Hp.le_chg B1.le ch (fun p hp=>by cases hp; exact B.nb),B.nb,B.ob,B.nn⟩
 rw [e',Hp.put_ne _ _ (fun e=>by rw [e,g2 b (.inl rfl)] at hx; cases hx)]; exact g1 x o hx
theorem BoxL.fresh {H0 H:Hp} {b:Nat} {u:Lu} {l:Ls} (B:BoxL H0 H b u l):∀ x,prot b u.o u.n x→H0 x=none:=by
 rintro x (rfl | ⟨p,hp,rfl⟩ | ⟨p,hp,rfl⟩)
 ·exact B.nb
 ·exact B.o.isNew p hp
 ·exact B.n.isNew p hp
theorem BoxL.rd {H0 H:Hp} {b:Nat} {u:Lu} {l:Ls} (B:BoxL H0 H b u l):RdL H u l:=⟨B.rk,B.o.rdI,B.n.rdI⟩

def certStep (r:Ls × Int) (i:Int):Ls × Int:=if r.2≠0 then r else if 0≤i∧i<r.1.num.length then madeL r.1 i.toNat else r
def certI (l:Ls) (is:List Int):Ls × Int:=is.foldl certStep (l,0)
structure Fine (l:Ls) (i:Nat):Prop where
 fit:fitL l
 ord:i+1<l.ord.length
 eq:certifyK l.ck (pairM l.ord i)=addK l.ck (pairM l.ord i)
theorem certI_err {l:Ls} {is js:List Int} (h:(certI l is).2≠0):certI l (is++js)=certI l is:=by
 unfold certI at *
 rw [List.foldl_append]
 generalize is.foldl certStep (l,0)=r at *
 induction js with
 | nil=>rfl
 | cons j js ih =>
  have e:certStep r j=r:=by unfold certStep; rw [if_pos h]
  rw [List.foldl_cons,e]; exact ih
theorem certI_succ {l:Ls} {is:List Int} {k:Nat} {x:Int} (hx:is[k]?=some x):certI l (is.take (k+1))=certStep (certI l (is.take k)) x:=by
 unfold certI
 rw [take_succ hx,List.foldl_append]; rfl
theorem Mid.fine {l:Ls} {lo hi:Nat} (m:Mid l lo hi) {i:Nat} (h:i<l.num.length):Fine l i:=⟨m.fit,by have:=m.nl; omega,m.certify h⟩

theorem BoxL.notProt {H0 H:Hp} {b:Nat} {u:Lu} {l:Ls} (B:BoxL H0 H b u l) {c:Nat} (hc:H c=none):¬ prot b u.o u.n c:=fun h=>B.used c h hc

set_option maxHeartbeats 1000000 in
theorem certifyB {H0 H:Hp} {b:Nat} {u:Lu} {l:Ls} {ws:Slc} {is:List Int} (B:BoxL H0 H b u l) (rs:RdI H ws is) (sb:∀ p,ws.a=some p→p.block≠b) (sn:Sep ws u.n) (hlen:is.length≤1000)
    (good:∀ (k:Nat) (x:Int),is[k]?=some x→(certI l (is.take k)).2=0→0≤x→x<(certI l (is.take k)).1.num.length→Fine (certI l (is.take k)).1 x.toNat) :
    Go.Eng.Fn Tryz.prog F.ledit_certify #[.pointer (some ⟨b,0,none⟩),ws.v] H fun v H'=>v=.int .i64 (certI l is).2∧Hp.le H0 H'∧((certI l is).2=0→∃ w,BoxL H0 H' b ⟨w,u.o,u.n⟩ (certI l is).1):=by
  have lw:=rs.len
  refine ledit_certify_vc (uptoH (N:=is.length) (J:=fun n H'=>(certI l (is.take n.toNat)).2=0∧RdI H' ws is∧∃ w,BoxL H0 H' b ⟨w,u.o,u.n⟩ (certI l (is.take n.toNat)).1) (by omega) ⟨rfl,rs,u.k,B⟩ fun n H4 n0 n1 ⟨z,r4,w,B4⟩=>⟨fun hn=>?_,fun hn=>?_⟩)
  · have hn:n<is.length:=by have:n<ws.n:=by simpa using hn
                            omega
    have hx:=getI n0 hn
    refine ⟨r4.inS n0 hn,_,RdI.get r4 n0 hn,u.n,fun _=>Cel.at B4.box 12,?_⟩
    have es:=certI_succ (l:=l) hx
    rw [show n.toNat+1=(n+1).toNat by omega] at es
    have gd:=good n.toNat _ hx z
    generalize is.getD n.toNat 0=x at *
    have ln:(u.n.n:Int)=(certI l (is.take n.toNat)).1.num.length:=congrArg Nat.cast (show u.n.n=_ from B4.n.rdI.len)
    rw [ln]
    refine ⟨fun hc=>?_,fun hc=>?_⟩
    · have e:certStep (certI l (is.take n.toNat)) x=certI l (is.take n.toNat):=by
        unfold certStep
        rw [if_neg (by rw [z]; simp),if_neg fun h=>?_]
        simp at hc; omega
      rw [e] at es
      exact uptoH.nx n0 hn (by omega) ⟨by rw [es]; exact z,r4,w,by rw [es]; exact B4⟩
    · have hx0:0≤x∧x<(certI l (is.take n.toNat)).1.num.length:=by simp at hc; omega
      have fn:=gd hx0.1 hx0.2
      have fo:=fn.ord
      have fl:=fn.fit
      have f1:=fl.o
      have e:certStep (certI l (is.take n.toNat)) x=madeL (certI l (is.take n.toNat)).1 x.toNat:=by
        unfold certStep
        rw [if_neg (by rw [z]; simp),if_pos hx0]
      rw [e] at es
      have ec:=fn.eq
      have iserr:(certI l (is.take (n+1).toNat)).2≠0→certI l is=certI l (is.take (n+1).toNat):=fun h=>by
        have:=certI_err (js:=is.drop (n+1).toNat) h
        rwa [List.take_append_drop] at this
      generalize certI l (is.take n.toNat)=s at *
      have box:=B4.box
      have q:=clockCertifyN (x:=pairM s.1.ord x.toNat) B4.rk fl.k
      rw [ec] at q
      unfold madeL at es
      generalize addK s.1.ck (pairM s.1.ord x.toNat)=y at *
      refine ⟨_,_,w.f,_,w.cl,w.u1,w.u2,w.u3,w.u4,w.u5,w.d,⟨Cel.at box 0,Cel.at box 1,Cel.at box 2,Cel.at box 3,Cel.at box 4,Cel.at box 5,Cel.at box 6,Cel.at box 7,Cel.at box 8,Cel.at box 9,Cel.at box 10⟩,u.o,Cel.at box 11,B4.o.rdI.inS hx0.1 (by show x<s.1.ord.length; omega),_,RdI.get B4.o.rdI hx0.1 (by show x<s.1.ord.length; omega),u.o,Cel.at box 11,by unfold inI; omega,B4.o.rdI.inS (by omega) (by show x+1<s.1.ord.length; omega),_,RdI.get B4.o.rdI (by omega) (by show x+1<s.1.ord.length; omega),?_⟩
      rw [show (x+1).toNat=x.toNat+1 by omega]
      refine q.mono fun v H23 ⟨w1,hv,l23,rw1,nw1⟩=>⟨l23,_,_,w1.f,_,w1.cl,w1.u1,w1.u2,w1.u3,w1.u4,w1.u5,w1.d,_,_,hv,fun he=>?_,fun he=>?_⟩
      · have he:y.2.2≠0:=by simpa using he
        rw [if_neg he] at es
        rw [iserr (by rw [es]; exact he),es]
        exact ⟨rfl,Hp.le_trans B4.le l23,fun h=>absurd h he⟩
      · have he:y.2.2=0:=by simpa using he
        rw [if_pos he] at es
        refine ⟨u.n,Cel.at (box.le l23) 12,?_⟩
        refine B4.clockC l23 rw1 nw1 fun H38 B38 ch38=>?_
        have r38:RdI H38 ws is:=(r4.le l23).chg ch38 fun p q hp hq=>by cases hq; exact sb p hp
        refine ⟨B38.n.rdI.inS hx0.1 hx0.2,?_⟩
        refine B38.n.setI hx0.1 hx0.2 y.2.1 fun H39 m39 ch39=>?_
        have B39:=B38.setN hx0.1 hx0.2 y.2.1 m39 ch39
        exact uptoH.nx n0 hn (by omega) ⟨by rw [es],r38.chg ch39 sn,w1,by rw [es]; exact B39⟩
  · have:n=is.length:=by have:¬ n<ws.n:=by simpa using hn
                         omega
    subst this
    rw [Int.toNat_natCast,List.take_length] at z B4
    rw [z]
    exact ⟨rfl,B4.le,fun _=>⟨w,B4⟩⟩

theorem certI_two {l:Ls} {rk len:Nat} (m:Mid l (rk-1) (min (rk+1) len)) (hn:l.num.length=len) (hr:rk≤len) :
  certI l [(rk:Int)-1,(rk:Int)]=makesN l (rk-1) (min (rk+1) len-(rk-1)) ∧
  ∀ (k:Nat) (x:Int),[(rk:Int)-1,(rk:Int)][k]?=some x→(certI l ([(rk:Int)-1,(rk:Int)].take k)).2=0→0≤x→x<(certI l ([(rk:Int)-1,(rk:Int)].take k)).1.num.length→Fine (certI l ([(rk:Int)-1,(rk:Int)].take k)).1 x.toNat:=by
 have e0:certI l []=(l,0):=rfl
 have mz:makesN l (rk-1) 0=(l,0):=rfl
 have m1:makesN l (rk-1) 1=madeL l (rk-1):=rfl
 have c1:certI l [(rk:Int)-1]=if 0<rk then makesN l (rk-1) 1 else (l,0):=by
  show certStep (l,0) _=_
  unfold certStep
  rw [if_neg (by simp)]
  by_cases h:0<rk
  ·rw [if_pos (by show 0≤(rk:Int)-1∧(rk:Int)-1<l.num.length; omega),if_pos h,m1,show ((rk:Int)-1).toNat=rk-1 by omega]
  ·rw [if_neg (by omega),if_neg h]
 have c2:certI l [(rk:Int)-1,(rk:Int)]=certStep (certI l [(rk:Int)-1]) rk:=rfl
 have num1:(certI l [(rk:Int)-1]).2=0→(certI l [(rk:Int)-1]).1.num.length=len∧∃ lo,Mid (certI l [(rk:Int)-1]).1 lo (min (rk+1) len):=by
  rw [c1]
  by_cases h:0<rk
  ·rw [if_pos h]
   intro hz
   obtain ⟨a1,_,_,_,a5⟩:=m.makes 1 (by omega) hz
   exact ⟨a5.trans hn,_,a1⟩
  ·rw [if_neg h]
   exact fun _=>⟨hn,_,m⟩
 refine ⟨?_,fun k x hk hz x0 x1=>?_⟩
 ·rw [c2]
  unfold certStep
  by_cases hz:(certI l [(rk:Int)-1]).2=0
  ·rw [if_neg (by rw [hz]; simp),(num1 hz).1]
   rw [c1] at hz ⊢
   by_cases h:0<rk
   ·rw [if_pos h] at hz ⊢
    by_cases h2:rk<len
    ·rw [if_pos (by omega),show min (rk+1) len-(rk-1)=1+1 by omega,makesN_succ hz,show rk-1+1=rk by omega,Int.toNat_natCast]
    ·rw [if_neg (by omega),show min (rk+1) len-(rk-1)=1 by omega]
   ·rw [if_neg h] at hz ⊢
    have hr0:rk=0:=by omega
    subst hr0
    by_cases h2:0<len
    ·rw [if_pos (by omega),show min (0+1) len-(0-1)=1 by omega]; rfl
    ·rw [if_neg (by omega),show min (0+1) len-(0-1)=0 by omega]; rfl
  ·rw [if_pos hz]
   rw [c1] at hz ⊢
   by_cases h:0<rk
   ·rw [if_pos h] at hz ⊢
    by_cases h2:rk<len
    ·rw [show min (rk+1) len-(rk-1)=1+1 by omega]
     show _=if (makesN l (rk-1) 1).2=0 then _ else _
     rw [if_neg hz]
    ·rw [show min (rk+1) len-(rk-1)=1 by omega]
   ·rw [if_neg h] at hz; exact absurd rfl hz
 ·match k,hk with
  | 0,_=>exact m.fine (by show x.toNat<l.num.length; have x1:x<l.num.length:=x1; omega)
  | 1,_ =>
   obtain ⟨h1,lo,h2⟩:=num1 hz
   exact h2.fine (by have x1:x<(certI l [(rk:Int)-1]).1.num.length:=x1; omega)
  | k+2,hk=>simp at hk
end Go.Proofs.YtjhbjjdipmpgjaaGreat
end
