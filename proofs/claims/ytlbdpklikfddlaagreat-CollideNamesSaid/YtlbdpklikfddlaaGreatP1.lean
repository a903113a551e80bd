/- The engine, parts A, B, C, D, S1, S2, S3, S4, S5, put together. Conditions: none. -/
import Derived.Test.YtlbdpklikfddlaaGreatE4
import Derived.Test.YtlbdpklikfddlaaGreatVgStd
import Derived.Test.YtlbdpklikfddlaaGreatFs
import Derived.Test.YtlbdpklikfddlaaGreatVgSlot
set_option linter.unusedVariables false
section
/- Contracts of the small functions. Conditions: none. -/
open Go Go.Eng Go.Proofs
namespace Go.Proofs.YtlbdpklikfddlaaGreat

theorem clone_int {H:Hp} {s:Slc} {xs:List Int} (hs:RdI H s xs) (hl:xs.length≤1000000000) :
  Go.Eng.Fn Tryz.prog F.slices_Clone_int_int #[s.v] H fun v H'=>∃ u:Slc,v=u.v∧Hp.le H H'∧Mine 1 fI 3 H H' u xs :=
 slices_Clone_int_int_vc (clone_vc (k:=1) (f:=fI) (bytes:=8) (by kernel_rfl) (by decide) (fun _=>rfl) hs (by omega) (by omega))

theorem clone_stack {H:Hp} {s:Slc} {xs:List Int} (hs:RdI H s xs) (hl:xs.length≤1000000000) :
  Go.Eng.Fn Tryz.prog F.slices_Clone_slot_stack_int_int #[s.v] H fun v H'=>∃ u:Slc,v=u.v∧Hp.le H H'∧Mine 1 fI 3 H H' u xs :=
 slices_Clone_slot_stack_int_int_vc (clone_vc (k:=1) (f:=fI) (bytes:=8) (by kernel_rfl) (by decide) (fun _=>rfl) hs (by omega) (by omega))

theorem clone_bool {H:Hp} {s:Slc} {xs:List Bool} (hs:RdB H s xs) (hl:xs.length≤1000000000) :
  Go.Eng.Fn Tryz.prog F.slices_Clone_bool_bool #[s.v] H fun v H'=>∃ u:Slc,v=u.v∧Hp.le H H'∧Mine 1 fB 4 H H' u xs :=
 slices_Clone_bool_bool_vc (clone_vc (k:=1) (f:=fB) (bytes:=1) (by kernel_rfl) (by decide) (fun _=>rfl) hs (by omega) (by omega))
end Go.Proofs.YtlbdpklikfddlaaGreat
end
section
/- Contracts of pelotonref06. Conditions: none. -/
open Go Go.Eng Go.Proofs
namespace Go.Proofs.YtlbdpklikfddlaaGreat

theorem take_succ_eq {α:Type} [BEq α] [LawfulBEq α] {xs ys:List α} {n:Nat} {x y:α} (hx:xs[n]?=some x) (hy:ys[n]?=some y) (h:xs.take n=ys.take n):xs.take (n+1)=ys.take (n+1)↔x=y:=by
 rw [List.take_add_one,List.take_add_one,hx,hy,h]; simp

theorem sameInts {H:Hp} {a b:Slc} {xs ys:List Int} (ha:RdI H a xs) (hb:RdI H b ys) (h63:xs.length≤1000000000):Qf Tryz.prog F.pelotonref06_SameInts #[a.v,b.v] H (.bool (xs==ys)):=by
 have la:=ha.len
 have lb:=hb.len
 refine pelotonref06_SameInts_vc ⟨fun h=>⟨?_,Hp.le_refl H⟩,fun h=>?_⟩
 ·have hl:(a.n:Int)≠b.n:=by simpa using h
  have:(xs==ys)=false:=by
   rw [beq_eq_false_iff_ne]; intro e; subst e; omega
  rw [this]
 ·have hl:(a.n:Int)=b.n:=by simpa using h
  refine ⟨fun n H4=>H4=H∧0≤n∧n≤xs.length∧xs.take n.toNat=ys.take n.toNat,fun n _=>xs.length-n.toNat,⟨rfl,by omega,by omega,by simp⟩,fun n H4 ⟨hH,h0,h1,h2⟩=>?_⟩
  subst hH
  refine ⟨fun hn=>?_,fun hn=>⟨?_,Hp.le_refl _⟩⟩
  ·have hn:n<a.n:=by simpa using hn
   have gx:=getI (xs:=xs) h0 (by omega)
   have gy:=getI (xs:=ys) h0 (by omega)
   refine ⟨ha.inN h0 hn,_,ha.get h0 (by omega),hb.inN h0 (by omega),_,hb.get h0 (by omega),fun hne=>⟨?_,Hp.le_refl _⟩,fun he=>⟨?_,⟨rfl,by omega,by omega,?_⟩,?_⟩⟩
   ·have:(xs==ys)=false:=by
     rw [beq_eq_false_iff_ne]; intro e; subst e; simp at hne
    rw [this]
   ·unfold inI; omega
   ·have e:(n+1).toNat=n.toNat+1:=by omega
    rw [e]
    exact (take_succ_eq gx gy h2).2 (by simpa using he)
   ·show xs.length-(n+1).toNat<xs.length-n.toNat; omega
  ·have hn:n=xs.length:=by
    have:¬ n<a.n:=by simpa using hn
    omega
   subst hn
   have:xs=ys:=by
    have e1:xs.take xs.length=xs:=List.take_length
    have e2:ys.take xs.length=ys:=by
     have:xs.length=ys.length:=by omega
     rw [this]; exact List.take_length
    rw [Int.toNat_natCast] at h2
    rw [← e1,h2,e2]
   subst this; simp
end Go.Proofs.YtlbdpklikfddlaaGreat
end
section
/- Contracts of slot.twin and pelotonref06.Twin,Same. Conditions: none. -/
open Go Go.Eng Go.Proofs
namespace Go.Proofs.YtlbdpklikfddlaaGreat

theorem sameBools {H:Hp} {a b:Slc} {xs ys:List Bool} (ha:RdB H a xs) (hb:RdB H b ys) (h63:xs.length≤1000000000):Qf Tryz.prog F.pelotonref06_SameBools #[a.v,b.v] H (.bool (xs==ys)):=by
 have la:=ha.len
 have lb:=hb.len
 refine pelotonref06_SameBools_vc ⟨fun h=>⟨?_,Hp.le_refl H⟩,fun h=>?_⟩
 ·have hl:(a.n:Int)≠b.n:=by simpa using h
  have:(xs==ys)=false:=by
   rw [beq_eq_false_iff_ne]; intro e; subst e; omega
  rw [this]
 ·have hl:(a.n:Int)=b.n:=by simpa using h
  refine ⟨fun n H4=>H4=H∧0≤n∧n≤xs.length∧xs.take n.toNat=ys.take n.toNat,fun n _=>xs.length-n.toNat,⟨rfl,by omega,by omega,by simp⟩,fun n H4 ⟨hH,h0,h1,h2⟩=>?_⟩
  subst hH
  refine ⟨fun hn=>?_,fun hn=>⟨?_,Hp.le_refl _⟩⟩
  ·have hn:n<a.n:=by simpa using hn
   have gx:=getB (xs:=xs) h0 (by omega)
   have gy:=getB (xs:=ys) h0 (by omega)
   refine ⟨ha.inN h0 hn,_,ha.get h0 (by omega),hb.inN h0 (by omega),_,hb.get h0 (by omega),fun hne=>⟨?_,Hp.le_refl _⟩,fun he=>⟨?_,⟨rfl,by omega,by omega,?_⟩,?_⟩⟩
   ·have:(xs==ys)=false:=by
     rw [beq_eq_false_iff_ne]; intro e; subst e; simp at hne
    rw [this]
   ·unfold inI; omega
   ·have e:(n+1).toNat=n.toNat+1:=by omega
    rw [e]
    exact (take_succ_eq gx gy h2).2 (by simpa using he)
   ·show xs.length-(n+1).toNat<xs.length-n.toNat; omega
  ·have hn:n=xs.length:=by
    have:¬ n<a.n:=by simpa using hn
    omega
   subst hn
   have:xs=ys:=by
    have e1:xs.take xs.length=xs:=List.take_length
    have e2:ys.take xs.length=ys:=by
     have:xs.length=ys.length:=by omega
     rw [this]; exact List.take_length
    rw [Int.toNat_natCast] at h2
    rw [← e1,h2,e2]
   subst this; simp


theorem twin {H:Hp} {u1 u2 u3:Slc} {t:Tb} (h:RdT H u1 u2 u3 t) (hs:t.small) :
  Go.Eng.Fn Tryz.prog F.slot_twin #[.agg #[u1.v,u2.v,u3.v]] H fun v H'=>∃ a b:Slc,v=.agg #[a.v,b.v,u3.v]∧Hp.le H H'∧Mine 1 fI 3 H H' a t.uses∧Mine 1 fB 4 H H' b t.used∧Sep a b:=by
 obtain ⟨s1,s2,s3⟩:=hs
 refine slot_twin_vc ((clone_int h.uses (by omega)).mono fun v H1 ⟨a,hv,hl,hm⟩=>⟨hl,a,hv,?_⟩)
 exact (clone_bool (h.used.le hl) (by omega)).mono fun v H2 ⟨b,hv,hl2,hm2⟩=>⟨hl2,b,hv,a,b,rfl,Hp.le_trans hl hl2,hm.le hl2,hm2.low hl,Sep.of hm.isOld hm2.isNew⟩

theorem rtwin {H:Hp} {u1 u2 u3:Slc} {t:Tb} (h:RdT H u1 u2 u3 t) (hs:t.small) :
  Go.Eng.Fn Tryz.prog F.pelotonref06_Twin #[.agg #[u1.v,u2.v,u3.v]] H fun v H'=>∃ a b c:Slc,v=.agg #[a.v,b.v,c.v]∧NewT H H' a b c t:=by
 obtain ⟨s1,s2,s3⟩:=hs
 refine pelotonref06_Twin_vc fun b1 H2 hb1 hH2=>?_
 refine (copy_ok (k:=1) (f:=fI) (bytes:=8) (e:=3) (by kernel_rfl) (by decide) (fun _=>rfl) (fun x v hv=>by simp [fI] at hv; subst hv; rfl) hb1 hH2 h.uses (by omega) (by omega)).mono fun v H1 ⟨a,hv,hl,hm⟩=>⟨a,hv,fun b2 H3 hb2 hH3=>?_⟩
 refine (copy_ok (k:=1) (f:=fB) (bytes:=1) (e:=4) (by kernel_rfl) (by decide) (fun _=>rfl) (fun x v hv=>by simp [fB] at hv; subst hv; rfl) hb2 hH3 (h.used.le hl) (by omega) (by omega)).mono fun v H2' ⟨b,hv,hl2,hm2⟩=>⟨b,hv,fun b3 H5 hb3 hH5=>?_⟩
 exact (copy_ok (k:=1) (f:=fI) (bytes:=8) (e:=3) (by kernel_rfl) (by decide) (fun _=>rfl) (fun x v hv=>by simp [fI] at hv; subst hv; rfl) hb3 hH5 ((h.free.le hl).le hl2) (by omega) (by omega)).mono fun v H3' ⟨c,hv,hl3,hm3⟩ =>
  ⟨c,hv,a,b,c,rfl,Hp.le_trans hl (Hp.le_trans hl2 hl3),(hm.le hl2).le hl3,(hm2.low hl).le hl3,(hm3.low hl2).low hl,Sep.of hm.isOld hm2.isNew,Sep.of (hm.isOld.le hl2) hm3.isNew,Sep.of hm2.isOld hm3.isNew⟩

theorem same {H:Hp} {u1 u2 u3 v1 v2 v3:Slc} {t s:Tb} (ht:RdT H u1 u2 u3 t) (hs:RdT H v1 v2 v3 s) (hsm:t.small) :
  Qf Tryz.prog F.pelotonref06_Same #[.agg #[u1.v,u2.v,u3.v],.agg #[v1.v,v2.v,v3.v]] H (.bool (t.uses==s.uses&&t.used==s.used&&t.free==s.free)):=by
 obtain ⟨s1,s2,s3⟩:=hsm
 exact pelotonref06_Same_vc ⟨_,sameInts ht.uses hs.uses (by omega),_,fun _=>sameBools ht.used hs.used (by omega),_,fun _=>sameInts ht.free hs.free (by omega),rfl,Hp.le_refl H⟩
end Go.Proofs.YtlbdpklikfddlaaGreat
end
section
/- pelotonref06.Check. Conditions: none. -/
open Go Go.Eng Go.Proofs
namespace Go.Proofs.YtlbdpklikfddlaaGreat

theorem nodup_snoc {l:List Int} {x:Int} (h:l.Nodup) (hx:x∉l):(l++[x]).Nodup:=by
 rw [List.nodup_append]
 exact ⟨h,by simp,fun a ha b hb e=>by simp at hb; subst hb; subst e; exact hx ha⟩

theorem not_nodup {l:List Int} {i:Nat} {x:Int} (hi:l[i]?=some x) (hx:x∈l.take i):¬ l.Nodup:=fun h=>by
 have h2:(l.take (i+1)).Nodup:=h.sublist (List.take_sublist _ _)
 rw [take_succ hi,List.nodup_append] at h2
 exact h2.2.2 x hx x (by simp) rfl

end Go.Proofs.YtlbdpklikfddlaaGreat
end
section
/- Contracts of slot.Check and what it calls. Conditions: none. -/
open Go Go.Eng Go.Proofs
namespace Go.Proofs.YtlbdpklikfddlaaGreat

theorem index_bool {H:Hp} {s:Slc} {xs:List Bool} {v:Bool} (h:RdB H s xs) (hl:xs.length≤1000000000) :
    Qf Tryz.prog F.slices_Index_bool_bool #[s.v,.bool v] H (.int .i64 (idx (fun x=>v==x) xs)):=by
  have ls:=h.len
  refine slices_Index_bool_bool_vc (upto (N:=xs.length) (J:=fun n=>∀ y∈xs.take n.toNat,(v==y)=false) (by omega) (by simp) fun n h0 h1 hJ=>⟨fun hn=>?_,fun hn=>⟨?_,Hp.le_refl _⟩⟩)
  · have hn:n<xs.length:=by have:n<s.n:=by simpa using hn
                            omega
    have hg:=getB h0 hn
    refine h.ldB h0 hn ⟨fun hv=>⟨?_,Hp.le_refl _⟩,fun hv=>upto.nx h0 hn (by omega) ?_⟩
    · rw [idx_hit hg hv hJ,Int.toNat_of_nonneg h0]
    · have e:(n+1).toNat=n.toNat+1:=by omega
      rw [e,take_succ hg]
      intro y hy
      rcases List.mem_append.1 hy with hy | hy
      · exact hJ y hy
      · simp only [List.mem_singleton] at hy; subst hy; exact hv
  · have:n=xs.length:=by have:¬ n<s.n:=by simpa using hn
                         omega
    subst this
    rw [Int.toNat_natCast,List.take_length] at hJ
    rw [idx_miss hJ]

theorem contains_bool {H:Hp} {s:Slc} {xs:List Bool} {v:Bool} (h:RdB H s xs) (hl:xs.length≤1000000000) :
  Qf Tryz.prog F.slices_Contains_bool_bool #[s.v,.bool v] H (.bool (xs.any fun x=>v==x)) :=
 slices_Contains_bool_bool_vc ⟨_,index_bool h hl,by rw [← idx_ge],Hp.le_refl _⟩

theorem indexFunc_int {H:Hp} {s:Slc} {xs:List Int} {fv:Value} {J:Int→Hp→Prop} {post:Value→Hp→Prop} (hl:xs.length≤1000000000) (hr:∀ n H',J n H'→RdI H' s xs) (j0:J 0 H)
    (hb:∀ (n:Int) H',0≤n→n<xs.length→J n H'→FnV Tryz.prog fv [.int .i64 (xs.getD n.toNat 0)] H' fun v H7=>∃ c:Bool,v=.bool c∧(c=true→post (.int .i64 n) H7)∧(c=false→J (n+1) H7))
    (he:∀ H',J xs.length H'→post (.int .i64 (-1)) H'):Go.Eng.Fn Tryz.prog F.slices_IndexFunc_int_int #[s.v,fv] H post:=by
  have ls:=(hr 0 H j0).len
  refine slices_IndexFunc_int_int_vc (uptoH (N:=xs.length) (J:=J) (by omega) j0 fun n H' h0 h1 hJ=>⟨fun hn=>?_,fun hn=>?_⟩)
  · have hn:n<xs.length:=by have:n<s.n:=by simpa using hn
                            omega
    exact (hr n H' hJ).ldI h0 hn ((hb n H' h0 hn hJ).mono fun v H7 ⟨c,hv,hc,hc'⟩=>⟨c,hv,hc,fun x=>uptoH.nx h0 hn (by omega) (hc' x)⟩)
  · have:n=xs.length:=by have:¬ n<s.n:=by simpa using hn
                         omega
    subst this
    exact he H' hJ

theorem containsFunc_int {H:Hp} {s:Slc} {xs:List Int} {fv:Value} {J:Int→Hp→Prop} {post:Value→Hp→Prop} (hl:xs.length≤1000000000) (hr:∀ n H',J n H'→RdI H' s xs) (j0:J 0 H)
  (hb:∀ (n:Int) H',0≤n→n<xs.length→J n H'→FnV Tryz.prog fv [.int .i64 (xs.getD n.toNat 0)] H' fun v H7=>∃ c:Bool,v=.bool c∧(c=true→post (.bool true) H7)∧(c=false→J (n+1) H7))
  (he:∀ H',J xs.length H'→post (.bool false) H'):Go.Eng.Fn Tryz.prog F.slices_ContainsFunc_int_int #[s.v,fv] H post:=by
 refine slices_ContainsFunc_int_int_vc (indexFunc_int (J:=J) hl hr j0 (fun n H' h0 h1 hJ=>(hb n H' h0 h1 hJ).mono fun v H7 ⟨c,hv,hc,hc'⟩=>⟨c,hv,fun x=>⟨n,rfl,?_⟩,hc'⟩) fun H' hJ=>⟨-1,rfl,he H' hJ⟩)
 have:decide (n≥0)=true:=by simp; exact h0
 rw [this]; exact hc x

theorem slotCheck1 {H:Hp} {b1 b2:Nat} {n i:Int} {u:Slc} {mk:List Bool} {H0:Hp} (h1:Var H b1 (.int .i64 n) 3) (h2:Var H b2 u.v 36) (hm:Mine 1 fB 4 H0 H u mk) (hn:n=mk.length) {post:Value→Hp→Prop}
  (hbad:(i<0∨n≤i∨mk.getD i.toNat false=true)→post (.bool true) H)
  (hgood:0≤i→i<n→mk.getD i.toNat false=false→∀ H',Mine 1 fB 4 H0 H' u (mk.set i.toNat true)→Chg H H' u→post (.bool false) H') :
  Go.Eng.Fn Tryz.prog F.slot_Check_1 #[.int .i64 i,.pointer (some ⟨b1,0,none⟩),.pointer (some ⟨b2,0,none⟩)] H post:=by
 refine slot_Check_1_vc ⟨n,fun _=>h1.at,u,fun _=>h2.at,?_⟩
 refine hm.rdB.ldcB (fun hc=>by simp at hc; omega) ⟨fun hc=>hbad ?_,fun hc=>?_⟩
 ·simp at hc
  rcases hc with (hc | hc) | hc
  ·exact .inl hc
  ·exact .inr (.inl hc)
  ·exact .inr (.inr (by simpa using hc))
 ·simp at hc
  obtain ⟨⟨c1,c2⟩,c3⟩:=hc
  refine ⟨u,h2.at,hm.rdB.inS c1 (by omega),hm.setB c1 (by omega) true fun H' m c=>hgood c1 c2 (by simpa using c3) H' m c⟩

def Left (t:Tb) (mk:List Bool) (l:List Int):Prop:=mk.length=t.used.length∧∀ i:Nat,i<t.used.length→(mk.getD i false=true↔t.used.getD i false=true∨(i:Int)∈l)

theorem slotCheck {H:Hp} {u1 u2 u3:Slc} {t:Tb} (h:RdT H u1 u2 u3 t) (hs:t.small) :
  Qf Tryz.prog F.slot_Check #[.agg #[u1.v,u2.v,u3.v]] H (.int .i64 (chk t)):=by
 obtain ⟨s1,s2,s3⟩:=hs
 have l1:=h.uses.len
 have l2:=h.used.len
 have l3:=h.free.len
 refine slot_Check_vc fun b1 H2 hb1 hH2=>(Var.new hH2).set _ fun H3 hH3=>?_
 have v1:Var H3 b1 (.int .i64 u1.n) 3:=Var.new hH3
 have le3:Hp.le H H3:=by subst hH3; exact Hp.le_put (Hp.le_new (Hp.le_refl _) hb1 hH2) hb1
 refine ⟨_,v1.at,_,fun _=>v1.at,_,fun _=>v1.at,fun hc=>⟨?_,le3⟩,fun hc=>?_⟩
 ·rw [chk_bad]
  intro ok
  have:=ok.pos; have:=ok.top; have:=ok.len
  simp at hc
  omega
 ·simp at hc
  refine (clone_bool (h.used.le le3) (by omega)).mono fun v H8 ⟨u9,hv,le8,m8⟩=>⟨u9,hv,fun b10 H11 hb10 hH11=>(Var.new hH11).set _ fun H12 hH12=>?_⟩
  have le12:Hp.le H8 H12:=by subst hH12; exact Hp.le_put (Hp.le_new (Hp.le_refl _) hb10 hH11) hb10
  have v2:Var H12 b10 u9.v 36:=Var.new hH12
  have ne1:∀ p,u9.a=some p→p.block≠b1:=fun p hp e=>by
   have:=m8.isNew p hp; rw [e] at this; rw [v1] at this; cases this
  have ne2:∀ p,u9.a=some p→p.block≠b10:=fun p hp e=>m8.isOld p hp (by rw [e]; exact hb10)
  have hcf:=containsFunc_int (H:=H12) (s:=u3) (xs:=t.free) (fv:=.func (.func F.slot_Check_1) #[] #[.pointer (some ⟨b1,0,none⟩),.pointer (some ⟨b10,0,none⟩)])
   (J:=fun n H'=>Hp.le H H'∧Var H' b1 (.int .i64 u1.n) 3∧Var H' b10 u9.v 36∧(∀ x∈t.free.take n.toNat,0≤x∧x<t.uses.length)∧(t.free.take n.toNat).Nodup∧(∀ x∈t.free.take n.toNat,t.used.getD x.toNat false=false)∧∃ mk,Left t mk (t.free.take n.toNat)∧Mine 1 fB 4 H3 H' u9 mk)
   (post:=fun v H'=>Hp.le H H'∧((v=.bool true∧chk t=8)∨(v=.bool false∧Var H' b10 u9.v 36∧(∀ x∈t.free,0≤x∧x<t.uses.length)∧t.free.Nodup∧(∀ x∈t.free,t.used.getD x.toNat false=false)∧∃ mk,Left t mk t.free∧Mine 1 fB 4 H3 H' u9 mk)))
   (by omega) (fun n H' hj=>h.free.le hj.1) ⟨Hp.le_trans le3 (Hp.le_trans le8 le12),(v1.le le8).le le12,v2,by simp,by simp,by simp,t.used,⟨rfl,fun i hi=>by simp⟩,m8.le le12⟩ ?_ ?_
  ·refine hcf.mono fun v H14 ⟨le14,hp⟩=>?_
   rcases hp with ⟨rfl,hk⟩ | ⟨rfl,w2,i3,i4,i5,mk,i6,i7⟩
   ·refine ⟨true,rfl,u9,fun hx=>by simp at hx,true,fun hx=>by simp at hx,fun _=>⟨?_,le14⟩,fun hx=>by simp at hx⟩
    rw [hk]
   ·have hmk:=i7.rdB
    refine ⟨false,rfl,u9,fun _=>w2.at,_,fun _=>contains_bool hmk (by rw [i6.1]; omega),fun hx=>⟨?_,le14⟩,fun hx=>?_⟩
    ·rw [chk_bad]
     intro ok
     simp only [Bool.false_or,List.any_eq_true,beq_iff_eq] at hx
     obtain ⟨c,hc1,hc2⟩:=hx
     subst hc2
     obtain ⟨i,hi⟩:=List.mem_iff_getElem?.1 hc1
     have hlt:i<mk.length:=(List.getElem?_eq_some_iff.1 hi).1
     have hn:mk.getD i false=false:=by rw [List.getD_eq_getElem?_getD,hi]; try rfl
     have:=i6.2 i (by rw [← i6.1]; exact hlt)
     have hor:t.used.getD i false=true∨(i:Int)∈t.free:=by
      rcases Decidable.em ((i:Int)∈t.free) with hm | hm
      ·exact .inr hm
      ·exact .inl ((ok.each i (by have:=ok.len; have:=i6.1; omega)).2.2.1.2 hm)
     rw [hn] at this
     exact absurd (this.2 hor) (by simp)
    ·simp only [Bool.false_or,List.any_eq_false,beq_iff_eq] at hx
     have hall:∀ i:Nat,i<t.uses.length→(t.used.getD i false=true↔(i:Int)∉t.free):=fun i hi=>by
      have hlt:i<mk.length:=by have:=i6.1; omega
      have hm:mk.getD i false=true:=by
       rw [List.getD_eq_getElem?_getD,List.getElem?_eq_getElem hlt]
       have:=hx _ (List.getElem_mem hlt)
       simpa using this
      have hor:=(i6.2 i (by omega)).1 hm
      constructor
      ·intro hd hf
       have:=i5 _ hf
       rw [Int.toNat_natCast,hd] at this; cases this
      ·intro hf
       exact hor.resolve_right hf
     refine upto (N:=t.uses.length) (J:=fun m=>∀ i:Nat,i<m→0≤t.uses.getD i 0∧t.uses.getD i 0≤1000000∧(t.used.getD i false=true→1≤t.uses.getD i 0)) (by omega) (fun i hi=>by omega) fun m j1 j2 j3=>⟨fun hm=>?_,fun hm=>⟨?_,le14⟩⟩
     ·have hm:m<t.uses.length:=by have:m<u1.n:=by simpa using hm
                                  omega
      refine (h.uses.le le14).ldI j1 hm ((h.used.le le14).ldcB (fun _=>⟨j1,by omega⟩) ⟨fun hb=>⟨?_,le14⟩,fun hb=>upto.nx j1 hm (by omega) fun i hi=>?_⟩)
      ·rw [chk_bad]
       intro ok
       obtain ⟨k1,k2,k3,k4⟩:=ok.each m.toNat (by omega)
       skip
       simp only [Bool.or_eq_true,decide_eq_true_eq,beq_iff_eq,Bool.and_eq_true] at hb
       rcases hb with (hb | hb) | hb
       ·omega
       ·omega
       ·have:=k4 hb.2; omega
      ·rcases Nat.lt_or_ge i m.toNat with hlt | hge
       ·exact j3 i (by omega)
       ·have e:i=m.toNat:=by omega
        subst e
        simp only [Bool.or_eq_false_iff,decide_eq_false_iff_not,Bool.and_eq_false_imp] at hb
        obtain ⟨⟨q1,q2⟩,q3⟩:=hb
        skip
        refine ⟨by omega,by omega,fun hd=>?_⟩
        rcases Int.lt_or_le 0 (t.uses.getD m.toNat 0) with h' | h'
        ·omega
        ·have:=q3 (by rw [beq_iff_eq]; omega)
         rw [hd] at this; cases this
     ·have hm:m=t.uses.length:=by have:¬ m<u1.n:=by simpa using hm
                                  omega
      subst hm
      rw [chk_ok]
      exact ⟨by omega,by omega,by omega,i3,i4,fun i hi=>⟨(j3 i (by omega)).1,(j3 i (by omega)).2.1,hall i hi,(j3 i (by omega)).2.2⟩⟩
  ·intro n H' h0 hn ⟨i2,w1,w2,i3,i4,i5,mk,i6,i7⟩
   have hg:=getI h0 hn
   have hmem:t.free.getD n.toNat 0∈t.free:=List.mem_of_getElem? hg
   generalize hx:t.free.getD n.toNat 0=x at hg hmem ⊢
   have e1:(n+1).toNat=n.toNat+1:=by omega
   refine ⟨F.slot_Check_1,#[],_,rfl,slot_Check_1_callable,?_⟩
   refine slotCheck1 w1 w2 i7 (by rw [i6.1]; omega) (fun hb=>⟨true,rfl,fun _=>⟨i2,.inl ⟨rfl,?_⟩⟩,fun hx=>(by cases hx)⟩) fun c0 c1 c2 H7 m7 ch=>⟨false,rfl,fun hx=>(by cases hx),fun _=>?_⟩
   ·rw [chk_bad]
    intro ok
    have hr:=ok.rng x hmem
    rcases hb with hb | hb | hb
    ·omega
    ·omega
    ·rcases (i6.2 x.toNat (by omega)).1 hb with hd | hd
     ·have:=(ok.each x.toNat (by omega)).2.2.1.1 hd
      rw [Int.toNat_of_nonneg hr.1] at this; exact this hmem
     ·rw [Int.toNat_of_nonneg hr.1] at hd
      exact not_nodup hg hd ok.nod
   ·have hnm:¬ (t.used.getD x.toNat false=true∨(x.toNat:Int)∈t.free.take n.toNat):=fun hor=>by
     have:=(i6.2 x.toNat (by omega)).2 hor
     rw [c2] at this; cases this
    rw [Int.toNat_of_nonneg c0] at hnm
    rw [e1,take_succ hg]
    refine ⟨Hp.le_chg i2 ch ((m8.isNew).low le3),w1.chg ch ne1,w2.chg ch ne2,fun y hy=>?_,nodup_snoc i4 fun hx=>hnm (.inr hx),fun y hy=>?_,_,⟨by simpa using i6.1,fun i hi=>?_⟩,m7⟩
    ·rcases List.mem_append.1 hy with hy | hy
     ·exact i3 y hy
     ·simp at hy; subst hy; exact ⟨c0,by omega⟩
    ·rcases List.mem_append.1 hy with hy | hy
     ·exact i5 y hy
     ·simp at hy; subst hy
      cases hd:t.used.getD y.toNat false with
      | false=>rfl
      | true=>exact absurd (.inl hd) hnm
    ·rw [getD_set (by rw [i6.1]; omega)]
     by_cases e:x.toNat=i
     ·rw [if_pos e]; simp; right; right; omega
     ·rw [if_neg e,i6.2 i hi,List.mem_append,List.mem_singleton]
      exact ⟨fun h=>h.elim .inl fun h=>.inr (.inl h),fun h=>h.elim .inl fun h=>.inr (h.resolve_right (by omega))⟩
  ·intro H' ⟨i2,w1,w2,i3,i4,i5,mk,i6,i7⟩
   rw [Int.toNat_natCast,List.take_length] at i3 i4 i5 i6
   exact ⟨i2,.inr ⟨rfl,w2,i3,i4,i5,mk,i6,i7⟩⟩
end Go.Proofs.YtlbdpklikfddlaaGreat
end
section
/- Contracts of slot.New,Has,Take,Give,Room and of the same ones of pelotonref06. Conditions: none. -/
open Go Go.Eng Go.Proofs
namespace Go.Proofs.YtlbdpklikfddlaaGreat

theorem beginT_free {n:Nat} {ys:List Int} (hl:ys.length=n) (h:∀ i:Nat,i<n→ys[i]?=some ((n:Int)-1-i)):ys=(beginT n).free:=by
 apply List.ext_getElem?
 intro i
 simp only [beginT,List.getElem?_map]
 by_cases hi:i<n
 ·rw [h i hi]; simp [hi]
 ·rw [List.getElem?_eq_none (by omega),List.getElem?_eq_none (by simpa using hi)]; try rfl

theorem made_mine {α:Type} {f:α→List Value} {g:α→Value} {e:TypeId} {H H':Hp} {b:Nat} (hf:∀ x,f x=[g x]) {n:Int} {z:α} {c:Array Value} (hb:H b=none) (hH:H'=H.put b (.cells c e (0,0))) (hc:c=(List.replicate n.toNat [g z]).flatten.toArray) :
  Mine 1 f e H H' ⟨some ⟨b,0,none⟩,n.toNat,n.toNat⟩ (List.replicate n.toNat z):=by
 subst hH
 exact .inr ⟨b,hb,Own.made hf hc⟩

theorem refBegin {H:Hp} {N:Nat} (h1:1≤N) (h2:N≤200) :
    Go.Eng.Fn Tryz.prog F.pelotonref06_Begin #[.int .i64 N] H fun v H'=>∃ a b c:Slc,v=.agg #[a.v,b.v,c.v]∧NewT H H' a b c (beginT N):=by
  refine pelotonref06_Begin_vc ⟨⟨rfl,by omega,by omega⟩,fun b1 H2 hb1 hH2=>⟨⟨rfl,by omega,by omega⟩,fun b3 H4 hb3 hH4=>⟨by unfold inI; omega,?_⟩⟩⟩
  have m1:=made_mine (g:=fun x=>Value.int .i64 x) (e:=3) hfI (n:=(N:Int)) (z:=0) hb1 hH2 rfl
  have m2:=made_mine (g:=fun x=>Value.bool x) (e:=4) hfB (n:=(N:Int)) (z:=false) hb3 hH4 rfl
  simp only [Int.toNat_natCast] at m1 m2 ⊢
  have l1:Hp.le H H2:=Hp.le_new (Hp.le_refl _) hb1 hH2
  have l2:Hp.le H2 H4:=Hp.le_new (Hp.le_refl _) hb3 hH4
  have s12:=Sep.of m1.isOld m2.isNew
  refine ⟨fun m u8 u9 u10 H11=>u8=⟨some ⟨b1,0,none⟩,N,N⟩∧u9=⟨some ⟨b3,0,none⟩,N,N⟩∧-1≤m∧m<N∧Hp.le H H11∧Mine 1 fI 3 H H11 u8 (List.replicate N 0)∧Mine 1 fB 4 H H11 u9 (List.replicate N false)∧Sep u10 u8∧Sep u10 u9 ∧
      ∃ ys:List Int,Mine 1 fI 3 H H11 u10 ys∧(ys.length:Int)=N-1-m∧∀ i:Nat,i<ys.length→ys[i]?=some ((N:Int)-1-i),fun m _ _ _ _=>(m+1).toNat,
    ⟨rfl,rfl,by omega,by omega,Hp.le_trans l1 l2,m1.le l2,m2.low l1,Sep.symm Sep.nil,Sep.symm Sep.nil,[],.inl ⟨rfl,rfl⟩,by simp,fun i hi=>by simp at hi⟩,
    fun m u8 u9 u10 H11 ⟨e8,e9,j0,j1,j2,j3,j4,j5,j6,ys,j7,j8,j9⟩=>⟨fun hm b12 H13 hb12 hH13=>?_,fun hm=>?_⟩⟩
  · have hm:m≥0:=by simpa using hm
    refine (append1 (k:=1) (f:=fI) (e:=3) (bytes:=8) (x:=m) (by kernel_rfl) (by decide) (fun _=>rfl) (fun x v hv=>by simp [fI] at hv; subst hv; rfl) j2 j7 hb12 hH13 rfl (by omega) (by omega)).mono
      fun v H' ⟨u',hv,g1,g2,g3,g4⟩=>⟨u',hv,by unfold inI; omega,⟨e8,e9,by omega,by omega,g1,j3.chg g3 j5.symm,j4.chg g3 j6.symm,j5.ext j3.isOld g4,j6.ext j4.isOld g4,_,g2,by simp; omega,fun i hi=>?_⟩,by show (m-1+1).toNat<(m+1).toNat; omega⟩
    rw [List.getElem?_append]
    split
    · rename_i h; exact j9 i h
    · rename_i h
      have:i=ys.length:=by simp at hi; omega
      subst this
      simp; omega
  · have hm:m = -1:=by have:¬ m≥0:=by simpa using hm
                       omega
    subst hm
    have hl:ys.length=N:=by omega
    have e:=beginT_free hl fun i hi=>j9 i (by omega)
    subst e
    subst e8; subst e9
    exact ⟨_,_,_,rfl,j2,j3,j4,j7,s12,j5.symm,j6.symm⟩

theorem slotHas {H:Hp} {u1 u2 u3:Slc} {t:Tb} {i u:Int} (h:RdT H u1 u2 u3 t) (hs:t.small) :
  Qf Tryz.prog F.slot_Has #[.agg #[u1.v,u2.v,u3.v],.agg #[.int .i64 i,.int .i64 u]] H (.tuple #[.bool (hasM t i u).1,.int .i64 (hasM t i u).2]):=by
 refine slot_Has_vc ⟨_,slotCheck h hs,fun hc=>⟨?_,Hp.le_refl _⟩,fun hc=>?_⟩
 ·have hk:¬ okT t:=fun ok=>by rw [chk_ok ok] at hc; simp at hc
  rw [chk_bad hk,hasM,if_neg hk]
 ·have ok:okT t:=chk_zero.1 (by simpa using hc)
  have l1:=h.used.len
  have l2:=h.uses.len
  have l3:=ok.len
  refine h.used.ldcB (fun hx=>by simp at hx; omega) (h.uses.ldcI (fun hx=>by simp at hx; omega) ⟨?_,Hp.le_refl _⟩)
  rw [hasM,if_pos ok]
  simp only [Tb.live,l1,l3]

theorem refOpen {H:Hp} {u1 u2 u3:Slc} {t:Tb} (h:RdT H u1 u2 u3 t) (ok:okT t) :
  Qf Tryz.prog F.pelotonref06_Open #[.agg #[u1.v,u2.v,u3.v]] H (.bool t.canTake):=by
 have l3:=h.free.len
 have hs:=ok.fl
 have ht:=ok.top
 have e:((u3.n:Int)-1).toNat=t.free.length-1:=by omega
 refine pelotonref06_Open_vc ⟨fun _=>by unfold inI; omega,h.free.ldcI (fun hx=>by simp at hx; omega) ?_⟩
 rw [e]
 refine h.uses.ldcI (fun hx=>(ok.topR (by simp at hx; omega)).2) ⟨?_,Hp.le_refl _⟩
 have:decide ((u3.n:Int)>0)=decide (0<t.free.length):=by simp; omega
 rw [this]
 rfl

theorem pop {H:Hp} {s:Slc} {xs:List Int} (h:RdI H s xs) (h0:0<xs.length) (hl:xs.length≤1000000) :
  Go.Eng.Fn Tryz.prog F.slot_stack_int_pop #[s.v] H fun v H'=>∃ u:Slc,v=.tuple #[u.v,.int .i64 (topL xs)]∧Hp.le H H'∧Mine 1 fI 3 H H' u xs.dropLast:=by
 have ls:=h.len
 have lc:=h.cap
 have e:((s.n:Int)-1).toNat=xs.length-1:=by omega
 refine slot_stack_int_pop_vc ⟨by unfold inI; omega,⟨by omega,by omega,by omega,by omega⟩,h.ldI (by omega) (by omega) ?_⟩
 rw [slcCut,e,List.dropLast_eq_take]
 exact (clone_stack (h.cut (n:=xs.length-1) (c:=s.c) (by omega) (by omega)) (by simp; omega)).mono fun v H' ⟨u,hv,hl,hm⟩=>⟨hl,u,hv,u,rfl,hl,hm⟩

theorem push {H:Hp} {s:Slc} {xs:List Int} {x:Int} (h:RdI H s xs) (hl:xs.length≤1000000) :
  Go.Eng.Fn Tryz.prog F.slot_stack_int_push #[s.v,.int .i64 x] H fun v H'=>∃ u:Slc,v=u.v∧Hp.le H H'∧Mine 1 fI 3 H H' u (xs++[x]) :=
 slot_stack_int_push_vc ((clone_stack h (by omega)).mono fun v H2 ⟨u,hv,hl2,hm⟩=>⟨u,hv,fun b4 H5 hb hH =>
  (append1 (k:=1) (f:=fI) (e:=3) (bytes:=8) (x:=x) (by kernel_rfl) (by decide) (fun _=>rfl) (fun x v hv=>by simp [fI] at hv; subst hv; rfl) hl2 hm hb hH rfl (by omega) (by omega)).mono
   fun v H' ⟨u',hv,g1,g2,g3,g4⟩=>⟨u',hv,u',rfl,g1,g2⟩⟩)

theorem slotTake {H:Hp} {u1 u2 u3:Slc} {t:Tb} (h:RdT H u1 u2 u3 t) (hs:t.small) :
  Go.Eng.Fn Tryz.prog F.slot_Take #[.agg #[u1.v,u2.v,u3.v]] H fun v H'=>∃ a b c:Slc,v=.tuple #[.agg #[a.v,b.v,c.v],.agg #[.int .i64 (takeM t).2.1,.int .i64 (takeM t).2.2.1],.int .i64 (takeM t).2.2.2]∧NewT H H' a b c (takeM t).1:=by
 refine slot_Take_vc ⟨_,slotCheck h hs,fun hc=>?_,fun hc=>?_⟩
 ·have hk:¬ okT t:=fun ok=>by rw [chk_ok ok] at hc; simp at hc
  rw [chk_bad hk,takeM,if_neg hk]
  exact ⟨zs,zs,zs,rfl,NewT.zero (Hp.le_refl _)⟩
 ·have ok:okT t:=chk_zero.1 (by simpa using hc)
  rw [takeM,if_pos ok]
  have l3:=h.free.len
  have lt:=ok.top
  have lf:=ok.fl
  have l2:=ok.len
  refine ⟨fun h0=>?_,fun h0=>?_⟩
  ·have:t.canTake=false:=by simp at h0; unfold Tb.canTake; rw [show t.free.length=0 by omega]; try rfl
   rw [this]
   exact ⟨zs,zs,zs,rfl,NewT.zero (Hp.le_refl _)⟩
  ·have hf:0<t.free.length:=by simp at h0; omega
   obtain ⟨r1,r2,r3⟩:=ok.topR hf
   refine (pop h.free hf (by omega)).mono fun v H3 ⟨u4,hv,le3,m4⟩=>⟨u4,_,hv,(h.uses.le le3).ldI r2 r3 ⟨fun hu=>?_,fun hu=>?_⟩⟩
   ·have:t.canTake=false:=by
     have:t.uses.getD (topL t.free).toNat 0=1000000:=by simpa [-List.getD_eq_getElem?_getD] using hu
     unfold Tb.canTake; rw [this]; simp
    rw [this]
    exact ⟨zs,zs,zs,rfl,NewT.zero le3⟩
   ·have hu':t.uses.getD (topL t.free).toNat 0≠1000000:=by simpa [-List.getD_eq_getElem?_getD] using hu
    have hbd:=ok.each (topL t.free).toNat (by omega)
    have:t.canTake=true:=by unfold Tb.canTake; simp [-List.getD_eq_getElem?_getD]; omega
    rw [this]
    refine (twin (h.le le3) hs).mono fun v H8 ⟨a,b,hv,le8,ma,mb,sab⟩=>⟨a,b,u3,hv,mb.rdB.inS r2 (by omega),mb.setB r2 (by omega) true fun H12 mb' chb=>?_⟩
    have ma':=ma.chg chb sab
    refine ma'.rdI.ldI r2 r3 ⟨by unfold inI; have:=hbd.1; have:=hbd.2.1; omega,ma'.rdI.inS r2 r3,ma'.setI r2 r3 _ fun H14 ma'' cha=>ma''.rdI.ldI r2 (by simpa using r3) ?_⟩
    have mb'':=mb'.chg cha sab.symm
    have m4':=m4.le le8
    have sa4:Sep u4 a:=Sep.of m4.isOld ma.isNew
    have sb4:Sep u4 b:=Sep.of m4.isOld mb.isNew
    have m4'':=(m4'.chg chb sb4).chg cha sa4
    have le14:Hp.le H3 H14:=Hp.le_chg (Hp.le_chg le8 chb mb.isNew) cha ma.isNew
    refine ⟨a,b,u4,?_,Hp.le_trans le3 le14,ma''.low le3,mb''.low le3,m4'',sab,sa4.symm,sb4.symm⟩
    simp only [if_true]
    rw [getD_set (by omega),if_pos rfl]

theorem slotGive {H:Hp} {u1 u2 u3:Slc} {t:Tb} {i u:Int} (h:RdT H u1 u2 u3 t) (hs:t.small) :
  Go.Eng.Fn Tryz.prog F.slot_Give #[.agg #[u1.v,u2.v,u3.v],.agg #[.int .i64 i,.int .i64 u]] H fun v H'=>∃ a b c:Slc,v=.tuple #[.agg #[a.v,b.v,c.v],.int .i64 (giveM t i u).2]∧NewT H H' a b c (giveM t i u).1:=by
 refine slot_Give_vc ⟨_,_,slotHas h hs,fun hc=>?_,fun hc=>?_⟩
 ·have hk:¬ okT t:=fun ok=>by rw [hasM,if_pos ok] at hc; simp at hc
  rw [hasM,giveM,if_neg hk,if_neg hk]
  exact ⟨zs,zs,zs,rfl,NewT.zero (Hp.le_refl _)⟩
 ·have ok:okT t:=Classical.byContradiction fun hk=>by rw [hasM,if_neg hk] at hc; simp at hc
  rw [hasM,giveM,if_pos ok,if_pos ok]
  have lt:=ok.top
  have lf:=ok.fl
  have l2:=ok.len
  refine ⟨fun h0=>?_,fun h0=>?_⟩
  ·have:t.live i u=false:=by simpa using h0
   rw [this]
   exact ⟨zs,zs,zs,rfl,NewT.zero (Hp.le_refl _)⟩
  ·have hv:t.live i u=true:=by simpa using h0
   rw [hv]
   have hr:0≤i∧i<t.uses.length:=by unfold Tb.live at hv; simp at hv; omega
   refine (twin h hs).mono fun v H4 ⟨a,b,hv,le4,ma,mb,sab⟩=>⟨a,b,u3,hv,(push (h.free.le le4) (by omega)).mono fun v H9 ⟨c,hv,le9,mc⟩=>⟨le9,c,hv,(mb.rdB.le le9).inS hr.1 (by omega),(mb.le le9).setB hr.1 (by omega) false fun H11 mb' chb=>?_⟩⟩
   have sac:=Sep.of ma.isOld mc.isNew
   have sbc:=Sep.of mb.isOld mc.isNew
   exact ⟨a,b,c,rfl,Hp.le_chg (Hp.le_trans le4 le9) chb mb.isNew,(ma.le le9).chg chb sab,mb',(mc.low le4).chg chb sbc.symm,sab,sac,sbc⟩

theorem refTaken {H:Hp} {u1 u2 u3:Slc} {t:Tb} (h:RdT H u1 u2 u3 t) (ok:okT t) (hct:t.canTake=true) :
  Go.Eng.Fn Tryz.prog F.pelotonref06_Taken #[.agg #[u1.v,u2.v,u3.v]] H fun v H'=>∃ a b c:Slc,v=.tuple #[.agg #[a.v,b.v,c.v],.agg #[.int .i64 (topL t.free),.int .i64 (t.uses.getD (topL t.free).toNat 0+1)]]∧NewT H H' a b c t.taken:=by
 have hf:0<t.free.length:=by unfold Tb.canTake at hct; simp at hct; omega
 obtain ⟨r1,r2,r3⟩:=ok.topR hf
 have lt:=ok.top
 have lf:=ok.fl
 have l2:=ok.len
 have hbd:=ok.each (topL t.free).toNat (by omega)
 refine pelotonref06_Taken_vc ((rtwin h ok.small).mono fun v H2 ⟨a,b,c,hv,nt⟩=>⟨a,b,c,hv,?_⟩)
 have lc:=nt.rd.free.len
 have lcc:=nt.rd.free.cap
 have e:((c.n:Int)-1).toNat=t.free.length-1:=by omega
 have hin:inI ((c.n:Int)-1):=by unfold inI; omega
 refine ⟨hin,nt.rd.free.ldI (by omega) (by omega) ⟨hin,⟨by omega,by omega,by omega,by omega⟩,?_⟩⟩
 have e2:t.free.getD (t.free.length-1) 0=topL t.free:=rfl
 rw [e,e2]
 refine nt.rd.uses.ldI r2 r3 ⟨by unfold inI; have:=hbd.1; have:=hbd.2.1; omega,nt.rd.uses.inS r2 r3,nt.uses.setI r2 r3 _ fun H8 ma cha=>?_⟩
 have mb:=nt.used.chg cha nt.s12.symm
 have mc:=nt.free.chg cha nt.s13.symm
 refine ⟨mb.rdB.inS r2 (by omega),mb.setB r2 (by omega) _ fun H9 mb' chb=>?_⟩
 have ma':=ma.chg chb nt.s12
 have mc':=mc.chg chb nt.s23.symm
 refine ma'.rdI.ldI r2 (by simpa using r3) ⟨a,b,⟨c.a,t.free.length-1,c.c⟩,?_,Hp.le_chg (Hp.le_chg nt.le cha ma.isNew) chb mb.isNew,ma',mb',?_,nt.s12,fun p q hp hq=>nt.s13 p q hp hq,fun p q hp hq=>nt.s23 p q hp hq⟩
 ·have e3:Value.slice (subA c.a (Tryz.prog.cellsOf 3) 0 (c.c:Int)) (t.free.length-1-Int.toNat 0) ((c.c:Int).toNat-Int.toNat 0)=(⟨c.a,t.free.length-1,c.c⟩:Slc).v:=by
   have:=slcCut (s:=c) (k:=Tryz.prog.cellsOf 3) (m:=((t.free.length-1:Nat):Int))
   rw [Int.toNat_natCast] at this; exact this
  rw [e3,getD_set (by omega),if_pos rfl]
 ·have:=Mine.cut (k:=1) (f:=fI) (fun _=>rfl) mc' (n:=t.free.length-1) (by omega)
  rw [← List.dropLast_eq_take] at this
  exact this

end Go.Proofs.YtlbdpklikfddlaaGreat
end
section
/- The law SlotDoes,and the chapter's examples. Conditions: none. -/
open Go Go.Eng Go.Proofs
namespace Go.Proofs.YtlbdpklikfddlaaGreat

end Go.Proofs.YtlbdpklikfddlaaGreat
end
section
/- The laws SlotFinds,SlotBack,SlotFull. Conditions: none. -/
open Go Go.Eng Go.Proofs
namespace Go.Proofs.YtlbdpklikfddlaaGreat


end Go.Proofs.YtlbdpklikfddlaaGreat
end
