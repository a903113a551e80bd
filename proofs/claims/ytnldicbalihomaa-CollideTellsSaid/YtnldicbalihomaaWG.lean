/- A log is played, by the program. Conditions: none. -/
import Derived.Test.YtnldicbalihomaaWF
import Derived.Test.YtnldicbalihomaaVgCollide
import Derived.Test.YtnldicbalihomaaVgStd
import Derived.Test.YtnldicbalihomaaFs
set_option linter.unusedVariables false
set_option maxRecDepth 100000
open Go Go.Eng Go.Proofs
namespace Go.Proofs.Ytnldicbalihomaa

/-! ### Where the IDs stand -/
def posN (l:List Int) (id:Int):Option Int:=if id∈l then some (posG l id:Int) else none
def atF (l:List Int) (id:Int):Option Value:=(posN l id).map kI
theorem posN_in {l:List Int} {id:Int} (h:id∈l):posN l id=some (posG l id:Int):=if_pos h
theorem posN_out {l:List Int} {id:Int} (h:id∉l):posN l id=none:=if_neg h
theorem atF_get (l:List Int) (id:Int):(atF l id).getD (kI 0)=kI ((posN l id).getD 0):=by
 unfold atF; cases posN l id <;> rfl
theorem atF_some (l:List Int) (id:Int):(atF l id).isSome=decide (id∈l):=by
 unfold atF posN
 by_cases h:id∈l <;> simp [h]
theorem atF_swap {l:List Int} (hd:l.Nodup) {a b:Int} (ha:a∈l) (hb:b∈l) (hne:a≠b) (x:Int):atF (swapI l (posG l a) (posG l b)) x=updM (updM (atF l) a (kI (posG l b:Int))) b (kI (posG l a:Int)) x:=by
 have hp:=posG_lt.2 ha
 have hq:=posG_lt.2 hb
 unfold updM
 by_cases h1:x=b
 ·subst h1
  rw [if_pos rfl]
  unfold atF
  rw [posN_in ((swapI_mem hp hq).2 hb),posG_swap hd ha hb,if_neg fun e=>hne e.symm,if_pos rfl]; rfl
 ·rw [if_neg h1]
  by_cases h2:x=a
  ·subst h2
   rw [if_pos rfl]
   unfold atF
   rw [posN_in ((swapI_mem hp hq).2 ha),posG_swap hd ha hb,if_pos rfl]; rfl
  ·rw [if_neg h2]
   unfold atF
   by_cases hm:x∈l
   ·rw [posN_in hm,posN_in ((swapI_mem hp hq).2 hm),posG_swap hd ha hb,if_neg h2,if_neg h1]
   ·rw [posN_out hm,posN_out fun h=>hm ((swapI_mem hp hq).1 h)]
theorem posG_snoc {l:List Int} {x y:Int}:posG (l++[x]) y=if y∈l then posG l y else if y=x then l.length else l.length+1:=by
 unfold posG
 rw [List.idxOf_append]
 split
 ·rfl
 ·rw [List.idxOf_cons]
  by_cases h:x=y
  ·subst h; simp
  ·have:(x==y)=false:=by simpa using h
   rw [this,if_neg fun e=>h e.symm]
   simp [List.idxOf]; omega
theorem atF_snoc {l:List Int} {x:Int} (h:x∉l) (y:Int):atF (l++[x]) y=updM (atF l) x (kI (l.length:Int)) y:=by
 unfold updM atF posN
 rw [posG_snoc]
 by_cases hy:y=x
 ·subst hy; simp [h]
 ·rw [if_neg hy]
  by_cases hm:y∈l
  ·rw [if_pos hm,if_pos hm,if_pos (List.mem_append_left _ hm),if_neg hy]
  ·simp [hm,hy]
theorem take_snocI {o:List Int} {n:Nat} (h:n<o.length):o.take (n+1)=o.take n++[o.getD n 0]:=by
 rw [List.take_add_one,List.getD_eq_getElem?_getD,List.getElem?_eq_getElem h]; rfl
theorem ordG_snoc {l:List Int} {x:Int} (h:ordG l) (hx:x∉l) (h0:0≤x) (h1:x≤65535):ordG (l++[x]):=by
 refine ⟨fun y hy=>?_,?_⟩
 ·rcases List.mem_append.1 hy with hy | hy
  ·exact h.1 y hy
  ·rw [List.mem_singleton.1 hy]; exact ⟨h0,h1⟩
 ·rw [List.nodup_append]
  refine ⟨h.2,by simp,fun a ha c hc e=>?_⟩
  rw [List.mem_singleton] at hc
  subst hc; subst e
  exact hx ha
theorem ordG_at {o:List Int} (h:ordG o) {n:Nat} (hn:n<o.length):(0≤o.getD n 0∧o.getD n 0≤65535)∧o.getD n 0∉o.take n:=by
 have hm:o.getD n 0∈o:=by rw [List.getD_eq_getElem?_getD,List.getElem?_eq_getElem hn]; exact List.getElem_mem _
 refine ⟨h.1 _ hm,fun hc=>?_⟩
 obtain ⟨j,hj⟩:=List.mem_iff_getElem?.1 hc
 rw [List.getElem?_take] at hj
 split at hj
 ·rename_i hjn
  have e:o.getD j 0=o.getD n 0:=by rw [List.getD_eq_getElem?_getD,hj]; rfl
  have p1:=idxOf_get h.2 (i:=j) (by omega)
  have p2:=idxOf_get h.2 hn
  rw [e,p2] at p1
  omega
 ·cases hj

/-! ### The first that is ready -/
def fiI (p:Mg→Bool) (m:List Mg):Int:=match m.findIdx? p with
 | some i=>(i:Int)
 | none=>-1
theorem fiI_hit {p:Mg→Bool} {m:List Mg} {i:Nat} (hi:i<m.length) (hp:p (m.getD i zMg)=true) (hj:∀ j,j<i→p (m.getD j zMg)=false):fiI p m=i∧m.findIdx? p=some i:=by
 have:m.findIdx? p=some i:=by
  rw [List.findIdx?_eq_some_iff_getElem]
  refine ⟨hi,?_,fun j hji=>?_⟩
  ·rw [List.getD_eq_getElem?_getD,List.getElem?_eq_getElem hi] at hp; exact hp
  ·have:=hj j hji
   rw [List.getD_eq_getElem?_getD,List.getElem?_eq_getElem (by omega)] at this
   simpa using this
 exact ⟨by unfold fiI; rw [this],this⟩
theorem fiI_miss {p:Mg→Bool} {m:List Mg} (hj:∀ j,j<m.length→p (m.getD j zMg)=false):fiI p m = -1∧m.findIdx? p=none:=by
 have:m.findIdx? p=none:=by
  rw [List.findIdx?_eq_none_iff]
  intro x hx
  obtain ⟨j,hl,e⟩:=List.mem_iff_getElem.1 hx
  have:=hj j hl
  rwa [List.getD_eq_getElem?_getD,List.getElem?_eq_getElem hl,Option.getD_some,e] at this
 exact ⟨by unfold fiI; rw [this],this⟩
theorem idxMeeting {H:Hp} {u:Slc} {m:List Mg} {fv:Value} {p:Mg→Bool} (r:Rd 4 fG H u m) (hf:∀ x∈m,QfV Try.prog fv [mgV x] H (.bool (p x))) (hl:m.length≤1000000) :
  Qf Try.prog F.slices_IndexFunc_api_Meeting_api_Meeting #[u.v,fv] H (.int .i64 (fiI p m)):=by
 have wn:(u.n:Int)=m.length:=by have:=r.len; omega
 refine slices_IndexFunc_api_Meeting_api_Meeting_vc ?_
 rw [wn]
 refine upto (N:=(m.length:Int)) (J:=fun n=>∀ j,j<n.toNat→p (m.getD j zMg)=false) (by omega) (fun j hj=>by simp at hj) fun n h0 h1 hJ=>⟨fun hn=>?_,fun hn=>⟨?_,Hp.le_refl _⟩⟩
 ·have hn:n<m.length:=by simpa using hn
  have hin:n.toNat<m.length:=by omega
  refine ⟨r.inS h0 hn,_,_,_,_,RdG.get r h0 hn,_,hf _ (getG_mem hin),fun hc=>⟨?_,Hp.le_refl _⟩,fun hc=>?_⟩
  ·rw [(fiI_hit hin hc hJ).1,Int.toNat_of_nonneg h0]
  ·refine upto.nx h0 hn (by omega) fun j hj=>?_
   by_cases hjn:j<n.toNat
   ·exact hJ j hjn
   ·rw [show j=n.toNat by omega]; exact hc
 ·have hn:¬ n<m.length:=by simpa using hn
  rw [(fiI_miss fun j hj=>hJ j (by omega)).1]
theorem cloneG {H:Hp} {s:Slc} {xs:List Mg} (hs:Rd 4 fG H s xs) (hl:xs.length≤1000000000) :
  Go.Eng.Fn Try.prog F.slices_Clone_api_Meeting_api_Meeting #[s.v] H fun v H'=>∃ u:Slc,v=u.v∧Hp.le H H'∧Mine 4 fG T.api_Meeting H H' u xs :=
 slices_Clone_api_Meeting_api_Meeting_vc (clone_vc (k:=4) (f:=fG) (bytes:=32) (by kernel_rfl) (by decide) (fun _=>rfl) hs (by omega) (by omega))
theorem deleteG {H0 H:Hp} {s:Slc} {xs:List Mg} {i:Int} (hl:Hp.le H0 H) (h:Mine 4 fG T.api_Meeting H0 H s xs) (h0:0≤i) (h1:i<xs.length) :
  Go.Eng.Fn Try.prog F.slices_Delete_api_Meeting_api_Meeting #[s.v,.int .i64 i,.int .i64 (i+1)] H fun v H'=>∃ u:Slc,v=u.v∧Hp.le H0 H'∧Mine 4 fG T.api_Meeting H0 H' u (xs.eraseIdx i.toNat)∧Chg H H' s∧Ext H s u :=
 slices_Delete_api_Meeting_api_Meeting_vc (delete_mine (k:=4) (f:=fG) (bytes:=32) (j:=i+1) (post:=fun v H'=>∃ u:Slc,v=u.v∧Hp.le H0 H'∧Mine 4 fG T.api_Meeting H0 H' u (xs.eraseIdx i.toNat)∧Chg H H' s∧Ext H s u) (by kernel_rfl) (by kernel_rfl)
  (by decide) (fun _=>rfl) fG_one (by kernel_rfl) hl h h0 (by omega) (by omega) fun u H' l m c e=>⟨u,rfl,l,by rw [List.eraseIdx_eq_take_drop_succ]; rw [show (i+1).toNat=i.toNat+1 by omega] at m; exact m,c,e⟩)
theorem colPlay1 {H:Hp} {b4 b2 b31:Nat} {l:List Int} {t:Int × Int} {es:Array MapEntry} {n:Nat} {x:Mg} (hv:Var H b4 (.map (some b2)) T.map_int_int) (hM:MapF kI H b2 (atF l) es n) (ht:Cel H b31 #[.int .i64 t.1,.int .i64 t.2] T.api_Ratio) (hl:l.length≤64) :
  Qf Try.prog F.collide_Play_1 #[mgV x,.pointer (some ⟨b4,0,none⟩),.pointer (some ⟨b31,0,none⟩)] H (.bool (rdyG l t x)):=by
 have q1:=keyI.lookOkF (t:=T.map_int_int) (e:=T.int) (z:=kI 0) (by kernel_rfl) (by kernel_rfl) (x:=x.2.1) hM
 have q2:=keyI.lookOkF (t:=T.map_int_int) (e:=T.int) (z:=kI 0) (by kernel_rfl) (by kernel_rfl) (x:=x.2.2) hM
 rw [atF_get,atF_some] at q1 q2
 have b1:0≤(posN l x.2.1).getD 0∧(posN l x.2.1).getD 0≤64:=by
  by_cases h:x.2.1∈l
  ·rw [posN_in h]; have:=posG_lt.2 h; show 0≤(posG l x.2.1:Int)∧(posG l x.2.1:Int)≤64; omega
  ·rw [posN_out h]; decide
 have b2:0≤(posN l x.2.2).getD 0∧(posN l x.2.2).getD 0≤64:=by
  by_cases h:x.2.2∈l
  ·rw [posN_in h]; have:=posG_lt.2 h; show 0≤(posG l x.2.2:Int)∧(posG l x.2.2:Int)≤64; omega
  ·rw [posN_out h]; decide
 have c0:H.at ((Addr.mk b31 0 none).add 0)=some (.int .i64 t.1):=by rw [add_zero',Cel.at ht]; rfl
 have c1:H.at ((Addr.mk b31 0 none).add 1)=some (.int .i64 t.2):=by
  have:(Addr.mk b31 0 none).add 1=Addr.mk b31 1 none:=rfl
  rw [this,Cel.at ht]; rfl
 refine collide_Play_1_vc ⟨_,hv.at,_,_,q1,_,hv.at,_,_,q2,_,_,⟨c0,c1⟩,fun _=>?_,?_,Hp.le_refl _⟩
 ·unfold inI; split <;> split <;> omega
 ·congr 1
  rw [Bool.eq_iff_iff]
  unfold rdyG adjG
  simp only [Bool.and_eq_true,Bool.or_eq_true,beq_iff_eq,decide_eq_true_eq]
  constructor
  ·rintro ⟨⟨⟨⟨h1,h2⟩,h3⟩,h4⟩,h5⟩
   rw [posN_in h3,posN_in h4] at h5
   refine ⟨Prod.ext h1 h2,⟨h3,h4⟩,?_⟩
   simp only [Option.getD_some] at h5
   split at h5 <;> split at h5 <;> omega
  ·rintro ⟨h1,⟨h3,h4⟩,h5⟩
   rw [posN_in h3,posN_in h4]
   refine ⟨⟨⟨⟨by rw [h1],by rw [h1]⟩,h3⟩,h4⟩,?_⟩
   simp only [Option.getD_some]
   split <;> split <;> omega
end Go.Proofs.Ytnldicbalihomaa
