/- The law PickFinds. Conditions: none. -/
import Derived.Test.YtbbdplfkiioppaaGreatPQ1
import Derived.Test.YtbbdplfkiioppaaGreatPN2
import Derived.Test.YtbbdplfkiioppaaGreatVgPick
import Derived.Test.YtbbdplfkiioppaaGreatFs
set_option linter.unusedVariables false
set_option maxRecDepth 100000
open Go Go.Eng Go.Proofs
namespace Go.Proofs.YtbbdplfkiioppaaGreat

def kthM (l:Ls) (k:Int):Int × Int:=if okLs l then (if l.ord.length=0 then (0,42) else if k<0∨k≥l.ord.length then (0,2) else (l.ord.getD k.toNat 0,0)) else (0,8)
def slcM (l:Ls) (a b:Int):List Int × Int:=if okLs l then (if a<0∨b<a∨b>l.ord.length then ([],2) else ((l.ord.take b.toNat).drop a.toNat,0)) else ([],8)
def meanM (x y:Int × Int):(Int × Int) × Int:=if (addM x y).2=0 then mulM (addM x y).1 (1,2) else ((0,0),(addM x y).2)
def medM (l:Ls):(Int × Int) × Int :=
 if okLs l then (if l.ord.length=0 then ((0,0),42) else
  if (plM l (l.ord.getD ((l.ord.length-1) / 2) 0)).2=0 then (if l.ord.length % 2=1 then plM l (l.ord.getD ((l.ord.length-1) / 2) 0) else
   if (plM l (l.ord.getD (l.ord.length / 2) 0)).2=0 then meanM (plM l (l.ord.getD ((l.ord.length-1) / 2) 0)).1 (plM l (l.ord.getD (l.ord.length / 2) 0)).1 else ((0,0),(plM l (l.ord.getD (l.ord.length / 2) 0)).2))
  else ((0,0),(plM l (l.ord.getD ((l.ord.length-1) / 2) 0)).2)) else ((0,0),8)

theorem pickKth {H:Hp} {u:Lu} {l:Ls} {k:Int} (r:RdL H u l) (fl:fitL l):Qf Tryz.prog F.pick_Kth #[lsV u l,.int .i64 k] H (.tuple #[.int .i64 (kthM l k).1,.int .i64 (kthM l k).2]):=by
 have lo:=r.o.len
 refine pick_Kth_vc ⟨_,klistCheck r fl,fun hc=>?_,fun hc=>?_⟩
 ·have hn:¬ okLs l:=fun ok=>by rw [chkLs_ok ok] at hc; simp at hc
  unfold kthM; rw [if_neg hn,chkLs_bad hn]; exact ⟨rfl,Hp.le_refl _⟩
 have ok:okLs l:=chkLs_zero.1 (by simpa using hc)
 unfold kthM; rw [if_pos ok]
 refine ⟨fun h=>?_,fun h=>⟨fun hb=>?_,fun hb=>?_⟩⟩
 ·have h:(u.o.n:Int)=0:=by simpa using h
  rw [if_pos (by omega)]; exact ⟨rfl,Hp.le_refl _⟩
 ·have h:¬ (u.o.n:Int)=0:=by simpa using h
  simp only [Bool.or_eq_true,decide_eq_true_eq] at hb
  rw [if_neg (by omega),if_pos (by omega)]; exact ⟨rfl,Hp.le_refl _⟩
 ·have h:¬ (u.o.n:Int)=0:=by simpa using h
  simp only [Bool.or_eq_false_iff,decide_eq_false_iff_not] at hb
  rw [if_neg (by omega),if_neg (by omega)]
  exact ⟨r.o.inS (by omega) (by omega),_,RdI.get r.o (by omega) (by omega),rfl,Hp.le_refl _⟩
theorem pickSlice {H:Hp} {u:Lu} {l:Ls} {a b:Int} (r:RdL H u l) (fl:fitL l) :
  Go.Eng.Fn Tryz.prog F.pick_Slice #[lsV u l,.int .i64 a,.int .i64 b] H fun v H'=>∃ s:Slc,v=.tuple #[s.v,.int .i64 (slcM l a b).2]∧Hp.le H H'∧Mine 1 fI 3 H H' s (slcM l a b).1:=by
 have lo:=r.o.len
 have hcap:=r.o.cap
 have f1:=fl.o
 refine pick_Slice_vc ⟨_,klistCheck r fl,fun hc=>?_,fun hc=>?_⟩
 ·have hn:¬ okLs l:=fun ok=>by rw [chkLs_ok ok] at hc; simp at hc
  unfold slcM; rw [if_neg hn,chkLs_bad hn]; exact ⟨zs,rfl,Hp.le_refl _,.inl ⟨rfl,rfl⟩⟩
 have ok:okLs l:=chkLs_zero.1 (by simpa using hc)
 unfold slcM; rw [if_pos ok]
 refine ⟨fun hb=>?_,fun hb=>?_⟩
 ·simp only [Bool.or_eq_true,decide_eq_true_eq] at hb
  rw [if_pos (by omega)]; exact ⟨zs,rfl,Hp.le_refl _,.inl ⟨rfl,rfl⟩⟩
 ·simp only [Bool.or_eq_false_iff,decide_eq_false_iff_not] at hb
  rw [if_neg (by omega)]
  have ez:Tryz.prog.cellsOf 3=1:=by kernel_rfl
  rw [ez]
  have rs:=Rd.sub (f:=fI) (k:=1) r.o (l:=a) (hi:=b) (m:=(u.o.c:Int)) (by omega) (by omega) (by omega) (by omega)
  refine ⟨by unfold okSl; omega,?_⟩
  exact (clone_int rs (by rw [List.length_drop,List.length_take]; omega)).mono fun v H3 ⟨s,hv,l3,m⟩=>⟨s,hv,s,rfl,l3,m⟩
theorem addM_fit {a b:Int × Int}:fitR (addM a b).1:=by
 unfold addM
 split
 ·rename_i h
  obtain ⟨g0,g1,x0,x1,y0,y1,s1,s2,h0,h1,z0,z1⟩:=addB h.1 h.2
  exact buildM_fit (Int.ediv_nonneg (absI_nonneg _) (by omega)) (Int.mul_nonneg (by omega) z0)
 ·exact fit00g
theorem fit12:fitR (1,2):=⟨by show inI 1; unfold inI; omega,by show inI 2; unfold inI; omega⟩
theorem plM_ok {l:Ls} (ok:okLs l) {k:Nat} (hk:k<l.ord.length) (h:(plM l (l.ord.getD k 0)).2=0):okR (plM l (l.ord.getD k 0)).1:=by
 rw [ok.place hk] at h ⊢
 obtain ⟨_,_,_,_,o⟩:=overM_eq ok.ck.now.d1 h
 exact o
def midN (l:Ls) (b n:Nat):List (Int × Int):=(List.range n).map fun j=>(plM l (l.ord.getD (b+j) 0)).1
theorem midN_succ (l:Ls) (b n:Nat):midN l b (n+1)=midN l b n++[(plM l (l.ord.getD (b+n) 0)).1]:=by
 unfold midN; rw [List.range_succ,List.map_append]; rfl
theorem midN_len (l:Ls) (b n:Nat):(midN l b n).length=n:=by unfold midN; simp

set_option maxHeartbeats 2000000 in
theorem pickMedian {H:Hp} {u:Lu} {l:Ls} (r:RdL H u l) (fl:fitL l):Qf Tryz.prog F.pick_Median #[lsV u l] H (.tuple #[sI2 (medM l).1.1 (medM l).1.2,.int .i64 (medM l).2]):=by
 have lo:=r.o.len
 have hcap:=r.o.cap
 have f1:=fl.o
 refine pick_Median_vc ⟨_,klistCheck r fl,fun hc=>?_,fun hc=>⟨fun h=>?_,fun h=>?_⟩⟩
 ·have hn:¬ okLs l:=fun ok=>by rw [chkLs_ok ok] at hc; simp at hc
  unfold medM; rw [if_neg hn,chkLs_bad hn]; exact ⟨rfl,Hp.le_refl _⟩
 ·have ok:okLs l:=chkLs_zero.1 (by simpa using hc)
  have h:(u.o.n:Int)=0:=by simpa using h
  unfold medM; rw [if_pos ok,if_pos (by omega)]; exact ⟨rfl,Hp.le_refl _⟩
 have ok:okLs l:=chkLs_zero.1 (by simpa using hc)
 have h:¬ (u.o.n:Int)=0:=by simpa using h
 have e1:((u.o.n:Int)-1).tdiv 2=(((l.ord.length-1) / 2:Nat):Int):=by rw [Int.tdiv_eq_ediv_of_nonneg (by omega)]; omega
 have e2:(u.o.n:Int).tdiv 2=((l.ord.length / 2:Nat):Int):=by rw [Int.tdiv_eq_ediv_of_nonneg (by omega)]; omega
 have ez:Tryz.prog.cellsOf 3=1:=by kernel_rfl
 rw [e1,e2,ez]
 have ln:l.ord.length≠0:=by omega
 have hB:(l.ord.length-1) / 2+1=l.ord.length / 2+l.ord.length % 2:=by omega
 have hM:l.ord.length % 2<2:=Nat.mod_lt _ (by omega)
 have hN:l.ord.length / 2<l.ord.length:=by omega
 have em:medM l=if (plM l (l.ord.getD ((l.ord.length-1) / 2) 0)).2=0 then (if l.ord.length % 2=1 then plM l (l.ord.getD ((l.ord.length-1) / 2) 0) else
   if (plM l (l.ord.getD (l.ord.length / 2) 0)).2=0 then meanM (plM l (l.ord.getD ((l.ord.length-1) / 2) 0)).1 (plM l (l.ord.getD (l.ord.length / 2) 0)).1 else ((0,0),(plM l (l.ord.getD (l.ord.length / 2) 0)).2))
  else ((0,0),(plM l (l.ord.getD ((l.ord.length-1) / 2) 0)).2):=by unfold medM; rw [if_pos ok,if_neg ln]
 rw [em]
 generalize hb:(l.ord.length-1) / 2=B at *
 generalize hm:l.ord.length / 2=M at *
 have rs:=Rd.sub (f:=fI) (k:=1) r.o (l:=(B:Int)) (hi:=(M:Int)+1) (m:=(u.o.c:Int)) (by omega) (by omega) (by omega) (by omega)
 have rl:((l.ord.take ((M:Int)+1).toNat).drop (B:Int).toNat).length=((M:Int)+1).toNat-(B:Int).toNat:=by rw [List.length_drop,List.length_take]; omega
 have rg:∀ j:Nat,j<((M:Int)+1).toNat-(B:Int).toNat→((l.ord.take ((M:Int)+1).toNat).drop (B:Int).toNat).getD j 0=l.ord.getD (B+j) 0:=fun j hj=>by
  rw [List.getD_eq_getElem?_getD,List.getD_eq_getElem?_getD,List.getElem?_drop,List.getElem?_take,if_pos (by omega),Int.toNat_natCast]
 refine ⟨by unfold inI; omega,⟨by unfold nz; omega,by unfold inI; omega⟩,⟨by unfold nz; omega,by unfold inI; omega⟩,by unfold inI; omega,by unfold okSl; omega,
  fun s i H'=>0≤i∧i≤((((M:Int)+1).toNat-(B:Int).toNat:Nat):Int)∧Hp.le H H'∧(∀ j:Nat,j<i.toNat→(plM l (l.ord.getD (B+j) 0)).2=0)∧Mine 2 fH T.api_Ratio H H' s (midN l B i.toNat),fun _ i _=>(((((M:Int)+1).toNat-(B:Int).toNat:Nat):Int)-i).toNat,⟨Int.le_refl _,by omega,Hp.le_refl _,fun j hj=>by simp at hj,.inl ⟨rfl,rfl⟩⟩,fun s i H' ⟨i0,i1,le,hz,m⟩=>⟨fun hn=>?_,fun hn=>?_⟩⟩
 ·have hi:i<((((M:Int)+1).toNat-(B:Int).toNat:Nat):Int):=by simpa using hn
  have rsl:=rs.le le
  have gv:=RdI.get rsl i0 (by rw [rl]; exact hi)
  rw [rg i.toNat (by omega)] at gv
  have hp:=ok.pos (i:=((B+i.toNat:Nat):Int)) (by omega) (by omega)
  rw [Int.toNat_natCast] at hp
  have es:(i+1).toNat=i.toNat+1:=by omega
  refine ⟨rsl.inS i0 (by rw [rl]; exact hi),_,gv,_,_,_,_,fieldFind (r.k.f.le le) ok.ck.f hp,_,_,_,courseAt (p:=gP l.ck.f (posF l.ck.f (l.ord.getD (B+i.toNat) 0))) fl.k.now,fun he=>?_,fun he b15 H16 hb15 hH=>?_⟩
  ·have he:(plM l (l.ord.getD (B+i.toNat) 0)).2≠0:=by simpa [plM] using he
   by_cases hi0:i.toNat=0
   ·rw [hi0,Nat.add_zero] at he ⊢
    rw [if_neg he]; exact ⟨rfl,le⟩
   ·have z0:=hz 0 (by omega)
    rw [Nat.add_zero] at z0
    have hBM:B+i.toNat=M:=by omega
    rw [hBM] at he ⊢
    rw [if_pos z0,if_neg (by omega),if_neg he]; exact ⟨rfl,le⟩
  ·have he:(plM l (l.ord.getD (B+i.toNat) 0)).2=0:=by simpa [plM] using he
   refine (append1 (k:=2) (f:=fH) (bytes:=16) (x:=(plM l (l.ord.getD (B+i.toNat) 0)).1) (e:=T.api_Ratio) (by kernel_rfl) (by decide) (fun _=>rfl) fH_one le m hb15 hH rfl (by rw [midN_len]; omega) (by omega)).mono fun v H18 ⟨d,hv,l18,m18,_,_⟩=>⟨d,hv,by unfold inI; omega,⟨by omega,by omega,l18,fun j hj=>?_,?_⟩,?_⟩
   ·by_cases e:j=i.toNat
    ·subst e; exact he
    ·exact hz j (by omega)
   ·rw [es,midN_succ]; exact m18
   ·show (((((M:Int)+1).toNat-(B:Int).toNat:Nat):Int)-(i+1)).toNat<(((((M:Int)+1).toNat-(B:Int).toNat:Nat):Int)-i).toNat; omega
 ·have hi:i=((((M:Int)+1).toNat-(B:Int).toNat:Nat):Int):=by
   have:¬ i<((((M:Int)+1).toNat-(B:Int).toNat:Nat):Int):=by simpa using hn
   omega
  have rm:=m.rdH
  have lm:=rm.len
  rw [midN_len] at lm
  have z0:=hz 0 (by omega)
  rw [Nat.add_zero] at z0
  rw [if_pos z0]
  have g0:=rm.gH (i:=0) (by omega) (by rw [midN_len]; omega)
  have x0:(midN l B i.toNat).getD (0:Int).toNat (0,0)=(plM l (l.ord.getD B 0)).1:=by
   have:0<i.toNat:=by omega
   unfold midN
   show ((List.range i.toNat).map _).getD 0 (0,0)=_
   simp [List.getD,this]
  rw [x0] at g0
  refine ⟨fun h1=>?_,fun h1=>?_⟩
  ·have h1:(s.n:Int)=1:=by simpa using h1
   rw [if_pos (by omega)]
   refine ⟨rm.inS (by omega) (by rw [midN_len]; omega),_,_,g0,?_,le⟩
   rw [z0]
  ·have h1:¬ (s.n:Int)=1:=by simpa using h1
   have i2:i.toNat=2:=by omega
   have z1:=hz 1 (by omega)
   have hBM:B+1=M:=by omega
   rw [hBM] at z1
   rw [if_neg (by omega),if_pos z1]
   have g1:=rm.gH (i:=1) (by omega) (by rw [midN_len]; omega)
   have x1:(midN l B i.toNat).getD (1:Int).toNat (0,0)=(plM l (l.ord.getD M 0)).1:=by
    have:1<i.toNat:=by omega
    unfold midN
    show ((List.range i.toNat).map _).getD 1 (0,0)=_
    simp [List.getD,this,hBM]
   rw [x1] at g1
   have oa:=plM_ok ok (k:=B) (by omega) z0
   have ob:=plM_ok ok (k:=M) (by omega) z1
   have ad:=ratioAdd (H:=H') oa.fit ob.fit
   have mu:=ratioMul (H:=H') (a:=(addM (plM l (l.ord.getD B 0)).1 (plM l (l.ord.getD M 0)).1).1) (b:=(1,2)) addM_fit fit12
   unfold meanM
   refine ⟨rm.inS (by omega) (by rw [midN_len]; omega),_,_,g0,rm.inS (by omega) (by rw [midN_len]; omega),_,_,g1,_,_,_,ad,fun hb=>?_,fun hb=>?_⟩
   ·rw [if_neg (by simpa using hb)]; exact ⟨rfl,le⟩
   ·rw [if_pos (by simpa using hb)]; exact ⟨_,_,_,mu,rfl,le⟩

end Go.Proofs.YtbbdplfkiioppaaGreat
