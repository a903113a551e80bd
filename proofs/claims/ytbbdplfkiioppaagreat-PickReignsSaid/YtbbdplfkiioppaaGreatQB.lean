/- The law PickFinds. Conditions: none. -/
import Derived.Test.YtbbdplfkiioppaaGreatPQ1
import Derived.Test.YtbbdplfkiioppaaGreatPN2
import Derived.Test.YtbbdplfkiioppaaGreatVgPick
import Derived.Test.YtbbdplfkiioppaaGreatFs
set_option linter.unusedVariables false
set_option maxRecDepth 100000
open Go Go.Eng Go.Proofs
namespace Go.Proofs.YtbbdplfkiioppaaGreat

def kthM (l:Ls) (k:Int):Int × Int:=if okLs l then (if l.ord.length=0 then (0,42) else if k<0∨k≥l.ord.length then (0,2) else (l.ord.getD k.toNat 0,0)) else (0,8)
theorem pickKth {H:Hp} {u:Lu} {l:Ls} {k:Int} (r:RdL H u l) (fl:fitL l):Qf Tryz.prog F.pick_Kth #[lsV u l,.int .i64 k] H (.tuple #[.int .i64 (kthM l k).1,.int .i64 (kthM l k).2]):=by
 have lo:=r.o.len
 refine pick_Kth_vc ⟨_,klistCheck r fl,fun hc=>?_,fun hc=>?_⟩
 ·have hn:¬ okLs l:=fun ok=>by rw [chkLs_ok ok] at hc; simp at hc
  unfold kthM; rw [if_neg hn,chkLs_bad hn]; exact ⟨rfl,Hp.le_refl _⟩
 have ok:okLs l:=chkLs_zero.1 (by simpa using hc)
 unfold kthM; rw [if_pos ok]
 refine ⟨fun h=>?_,fun h=>⟨fun hb=>?_,fun hb=>?_⟩⟩
 ·have h:(u.o.n:Int)=0:=by simpa using h
  rw [if_pos (by omega)]; exact ⟨rfl,Hp.le_refl _⟩
 ·have h:¬ (u.o.n:Int)=0:=by simpa using h
  simp only [Bool.or_eq_true,decide_eq_true_eq] at hb
  rw [if_neg (by omega),if_pos (by omega)]; exact ⟨rfl,Hp.le_refl _⟩
 ·have h:¬ (u.o.n:Int)=0:=by simpa using h
  simp only [Bool.or_eq_false_iff,decide_eq_false_iff_not] at hb
  rw [if_neg (by omega),if_neg (by omega)]
  exact ⟨r.o.inS (by omega) (by omega),_,RdI.get r.o (by omega) (by omega),rfl,Hp.le_refl _⟩
theorem refKth {H:Hp} {u:Lu} {l:Ls} {k:Int} (r:RdL H u l) (fl:fitL l):Qf Tryz.prog F.pelotonref30_Kth #[lsV u l,.int .i64 k] H (.tuple #[.int .i64 (kthM l k).1,.int .i64 (kthM l k).2]):=by
 have lo:=r.o.len
 refine pelotonref30_Kth_vc ⟨_,refLCheck r fl,fun hc=>⟨_,refLCheck r fl,?_⟩,fun hc=>?_⟩
 ·have hn:¬ okLs l:=fun ok=>by rw [chkLs_ok ok] at hc; simp at hc
  unfold kthM; rw [if_neg hn,chkLs_bad hn]; exact ⟨rfl,Hp.le_refl _⟩
 have ok:okLs l:=chkLs_zero.1 (by simpa using hc)
 unfold kthM; rw [if_pos ok]
 refine ⟨fun h=>?_,fun h=>⟨fun hb=>?_,fun hb=>?_⟩⟩
 ·have h:(u.o.n:Int)=0:=by simpa using h
  rw [if_pos (by omega)]; exact ⟨rfl,Hp.le_refl _⟩
 ·have h:¬ (u.o.n:Int)=0:=by simpa using h
  simp only [Bool.or_eq_true,decide_eq_true_eq] at hb
  rw [if_neg (by omega),if_pos (by omega)]; exact ⟨rfl,Hp.le_refl _⟩
 ·have h:¬ (u.o.n:Int)=0:=by simpa using h
  simp only [Bool.or_eq_false_iff,decide_eq_false_iff_not] at hb
  rw [if_neg (by omega),if_neg (by omega)]
  exact ⟨r.o.inS (by omega) (by omega),_,RdI.get r.o (by omega) (by omega),rfl,Hp.le_refl _⟩

end Go.Proofs.YtbbdplfkiioppaaGreat
