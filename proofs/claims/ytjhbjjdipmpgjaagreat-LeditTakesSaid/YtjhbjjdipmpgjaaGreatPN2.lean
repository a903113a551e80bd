/- The engine, parts N5, N6, KM, N7, put together. Conditions: none. -/
import Derived.Test.YtjhbjjdipmpgjaaGreatPN1
import Derived.Test.YtjhbjjdipmpgjaaGreatVgStd
import Derived.Test.YtjhbjjdipmpgjaaGreatFs
import Derived.Test.YtjhbjjdipmpgjaaGreatPL4
import Derived.Test.YtjhbjjdipmpgjaaGreatVgKlist
set_option linter.unusedVariables false
section
/- The law SpanFinds. Conditions: none. -/
set_option maxRecDepth 100000
open Go Go.Eng Go.Proofs
namespace Go.Proofs.YtjhbjjdipmpgjaaGreat

def yiq (o:List Int) (id:Int):Int:=idx (fun y=>id==y) o
theorem yiu {o:List Int} {id:Int} (h:0≤yiq o id):yiq o id<o.length∧o[(yiq o id).toNat]?=some id:=by
 obtain ⟨x,h1,h2,_,h4⟩:=zzf h
 refine ⟨h4,?_⟩
 have:id=x:=by simpa using h2
 rw [this] at h1 ⊢; exact h1
theorem yir {o:List Int} (hd:o.Pairwise (·≠·)) {i:Nat} {x:Int} (hi:o[i]?=some x):yiq o x=i:=by
 refine zze hi (by simp) fun y hy=>?_
 obtain ⟨j,hj,e⟩:=List.mem_take_iff_getElem.1 hy
 obtain ⟨a1,a2⟩:=List.getElem?_eq_some_iff.1 hi
 have:=List.pairwise_iff_getElem.1 hd j i (by omega) a1 (by omega)
 rw [e,a2] at this
 simpa using fun h=>this h.symm
theorem zzv {H:Hp} {s:Slc} {xs:List Int} {id:Int} (h:RdI H s xs) (hl:xs.length≤1000000000):Qf Tryz.prog F.f105 #[s.v,.int .i64 id] H (.int .i64 (yiq xs id)):=by
  have ls:=h.len
  refine vc105 (upto (N:=xs.length) (J:=fun n=>∀ y∈xs.take n.toNat,(id==y)=false) (by omega) (by simp) fun n h0 h1 hJ=>⟨fun hn=>?_,fun hn=>⟨?_,Hp.le_refl _⟩⟩)
  · have hn:n<xs.length:=by have:n<s.n:=by simpa using hn
                            omega
    have hg:=zx9 h0 hn
    refine ⟨h.inS h0 hn,_,RdI.get h h0 hn,?_⟩
    generalize xs.getD n.toNat 0=x at hg ⊢
    refine ⟨fun hb=>⟨?_,Hp.le_refl _⟩,fun hb=>upto.nx h0 hn (by omega) ?_⟩
    · unfold yiq; rw [zze hg hb hJ,Int.toNat_of_nonneg h0]
    · rw [show (n+1).toNat=n.toNat+1 by omega,yx0 hg]
      intro y hy
      rcases List.mem_append.1 hy with hy | hy
      · exact hJ y hy
      · simp only [List.mem_singleton] at hy; subst hy; exact hb
  · have:n=xs.length:=by have:¬ n<s.n:=by simpa using hn
                         omega
    subst this
    rw [Int.toNat_natCast,List.take_length] at hJ
    unfold yiq
    rw [zzg hJ]

theorem ybg.ne {l:Ls} (ok:ybg l):l.ord.Pairwise (·≠·):=by
 have hi:=(yub (yb9 ok.ck.f) l.ck.now).ids (yb9 ok.ck.f)
 have ho:l.ord=(yu7 l.ck.f l.ck.now).map (·.1):=ok.ord
 rw [ho]
 exact List.pairwise_map.2 hi


def y19 (l:Ls) (id:Int):Int × Int:=if ybg l then (if yiq l.ord id<0 then (0,6) else (yiq l.ord id,0)) else (0,8)
theorem y18 {H:Hp} {u:Lu} {l:Ls} {id:Int} (r:RdL H u l) (fl:zui l) :
  Qf Tryz.prog F.f53 #[lsV u l,.int .i64 id] H (.tuple #[.int .i64 (y19 l id).1,.int .i64 (y19 l id).2]):=by
 have f1:=fl.o
 refine vc53 ⟨_,y1j r fl,fun hc=>?_,fun hc=>⟨_,zzv (id:=id) r.o (by omega),fun hb=>?_,fun hb=>?_⟩⟩
 ·have hn:¬ ybg l:=fun ok=>by rw [zjh ok] at hc; simp at hc
  unfold y19; rw [if_neg hn,zjg hn]; exact ⟨rfl,Hp.le_refl _⟩
 ·have ok:ybg l:=zji.1 (by simpa using hc)
  unfold y19; rw [if_pos ok,if_pos (by simpa using hb)]; exact ⟨rfl,Hp.le_refl _⟩
 ·have ok:ybg l:=zji.1 (by simpa using hc)
  unfold y19; rw [if_pos ok,if_neg (by simpa using hb)]; exact ⟨rfl,Hp.le_refl _⟩
theorem yn4 {H:Hp} {u:Lu} {l:Ls} {id:Int} (r:RdL H u l) (fl:zui l) :
    Qf Tryz.prog F.f76 #[lsV u l,.int .i64 id] H (.tuple #[.int .i64 (y19 l id).1,.int .i64 (y19 l id).2]):=by
  have f1:=fl.o
  have lo:=r.o.len
  refine vc76 ⟨_,yn9 r fl,fun hc=>⟨_,yn9 r fl,?_⟩,fun hc=>?_⟩
  · have hn:¬ ybg l:=fun ok=>by rw [zjh ok] at hc; simp at hc
    unfold y19; rw [if_neg hn,zjg hn]; exact ⟨rfl,Hp.le_refl _⟩
  have ok:ybg l:=zji.1 (by simpa using hc)
  unfold y19; rw [if_pos ok]
  refine upto (N:=l.ord.length) (J:=fun n=>∀ y∈l.ord.take n.toNat,(id==y)=false) (by omega) (by simp) fun n h0 h1 hJ=>⟨fun hn=>?_,fun hn=>?_⟩
  · have hn:n<l.ord.length:=by have:n<u.o.n:=by simpa using hn
                               omega
    have hg:=zx9 h0 hn
    refine ⟨r.o.inS h0 hn,_,RdI.get r.o h0 hn,?_⟩
    generalize l.ord.getD n.toNat 0=x at hg ⊢
    refine ⟨fun hb=>?_,fun hb=>upto.nx h0 hn (by omega) ?_⟩
    · have hb:x=id:=by simpa using hb
      subst hb
      have e:yiq l.ord x=n:=by unfold yiq; rw [zze hg (by simp) hJ,Int.toNat_of_nonneg h0]
      rw [e,if_neg (by omega)]; exact ⟨rfl,Hp.le_refl _⟩
    · have hb:x≠id:=by simpa using hb
      rw [show (n+1).toNat=n.toNat+1 by omega,yx0 hg]
      intro y hy
      rcases List.mem_append.1 hy with hy | hy
      · exact hJ y hy
      · simp only [List.mem_singleton] at hy; subst hy
        rw [beq_eq_false_iff_ne]; exact fun h=>hb h.symm
  · have:n=l.ord.length:=by have:¬ n<u.o.n:=by simpa using hn
                            omega
    subst this
    rw [Int.toNat_natCast,List.take_length] at hJ
    have e:yiq l.ord id = -1:=by unfold yiq; rw [zzg hJ]
    rw [e,if_pos (by omega)]; exact ⟨rfl,Hp.le_refl _⟩
theorem zut:zui .zero:=zuk (l:=.zero) zu2 (by kernel_rfl) (fun y hy=>by cases hy)

end Go.Proofs.YtjhbjjdipmpgjaaGreat
end
