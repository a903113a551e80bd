/- The engine, parts KA5, KN6, KN7, put together. Conditions: none. -/
import Derived.Test.YtjhbjjdipmpgjaaGreatPS1
import Derived.Test.YtjhbjjdipmpgjaaGreatPM4
import Derived.Test.YtjhbjjdipmpgjaaGreatVgKlist
import Derived.Test.YtjhbjjdipmpgjaaGreatFs
set_option linter.unusedVariables false
section
/- The lists' law's own helpers. Conditions: none. -/
set_option maxRecDepth 100000
open Go Go.Eng Go.Proofs
namespace Go.Proofs.YtjhbjjdipmpgjaaGreat

theorem exB:buildL exF (0,1)=(exLs,0):=Prod.ext rfl (by kernel_rfl)
theorem exU1:exLs.num=[0,1]:=by kernel_rfl

structure TwL (G H:Hp) (w:Lu) (l:Ls):Prop where
 k:RdK G w.k l.ck
 le:Hp.le G H
 o:Mine 1 fI 3 G H w.o l.ord
 n:Mine 1 fI 3 G H w.n l.num
 sep:Sep w.o w.n
theorem TwL.rd {G H:Hp} {w:Lu} {l:Ls} (t:TwL G H w l):RdL H w l:=⟨t.k.le t.le,t.o.rdI,t.n.rdI⟩
theorem TwL.up {G H H':Hp} {w:Lu} {l:Ls} (t:TwL G H w l) (h:Hp.le H H'):TwL G H' w l:=⟨t.k,Hp.le_trans t.le h,t.o.le h,t.n.le h,t.sep⟩
theorem TwL.setO {G H H':Hp} {w:Lu} {l:Ls} {o':List Int} (t:TwL G H w l) (m:Mine 1 fI 3 G H' w.o o') (c:Chg H H' w.o):TwL G H' w ⟨l.ck,o',l.num⟩ :=
 ⟨t.k,Hp.le_chg t.le c t.o.isNew,m,t.n.chg c t.sep.symm,t.sep⟩
theorem TwL.setN {G H H':Hp} {w:Lu} {l:Ls} {n':List Int} (t:TwL G H w l) (m:Mine 1 fI 3 G H' w.n n') (c:Chg H H' w.n):TwL G H' w ⟨l.ck,l.ord,n'⟩ :=
 ⟨t.k,Hp.le_chg t.le c t.n.isNew,t.o.chg c t.sep,m,t.sep⟩
theorem TwL.other {G H H':Hp} {w:Lu} {l:Ls} {v:Slc} (t:TwL G H w l) (c:Chg H H' v) (hn:New G v) (so:Sep w.o v) (sn:Sep w.n v):TwL G H' w l :=
 ⟨t.k,Hp.le_chg t.le c hn,t.o.chg c so,t.n.chg c sn,t.sep⟩
theorem refLTwinT {H:Hp} {u:Lu} {l:Ls} (r:RdL H u l) (fl:fitL l) :
  Go.Eng.Fn Tryz.prog F.pelotonref25_Twin #[lsV u l] H fun v H'=>∃ (w:Lu) (G:Hp),v=lsV w l∧Hp.le H G∧TwL G H' w l:=by
 have f1:=fl.o; have f2:=fl.n
 refine pelotonref25_Twin_vc ((refKTwin r.k fl.k).mono fun v H2 ⟨w,hv,nk⟩=>⟨nk.le,_,_,w.f,_,w.cl,w.u1,w.u2,w.u3,w.u4,w.u5,w.d,hv,fun b H15 hb hH=>?_⟩)
 have l2:=nk.le
 refine (copy_ok (k:=1) (f:=fI) (bytes:=8) (e:=3) (by kernel_rfl) (by decide) (fun _=>rfl) (fun x v hv=>by simp [fI] at hv; subst hv; rfl) hb hH (r.o.le l2) (by omega) (by omega)).mono
  fun v H17 ⟨o,hv,l17,m1⟩=>⟨o,hv,fun b19 H20 hb19 hH20=>?_⟩
 refine (copy_ok (k:=1) (f:=fI) (bytes:=8) (e:=3) (by kernel_rfl) (by decide) (fun _=>rfl) (fun x v hv=>by simp [fI] at hv; subst hv; rfl) hb19 hH20 ((r.n.le l2).le l17) (by omega) (by omega)).mono
  fun v H22 ⟨n,hv,l22,m2⟩=>⟨n,hv,⟨w,o,n⟩,H2,rfl,l2,⟨nk.rd,Hp.le_trans l17 l22,m1.le l22,m2.low l17,Sep.of m1.isOld m2.isNew⟩⟩

def fullX (l:Ls):Ls:=⟨{ l.ck with ct:=⟨999999,l.ck.ct.list⟩ },l.ord,l.num⟩
structure BadL (l:Ls):Prop where
 bad:¬ okLs l
 fit:fitL l
theorem BadL.ofChk {l:Ls} (h:chkLs l=8) (f:fitL l):BadL l:=⟨fun ok=>by rw [chkLs_ok ok] at h; simp at h,f⟩

end Go.Proofs.YtjhbjjdipmpgjaaGreat
end
