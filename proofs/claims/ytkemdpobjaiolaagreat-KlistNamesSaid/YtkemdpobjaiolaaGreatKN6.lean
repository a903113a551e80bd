/- The law KlistNames: its lists, and what is told of them. Conditions: none. -/
import Derived.Test.YtkemdpobjaiolaaGreatKA5
import Derived.Test.YtkemdpobjaiolaaGreatVgKlist
import Derived.Test.YtkemdpobjaiolaaGreatFs
set_option linter.unusedVariables false
set_option maxRecDepth 100000
open Go Go.Eng Go.Proofs
namespace Go.Proofs.YtkemdpobjaiolaaGreat

/-- A copy whose order and numbers are its own: its other parts read in G. -/
structure TwL (G H : Hp) (w : Lu) (l : Ls) : Prop where
  k : RdK G w.k l.ck
  le : Hp.le G H
  o : Mine 1 fI 3 G H w.o l.ord
  n : Mine 1 fI 3 G H w.n l.num
  sep : Sep w.o w.n
theorem TwL.rd {G H : Hp} {w : Lu} {l : Ls} (t : TwL G H w l) : RdL H w l := ⟨t.k.le t.le, t.o.rdI, t.n.rdI⟩
theorem TwL.up {G H H' : Hp} {w : Lu} {l : Ls} (t : TwL G H w l) (h : Hp.le H H') : TwL G H' w l := ⟨t.k, Hp.le_trans t.le h, t.o.le h, t.n.le h, t.sep⟩
theorem TwL.setO {G H H' : Hp} {w : Lu} {l : Ls} {o' : List Int} (t : TwL G H w l) (m : Mine 1 fI 3 G H' w.o o') (c : Chg H H' w.o) : TwL G H' w ⟨l.ck, o', l.num⟩ :=
  ⟨t.k, Hp.le_chg t.le c t.o.isNew, m, t.n.chg c t.sep.symm, t.sep⟩
theorem TwL.setN {G H H' : Hp} {w : Lu} {l : Ls} {n' : List Int} (t : TwL G H w l) (m : Mine 1 fI 3 G H' w.n n') (c : Chg H H' w.n) : TwL G H' w ⟨l.ck, l.ord, n'⟩ :=
  ⟨t.k, Hp.le_chg t.le c t.n.isNew, t.o.chg c t.sep, m, t.sep⟩
theorem TwL.other {G H H' : Hp} {w : Lu} {l : Ls} {v : Slc} (t : TwL G H w l) (c : Chg H H' v) (hn : New G v) (so : Sep w.o v) (sn : Sep w.n v) : TwL G H' w l :=
  ⟨t.k, Hp.le_chg t.le c hn, t.o.chg c so, t.n.chg c sn, t.sep⟩
theorem refLTwinT {H : Hp} {u : Lu} {l : Ls} (r : RdL H u l) (fl : fitL l) :
    Go.Eng.Fn Tryz.prog F.pelotonref25_Twin #[lsV u l] H fun v H' => ∃ (w : Lu) (G : Hp), v = lsV w l ∧ Hp.le H G ∧ TwL G H' w l := by
  have f1 := fl.o; have f2 := fl.n
  refine pelotonref25_Twin_vc ((refKTwin r.k fl.k).mono fun v H2 ⟨w, hv, nk⟩ => ⟨nk.le, _, _, w.f, _, w.cl, w.u1, w.u2, w.u3, w.u4, w.u5, w.d, hv, fun b H15 hb hH => ?_⟩)
  have l2 := nk.le
  refine (copy_ok (k := 1) (f := fI) (bytes := 8) (e := 3) (by kernel_rfl) (by decide) (fun _ => rfl) (fun x v hv => by simp [fI] at hv; subst hv; rfl) hb hH (r.o.le l2) (by omega) (by omega)).mono
    fun v H17 ⟨o, hv, l17, m1⟩ => ⟨o, hv, fun b19 H20 hb19 hH20 => ?_⟩
  refine (copy_ok (k := 1) (f := fI) (bytes := 8) (e := 3) (by kernel_rfl) (by decide) (fun _ => rfl) (fun x v hv => by simp [fI] at hv; subst hv; rfl) hb19 hH20 ((r.n.le l2).le l17) (by omega) (by omega)).mono
    fun v H22 ⟨n, hv, l22, m2⟩ => ⟨n, hv, ⟨w, o, n⟩, H2, rfl, l2, ⟨nk.rd, Hp.le_trans l17 l22, m1.le l22, m2.low l17, Sep.of m1.isOld m2.isNew⟩⟩

theorem nnNew {B H K : Hp} {v : Slc} (h : New B v) (o : Old H v) (nn : ∀ b, B b = none → H b ≠ none → K b = none) : New K v := fun p hp => nn _ (h p hp) (o p hp)
theorem nnNew' {B H K : Hp} {v : Slc} (h : New B v) (o : Old K v) (nn : ∀ b, B b = none → H b ≠ none → K b = none) : New H v := fun p hp => by
  cases hx : H p.block with
  | none => rfl
  | some c => exact absurd (nn _ (h p hp) (by rw [hx]; simp)) (o p hp)

/-- Lists in a row. -/
def fLs (x : Lu × Ls) : List Value := [.int .i64 x.2.ck.now.1, .int .i64 x.2.ck.now.2, x.1.k.f.v, .int .i64 x.2.ck.ct.next, x.1.k.cl.v, x.1.k.u1.v, x.1.k.u2.v, x.1.k.u3.v, x.1.k.u4.v, x.1.k.u5.v, x.1.k.d.v, x.1.o.v, x.1.n.v]
theorem Rd.gLs {H : Hp} {u : Slc} {xs : List (Lu × Ls)} {i : Int} {x : Lu × Ls} (h : Rd 13 fLs H u xs) (h0 : 0 ≤ i) (hx : xs[i.toNat]? = some x) :
    H.at (eaddr u.a 13 i) = some (.int .i64 x.2.ck.now.1) ∧ H.at ((eaddr u.a 13 i).add 1) = some (.int .i64 x.2.ck.now.2) ∧ H.at ((eaddr u.a 13 i).add 2) = some x.1.k.f.v ∧
    H.at ((eaddr u.a 13 i).add 3) = some (.int .i64 x.2.ck.ct.next) ∧ H.at ((eaddr u.a 13 i).add 4) = some x.1.k.cl.v ∧ H.at ((eaddr u.a 13 i).add 5) = some x.1.k.u1.v ∧
    H.at ((eaddr u.a 13 i).add 6) = some x.1.k.u2.v ∧ H.at ((eaddr u.a 13 i).add 7) = some x.1.k.u3.v ∧ H.at ((eaddr u.a 13 i).add 8) = some x.1.k.u4.v ∧
    H.at ((eaddr u.a 13 i).add 9) = some x.1.k.u5.v ∧ H.at ((eaddr u.a 13 i).add 10) = some x.1.k.d.v ∧ H.at ((eaddr u.a 13 i).add 11) = some x.1.o.v ∧ H.at ((eaddr u.a 13 i).add 12) = some x.1.n.v :=
  ⟨h.at0 h0 hx rfl, h.atj h0 hx (j := 1) rfl, h.atj h0 hx (j := 2) rfl, h.atj h0 hx (j := 3) rfl, h.atj h0 hx (j := 4) rfl, h.atj h0 hx (j := 5) rfl, h.atj h0 hx (j := 6) rfl, h.atj h0 hx (j := 7) rfl,
    h.atj h0 hx (j := 8) rfl, h.atj h0 hx (j := 9) rfl, h.atj h0 hx (j := 10) rfl, h.atj h0 hx (j := 11) rfl, h.atj h0 hx (j := 12) rfl⟩

/-- What is wrong with them. -/
def ordX (l : Ls) : Ls := ⟨l.ck, (l.ord.set 0 (l.ord.getD 1 0)).set 1 (l.ord.getD 0 0), l.num⟩
def numX (l : Ls) : Ls := ⟨l.ck, l.ord, (l.num.set 0 (l.num.getD 1 0)).set 1 (l.num.getD 0 0)⟩
def longX (l : Ls) : Ls := ⟨l.ck, l.ord, l.num ++ [0]⟩
def shortX (l : Ls) : Ls := ⟨l.ck, l.ord, l.num.take 1⟩
def lateX (l : Ls) : Ls := ⟨{ l.ck with now := (2, 1) }, l.ord, l.num⟩
def fullX (l : Ls) : Ls := ⟨{ l.ck with ct := ⟨999999, l.ck.ct.list⟩ }, l.ord, l.num⟩
structure BadL (l : Ls) : Prop where
  bad : ¬ okLs l
  fit : fitL l
theorem BadL.ofChk {l : Ls} (h : chkLs l = 8) (f : fitL l) : BadL l := ⟨fun ok => by rw [chkLs_ok ok] at h; simp at h, f⟩
theorem BadL.kO {l : Ls} (b : BadL l) : kOrdM l = ([], 8) := by unfold kOrdM; rw [if_neg b.bad]
theorem BadL.kR {l : Ls} (b : BadL l) (i : Int) : kRankM l i = (0, 8) := by unfold kRankM; rw [if_neg b.bad]
theorem BadL.kN {l : Ls} (b : BadL l) : kNextM l = ((0, 0), 8) := by unfold kNextM; rw [if_neg b.bad]
theorem BadL.kS {l : Ls} (b : BadL l) : stepL l = (.zero, 0, 8) := by unfold stepL; rw [b.kN, if_pos (by simp)]
theorem BadL.kA {l : Ls} (b : BadL l) (t : Int × Int) : advM l t = (.zero, 0, 8) := advM_bad b.bad
def noneK : Ls := (buildL [] (3, 1)).1
def oneK : Ls := (buildL [(4, 0, 0)] (3, 1)).1
theorem nkB : buildL [] (3, 1) = (noneK, 0) := Prod.ext rfl (by kernel_rfl)
theorem okB : buildL [(4, 0, 0)] (3, 1) = (oneK, 0) := Prod.ext rfl (by kernel_rfl)
theorem tkB : (buildL [(2, 0, 0), (1, 0, 0)] (0, 0)).2 = 32 := by kernel_rfl
theorem ekB : (buildL exF (0, 0)).2 = 8 := by kernel_rfl
theorem bad1 : chkLs (ordX exLs) = 8 := by kernel_rfl
theorem bad2 : chkLs (numX exLs) = 8 := by kernel_rfl
theorem bad3 : chkLs (longX exLs) = 8 := by kernel_rfl
theorem bad4 : chkLs (shortX exLs) = 8 := by kernel_rfl
theorem bad5 : chkLs (lateX exLs) = 8 := by kernel_rfl
theorem bad0 : chkLs .zero = 8 := by kernel_rfl
theorem kn1 : (kNextM noneK).2 = 6 := by kernel_rfl
theorem kn2 : (stepL oneK).2.2 = 6 := by kernel_rfl
theorem kn3 : (advM noneK (9, 1)).2 = (0, 0) := by kernel_rfl
theorem kn3t : (advM noneK (9, 1)).1.ck.now = (9, 1) := by kernel_rfl
theorem kn4 : (advM exLs (-1, 1)).2.2 = 44 := by kernel_rfl
theorem kn5 : (advM exLs (2, 2)).2.2 = 8 := by kernel_rfl
theorem kn6 : kRankM exLs 3 = (0, 6) := by kernel_rfl
theorem kn7 : kRankM exLs 5 = (2, 0) := by kernel_rfl
theorem kn8 : advM exLs (0, 1) = (exLs, 0, 0) := by kernel_rfl
theorem kn9 : (advM exLs (6, 1)).2 = (2, 0) := by kernel_rfl
theorem kn9o : (advM exLs (6, 1)).1.ord = [1, 5, 2] := by kernel_rfl
theorem knA : (advM (fullX exLs) (6, 1)).2.2 = 18 := by kernel_rfl
theorem knB : (advM (fullX exLs) (1, 1)).2.2 = 0 := by kernel_rfl
end Go.Proofs.YtkemdpobjaiolaaGreat
