/- The engine, parts M6, LN, LO, put together. Conditions: none. -/
import Derived.Test.YtkemdpobjaiolaaGreatPM2
import Derived.Test.YtkemdpobjaiolaaGreatPL4
import Derived.Test.YtkemdpobjaiolaaGreatVgKlist
import Derived.Test.YtkemdpobjaiolaaGreatFs
import Derived.Test.YtkemdpobjaiolaaGreatVgClock
set_option linter.unusedVariables false
section
/- Building a list, by the reference. Conditions: none. -/
set_option maxRecDepth 100000
open Go Go.Eng Go.Proofs
namespace Go.Proofs.YtkemdpobjaiolaaGreat

theorem refLTwinN {H : Hp} {u : Lu} {l : Ls} (r : RdL H u l) (fl : fitL l) :
    Go.Eng.Fn Tryz.prog F.pelotonref25_Twin #[lsV u l] H fun v H' => ∃ w : Lu, v = lsV w l ∧ Hp.le H H' ∧ RdL H' w l ∧ Mine 1 fI 3 H H' w.n l.num ∧ Sep w.o w.n := by
  have f1 := fl.o; have f2 := fl.n
  refine pelotonref25_Twin_vc ((refKTwin r.k fl.k).mono fun v H2 ⟨w, hv, nk⟩ => ⟨nk.le, _, _, w.f, _, w.cl, w.u1, w.u2, w.u3, w.u4, w.u5, w.d, hv, fun b H15 hb hH => ?_⟩)
  have l2 := nk.le
  refine (copy_ok (k := 1) (f := fI) (bytes := 8) (e := 3) (by kernel_rfl) (by decide) (fun _ => rfl) (fun x v hv => by simp [fI] at hv; subst hv; rfl) hb hH (r.o.le l2) (by omega) (by omega)).mono
    fun v H17 ⟨o, hv, l17, m1⟩ => ⟨o, hv, fun b19 H20 hb19 hH20 => ?_⟩
  refine (copy_ok (k := 1) (f := fI) (bytes := 8) (e := 3) (by kernel_rfl) (by decide) (fun _ => rfl) (fun x v hv => by simp [fI] at hv; subst hv; rfl) hb19 hH20 ((r.n.le l2).le l17) (by omega) (by omega)).mono
    fun v H22 ⟨n, hv, l22, m2⟩ => ⟨n, hv, ⟨w, o, n⟩, rfl, Hp.le_trans l2 (Hp.le_trans l17 l22), ⟨nk.rd.le (Hp.le_trans l17 l22), m1.rdI.le l22, m2.rdI⟩, m2.low (Hp.le_trans l2 l17), Sep.of m1.isOld m2.isNew⟩

def madeL (l : Ls) (i : Nat) : Ls × Int :=
  if (addK l.ck (pairM l.ord i)).2.2 = 0 then (⟨(addK l.ck (pairM l.ord i)).1, l.ord, l.num.set i (addK l.ck (pairM l.ord i)).2.1⟩, 0) else (.zero, (addK l.ck (pairM l.ord i)).2.2)
def zlu : Lu := ⟨zu, zs, zs⟩
theorem RdL.zero {H : Hp} : RdL H zlu .zero := ⟨RdK.zero, (Rd.nil : Rd 1 fI H ⟨none, 0, 0⟩ []), (Rd.nil : Rd 1 fI H ⟨none, 0, 0⟩ [])⟩

theorem refMadeL {H : Hp} {u : Lu} {l : Ls} {i : Int} (r : RdL H u l) (fl : fitL l) (ok : okK l.ck) (ps : ∀ x ∈ l.ord, 0 ≤ posF l.ck.f x) (h0 : 0 ≤ i) (h1 : i + 1 < l.ord.length) (h2 : i < l.num.length) :
    Go.Eng.Fn Tryz.prog F.pelotonref25_Made #[lsV u l, .int .i64 i] H fun v H' => ∃ w : Lu, v = .tuple #[lsV w (madeL l i.toNat).1, .int .i64 (madeL l i.toNat).2] ∧ Hp.le H H' ∧ RdL H' w (madeL l i.toNat).1 := by
  have f1 := fl.o
  have p1 : 0 ≤ posF l.ck.f (pairM l.ord i.toNat).1 := ps _ (by
    have := getI (xs := l.ord) (i := i + 1) (by omega) h1
    rw [show (i + 1).toNat = i.toNat + 1 by omega] at this
    exact List.mem_of_getElem? this)
  have p2 : 0 ≤ posF l.ck.f (pairM l.ord i.toNat).2 := ps _ (List.mem_of_getElem? (getI (xs := l.ord) h0 (by omega)))
  refine pelotonref25_Made_vc ⟨_, _, refPair (u := u) (l := l) r.o h0 h1 f1, (rAdded r.k ok p1 p2).mono fun v H4 ⟨w, hv, l4, r4⟩ => ⟨l4, _, _, w.f, _, w.cl, w.u1, w.u2, w.u3, w.u4, w.u5, w.d, _, _, hv, fun he => ?_, fun he => ?_⟩⟩
  · have he : (addK l.ck (pairM l.ord i.toNat)).2.2 ≠ 0 := by simpa using he
    unfold madeL; rw [if_neg he]
    exact ⟨zlu, rfl, l4, RdL.zero⟩
  have he : (addK l.ck (pairM l.ord i.toNat)).2.2 = 0 := by simpa using he
  unfold madeL; rw [if_pos he]
  refine (refLTwinN (r.le l4) fl).mono fun v H19 ⟨z, hv, l19, r19, m, sp⟩ => ⟨_, _, z.k.f, _, z.k.cl, z.k.u1, z.k.u2, z.k.u3, z.k.u4, z.k.u5, z.k.d, z.o, z.n, hv, m.rdI.inS h0 h2, ?_⟩
  refine m.setI h0 h2 _ fun H33 m' ck => ?_
  have l33 : Hp.le H4 H33 := Hp.le_chg l19 ck m.isNew
  exact ⟨⟨w, z.o, z.n⟩, rfl, Hp.le_trans l4 l33, ⟨r4.le l33, r19.o.chg ck sp, m'.rdI⟩⟩

def buildN (f : List Pt) (t : Int × Int) : Nat → Ls × Int
  | 0 => (⟨(newK f t).1, ordM f t, List.replicate (f.length - 1) 0⟩, 0)
  | n + 1 => if (buildN f t n).2 = 0 then madeL (buildN f t n).1 n else buildN f t n
def buildL (f : List Pt) (t : Int × Int) : Ls × Int := if timedF f t = 0 then buildN f t (f.length - 1) else (.zero, timedF f t)
theorem buildN_err {f : List Pt} {t : Int × Int} {n : Nat} (h : (buildN f t n).2 ≠ 0) : ∀ m, n ≤ m → buildN f t m = buildN f t n
  | 0, hm => by rw [show n = 0 by omega]
  | m + 1, hm => by
    by_cases e : n = m + 1
    · rw [e]
    · have ih := buildN_err h m (by omega)
      show (if (buildN f t m).2 = 0 then madeL (buildN f t m).1 m else buildN f t m) = _
      rw [ih, if_neg h]
structure BInv (f : List Pt) (t : Int × Int) (l : Ls) : Prop where
  ok : okK l.ck
  fe : l.ck.f = f
  ord : l.ord = ordM f t
  num : l.num.length = f.length - 1
theorem BInv.fit {f : List Pt} {t : Int × Int} {l : Ls} (b : BInv f t l) (of : okF f) : fitL l := by
  have := of.small
  exact ⟨b.ok.fit, by rw [b.ord, ordM_len]; exact this, by rw [b.num]; omega⟩
theorem BInv.pos {f : List Pt} {t : Int × Int} {l : Ls} (b : BInv f t l) (of : okF f) : ∀ x ∈ l.ord, 0 ≤ posF l.ck.f x := fun x hx => by
  rw [b.fe]; rw [b.ord] at hx; exact ord_pos of hx
theorem BInv.made {f : List Pt} {t : Int × Int} {l : Ls} (b : BInv f t l) (of : okF f) {i : Nat} (h : i < l.num.length) (hz : (madeL l i).2 = 0) : BInv f t (madeL l i).1 := by
  have ho : l.ord.length = f.length := by rw [b.ord, ordM_len]
  have hn := b.num
  unfold madeL at hz ⊢
  split at hz
  · rename_i he
    rw [if_pos he]
    have p1 : 0 ≤ posF l.ck.f (pairM l.ord i).1 := b.pos of _ (List.mem_of_getElem? (getI (xs := l.ord) (i := (i : Int) + 1) (by omega) (by omega)))
    have p2 : 0 ≤ posF l.ck.f (pairM l.ord i).2 := b.pos of _ (List.mem_of_getElem? (getI (xs := l.ord) (i := (i : Int)) (by omega) (by omega)))
    obtain ⟨o1, _, _, o4, _⟩ := b.ok.add p1 p2 he
    exact ⟨o1, by rw [o4]; exact b.fe, b.ord, by rw [List.length_set]; exact hn⟩
  · rename_i he; exact absurd hz he
theorem BInv.start {f : List Pt} {t : Int × Int} (h : timedF f t = 0) : BInv f t (buildN f t 0).1 := by
  have e : newK f t = (⟨t, f, .zero, beginA 200, []⟩, 0) := by unfold newK; rw [if_pos h]
  obtain ⟨of, ot⟩ := timedF_zero.1 h
  refine ⟨?_, ?_, rfl, by show (List.replicate _ _).length = _; rw [List.length_replicate]⟩
  · show okK (newK f t).1
    rw [e]
    exact ⟨ot, of, (show okC Ct.zero by decide), rfl, okA.begin (by omega) (by omega), rfl, rfl, rfl⟩
  · show (newK f t).1.f = f
    rw [e]

theorem refBuildL {H : Hp} {w : Slc} {f : List Pt} {t : Int × Int} (hf : Rd 3 fD H w f) (ht : fitR t) :
    Go.Eng.Fn Tryz.prog F.pelotonref25_Build #[vFd w, raW t] H fun v H' => ∃ u : Lu, v = .tuple #[lsV u (buildL f t).1, .int .i64 (buildL f t).2] ∧ Hp.le H H' ∧ RdL H' u (buildL f t).1 := by
  refine pelotonref25_Build_vc ((rKNew hf ht).mono fun v H2 ⟨k, hv, l2, rk⟩ => ⟨_, _, k.f, _, k.cl, k.u1, k.u2, k.u3, k.u4, k.u5, k.d, _, hv, fun hc => ?_, fun hc => ?_⟩)
  · have hc : (newK f t).2 ≠ 0 := by simpa using hc
    have h : timedF f t ≠ 0 := fun h => by unfold newK at hc; rw [if_pos h] at hc; exact hc rfl
    have e : newK f t = (.zero, timedF f t) := by unfold newK; rw [if_neg h]
    unfold buildL; rw [if_neg h, e]
    exact ⟨zlu, rfl, l2, RdL.zero⟩
  have h : timedF f t = 0 := by
    have hc : (newK f t).2 = 0 := by simpa using hc
    by_cases h : timedF f t = 0
    · exact h
    · unfold newK at hc; rw [if_neg h] at hc; exact hc
  obtain ⟨of, ot⟩ := timedF_zero.1 h
  have lf := of.small
  unfold buildL; rw [if_pos h]
  refine (refOrdered (hf.le l2) of ot).mono fun v H16 ⟨o, hv, l16, mo⟩ => ⟨l16, o, hv, by have := mo.rdI.len; rw [ordM_len] at this; unfold inI; omega, ?_⟩
  have lo := mo.rdI.len
  rw [ordM_len] at lo
  rw [less1, lo]
  refine ⟨⟨rfl, by omega, by omega⟩, fun b18 H19 hb18 hH19 => ?_⟩
  have m18 := made_mine (g := fun x => Value.int .i64 x) (e := 3) hfI (n := ((f.length - 1 : Nat) : Int)) (z := 0) hb18 hH19 rfl
  rw [Int.toNat_natCast] at m18 ⊢
  have l19 : Hp.le H16 H19 := Hp.le_new (Hp.le_refl _) hb18 hH19
  have m19 := Hp.le_trans l2 (Hp.le_trans l16 l19)
  refine ⟨fun i n1 n2 a1 n3 a2 v1 v2 v3 v4 v5 d uo un H' => 0 ≤ i ∧ i ≤ (f.length - 1 : Nat) ∧ Hp.le H H' ∧ (buildN f t i.toNat).2 = 0 ∧ BInv f t (buildN f t i.toNat).1 ∧ n1 = (buildN f t i.toNat).1.ck.now.1 ∧ n2 = (buildN f t i.toNat).1.ck.now.2 ∧ n3 = (buildN f t i.toNat).1.ck.ct.next ∧ RdL H' ⟨⟨a1, a2, v1, v2, v3, v4, v5, d⟩, uo, un⟩ (buildN f t i.toNat).1,
    fun i _ _ _ _ _ _ _ _ _ _ _ _ _ _ => (((f.length - 1 : Nat) : Int) - i).toNat, ⟨Int.le_refl _, by omega, m19, rfl, BInv.start h, rfl, rfl, rfl, ⟨rk.le (Hp.le_trans l16 l19), mo.rdI.le l19, m18.rdI⟩⟩,
    fun i n1 n2 a1 n3 a2 v1 v2 v3 v4 v5 d uo un H' ⟨i0, i1, le, z, bi, e1, e2, e3, r⟩ => ?_⟩
  subst e1; subst e2; subst e3
  have ho : (buildN f t i.toNat).1.ord.length = f.length := by rw [bi.ord, ordM_len]
  have hnn := bi.num
  have lun := r.n.len
  have lun : un.n = (buildN f t i.toNat).1.num.length := lun
  refine ⟨fun hn => ?_, fun hn => ?_⟩
  · have hi : i < un.n := by simpa using hn
    refine (refMadeL (u := ⟨⟨a1, a2, v1, v2, v3, v4, v5, d⟩, uo, un⟩) (i := i) r (bi.fit of) bi.ok (bi.pos of) i0 (by omega) (by omega)).mono fun v H38 ⟨q, hv, l38, r38⟩ => ⟨_, _, q.k.f, _, q.k.cl, q.k.u1, q.k.u2, q.k.u3, q.k.u4, q.k.u5, q.k.d, q.o, q.n, _, hv, ?_⟩
    have es : buildN f t (i + 1).toNat = madeL (buildN f t i.toNat).1 i.toNat := by
      rw [show (i + 1).toNat = i.toNat + 1 by omega]
      show (if (buildN f t i.toNat).2 = 0 then _ else _) = _
      rw [if_pos z]
    refine ⟨fun he => ?_, fun he => ?_⟩
    · have he : (madeL (buildN f t i.toNat).1 i.toNat).2 ≠ 0 := by simpa using he
      have e9 := buildN_err (f := f) (t := t) (n := (i + 1).toNat) (by rw [es]; exact he) (f.length - 1) (by omega)
      rw [e9, es]
      have e8 : madeL (buildN f t i.toNat).1 i.toNat = (.zero, (madeL (buildN f t i.toNat).1 i.toNat).2) := by
        unfold madeL at he ⊢
        split
        · rename_i h2; rw [if_pos h2] at he; exact absurd rfl he
        · rfl
      rw [e8]
      exact ⟨zlu, rfl, Hp.le_trans le l38, RdL.zero⟩
    · have he : (madeL (buildN f t i.toNat).1 i.toNat).2 = 0 := by simpa using he
      refine ⟨by unfold inI; omega, ⟨by omega, by omega, Hp.le_trans le l38, by rw [es]; exact he, by rw [es]; exact bi.made of (by omega) he, by rw [es], by rw [es], by rw [es], by rw [es]; exact r38⟩, ?_⟩
      show (((f.length - 1 : Nat) : Int) - (i + 1)).toNat < (((f.length - 1 : Nat) : Int) - i).toNat
      omega
  · have hi : i = (f.length - 1 : Nat) := by have : ¬ i < un.n := by simpa using hn
                                             omega
    subst hi
    rw [Int.toNat_natCast] at r z ⊢
    rw [z]
    exact ⟨⟨⟨a1, a2, v1, v2, v3, v4, v5, d⟩, uo, un⟩, rfl, le, r⟩

theorem New.none {H : Hp} : New H zs := fun p hp => by cases hp

end Go.Proofs.YtkemdpobjaiolaaGreat
end
