/- The engine, parts LH, LI, put together. Conditions: none. -/
import Derived.Test.YtodmhdfenpkbdaaGreatLG
import Derived.Test.YtodmhdfenpkbdaaGreatVgH09
import Derived.Test.YtodmhdfenpkbdaaGreatFs
import Derived.Test.YtodmhdfenpkbdaaGreatVgLClockEnds
import Derived.Test.YtodmhdfenpkbdaaGreatVgLClockHolds
set_option linter.unusedVariables false
section
/- Clocks: the law's own helpers, and the chapter's examples. Conditions: none. -/
set_option maxRecDepth 100000
open Go Go.Eng Go.Proofs
namespace Go.Proofs.YtodmhdfenpkbdaaGreat

theorem law9at {H : Hp} {n : Int} : Qf Tryz.prog F.pelotonlaw09_at #[.int .i64 n] H (sI2 n 1) := pelotonlaw09_at_vc ⟨rfl, Hp.le_refl _⟩
def gF (b : Int) : List Pt := [(1, 0, 2), (2, 6, -1), (5, 0, b)]
theorem law9given {H : Hp} {b : Int} : Go.Eng.Fn Tryz.prog F.pelotonlaw09_given #[.int .i64 b] H fun v H' => ∃ u : Slc, v = vFd u ∧ Hp.le H H' ∧ Rd 3 fD H' u (gF b) :=
  pelotonlaw09_given_vc fun b1 H2 hb hH => ⟨⟨some ⟨b1, 0, none⟩, 3, 3⟩, rfl, Hp.le_new (Hp.le_refl _) hb hH, rdPts hH rfl rfl⟩

def certL (c : Ck) (l : List (Int × Int)) : Ck := l.foldl (fun c x => if (certifyK c x).2.2 = 0 then (certifyK c x).1 else c) c
def certM (f : List Pt) (t : Int × Int) (l : List (Int × Int)) : Ck × Bool := if (newK f t).2 = 0 then (certL (newK f t).1 l, chkK (certL (newK f t).1 l) == 0) else ((newK f t).1, false)
theorem certL_fit {c : Ck} (fk : fitK c) : ∀ l : List (Int × Int), fitK (certL c l) := by
  intro l
  induction l generalizing c with
  | nil => exact fk
  | cons x l ih =>
    show fitK (certL (if (certifyK c x).2.2 = 0 then (certifyK c x).1 else c) l)
    refine ih ?_
    split
    · exact certifyK_fit c x
    · exact fk
theorem certL_snoc (c : Ck) (l : List (Int × Int)) (x : Int × Int) : certL c (l ++ [x]) = if (certifyK (certL c l) x).2.2 = 0 then (certifyK (certL c l) x).1 else certL c l := by
  unfold certL; rw [List.foldl_append]; rfl
theorem law9certified {H : Hp} {w s : Slc} {f : List Pt} {t : Int × Int} {l : List (Int × Int)} (hf : Rd 3 fD H w f) (ht : fitR t) (hl : Rd 2 fH H s l) (ll : l.length ≤ 1000000) :
    Go.Eng.Fn Tryz.prog F.pelotonlaw09_certified #[vFd w, raW t, s.v] H fun v H' => ∃ u : Cu, v = .tuple #[ckV u (certM f t l).1, .bool (certM f t l).2] ∧ Hp.le H H' ∧ RdK H' u (certM f t l).1 ∧ fitK (certM f t l).1 := by
  have ls := hl.len
  refine pelotonlaw09_certified_vc ((clockNew hf ht).mono fun v H2 ⟨u, hv, l2, r2⟩ => ⟨_, _, u.f, _, u.cl, u.u1, u.u2, u.u3, u.u4, u.u5, u.d, _, hv, fun he => ?_, fun he => ?_⟩)
  · have he : (newK f t).2 ≠ 0 := by simpa using he
    unfold certM; rw [if_neg he]
    exact ⟨u, rfl, l2, r2, newK_fit f t⟩
  have he : (newK f t).2 = 0 := by simpa using he
  unfold certM; rw [if_pos he]
  refine ⟨fun i n1 n2 a1 n3 a2 v1 v2 v3 v4 v5 d H' => 0 ≤ i ∧ i ≤ l.length ∧ Hp.le H H' ∧ n1 = (certL (newK f t).1 (l.take i.toNat)).now.1 ∧ n2 = (certL (newK f t).1 (l.take i.toNat)).now.2 ∧ n3 = (certL (newK f t).1 (l.take i.toNat)).ct.next ∧ RdK H' ⟨a1, a2, v1, v2, v3, v4, v5, d⟩ (certL (newK f t).1 (l.take i.toNat)),
    fun i _ _ _ _ _ _ _ _ _ _ _ _ => (l.length - i).toNat, ⟨Int.le_refl _, by omega, l2, rfl, rfl, rfl, r2⟩, fun i n1 n2 a1 n3 a2 v1 v2 v3 v4 v5 d H' ⟨i0, i1, le, e1, e2, e3, r⟩ => ?_⟩
  subst e1; subst e2; subst e3
  have fk := certL_fit (newK_fit f t) (l.take i.toNat)
  refine ⟨fun hn => ?_, fun hn => ?_⟩
  · have hn : i < l.length := by have : i < s.n := by simpa using hn
                                 omega
    have hg := getX (d := ((0 : Int), (0 : Int))) i0 hn
    have g := (hl.le le).gH i0 hn
    refine ⟨hl.inS i0 hn, _, _, g, (clockCertify (u := ⟨a1, a2, v1, v2, v3, v4, v5, d⟩) (x := l.getD i.toNat (0, 0)) r fk).mono fun v H33 ⟨z, hv, l33, r33⟩ => ⟨l33, _, _, z.f, _, z.cl, z.u1, z.u2, z.u3, z.u4, z.u5, z.d, _, _, hv, ?_⟩⟩
    generalize l.getD i.toNat (0, 0) = x at hg r33 ⊢
    have es : certL (newK f t).1 (l.take (i + 1).toNat) = if (certifyK (certL (newK f t).1 (l.take i.toNat)) x).2.2 = 0 then (certifyK (certL (newK f t).1 (l.take i.toNat)) x).1 else certL (newK f t).1 (l.take i.toNat) := by
      rw [show (i + 1).toNat = i.toNat + 1 by omega, take_succ hg, certL_snoc]
    refine ⟨fun hz => ?_, fun hz => ?_⟩
    · have hz : (certifyK (certL (newK f t).1 (l.take i.toNat)) x).2.2 = 0 := by simpa using hz
      refine ⟨by unfold inI; omega, ⟨by omega, by omega, Hp.le_trans le l33, ?_, ?_, ?_, ?_⟩, (by show (l.length - (i + 1) : Int).toNat < (l.length - i : Int).toNat; omega)⟩
      · rw [es, if_pos hz]
      · rw [es, if_pos hz]
      · rw [es, if_pos hz]
      · rw [es, if_pos hz]; exact r33
    · have hz : ¬ (certifyK (certL (newK f t).1 (l.take i.toNat)) x).2.2 = 0 := by simpa using hz
      refine ⟨by unfold inI; omega, ⟨by omega, by omega, Hp.le_trans le l33, ?_, ?_, ?_, ?_⟩, (by show (l.length - (i + 1) : Int).toNat < (l.length - i : Int).toNat; omega)⟩
      · rw [es, if_neg hz]
      · rw [es, if_neg hz]
      · rw [es, if_neg hz]
      · rw [es, if_neg hz]; exact r.le l33
  · have hi : i = l.length := by have : ¬ i < s.n := by simpa using hn
                                 omega
    rw [hi, Int.toNat_natCast, List.take_length] at r fk ⊢
    generalize certL (newK f t).1 l = cc at r fk ⊢
    have hk := refKCheck r fk
    generalize chkK cc = z at hk ⊢
    exact ⟨_, hk, ⟨a1, a2, v1, v2, v3, v4, v5, d⟩, rfl, le, r, fk⟩

theorem fit41 (n : Int) (h : inI n) : fitR (n, 1) := ⟨h, by show inI 1; unfold inI; omega⟩
theorem law9alive {H : Hp} : Qf Tryz.prog F.pelotonlaw09_alive #[] H (.bool true) := by
  refine pelotonlaw09_alive_vc (law9given.mono fun v H2 ⟨w1, hv, l2, r1⟩ => ⟨w1, hv, _, _, law9at, fun b6 H7 hb hH => ?_⟩)
  have l7 : Hp.le H2 H7 := Hp.le_new (Hp.le_refl _) hb hH
  have rl : Rd 2 fH H7 ⟨some ⟨b6, 0, none⟩, 3, 3⟩ [(1, 2), (5, 2), (5, 1)] := rdConst (k := 2) (f := fH) (fun _ => rfl) hH rfl rfl
  refine (law9certified (r1.le l7) (fit41 1 (by unfold inI; omega)) rl (by simp)).mono fun v H9 ⟨w2, hv, l9, r2, k2⟩ => ⟨_, _, w2.f, _, w2.cl, w2.u1, w2.u2, w2.u3, w2.u4, w2.u5, w2.d, _, hv, _, _, law9at, ?_⟩
  generalize e0 : certM (gF 0) (1, 1) [(1, 2), (5, 2), (5, 1)] = c0 at r2 k2 ⊢
  refine (clockFail (t := (4, 1)) r2 k2 (fit41 4 (by unfold inI; omega))).mono fun v H25 ⟨w3, hv, l25, r3⟩ => ⟨l25, _, _, w3.f, _, w3.cl, w3.u1, w3.u2, w3.u3, w3.u4, w3.u5, w3.d, _, _, _, _, _, _, _, _, hv, _, _, law9at, ?_⟩
  have k3 := failK_fit c0.1 (4, 1)
  refine (clockFail (t := (4, 1)) r3 k3 (fit41 4 (by unfold inI; omega))).mono fun v H48 ⟨w4, hv, l48, r4⟩ => ⟨l48, _, _, w4.f, _, w4.cl, w4.u1, w4.u2, w4.u3, w4.u4, w4.u5, w4.d, _, _, _, _, _, _, _, _, hv, _, _, law9at, ?_⟩
  refine (clockMove (t := (6, 1)) (r3.le l48) k3 (fit41 6 (by unfold inI; omega))).mono fun v H71 ⟨w5, hv, l71, r5⟩ => ⟨l71, _, _, w5.f, _, w5.cl, w5.u1, w5.u2, w5.u3, w5.u4, w5.u5, w5.d, _, hv, ?_⟩
  refine law9given.mono fun v H85 ⟨w6, hv, l85, r6⟩ => ⟨l85, w6, hv, ?_⟩
  refine (clockAlter (((r3.le l48).le l71).le l85) k3 r6).mono fun v H88 ⟨w7, hv, l88, r7⟩ => ⟨l88, _, _, w7.f, _, w7.cl, w7.u1, w7.u2, w7.u3, w7.u4, w7.u5, w7.d, _, hv, ?_⟩
  refine ⟨_, _, _, _, _, _, clockNext r7 (alterK_fit _ _), _, _, fun _ => law9at, _, _, fun _ => law9at, _, _, fun _ => law9at, ?_, ?_⟩
  · rw [r2.due.len]
    subst e0
    kernel_rfl
  · exact Hp.le_trans l2 (Hp.le_trans l7 (Hp.le_trans l9 (Hp.le_trans l25 (Hp.le_trans l48 (Hp.le_trans l71 (Hp.le_trans l85 l88))))))

end Go.Proofs.YtodmhdfenpkbdaaGreat
end
section
/- The laws ClockEnds, ClockHolds. Conditions: none. -/
set_option maxRecDepth 100000
open Go Go.Eng Go.Proofs
namespace Go.Proofs.YtodmhdfenpkbdaaGreat

section
variable {c : Ck} {t : Int × Int}
end

end Go.Proofs.YtodmhdfenpkbdaaGreat
end
