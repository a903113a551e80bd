/- The law ClockKeeps. Conditions: none. -/
import Derived.Test.YtodmhdfenpkbdaaGreatPL4
import Derived.Test.YtodmhdfenpkbdaaGreatVgLClockKeeps
import Derived.Test.YtodmhdfenpkbdaaGreatFs
set_option linter.unusedVariables false
set_option maxRecDepth 100000
open Go Go.Eng Go.Proofs
namespace Go.Proofs.YtodmhdfenpkbdaaGreat

theorem fitK.zero : fitK .zero := ⟨⟨by show inI 0; unfold inI; omega, by show inI 0; unfold inI; omega⟩, by simp [Ck.zero], by simp [Ck.zero, Ct.zero], fitG.zero, by simp [Ck.zero]⟩
theorem fitK_of {c : Ck} (hn : fitR c.now) (hg : greatK c = false) (hh : ∀ x ∈ c.ag.heap, fitR x.at_) : fitK c := by
  unfold greatK greatF greatG at hg
  simp only [Bool.or_eq_false_iff, decide_eq_false_iff_not] at hg
  obtain ⟨⟨⟨h1, h2⟩, h3⟩, ⟨⟨⟨h4, h5⟩, h6⟩, h7⟩, h8⟩ := hg
  exact ⟨hn, by omega, by omega, ⟨⟨by omega, by omega, by omega⟩, by omega, by omega, hh⟩, by omega⟩
theorem okK.begin {f : List Pt} {t : Int × Int} (h : timedF f t = 0) : okK ⟨t, f, .zero, beginA 200, []⟩ := by
  obtain ⟨of, ot⟩ := timedF_zero.1 h
  have ob := okA.begin (n := 200) (by omega) (by omega)
  exact ⟨ot, of, (by decide : okC Ct.zero), rfl, ob, by simp [beginA], rfl, rfl⟩
theorem newK_fit (f : List Pt) (t : Int × Int) : fitK (newK f t).1 := by
  unfold newK
  split
  · rename_i h; exact (okK.begin h).fit
  · exact fitK.zero
theorem addK_err {c : Ck} {x : Int × Int} : (addK c x).2.2 ≠ 0 → (addK c x).1 = .zero := by
  unfold addK
  split
  · split
    · intro h; exact absurd rfl h
    · split
      · intro h; exact absurd rfl h
      · intro _; rfl
  · intro _; rfl
theorem certifyK_fit (c : Ck) (x : Int × Int) : fitK (certifyK c x).1 := by
  unfold certifyK
  split
  · rename_i h
    split
    · exact fitK.zero
    · rename_i h2
      by_cases he : (addK c x).2.2 = 0
      · exact (h.1.add (by omega) (by omega) he).1.fit
      · rw [addK_err he]; exact fitK.zero
  · exact fitK.zero
theorem retireK_fit (c : Ck) (n : Int) : fitK (retireK c n).1 := by
  unfold retireK
  split
  · rename_i ok
    split
    · exact fitK.zero
    · exact (ok.gone n).1.fit
  · exact fitK.zero
theorem failK_fit (c : Ck) (t : Int × Int) : fitK (failK c t).1 := by
  unfold failK
  split
  · rename_i hu
    split
    · rename_i hw
      obtain ⟨ok, _, _⟩ := untilK_zero.1 hu
      obtain ⟨ps, e⟩ := ok.evs
      exact (ok.failed (waitsK_len hw) e).1.fit
    · exact fitK.zero
  · exact fitK.zero
theorem moveK_fit (c : Ck) (t : Int × Int) : fitK (moveK c t).1 := by
  unfold moveK
  split
  · rename_i hu
    split
    · exact fitK.zero
    · rename_i hw
      obtain ⟨ok, _, _⟩ := untilK_zero.1 hu
      obtain ⟨ps, e⟩ := ok.evs
      exact (okK.move hu (by simpa using hw) e).1.fit
  · exact fitK.zero

theorem clockKeeps {H : Hp} {w : Slc} {u : Cu} {f : List Pt} {c : Ck} {t x : Int × Int} {n : Int} (hf : Rd 3 fD H w f) (r : RdK H u c) (ht : fitR t) (hn : fitR c.now) (hh : ∀ y ∈ c.ag.heap, fitR y.at_) :
    Qf Tryz.prog F.pelotonlaw09_ClockKeeps #[vFd w, raW t, ckV u c, raW x, .int .i64 n] H (.bool true) := by
  refine pelotonlaw09_ClockKeeps_vc ⟨_, refFGreat hf, _, fun _ => refKGreat r, fun _ => ⟨rfl, Hp.le_refl _⟩, fun hc => ?_⟩
  have fk : fitK c := fitK_of hn (by simp only [Bool.or_eq_false_iff] at hc; exact hc.2) hh
  refine (refKTwin r fk).mono fun v H4 ⟨w1, hv, nk⟩ => ⟨_, _, w1.f, _, w1.cl, w1.u1, w1.u2, w1.u3, w1.u4, w1.u5, w1.d, hv, ?_⟩
  have l4 := nk.le
  have r1 := nk.rd
  refine (clockNew (hf.le l4) ht).mono fun v H17 ⟨w2, hv, l17, r2⟩ => ⟨_, _, w2.f, _, w2.cl, w2.u1, w2.u2, w2.u3, w2.u4, w2.u5, w2.d, _, hv, ?_⟩
  have m17 := Hp.le_trans l4 l17
  refine (rKNew (hf.le m17) ht).mono fun v H31 ⟨w3, hv, l31, r3⟩ => ⟨_, _, w3.f, _, w3.cl, w3.u1, w3.u2, w3.u3, w3.u4, w3.u5, w3.d, _, hv, ?_⟩
  have m31 := Hp.le_trans m17 l31
  have k31 := Hp.le_trans l17 l31
  refine (clockCertify (x := x) (r1.le k31) fk).mono fun v H45 ⟨w4, hv, l45, r4⟩ => ⟨_, _, w4.f, _, w4.cl, w4.u1, w4.u2, w4.u3, w4.u4, w4.u5, w4.d, _, _, hv, ?_⟩
  have m45 := Hp.le_trans m31 l45
  have k45 := Hp.le_trans k31 l45
  refine (rCertify (x := x) (r.le m45) fk).mono fun v H60 ⟨w5, hv, l60, r5⟩ => ⟨_, _, w5.f, _, w5.cl, w5.u1, w5.u2, w5.u3, w5.u4, w5.u5, w5.d, _, _, hv, ?_⟩
  have m60 := Hp.le_trans m45 l60
  have k60 := Hp.le_trans k45 l60
  refine (clockRetire (n := n) (r1.le k60) fk).mono fun v H75 ⟨w6, hv, l75, r6⟩ => ⟨_, _, w6.f, _, w6.cl, w6.u1, w6.u2, w6.u3, w6.u4, w6.u5, w6.d, _, hv, ?_⟩
  have m75 := Hp.le_trans m60 l75
  have k75 := Hp.le_trans k60 l75
  refine (rRetire (n := n) (r.le m75) fk).mono fun v H89 ⟨w7, hv, l89, r7⟩ => ⟨_, _, w7.f, _, w7.cl, w7.u1, w7.u2, w7.u3, w7.u4, w7.u5, w7.d, _, hv, ?_⟩
  have m89 := Hp.le_trans m75 l89
  have k89 := Hp.le_trans k75 l89
  have g75 := l89
  have g60 := Hp.le_trans l75 g75
  have g45 := Hp.le_trans l60 g60
  have g31 := Hp.le_trans l45 g45
  have g17 := Hp.le_trans l31 g31
  refine ⟨_, _, _, _, _, _, clockNext (r1.le k89) fk, _, _, _, _, _, _, rNextK (r.le m89) fk, _, refKSame (r2.le g17) (r3.le g31) (newK_fit f t), _, fun _ => clockCheck (r1.le k89) fk, _, fun _ => refKCheck (r.le m89) fk,
    _, fun _ => refKSame (r4.le g45) (r5.le g60) (certifyK_fit c x), _, fun _ => refKSame (r6.le g75) r7 (retireK_fit c n), _, fun _ => refKSame (r1.le k89) (r.le m89) fk, ?_, m89⟩
  simp
end Go.Proofs.YtodmhdfenpkbdaaGreat
