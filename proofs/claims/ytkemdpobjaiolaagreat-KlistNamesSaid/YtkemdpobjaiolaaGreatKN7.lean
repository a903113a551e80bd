/- The law KlistNames. Conditions: none. -/
import Derived.Test.YtkemdpobjaiolaaGreatKN6
import Derived.Test.YtkemdpobjaiolaaGreatVgLKlistNames
import Derived.Test.YtkemdpobjaiolaaGreatFs
set_option linter.unusedVariables false
set_option maxRecDepth 100000
open Go Go.Eng Go.Proofs
namespace Go.Proofs.YtkemdpobjaiolaaGreat

theorem fitAB' {a b : Int} (h : inI a) (h' : inI b) : fitR (a, b) := ⟨h, h'⟩
set_option maxHeartbeats 8000000 in
theorem law25names_of {H : Hp} {l m o t e s2 x3 x4 x5 x9 xA xB : Ls} {x1 : Int × Int} {i2 i4 i5 iA iB : Int} (hl : buildL exF (0, 1) = (l, 0)) (hm : buildL [] (3, 1) = (m, 0)) (ho : buildL [(4, 0, 0)] (3, 1) = (o, 0)) (ht : buildL [(2, 0, 0), (1, 0, 0)] (0, 0) = (t, 32)) (he : buildL exF (0, 0) = (e, 8))
    (fl : fitL l) (fm : fitL m) (fo : fitL o) (ff : fitL (fullX l)) (o1 : l.ord = [2, 1, 5]) (u1 : l.num = [0, 1]) (b0 : BadL .zero) (b1 : BadL (ordX l)) (b2 : BadL (numX l)) (b3 : BadL (longX l)) (b4 : BadL (shortX l)) (b5 : BadL (lateX l))
    (k1 : kNextM m = (x1, 6)) (k2 : stepL o = (s2, i2, 6)) (k3 : advM m (9, 1) = (x3, 0, 0)) (k3t : x3.ck.now = (9, 1)) (k4 : advM l (-1, 1) = (x4, i4, 44)) (k5 : advM l (2, 2) = (x5, i5, 8)) (k6 : kRankM l 3 = (0, 6)) (k7 : kRankM l 5 = (2, 0)) (k8 : advM l (0, 1) = (l, 0, 0))
    (k9 : advM l (6, 1) = (x9, 2, 0)) (k9o : x9.ord = [1, 5, 2]) (kA : advM (fullX l) (6, 1) = (xA, iA, 18)) (kB : advM (fullX l) (1, 1) = (xB, iB, 0)) :
    Qf Tryz.prog F.pelotonlaw25_KlistNames #[] H (.bool true) := by
  have lo3 : 1 < l.ord.length := by rw [o1]; decide
  have ln2 : 1 < l.num.length := by rw [u1]; decide
  have f31 : fitR (3, 1) := fitAB' (by unfold inI; omega) (by unfold inI; omega)
  have f00 : fitR (0, 0) := fitAB' (by unfold inI; omega) (by unfold inI; omega)
  refine pelotonlaw25_KlistNames_vc (law25example.mono fun v H2 ⟨w, hv, l2, rw'⟩ => ⟨w, hv, 0, 1, law25whole, ?_⟩)
  have q1 := klistBuild (t := (0, 1)) rw' fit01
  rw [hl] at q1
  refine q1.mono fun v H7 ⟨a, hv, l7, ra⟩ => ⟨_, _, a.k.f, _, a.k.cl, a.k.u1, a.k.u2, a.k.u3, a.k.u4, a.k.u5, a.k.d, a.o, a.n, 0, hv, 3, 1, law25whole, ?_⟩
  have ra : RdL H7 a l := ra
  have q2 := klistBuild (t := (3, 1)) (Rd.nil : Rd 3 fD H7 ⟨none, 0, 0⟩ []) f31
  rw [hm] at q2
  refine q2.mono fun v H25 ⟨c, hv, l25, rc⟩ => ⟨_, _, c.k.f, _, c.k.cl, c.k.u1, c.k.u2, c.k.u3, c.k.u4, c.k.u5, c.k.d, c.o, c.n, 0, hv, fun b40 H41 hb40 hH41 => ⟨3, 1, law25whole, ?_⟩⟩
  have rc : RdL H25 c m := rc
  have l41 : Hp.le H25 H41 := Hp.le_new (Hp.le_refl _) hb40 hH41
  have r4 : Rd 3 fD H41 ⟨some ⟨b40, 0, none⟩, 1, 1⟩ [(4, 0, 0)] := rdConst (k := 3) (f := fD) (fun _ => rfl) hH41 rfl rfl
  have q3 := klistBuild (t := (3, 1)) r4 f31
  rw [ho] at q3
  refine q3.mono fun v H45 ⟨d, hv, l45, rd⟩ => ⟨_, _, d.k.f, _, d.k.cl, d.k.u1, d.k.u2, d.k.u3, d.k.u4, d.k.u5, d.k.d, d.o, d.n, 0, hv, fun b60 H61 hb60 hH61 => ?_⟩
  have rd : RdL H45 d o := rd
  have l61 : Hp.le H45 H61 := Hp.le_new (Hp.le_refl _) hb60 hH61
  have r21 : Rd 3 fD H61 ⟨some ⟨b60, 0, none⟩, 2, 2⟩ [(2, 0, 0), (1, 0, 0)] := rdConst (k := 3) (f := fD) (fun _ => rfl) hH61 rfl rfl
  have q4 := klistBuild (t := (0, 0)) r21 f00
  rw [ht] at q4
  refine q4.mono fun v H63 ⟨g, hv, l63, _⟩ => ⟨_, _, g.k.f, _, g.k.cl, g.k.u1, g.k.u2, g.k.u3, g.k.u4, g.k.u5, g.k.d, g.o, g.n, 32, hv, ?_⟩
  refine law25example.mono fun v H79 ⟨w2, hv, l79, rw2⟩ => ⟨w2, hv, ?_⟩
  have q5 := klistBuild (t := (0, 0)) rw2 f00
  rw [he] at q5
  refine q5.mono fun v H82 ⟨g2, hv, l82, _⟩ => ⟨_, _, g2.k.f, _, g2.k.cl, g2.k.u1, g2.k.u2, g2.k.u3, g2.k.u4, g2.k.u5, g2.k.d, g2.o, g2.n, 8, hv, ?_⟩
  have e3 : (a.o.n : Int) = 3 := by have := ra.o.len; rw [o1] at this; simp at this; omega
  have e2 : (a.n.n : Int) = 2 := by have := ra.n.len; rw [u1] at this; simp at this; omega
  refine ⟨fun h => by rw [e3, e2] at h; simp at h, fun _ => ?_⟩
  have lO : Hp.le H45 H82 := Hp.le_trans l61 (Hp.le_trans l63 (Hp.le_trans l79 l82))
  have lN : Hp.le H25 H82 := Hp.le_trans l41 (Hp.le_trans l45 lO)
  have lA : Hp.le H7 H82 := Hp.le_trans l25 lN
  have lH : Hp.le H H82 := Hp.le_trans l2 (Hp.le_trans l7 lA)
  have rB := ra.le lA
  have rC := rc.le lN
  have rD := rd.le lO
  clear ra rc rd rw' rw2 r21 r4 q1 q2 q3 q4 q5
  refine (refLTwinT rB fl).mono fun v H98 ⟨w1, G1, hv, lG1, t1⟩ => ⟨Hp.le_trans lG1 t1.le, _, _, w1.k.f, _, w1.k.cl, w1.k.u1, w1.k.u2, w1.k.u3, w1.k.u4, w1.k.u5, w1.k.d, w1.o, w1.n, hv, ?_⟩
  have l98 := Hp.le_trans lG1 t1.le
  refine (Go.Eng.Fn.frame (refLTwinT rB fl) l98).mono fun v H113 ⟨K2, ⟨w2, G2, hv, lG2, t2⟩, k2', nn2, lx2⟩ => ⟨lx2 (Hp.le_trans lG2 t2.le), _, _, w2.k.f, _, w2.k.cl, w2.k.u1, w2.k.u2, w2.k.u3, w2.k.u4, w2.k.u5, w2.k.d, w2.o, w2.n, hv, ?_⟩
  have l113 := lx2 (Hp.le_trans lG2 t2.le)
  refine (Go.Eng.Fn.frame (refLTwinT rB fl) (Hp.le_trans l98 l113)).mono fun v H128 ⟨K3, ⟨w3, G3, hv, lG3, t3⟩, k3', nn3, lx3⟩ => ⟨lx3 (Hp.le_trans lG3 t3.le), _, _, w3.k.f, _, w3.k.cl, w3.k.u1, w3.k.u2, w3.k.u3, w3.k.u4, w3.k.u5, w3.k.d, w3.o, w3.n, hv, ?_⟩
  have l128 := lx3 (Hp.le_trans lG3 t3.le)
  refine (Go.Eng.Fn.frame (refLTwinT rB fl) (Hp.le_trans l98 (Hp.le_trans l113 l128))).mono fun v H143 ⟨K4, ⟨w4, G4, hv, lG4, t4⟩, k4', nn4, lx4⟩ => ⟨lx4 (Hp.le_trans lG4 t4.le), _, _, w4.k.f, _, w4.k.cl, w4.k.u1, w4.k.u2, w4.k.u3, w4.k.u4, w4.k.u5, w4.k.d, w4.o, w4.n, hv, ?_⟩
  have l143 := lx4 (Hp.le_trans lG4 t4.le)
  refine (Go.Eng.Fn.frame (refLTwinT rB fl) (Hp.le_trans l98 (Hp.le_trans l113 (Hp.le_trans l128 l143)))).mono fun v H158 ⟨K5, ⟨w5, G5, hv, lG5, t5⟩, k5', nn5, lx5⟩ => ⟨lx5 (Hp.le_trans lG5 t5.le), _, _, w5.k.f, _, w5.k.cl, w5.k.u1, w5.k.u2, w5.k.u3, w5.k.u4, w5.k.u5, w5.k.d, w5.o, w5.n, hv, ?_⟩
  have l158 := lx5 (Hp.le_trans lG5 t5.le)
  have l13 := Hp.le_trans l113 l128
  have l14 := Hp.le_trans l13 l143
  have l15 := Hp.le_trans l14 l158
  -- what is whose
  have p1 : New H82 w1.o := t1.o.isNew.low lG1
  have d1 := t1.o.isOld
  have p1K2 : New K2 w1.o := nnNew p1 d1 nn2
  have p1K3 : New K3 w1.o := nnNew p1 (d1.le l113) nn3
  have p1K4 : New K4 w1.o := nnNew p1 (d1.le l13) nn4
  have p1K5 : New K5 w1.o := nnNew p1 (d1.le l14) nn5
  have p2 : New H82 w2.n := t2.n.isNew.low lG2
  have p2H : New H98 w2.n := nnNew' p2 t2.n.isOld nn2
  have d2 : Old H113 w2.n := t2.n.isOld.le k2'
  have p2K3 : New K3 w2.n := nnNew p2 d2 nn3
  have p2K4 : New K4 w2.n := nnNew p2 (d2.le l128) nn4
  have p2K5 : New K5 w2.n := nnNew p2 (d2.le (Hp.le_trans l128 l143)) nn5
  have p3 : New H82 w3.n := t3.n.isNew.low lG3
  have p3H : New H113 w3.n := nnNew' p3 t3.n.isOld nn3
  have d3 : Old H128 w3.n := t3.n.isOld.le k3'
  have p3K4 : New K4 w3.n := nnNew p3 d3 nn4
  have p3K5 : New K5 w3.n := nnNew p3 (d3.le l143) nn5
  have t1u := t1.up l15
  refine Rd.ldI t1u.o.rdI (by omega) (by omega) (Rd.ldI t1u.o.rdI (by omega) (by omega) ⟨t1u.o.rdI.inS (by omega) (by omega), Mine.setI t1u.o (by omega) (by omega) _ fun H174 m174 c174 =>
    ⟨m174.rdI.inS (by omega) (by rw [List.length_set]; omega), Mine.setI m174 (by omega) (by rw [List.length_set]; omega) _ fun H175 m175 c175 => ?_⟩⟩)
  have s1 : TwL G1 H175 w1 (ordX l) := (t1u.setO m174 c174).setO m175 c175
  have two1 : ∀ {X : Hp}, Hp.le X H158 → New X w1.o → Hp.le X H175 := fun h n => Hp.le_chg (Hp.le_chg h c174 n) c175 n
  have t2u := t2.up (two1 (Hp.le_trans k2' (Hp.le_trans l128 (Hp.le_trans l143 l158))) p1K2)
  refine Rd.ldI t2u.n.rdI (by omega) (by omega) (Rd.ldI t2u.n.rdI (by omega) (by omega) ⟨t2u.n.rdI.inS (by omega) (by omega), Mine.setI t2u.n (by omega) (by omega) _ fun H178 m178 c178 =>
    ⟨m178.rdI.inS (by omega) (by rw [List.length_set]; omega), Mine.setI m178 (by omega) (by rw [List.length_set]; omega) _ fun H179 m179 c179 => ?_⟩⟩)
  have s2 : TwL G2 H179 w2 (numX l) := (t2u.setN m178 c178).setN m179 c179
  have g12 := p2H.low t1.le
  have so12 := Sep.of t1.o.isOld p2H
  have sn12 := Sep.of t1.n.isOld p2H
  have s1' := (s1.other c178 g12 so12 sn12).other c179 g12 so12 sn12
  have two2 : ∀ {X : Hp}, Hp.le X H158 → New X w1.o → New X w2.n → Hp.le X H179 := fun h n n' => Hp.le_chg (Hp.le_chg (two1 h n) c178 n') c179 n'
  have t3u := t3.up (two2 (Hp.le_trans k3' (Hp.le_trans l143 l158)) p1K3 p2K3)
  refine fun b180 H181 hb180 hH181 => ?_
  refine (append1 (k := 1) (f := fI) (bytes := 8) (x := (0 : Int)) (e := 3) (by kernel_rfl) (by decide) (fun _ => rfl) (fun x v hv => by simp [fI] at hv; subst hv; rfl) t3u.le t3u.n hb180 hH181 rfl (by rw [u1]; decide) (by omega)).mono fun v H183 ⟨w3n, hv, l183, m183, c183, _⟩ => ⟨w3n, hv, ?_, 2, 1, law25whole, fun b187 H188 hb187 hH188 => ?_⟩
  · have q1 := t4.n.rdI.len; have q2 := t4.n.rdI.cap
    unfold okSl; omega
  have l188 : Hp.le H183 H188 := Hp.le_new (Hp.le_refl _) hb187 hH188
  have r1 : RdL H188 w1 (ordX l) := ((s1'.other c183 (p3H.low (Hp.le_trans t1.le l113)) (Sep.of (t1.o.isOld.le l113) p3H) (Sep.of (t1.n.isOld.le l113) p3H)).rd).le l188
  have r2 : RdL H188 w2 (numX l) := ((s2.other c183 (p3H.low (Hp.le_trans t2.le k2')) (Sep.of (t2.o.isOld.le k2') p3H) (Sep.of (t2.n.isOld.le k2') p3H)).rd).le l188
  have r3 : RdL H188 ⟨w3.k, w3.o, w3n⟩ (longX l) := RdL.le ⟨t3.k.le l183, (t3u.o.chg c183 t3.sep).rdI, m183.rdI⟩ l188
  have three : ∀ {X : Hp}, Hp.le X H158 → New X w1.o → New X w2.n → New X w3.n → Hp.le X H188 := fun h n n' n'' => Hp.le_trans (Hp.le_chg (two2 h n n') c183 n'') l188
  have r4a := t4.rd.le (three (Hp.le_trans k4' l158) p1K4 p2K4 p3K4)
  have r4 : RdL H188 ⟨w4.k, w4.o, ⟨w4.n.a, (1 : Int).toNat, w4.n.c⟩⟩ (shortX l) := ⟨r4a.k, r4a.o, Rd.cut r4a.n (n := 1) (by omega) (by have := r4a.n.len; have := r4a.n.cap; omega)⟩
  have r5a := t5.rd.le (three k5' p1K5 p2K5 p3K5)
  have r5 : RdL H188 w5 (lateX l) := ⟨⟨r5a.k.f, r5a.k.cl, r5a.k.ag, r5a.k.due⟩, r5a.o, r5a.n⟩
  have lB : Hp.le H82 H188 := three (Hp.le_trans l98 l15) p1 p2 p3
  have rX : Rd 13 fLs H188 ⟨some ⟨b187, 0, none⟩, 6, 6⟩ [(zlu, .zero), (w1, ordX l), (w2, numX l), (⟨w3.k, w3.o, w3n⟩, longX l), (⟨w4.k, w4.o, ⟨w4.n.a, (1 : Int).toNat, w4.n.c⟩⟩, shortX l), (w5, lateX l)] :=
    rdConst (k := 13) (f := fLs) (fun _ => rfl) hH188 (by rw [slcCut (s := w4.n) (m := 1)]; rfl) rfl
  have all : ∀ x ∈ [(zlu, Ls.zero), (w1, ordX l), (w2, numX l), (⟨w3.k, w3.o, w3n⟩, longX l), (⟨w4.k, w4.o, ⟨w4.n.a, (1 : Int).toNat, w4.n.c⟩⟩, shortX l), (w5, lateX l)], BadL x.2 ∧ RdL H188 x.1 x.2 := by
    intro x hx
    simp only [List.mem_cons, List.not_mem_nil, or_false] at hx
    rcases hx with rfl | rfl | rfl | rfl | rfl | rfl
    · exact ⟨b0, RdL.zero⟩
    · exact ⟨b1, r1⟩
    · exact ⟨b2, r2⟩
    · exact ⟨b3, r3⟩
    · exact ⟨b4, r4⟩
    · exact ⟨b5, r5⟩
  have rB := rB.le lB
  have rC := rC.le lB
  have rD := rD.le lB
  have lH := Hp.le_trans lH lB
  clear r1 r2 r3 r4 r5 r4a r5a two1 two2 three s1 s1' s2 t1u t2u t3u m174 m175 m178 m179
  generalize [(zlu, Ls.zero), (w1, ordX l), (w2, numX l), (⟨w3.k, w3.o, w3n⟩, longX l), (⟨w4.k, w4.o, ⟨w4.n.a, (1 : Int).toNat, w4.n.c⟩⟩, shortX l), (w5, lateX l)] = xs at rX all
  have xl : (xs.length : Int) = 6 := by have : 6 = xs.length := rX.len; omega
  refine ⟨fun n H' => 0 ≤ n ∧ n ≤ 6 ∧ Hp.le H188 H', fun n _ => (6 - n).toNat, ⟨by omega, by omega, Hp.le_refl _⟩, fun n H192 ⟨h0, h6, lj⟩ => ⟨fun hn => ?_, fun _ => ?_⟩⟩
  · have hn : n < 6 := by simpa using hn
    obtain ⟨x, hx⟩ : ∃ x, xs[n.toNat]? = some x := ⟨_, List.getElem?_eq_getElem (by omega)⟩
    obtain ⟨bx, rx⟩ := all x (List.mem_of_getElem? hx)
    have ry := rX.le lj
    have q1 := kOrder (rx.le lj) bx.fit
    rw [bx.kO] at q1
    refine ⟨ry.inS h0 (by rw [xl]; omega), _, _, _, _, _, _, _, _, _, _, _, _, _, Rd.gLs ry h0 hx, q1.mono fun v H207 ⟨s, hv, l207, _⟩ => ⟨s, 8, hv, ?_⟩⟩
    have lj := Hp.le_trans lj l207
    have ry := rX.le lj
    have q2 := kRank (id := 1) (rx.le lj) bx.fit
    rw [bx.kR] at q2
    have q3 := kNext (rx.le lj) bx.fit
    rw [bx.kN] at q3
    have q4 := klistStep (rx.le lj) bx.fit
    rw [bx.kS] at q4
    refine ⟨ry.inS h0 (by rw [xl]; omega), _, _, _, _, _, _, _, _, _, _, _, _, _, Rd.gLs ry h0 hx, 0, 8, q2, ry.inS h0 (by rw [xl]; omega), _, _, _, _, _, _, _, _, _, _, _, _, _, Rd.gLs ry h0 hx, 0, 0, 8, q3, ry.inS h0 (by rw [xl]; omega), _, _, _, _, _, _, _, _, _, _, _, _, _, Rd.gLs ry h0 hx, q4.mono fun v H255 ⟨w, hv, l255, _⟩ => ⟨_, _, w.k.f, _, w.k.cl, w.k.u1, w.k.u2, w.k.u3, w.k.u4, w.k.u5, w.k.d, w.o, w.n, 0, 8, hv, ?_⟩⟩
    have lj := Hp.le_trans lj l255
    have ry := rX.le lj
    have q5 := klistAdvance (to := (0, 0)) (rx.le lj) bx.fit f00
    rw [bx.kA] at q5
    refine ⟨ry.inS h0 (by rw [xl]; omega), _, _, _, _, _, _, _, _, _, _, _, _, _, Rd.gLs ry h0 hx, q5.mono fun v H285 ⟨w, hv, l285, _⟩ => ⟨_, _, w.k.f, _, w.k.cl, w.k.u1, w.k.u2, w.k.u3, w.k.u4, w.k.u5, w.k.d, w.o, w.n, 0, 8, hv, ?_⟩⟩
    have lj := Hp.le_trans lj l285
    have ry := rX.le lj
    have q6 := klistCheck (rx.le lj) bx.fit
    rw [chkLs_bad bx.bad] at q6
    exact ⟨ry.inS h0 (by rw [xl]; omega), _, _, _, _, _, _, _, _, _, _, _, _, _, Rd.gLs ry h0 hx, 8, q6, fun h => by simp at h, fun _ => ⟨by unfold inI; omega, ⟨by omega, by omega, lj⟩, by show (6 - (n + 1)).toNat < (6 - n).toNat; omega⟩⟩
  clear all rX
  have rB := rB.le lj
  have rC := rC.le lj
  have rD := rD.le lj
  have lH := Hp.le_trans lH lj
  have q1 := kNext rC fm
  rw [k1] at q1
  have q2 := klistStep rD fo
  rw [k2] at q2
  refine ⟨_, _, 6, q1, q2.mono fun v H319 ⟨w, hv, l319, _⟩ => ⟨_, _, w.k.f, _, w.k.cl, w.k.u1, w.k.u2, w.k.u3, w.k.u4, w.k.u5, w.k.d, w.o, w.n, _, 6, hv, 9, 1, law25whole, ?_⟩⟩
  have q3 := klistAdvance (to := (9, 1)) (rC.le l319) fm (fitAB' (by unfold inI; omega) (by unfold inI; omega))
  rw [k3] at q3
  refine q3.mono fun v H338 ⟨w, hv, l338, _⟩ => ⟨l338, x3.ck.now.1, x3.ck.now.2, w.k.f, _, w.k.cl, w.k.u1, w.k.u2, w.k.u3, w.k.u4, w.k.u5, w.k.d, w.o, w.n, 0, 0, hv, -1, 1, law25whole, ?_⟩
  have rB := rB.le (Hp.le_trans l319 l338)
  have lH := Hp.le_trans lH (Hp.le_trans l319 l338)
  have q4 := klistAdvance (to := (-1, 1)) rB fl (fitAB' (by unfold inI; omega) (by unfold inI; omega))
  rw [k4] at q4
  refine q4.mono fun v H357 ⟨w, hv, l357, _⟩ => ⟨l357, _, _, w.k.f, _, w.k.cl, w.k.u1, w.k.u2, w.k.u3, w.k.u4, w.k.u5, w.k.d, w.o, w.n, _, 44, hv, ?_⟩
  have q5 := klistAdvance (to := (2, 2)) (rB.le l357) fl (fitAB' (by unfold inI; omega) (by unfold inI; omega))
  rw [k5] at q5
  refine q5.mono fun v H374 ⟨w, hv, l374, _⟩ => ⟨_, _, w.k.f, _, w.k.cl, w.k.u1, w.k.u2, w.k.u3, w.k.u4, w.k.u5, w.k.d, w.o, w.n, _, 8, hv, ?_⟩
  have rB := rB.le (Hp.le_trans l357 l374)
  have lH := Hp.le_trans lH (Hp.le_trans l357 l374)
  have q6 := kRank (id := 3) rB fl
  rw [k6] at q6
  have q7 := kRank (id := 5) rB fl
  rw [k7] at q7
  have q8 := klistAdvance (to := (0, 1)) rB fl fit01
  rw [k8] at q8
  refine ⟨0, 6, q6, 2, 0, q7, 0, 1, law25whole, q8.mono fun v H397 ⟨y, hv, l397, ry⟩ => ⟨l397, _, _, y.k.f, _, y.k.cl, y.k.u1, y.k.u2, y.k.u3, y.k.u4, y.k.u5, y.k.d, y.o, y.n, 0, 0, hv, 6, 1, law25whole, ?_⟩⟩
  have ry : RdL H397 y l := ry
  have rB := rB.le l397
  have f61 : fitR (6, 1) := fitAB' (by unfold inI; omega) (by unfold inI; omega)
  have q9 := klistAdvance (to := (6, 1)) rB fl f61
  rw [k9] at q9
  refine q9.mono fun v H416 ⟨z, hv, l416, rz⟩ => ⟨l416, _, _, z.k.f, _, z.k.cl, z.k.u1, z.k.u2, z.k.u3, z.k.u4, z.k.u5, z.k.d, z.o, z.n, 2, 0, hv, ?_⟩
  have rz : RdL H416 z x9 := rz
  have rB := rB.le l416
  refine (refLTwinM rB fl).mono fun v H433 ⟨u, hv, l433, ru, _, _, _⟩ => ⟨_, _, u.k.f, _, u.k.cl, u.k.u1, u.k.u2, u.k.u3, u.k.u4, u.k.u5, u.k.d, u.o, u.n, hv, 6, 1, law25whole, ?_⟩
  have ru : RdL H433 u (fullX l) := ⟨⟨ru.k.f, ru.k.cl, ru.k.ag, ru.k.due⟩, ru.o, ru.n⟩
  have qA := klistAdvance (to := (6, 1)) ru ff f61
  rw [kA] at qA
  refine qA.mono fun v H450 ⟨w, hv, l450, _⟩ => ⟨l450, _, _, w.k.f, _, w.k.cl, w.k.u1, w.k.u2, w.k.u3, w.k.u4, w.k.u5, w.k.d, w.o, w.n, _, 18, hv, 1, 1, law25whole, ?_⟩
  have qB := klistAdvance (to := (1, 1)) (ru.le l450) ff (fitAB' (by unfold inI; omega) (by unfold inI; omega))
  rw [kB] at qB
  refine qB.mono fun v H469 ⟨w, hv, l469, _⟩ => ⟨l469, _, _, w.k.f, _, w.k.cl, w.k.u1, w.k.u2, w.k.u3, w.k.u4, w.k.u5, w.k.d, w.o, w.n, _, 0, hv, true, law25alive, 9, 1, fun _ => law25whole, true, fun _ => ?_, fun _ => fun b489 H490 hb489 hH490 => ?_, fun h => by rw [k3t] at h; simp at h⟩
  · have l := Hp.le_trans l433 (Hp.le_trans l450 l469)
    exact refLSame (ry.le (Hp.le_trans l416 l)) (rB.le l) fl
  · have l490 : Hp.le H469 H490 := Hp.le_new (Hp.le_refl _) hb489 hH490
    have l4 : Hp.le H416 H490 := Hp.le_trans l433 (Hp.le_trans l450 (Hp.le_trans l469 l490))
    have cc : RdI H490 ⟨some ⟨b489, 0, none⟩, 3, 3⟩ [1, 5, 2] := rdConst (k := 1) (f := fI) (fun _ => rfl) hH490 rfl rfl
    have ez := (rz.le l4).o
    rw [k9o] at ez
    have sm := sameIDs ez cc (by decide)
    refine ⟨true, fun _ => sm, ?_, Hp.le_trans lH (Hp.le_trans l397 (Hp.le_trans l416 l4))⟩
    rw [k3t]
    rfl
theorem law25names {H : Hp} : Qf Tryz.prog F.pelotonlaw25_KlistNames #[] H (.bool true) := by
  have fl := exOk.fit
  have sm : fitL exLs := fl
  have hl2 : exLs.num.length ≤ 900000 := by rw [exU1]; decide
  refine law25names_of (s2 := (stepL oneK).1) (x3 := (advM noneK (9, 1)).1) (x4 := (advM exLs (-1, 1)).1) (x5 := (advM exLs (2, 2)).1) (x9 := (advM exLs (6, 1)).1) (xA := (advM (fullX exLs) (6, 1)).1) (xB := (advM (fullX exLs) (1, 1)).1) (x1 := (kNextM noneK).1)
    (i2 := (stepL oneK).2.1) (i4 := (advM exLs (-1, 1)).2.1) (i5 := (advM exLs (2, 2)).2.1) (iA := (advM (fullX exLs) (6, 1)).2.1) (iB := (advM (fullX exLs) (1, 1)).2.1)
    exB nkB okB (Prod.ext rfl tkB) (Prod.ext rfl ekB) fl (buildL_fit _ _) (buildL_fit _ _) ?_ exO1 exU1 ?_ ?_ ?_ ?_ ?_ ?_
    (Prod.ext rfl kn1) (Prod.ext rfl (Prod.ext rfl kn2)) (Prod.ext rfl kn3) kn3t (Prod.ext rfl (Prod.ext rfl kn4)) (Prod.ext rfl (Prod.ext rfl kn5)) kn6 kn7 kn8 (Prod.ext rfl kn9) kn9o (Prod.ext rfl (Prod.ext rfl knA)) (Prod.ext rfl (Prod.ext rfl knB))
  · exact ⟨⟨fl.k.now, fl.k.f, fl.k.ct, fl.k.ag, fl.k.due⟩, fl.o, fl.n⟩
  · exact .ofChk bad0 fitZl
  · exact .ofChk bad1 ⟨fl.k, by have := fl.o; simp only [ordX, List.length_set]; exact this, fl.n⟩
  · exact .ofChk bad2 ⟨fl.k, fl.o, by have := fl.n; simp only [numX, List.length_set]; exact this⟩
  · exact .ofChk bad3 ⟨fl.k, fl.o, by simp only [longX, List.length_append, List.length_singleton]; omega⟩
  · exact .ofChk bad4 ⟨fl.k, fl.o, by have := fl.n; simp only [shortX, List.length_take]; omega⟩
  · exact .ofChk bad5 ⟨⟨fitAB' (by unfold inI; omega) (by unfold inI; omega), fl.k.f, fl.k.ct, fl.k.ag, fl.k.due⟩, fl.o, fl.n⟩
end Go.Proofs.YtkemdpobjaiolaaGreat
