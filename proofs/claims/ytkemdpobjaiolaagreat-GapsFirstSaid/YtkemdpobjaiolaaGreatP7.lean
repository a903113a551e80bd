/- The engine, parts G5, G6, G7, G8, put together. Conditions: none. -/
import Derived.Test.YtkemdpobjaiolaaGreatP6
import Derived.Test.YtkemdpobjaiolaaGreatVgAgenda
import Derived.Test.YtkemdpobjaiolaaGreatFs
import Derived.Test.YtkemdpobjaiolaaGreatP4
import Derived.Test.YtkemdpobjaiolaaGreatVgStd
set_option linter.unusedVariables false
section
/- Agendas: pushing, removing, rekeying. Conditions: none. -/
set_option maxRecDepth 100000
open Go Go.Eng Go.Proofs
namespace Go.Proofs.YtkemdpobjaiolaaGreat

theorem _root_.Go.Eng.Chg.two {H H' : Hp} {u v : Slc} (c : Chg H H' u) : Chg2 H H' u v := fun b hb h1 _ => c b hb h1
theorem fE_one (x : Ev) : ∀ v ∈ fE x, v.oneCell' = true := fun v hv => by simp [fE] at hv; rcases hv with rfl | rfl | rfl | rfl | rfl <;> rfl

/-- What an own table and own slices come to, behind changes in the slices. -/
theorem MyA.new {H0 H9 H17 H : Hp} {s1 s2 s3 u4 u5 : Slc} {tb : Tb} {s : Hw} (nt : NewT H0 H17 s1 s2 s3 tb) (m : MyA H0 H u4 u5 s) (c : Chg2 H17 H u4 u5) (h4 : SepT s1 s2 s3 u4) (h5 : SepT s1 s2 s3 u5) : NewA H0 H s1 s2 s3 u4 u5 ⟨tb, s.1, s.2⟩ :=
  ⟨NewT.chg2 nt c h4 h5 m.heap.isNew m.wh.isNew, m.heap, m.wh, m.sep, h4, h5⟩

end Go.Proofs.YtkemdpobjaiolaaGreat
end
section
/- Agendas: removing and rekeying. Conditions: none. -/
set_option maxRecDepth 100000
open Go Go.Eng Go.Proofs
namespace Go.Proofs.YtkemdpobjaiolaaGreat

theorem MyA.up {H0 H H' : Hp} {u4 u5 : Slc} {s : Hw} (m : MyA H0 H u4 u5 s) (hl : Hp.le H H') : MyA H0 H' u4 u5 s := ⟨Hp.le_trans m.le hl, m.heap.le hl, m.wh.le hl, m.sep⟩
theorem MyA.low {H0 H1 H : Hp} {u4 u5 : Slc} {s : Hw} (m : MyA H1 H u4 u5 s) (hl : Hp.le H0 H1) : MyA H0 H u4 u5 s := ⟨Hp.le_trans hl m.le, m.heap.low hl, m.wh.low hl, m.sep⟩
theorem MyA.cut {H0 H : Hp} {u4 u5 : Slc} {s : Hw} (m : MyA H0 H u4 u5 s) {n : Nat} (hn : n ≤ s.1.length) : MyA H0 H ⟨u4.a, n, u4.c⟩ u5 (s.1.take n, s.2) :=
  ⟨m.le, Mine.cut (k := 5) (f := fE) (fun _ => rfl) m.heap hn, m.wh, fun p q hp hq => m.sep p q hp hq⟩
theorem MyA.put {H0 H : Hp} {u4 u5 : Slc} {s : Hw} (m : MyA H0 H u4 u5 s) {i y : Int} (h0 : 0 ≤ i) (h1 : i < s.2.length) {Q : Hp → Prop}
    (q : ∀ H', MyA H0 H' u4 u5 (s.1, s.2.set i.toNat y) → Chg2 H H' u4 u5 → Q H') :
    H.canStore (eaddr u5.a 1 i) 0 [.int .i64 y] ∧ ∀ H', H' = H.store (eaddr u5.a 1 i) 0 [.int .i64 y] → Q H' :=
  Mine.setI m.wh h0 h1 y fun H' m' c' => q H' ⟨Hp.le_chg m.le c' m.wh.isNew, m.heap.chg c' m.sep, m', m.sep⟩ fun b hb _ h2 => c' b hb h2

end Go.Proofs.YtkemdpobjaiolaaGreat
end
section
/- Agendas: the rest of the functions. Conditions: none. -/
set_option maxRecDepth 100000
open Go Go.Eng Go.Proofs
namespace Go.Proofs.YtkemdpobjaiolaaGreat

/-- What Rekey gives: own lists, and the table that was, or nothing. -/
structure ReA (H H' : Hp) (u1 u2 u3 v1 v2 v3 v4 v5 : Slc) (b : Ag) : Prop where
  or : (v1 = u1 ∧ v2 = u2 ∧ v3 = u3) ∨ (v1 = zs ∧ v2 = zs ∧ v3 = zs)
  tb : RdT H' v1 v2 v3 b.tb
  my : MyA H H' v4 v5 (b.heap, b.wh)
theorem ReA.zero {H H' : Hp} {u1 u2 u3 : Slc} (h : Hp.le H H') : ReA H H' u1 u2 u3 zs zs zs zs zs .zero := ⟨.inr ⟨rfl, rfl, rfl⟩, (NewT.zero h).rd, (NewA.zero h).my⟩
theorem ReA.le {H H' : Hp} {u1 u2 u3 v1 v2 v3 v4 v5 : Slc} {b : Ag} (r : ReA H H' u1 u2 u3 v1 v2 v3 v4 v5 b) : Hp.le H H' := r.my.le
theorem ReA.rd {H H' : Hp} {u1 u2 u3 v1 v2 v3 v4 v5 : Slc} {b : Ag} (r : ReA H H' u1 u2 u3 v1 v2 v3 v4 v5 b) : RdA H' v1 v2 v3 v4 v5 b := ⟨r.tb, r.my.heap.rdE, r.my.wh.rdI⟩

theorem refAPushed {H : Hp} {u1 u2 u3 u4 u5 : Slc} {a : Ag} {t : Int × Int} {n : Int} (r : RdA H u1 u2 u3 u4 u5 a) (ok : okA a) (ht : okR t) (hct : a.tb.canTake = true) :
    Go.Eng.Fn Tryz.prog F.pelotonref07_Pushed #[agV u1 u2 u3 u4 u5, .agg #[.int .i64 t.1, .int .i64 t.2], .int .i64 n] H fun v H' => ∃ v1 v2 v3 v4 v5 : Slc,
      v = .tuple #[agV v1 v2 v3 v4 v5, .agg #[.int .i64 (nextH a).1, .int .i64 (nextH a).2]] ∧ NewA H H' v1 v2 v3 v4 v5 (pushedA a t n) := by
  have f := okA.fitG ok
  have fh := f.hl; have fw := f.wl
  obtain ⟨p1, p2, p3, p4⟩ := push_parts (n := n) ok ht hct
  obtain ⟨hf, hu⟩ := canTake_iff.1 hct
  obtain ⟨tm, k0, k1⟩ := ok.tb.topR hf
  have hwl := ok.wl
  refine pelotonref07_Pushed_vc ((refATwin r f).mono fun v H2 ⟨t1, t2, t3, b, c, hv, nn⟩ => ⟨t1, t2, t3, b, c, hv, ?_⟩)
  refine (refTaken nn.tb.rd ok.tb hct).mono fun v H9 ⟨s1, s2, s3, hv, nt⟩ => ⟨s1, s2, s3, _, _, hv, fun b15 H16 hb15 hH16 => ?_⟩
  have le9 := Hp.le_trans nn.le nt.le
  have hmb := nn.heap.le nt.le
  have hmc := nn.wh.le nt.le
  refine (append1 (k := 5) (f := fE) (bytes := 40) (x := ⟨t, n, nextH a⟩) (e := T.api_Event) (by kernel_rfl) (by decide) (fun _ => rfl) fE_one le9 hmb hb15 hH16 rfl (by omega) (by omega)).mono fun v H18 ⟨w, hw, l18, mw, cw, ew⟩ => ⟨w, hw, ?_⟩
  have lw := mw.rdE.len
  have lw : w.n = a.heap.length + 1 := by rw [lw]; simp
  have mc := hmc.chg cw nn.s45.symm
  have my : MyA H H18 w c (a.heap ++ [⟨t, n, nextH a⟩], a.wh) := ⟨l18, mw, mc, nn.s45.ext hmc.isOld ew⟩
  have en : ((w.n : Int) - 1) = (a.heap.length : Nat) := by omega
  have sb : SepT s1 s2 s3 b := nt.sep nn.heap.isOld
  have sc : SepT s1 s2 s3 c := nt.sep nn.wh.isOld
  have sw : SepT s1 s2 s3 w := sb.ext nt.old ew
  have nt18 := NewT.chg2 (nt.low nn.le) (cw.two (v := c)) sb sc hmb.isNew hmc.isNew
  rw [en]
  refine ⟨by unfold inI; omega, mc.rdI.inS k0 (by omega), my.put k0 (by show _ < (a.wh.length : Int); omega) fun H20 m20 c20 => ⟨by unfold inI; omega, ?_⟩⟩
  have m20 : MyA H H20 w c (pushS a t n) := m20
  have hk := pushed_kept (n := n) ok ht hct
  refine (refUp m20 p1 (fun x hx => ?_) (by show _ < (a.heap ++ _).length; simp) (by show (a.heap ++ _).length ≤ _; have := ok.hl; have := ok.tb.top; simp; omega)).mono fun v H22 ⟨hv, m22, c22⟩ => ⟨_, hv, s1, s2, s3, w, c, rfl, ?_⟩
  · rcases List.mem_append.1 hx with hx | hx
    · exact (ok.each x hx).1
    · simp only [List.mem_singleton] at hx; subst hx; exact ht
  · exact MyA.new (H9 := H) nt18 m22 (c20.trans c22) sw sc

end Go.Proofs.YtkemdpobjaiolaaGreat
end
section
/- Agendas: new ones. Conditions: none. -/
set_option maxRecDepth 100000
open Go Go.Eng Go.Proofs
namespace Go.Eng
end Go.Eng
namespace Go.Proofs.YtkemdpobjaiolaaGreat

theorem refABegin {H : Hp} {N : Nat} (h1 : 1 ≤ N) (h2 : N ≤ 200) :
    Go.Eng.Fn Tryz.prog F.pelotonref07_Begin #[.int .i64 (N : Int)] H fun v H' => ∃ v1 v2 v3 v4 v5 : Slc, v = agV v1 v2 v3 v4 v5 ∧ NewA H H' v1 v2 v3 v4 v5 (beginA N) := by
  refine pelotonref07_Begin_vc ((refBegin h1 h2).mono fun v H2 ⟨s1, s2, s3, hv, nt⟩ => ⟨s1, s2, s3, hv, ?_⟩)
  refine ⟨fun n u9 u10 u11 u12 u13 H' => u9 = s1 ∧ u10 = s2 ∧ u11 = s3 ∧ u12 = zs ∧ ∃ k : Nat, n = k ∧ k ≤ N ∧ Hp.le H2 H' ∧ Mine 1 fI T.int H2 H' u13 (List.replicate k (-1)), fun n _ _ _ _ _ _ => (N - n).toNat, ⟨rfl, rfl, rfl, rfl, 0, rfl, by omega, Hp.le_refl _, .inl ⟨rfl, rfl⟩⟩, fun n u9 u10 u11 u12 u13 H' ⟨e1, e2, e3, e4, k, hn, hk, l, m⟩ => ?_⟩
  subst e1; subst e2; subst e3; subst e4; subst hn
  refine ⟨fun hlt b15 H16 hb15 hH16 => ?_, fun hge => ?_⟩
  · have hlt : k < N := by have : (k : Int) < N := by simpa using hlt
                           omega
    refine (append1 (k := 1) (f := fI) (bytes := 8) (x := -1) (e := T.int) (by kernel_rfl) (by decide) (fun _ => rfl) (fun x v hv => by simp [fI] at hv; subst hv; rfl) l m hb15 hH16 rfl (by simp; omega) (by omega)).mono fun v H18 ⟨w, hw, l18, mw, _, _⟩ => ⟨w, hw, by unfold inI; omega, ⟨rfl, rfl, rfl, rfl, k + 1, by omega, by omega, l18, ?_⟩, ?_⟩
    · rw [List.replicate_succ']; exact mw
    · show ((N : Int) - ((k : Int) + 1)).toNat < ((N : Int) - (k : Int)).toNat; omega
  · have hge : ¬ (k : Int) < N := by simpa using hge
    have : k = N := by omega
    subst this
    have o := nt.old
    exact ⟨u9, u10, u11, zs, u13, rfl, nt.up l, .inl ⟨rfl, rfl⟩, m.low nt.le, Sep.nil.symm, ⟨Sep.nil, Sep.nil, Sep.nil⟩, ⟨Sep.of o.1 m.isNew, Sep.of o.2.1 m.isNew, Sep.of o.2.2 m.isNew⟩⟩

end Go.Proofs.YtkemdpobjaiolaaGreat
end
