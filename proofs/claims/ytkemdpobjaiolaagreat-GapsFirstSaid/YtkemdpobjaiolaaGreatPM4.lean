/- The engine, parts M7, M8, put together. Conditions: none. -/
import Derived.Test.YtkemdpobjaiolaaGreatPL7
import Derived.Test.YtkemdpobjaiolaaGreatVgH27
import Derived.Test.YtkemdpobjaiolaaGreatFs
set_option linter.unusedVariables false
section
/- The gaps' law's own helpers. Conditions: none. -/
set_option maxRecDepth 100000
open Go Go.Eng Go.Proofs
namespace Go.Proofs.YtkemdpobjaiolaaGreat

def exF : List Pt := [(1, 0, 2), (2, 6, -1), (5, 0, 0)]
def exLs : Ls := (buildL exF (0, 1)).1
theorem exOk : okLs exLs := chkLs_zero.1 (by kernel_rfl)
def wantG : List Gp := [⟨2, 1, 6, -3⟩, ⟨1, 5, 0, 2⟩]
theorem exOf : ofM exLs = (wantG, 0) := by kernel_rfl
theorem exFirst : firstM exLs = (0, (2, 1), 0) := by kernel_rfl
theorem exSum : sumM exLs 0 2 = (⟨2, 5, 6, -1⟩, 0) := by kernel_rfl
theorem exCloses : (closesM ⟨1, 5, 0, 2⟩ (0, 1)).2 = 6 := by kernel_rfl
theorem exAt : atM ⟨1, 5, 0, 2⟩ (0, 1) = ((0, 1), 0) := by kernel_rfl
theorem fit01 : fitR (0, 1) := ⟨by show inI 0; unfold inI; omega, by show inI 1; unfold inI; omega⟩

theorem law27whole {H : Hp} {n : Int} : Qf Tryz.prog F.pelotonlaw27_whole #[.int .i64 n] H (sI2 n 1) := pelotonlaw27_whole_vc ⟨rfl, Hp.le_refl _⟩
theorem law27example {H : Hp} : Go.Eng.Fn Tryz.prog F.pelotonlaw27_example #[] H fun v H' => ∃ u : Lu, v = lsV u exLs ∧ Hp.le H H' ∧ RdL H' u exLs := by
  refine pelotonlaw27_example_vc fun b1 H2 hb hH => ⟨_, _, law27whole, ?_⟩
  have l2 : Hp.le H H2 := Hp.le_new (Hp.le_refl _) hb hH
  have rf : Rd 3 fD H2 ⟨some ⟨b1, 0, none⟩, 3, 3⟩ exF := rdConst (k := 3) (f := fD) (fun _ => rfl) hH rfl rfl
  exact (refBuildL (t := (0, 1)) rf fit01).mono fun v H6 ⟨u, hv, l6, r⟩ => ⟨l6, _, _, u.k.f, _, u.k.cl, u.k.u1, u.k.u2, u.k.u3, u.k.u4, u.k.u5, u.k.d, u.o, u.n, _, hv, u, rfl, Hp.le_trans l2 l6, r⟩
set_option maxHeartbeats 1000000 in
theorem law27alive {H : Hp} : Qf Tryz.prog F.pelotonlaw27_alive #[] H (.bool true) := by
  have fl := exOk.fit
  have e1 := exOf; have e2 := exFirst; have e3 := exSum; have e5 := exCloses
  refine pelotonlaw27_alive_vc (law27example.mono fun v H2 ⟨u, hv, l2, r⟩ => ⟨_, _, u.k.f, _, u.k.cl, u.k.u1, u.k.u2, u.k.u3, u.k.u4, u.k.u5, u.k.d, u.o, u.n, hv, ?_⟩)
  generalize exLs = l at r fl e1 e2 e3 ⊢
  have q0 := gapsOf r fl
  rw [e1] at q0
  refine q0.mono fun v H17 ⟨s, hv, l17, m⟩ => ⟨s, 0, hv, ?_⟩
  have q1 := gapsFirst (r.le l17) fl
  have q2 := gapsSum (i := 0) (k := 2) (r.le l17) fl
  rw [e2] at q1
  rw [e3] at q2
  refine ⟨0, 2, 1, 0, q1, 2, 5, 6, -1, 0, q2, fun b29 H30 hb hH => ?_⟩
  have l30 : Hp.le H17 H30 := Hp.le_new (Hp.le_refl _) hb hH
  have rW : Rd 4 fGp H30 ⟨some ⟨b29, 0, none⟩, 2, 2⟩ wantG := rdConst (k := 4) (f := fGp) (fun _ => rfl) hH rfl rfl
  obtain ⟨s1, g1, g2, g3, g4⟩ := Rd.gGp rW (i := 1) (by omega) (by decide)
  have eg : wantG.getD (1 : Int).toNat ⟨0, 0, 0, 0⟩ = ⟨1, 5, 0, 2⟩ := rfl
  rw [eg] at g1 g2 g3 g4
  have q5 := gapsCloses (H := H30) (g := ⟨1, 5, 0, 2⟩) (t := (0, 1)) fit01
  have q6 := gapsAt (H := H30) (g := ⟨1, 5, 0, 2⟩) (t := (0, 1)) fit01
  rw [exAt] at q6
  rw [e5] at q5
  have q7 := refGSame (gs := wantG) ((m.le l30).rd (fun _ => rfl)) rW (by decide)
  exact ⟨s1, 1, 5, 0, 2, ⟨g1, g2, g3, g4⟩, 0, 1, law27whole, _, _, _, q5, s1, 1, 5, 0, 2, ⟨g1, g2, g3, g4⟩, 0, 1, law27whole, 0, 1, 0, q6, true, fun _ => q7, 2, 1, fun _ => law27whole, 0, 1, fun _ => law27whole, rfl, Hp.le_trans l2 (Hp.le_trans l17 l30)⟩
end Go.Proofs.YtkemdpobjaiolaaGreat
end
section
/- The law GapsSums. Conditions: none. -/
set_option maxRecDepth 100000
open Go Go.Eng Go.Proofs
namespace Go.Proofs.YtkemdpobjaiolaaGreat

/-- The gap of two points of a field is a valid one. -/
theorem betw_ok {f : List Pt} (of : okF f) {a b : Int} (h1 : 0 ≤ posF f a) (h2 : 0 ≤ posF f b) (hab : a ≠ b) : okGp (betwM f a b) := by
  have p1 := of.pt h1; have p2 := of.pt h2
  have q1 := (posF_range h1).2.2; have q2 := (posF_range h2).2.2
  have c1 := p1.i0; have c2 := p1.i1; have c3 := p1.a0; have c4 := p1.a1; have c5 := p1.b0; have c6 := p1.b1
  have d1 := p2.i0; have d2 := p2.i1; have d3 := p2.a0; have d4 := p2.a1; have d5 := p2.b0; have d6 := p2.b1
  unfold okGp betwM
  simp only
  generalize gP f (posF f a) = p at *
  generalize gP f (posF f b) = q at *
  omega
/-- No two of a valid list's order are the same. -/
theorem okLs.apart {l : Ls} (ok : okLs l) {i k : Int} (i0 : 0 ≤ i) (ik : i < k) (kn : k < l.ord.length) : l.ord.getD i.toNat 0 ≠ l.ord.getD k.toNat 0 := by
  have hi := (sortM_sorted (okF_ids ok.ck.f) l.ck.now).ids (okF_ids ok.ck.f)
  have ho : l.ord = (sortM l.ck.f l.ck.now).map (·.1) := ok.ord
  have hp := List.pairwise_map.2 hi
  rw [← ho] at hp
  have := List.pairwise_iff_getElem.1 hp i.toNat k.toNat (by omega) (by omega) (by omega)
  rw [List.getD_eq_getElem?_getD, List.getD_eq_getElem?_getD, List.getElem?_eq_getElem (by omega), List.getElem?_eq_getElem (by omega)]
  exact this

end Go.Proofs.YtkemdpobjaiolaaGreat
end
