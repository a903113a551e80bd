/- The law GapsSums. Conditions: none. -/
import Derived.Test.YtodmhdfenpkbdaaGreatM7
import Derived.Test.YtodmhdfenpkbdaaGreatVgLGapsSums
import Derived.Test.YtodmhdfenpkbdaaGreatFs
set_option linter.unusedVariables false
set_option maxRecDepth 100000
open Go Go.Eng Go.Proofs
namespace Go.Proofs.YtodmhdfenpkbdaaGreat

theorem gapsM_get {l : Ls} {n : Int} (h0 : 0 ≤ n) (h1 : n < l.num.length) : (gapsM l).getD n.toNat ⟨0, 0, 0, 0⟩ = betwM l.ck.f (l.ord.getD n.toNat 0) (l.ord.getD (n + 1).toNat 0) := by
  have e : (n + 1).toNat = n.toNat + 1 := by omega
  have h : n.toNat < l.num.length := by omega
  rw [e]
  unfold gapsM gapsN
  simp [List.getD, h]
/-- The gap of two points of a field is a valid one. -/
theorem betw_ok {f : List Pt} (of : okF f) {a b : Int} (h1 : 0 ≤ posF f a) (h2 : 0 ≤ posF f b) (hab : a ≠ b) : okGp (betwM f a b) := by
  have p1 := of.pt h1; have p2 := of.pt h2
  have q1 := (posF_range h1).2.2; have q2 := (posF_range h2).2.2
  have c1 := p1.i0; have c2 := p1.i1; have c3 := p1.a0; have c4 := p1.a1; have c5 := p1.b0; have c6 := p1.b1
  have d1 := p2.i0; have d2 := p2.i1; have d3 := p2.a0; have d4 := p2.a1; have d5 := p2.b0; have d6 := p2.b1
  unfold okGp betwM
  simp only
  generalize gP f (posF f a) = p at *
  generalize gP f (posF f b) = q at *
  omega
/-- No two of a valid list's order are the same. -/
theorem okLs.apart {l : Ls} (ok : okLs l) {i k : Int} (i0 : 0 ≤ i) (ik : i < k) (kn : k < l.ord.length) : l.ord.getD i.toNat 0 ≠ l.ord.getD k.toNat 0 := by
  have hi := (sortM_sorted (okF_ids ok.ck.f) l.ck.now).ids (okF_ids ok.ck.f)
  have ho : l.ord = (sortM l.ck.f l.ck.now).map (·.1) := ok.ord
  have hp := List.pairwise_map.2 hi
  rw [← ho] at hp
  have := List.pairwise_iff_getElem.1 hp i.toNat k.toNat (by omega) (by omega) (by omega)
  rw [List.getD_eq_getElem?_getD, List.getD_eq_getElem?_getD, List.getElem?_eq_getElem (by omega), List.getElem?_eq_getElem (by omega)]
  exact this

set_option maxHeartbeats 1000000 in
theorem gapsSums {H : Hp} {u : Lu} {l : Ls} {i k : Int} (r : RdL H u l) (hn : fitR l.ck.now) (hh : ∀ y ∈ l.ck.ag.heap, fitR y.at_) : Qf Tryz.prog F.pelotonlaw27_GapsSums #[lsV u l, .int .i64 i, .int .i64 k] H (.bool true) := by
  refine pelotonlaw27_GapsSums_vc ⟨true, law27alive, greatL l, refLGreat r, chkLs l, fun hg => refLCheck r (fitL_of hn (by simpa using hg) hh), fun _ => ⟨rfl, Hp.le_refl _⟩, fun hb => ?_⟩
  simp only [Bool.or_eq_false_iff, bne_eq_false_iff_eq, decide_eq_false_iff_not] at hb
  obtain ⟨⟨⟨⟨⟨b1, b2⟩, b3⟩, b4⟩, b5⟩, _⟩ := hb
  have fl := fitL_of hn b1 hh
  have ok : okLs l := chkLs_zero.1 b2
  have lo := r.o.len
  have f1 := fl.o; have f2 := fl.n
  have i0 : 0 ≤ i := by omega
  have ik : i < k := by omega
  have kn : k < l.ord.length := by omega
  have nl := ok.nl
  have eo : ofM l = (gapsM l, 0) := by unfold ofM; rw [if_pos ok]
  have es : sumM l i k = (betwM l.ck.f (l.ord.getD i.toNat 0) (l.ord.getD k.toNat 0), 0) := by unfold sumM; rw [if_pos ok, if_neg (by omega)]
  refine (gapsOf r fl).mono fun v H5 ⟨s, hv, l5, m⟩ => ⟨s, _, hv, ?_⟩
  have q := gapsSum (i := i) (k := k) (r.le l5) fl
  rw [es] at q
  rw [eo] at m ⊢
  have rm : Rd 4 fGp H5 s (gapsM l) := m.rd (fun _ => rfl)
  have lm := rm.len
  have lg : (gapsM l).length = l.num.length := gapsN_len _ _
  have hP : ∀ n : Int, 0 ≤ n → n < l.ord.length → okP (gP l.ck.f (posF l.ck.f (l.ord.getD n.toNat 0))) := fun n n0 n1 => ok.ck.f.pt (ok.pos n0 n1)
  refine ⟨_, _, _, _, _, q, fun _ => by unfold inI; omega, fun hb => ?_, fun _ => ?_⟩
  · exfalso
    simp only [Bool.or_eq_true, bne_iff_ne, ne_eq] at hb
    rcases hb with (hb | hb) | hb
    · exact hb trivial
    · exact hb trivial
    · omega
  refine ⟨fun a b n H' => H' = H5 ∧ i ≤ n ∧ n ≤ k ∧ a = (gP l.ck.f (posF l.ck.f (l.ord.getD i.toNat 0))).2.1 - (gP l.ck.f (posF l.ck.f (l.ord.getD n.toNat 0))).2.1 ∧ b = (gP l.ck.f (posF l.ck.f (l.ord.getD i.toNat 0))).2.2 - (gP l.ck.f (posF l.ck.f (l.ord.getD n.toNat 0))).2.2,
    fun _ _ n _ => (k - n).toNat, ⟨rfl, Int.le_refl _, by omega, by omega, by omega⟩, fun a b n H' ⟨e, n0, n1, ea, eb⟩ => ?_⟩
  subst e
  refine ⟨fun hc => ?_, fun hc => ?_⟩
  · have hc : n < k := by simpa using hc
    obtain ⟨gs, g1, g2, g3, g4⟩ := Rd.gGp rm (i := n) (by omega) (by omega)
    rw [gapsM_get (by omega) (by omega)] at g3 g4
    have p1 := hP i i0 (by omega); have p2 := hP n (by omega) (by omega); have p3 := hP (n + 1) (by omega) (by omega)
    have c1 := p1.a0; have c2 := p1.a1; have c3 := p1.b0; have c4 := p1.b1
    have d1 := p2.a0; have d2 := p2.a1; have d3 := p2.b0; have d4 := p2.b1
    have e1 := p3.a0; have e2 := p3.a1; have e3 := p3.b0; have e4 := p3.b1
    refine ⟨gs, _, g3, ?_, gs, _, g4, ?_, by unfold inI; omega, ⟨rfl, by omega, by omega, ?_, ?_⟩, ?_⟩
    · unfold betwM inI; simp only; omega
    · unfold betwM inI; simp only; omega
    · unfold betwM; simp only; omega
    · unfold betwM; simp only; omega
    · show (k - (n + 1)).toNat < (k - n).toNat; omega
  · have hc : n = k := by have : ¬ n < k := by simpa using hc
                          omega
    subst hc
    have og := betw_ok ok.ck.f (ok.pos i0 (by omega)) (ok.pos (i := n) (by omega) kn) (ok.apart i0 ik kn)
    refine ⟨fun _ => r.o.inN i0 (by omega), _, fun _ => RdI.get (r.o.le l5) i0 (by omega), fun _ => r.o.inN (by omega) (by omega), _, fun _ => RdI.get (r.o.le l5) (by omega) kn, _, fun _ => gapsCheck, ?_, l5⟩
    rw [chkGp_ok og, ea, eb]
    unfold betwM
    simp
end Go.Proofs.YtodmhdfenpkbdaaGreat
