/- The law CloseLeast. Conditions: none. -/
import Derived.Test.YtkemdpobjaiolaaGreatPQ5
import Derived.Test.YtkemdpobjaiolaaGreatPQ2
import Derived.Test.YtkemdpobjaiolaaGreatVgLCloseLeast
import Derived.Test.YtkemdpobjaiolaaGreatFs
set_option linter.unusedVariables false
set_option maxRecDepth 100000
open Go Go.Eng Go.Proofs
namespace Go.Proofs.YtkemdpobjaiolaaGreat

def pG (f : List Pt) (x : Nat) : Pt := f.getD x (0, 0, 0)
def dOf (f : List Pt) (t : Int × Int) (x y : Nat) : Int × Int := (subM (placeM (pG f x) t).1 (placeM (pG f y) t).1).1
def qOf (f : List Pt) (t : Int × Int) (x y : Nat) : Pr := ((pG f x).1, (pG f y).1, absR (dOf f t x y))
theorem pG_get {f : List Pt} {x : Nat} (h : x < f.length) : f[x]? = some (pG f x) := by
  unfold pG; rw [List.getD_eq_getElem?_getD, List.getElem?_eq_getElem h]; rfl
theorem pG_mem {f : List Pt} {x : Nat} (h : x < f.length) : pG f x ∈ f := List.mem_of_getElem? (pG_get h)
theorem pG_lt {f : List Pt} (of : okF f) {x y : Nat} (h : x < y) (hy : y < f.length) : (pG f x).1 < (pG f y).1 := by
  have hi := List.pairwise_map.1 of.inc
  obtain ⟨a1, a2⟩ := List.getElem?_eq_some_iff.1 (pG_get (show x < f.length by omega))
  obtain ⟨b1, b2⟩ := List.getElem?_eq_some_iff.1 (pG_get hy)
  have := List.pairwise_iff_getElem.1 hi x y a1 b1 h
  rw [a2, b2] at this
  exact this
theorem pr_core {f : List Pt} {t : Int × Int} (of : okF f) (a : askedR t) {x y i k : Nat} (hxy : x < y) (hy : y < f.length) (hik : i < k) (hk : k < f.length) (h : (sP f t i = pG f x ∧ sP f t k = pG f y) ∨ (sP f t i = pG f y ∧ sP f t k = pG f x)) : prM f t i k = qOf f t x y := by
  have W := asked_told of a
  have hl := pG_lt of hxy hy
  have hz := asked_sub (of.each _ (pG_mem (show x < f.length by omega))) (of.each _ (pG_mem hy)) a
  have e := apart_in W (pG_mem (show x < f.length by omega)) (pG_mem hy) (by omega) hz hik hk h (asked_all of a k hk i hik)
  have m := min_max (x := (sP f t i).1) (y := (sP f t k).1) (u := (pG f x).1) (v := (pG f y).1) (by
    rcases h with ⟨h1, h2⟩ | ⟨h1, h2⟩
    · exact .inl ⟨by rw [h1], by rw [h2]⟩
    · exact .inr ⟨by rw [h1], by rw [h2]⟩) hl
  unfold prM qOf dOf
  rw [m.1, m.2, e]
theorem qOf_pr {f : List Pt} {t : Int × Int} (of : okF f) (a : askedR t) {x y : Nat} (hxy : x < y) (hy : y < f.length) : ∃ i k, i < k ∧ k < f.length ∧ prM f t i k = qOf f t x y := by
  have hx : x < f.length := by omega
  obtain ⟨r1, s1⟩ := sP_at of t (pG_mem hx)
  obtain ⟨r2, s2⟩ := sP_at of t (pG_mem hy)
  have hl := pG_lt of hxy hy
  rcases Nat.lt_trichotomy (rankM f (pG f x) t) (rankM f (pG f y) t) with h | h | h
  · exact ⟨_, _, h, r2, pr_core of a hxy hy h r2 (.inl ⟨s1, s2⟩)⟩
  · rw [h, s2] at s1; rw [s1] at hl; omega
  · exact ⟨_, _, h, r1, pr_core of a hxy hy h r1 (.inr ⟨s2, s1⟩)⟩
theorem pr_qOf {f : List Pt} {t : Int × Int} (of : okF f) (a : askedR t) {i k : Nat} (hik : i < k) (hk : k < f.length) : ∃ x y, x < y ∧ y < f.length ∧ prM f t i k = qOf f t x y := by
  obtain ⟨x, hx⟩ := List.mem_iff_getElem?.1 (sP_mem (f := f) (t := t) (show i < f.length by omega))
  obtain ⟨y, hy⟩ := List.mem_iff_getElem?.1 (sP_mem (f := f) (t := t) hk)
  have lx := (List.getElem?_eq_some_iff.1 hx).1
  have ly := (List.getElem?_eq_some_iff.1 hy).1
  have ex : sP f t i = pG f x := by have := pG_get lx; rw [hx] at this; exact Option.some.inj this
  have ey : sP f t k = pG f y := by have := pG_get ly; rw [hy] at this; exact Option.some.inj this
  have ne := sP_ne of (t := t) hik hk
  rcases Nat.lt_trichotomy x y with h | h | h
  · exact ⟨x, y, h, ly, pr_core of a h ly hik hk (.inl ⟨ex, ey⟩)⟩
  · rw [ex, ey, h] at ne; exact absurd rfl ne
  · exact ⟨y, x, h, lx, pr_core of a h lx hik hk (.inr ⟨ex, ey⟩)⟩
theorem place_okR {p : Pt} {t : Int × Int} (op : okP p) (ot : okR t) (h : (placeM p t).2 = 0) : okR (placeM p t).1 := by
  rw [placeM_ok op ot] at h ⊢; exact (overM_eq ot.d1 h).choose_spec.2.2.2
set_option maxHeartbeats 2000000 in
theorem lawCloseLeast {H : Hp} {u : Lu} {l : Ls} (r : RdL H u l) (hn : fitR l.ck.now) (hh : ∀ y ∈ l.ck.ag.heap, fitR y.at_) :
    Qf Tryz.prog F.pelotonlaw28_CloseLeast #[lsV u l] H (.bool true) := by
  have wn : (u.k.f.n : Int) = l.ck.f.length := by have := r.k.f.len; omega
  refine pelotonlaw28_CloseLeast_vc ⟨true, law28alive, _, law28asked r hn hh, fun _ => ⟨rfl, Hp.le_refl _⟩, fun hb => ?_⟩
  have hb : askedB l = true := by
    cases h : askedB l with
    | true => rfl
    | false => rw [h] at hb; simp at hb
  obtain ⟨hg, ok, ak⟩ := askedB_ok hb
  have fl := fitL_of hn hg hh
  have of := ok.ck.f
  have ot := ok.ck.now
  have W := asked_told of ak
  have N := asked_near of ak
  have A := asked_all of ak
  have qc := closeClosest r fl
  have ec : closestL l = closestM l.ck.f l.ck.now := by unfold closestL; rw [if_pos ok]
  rw [ec] at qc
  rw [wn]
  have sm := of.len
  have hf := r.k.f
  refine ⟨_, _, _, _, _, qc, fun hl => ?_, fun hl => ?_⟩
  · have hl : l.ck.f.length < 2 := by have := of_decide_eq_true hl; omega
    unfold closestM; rw [if_pos hl]; exact ⟨rfl, Hp.le_refl _⟩
  have hl : ¬ l.ck.f.length < 2 := by have := of_decide_eq_false hl; omega
  have e0 : closestM l.ck.f l.ck.now = (bestPr l.ck.f l.ck.now, 0) := by unfold closestM; rw [if_neg hl, if_pos ⟨W.T, N⟩]
  rw [e0]
  have best := W.best N (by omega)
  have oB : okPr (bestPr l.ck.f l.ck.now) := W.okPr _ best.1
  obtain ⟨i0, k0, h1, h2, h3, eB⟩ := mem_toldAll.1 best.1
  obtain ⟨x0, y0, hxy, hy0, eq0⟩ := pr_qOf of ak h1 h2
  have eB0 : bestPr l.ck.f l.ck.now = qOf l.ck.f l.ck.now x0 y0 := by rw [eB, eq0]
  have far : ∀ x y, x < y → y < l.ck.f.length → clP (qOf l.ck.f l.ck.now x y) (bestPr l.ck.f l.ck.now) = false ∧ okPr (qOf l.ck.f l.ck.now x y) := fun x y hx hy => by
    obtain ⟨i, k, a1, a2, a3⟩ := qOf_pr of ak hx hy
    have m : qOf l.ck.f l.ck.now x y ∈ toldAll l.ck.f l.ck.now := mem_toldAll.2 ⟨i, k, a1, a2, A k a2 i a1, a3.symm⟩
    exact ⟨best.2 _ m, W.okPr _ m⟩
  generalize bestPr l.ck.f l.ck.now = B at *
  have qk := refRCheck (H := H) (r := (B.2.2.1, B.2.2.2)) oB.fit
  have ek : chkR (B.2.2.1, B.2.2.2) = 0 := chkR_ok oB
  rw [ek] at qk
  refine ⟨0, fun _ => qk, fun h => by simp at h, fun _ => ?_⟩
  refine ⟨fun c n H' => ∃ i : Nat, n = i ∧ i ≤ l.ck.f.length ∧ H' = H ∧ (c = true ↔ ∃ x y, x < y ∧ y < l.ck.f.length ∧ x < i ∧ qOf l.ck.f l.ck.now x y = B), fun _ n _ => (l.ck.f.length - n).toNat, ⟨0, rfl, by omega, rfl, ⟨fun h => (by cases h), fun ⟨x, y, _, _, h, _⟩ => (by omega)⟩⟩, ?_⟩
  rintro c11 n12 H13 ⟨i, rfl, hi, rfl, hc⟩
  refine ⟨fun hm => ?_, fun hm => ?_⟩
  · have hm : i < l.ck.f.length := by have := of_decide_eq_true hm; omega
    refine ⟨by unfold inI; omega, fun c n H' => ∃ k : Nat, n = k ∧ i < k ∧ k ≤ l.ck.f.length ∧ H' = H13 ∧ (c = true ↔ ∃ x y, x < y ∧ y < l.ck.f.length ∧ (x < i ∨ (x = i ∧ y < k)) ∧ qOf l.ck.f l.ck.now x y = B), fun _ n _ => (l.ck.f.length - n).toNat, ⟨i + 1, by omega, by omega, by omega, rfl, ?_⟩, ?_⟩
    · rw [hc]
      exact ⟨fun ⟨x, y, a, b, c, d⟩ => ⟨x, y, a, b, .inl c, d⟩, fun ⟨x, y, a, b, c, d⟩ => ⟨x, y, a, b, by omega, d⟩⟩
    rintro c16 n17 H18 ⟨k, rfl, hik, hk, rfl, hc⟩
    refine ⟨fun hm2 => ?_, fun hm2 => ?_⟩
    · have hm2 : k < l.ck.f.length := by have := of_decide_eq_true hm2; omega
      have g1 := hf.gD (i := (i : Int)) (by omega) (by omega)
      have g2 := hf.gD (i := (k : Int)) (by omega) (by omega)
      rw [Int.toNat_natCast] at g1 g2
      have s1 := hf.inS (i := (i : Int)) (by omega) (by omega)
      have s2 := hf.inS (i := (k : Int)) (by omega) (by omega)
      have m1 := of.each _ (pG_mem (f := l.ck.f) hm)
      have m2 := of.each _ (pG_mem (f := l.ck.f) hm2)
      have t1 := (asked_place m1 ak).1
      have t2 := (asked_place m2 ak).1
      have o1 := place_okR m1 ot t1
      have o2 := place_okR m2 ot t2
      have ts := asked_sub m1 m2 ak
      have os : okR (dOf l.ck.f l.ck.now i k) := (subM_ok o1 o2 ts).1
      have qs := refSub (H := H18) o1 o2
      obtain ⟨f1, f2⟩ := far i k hik hm2
      have mz : ((l.ck.f.length : Int) - ((k : Int) + 1)).toNat < ((l.ck.f.length : Int) - (k : Int)).toNat := by omega
      have nxt : ∀ p : Pr, p = qOf l.ck.f l.ck.now i k → inI ((k : Int) + 1) ∧ (∃ k' : Nat, (k : Int) + 1 = k' ∧ i < k' ∧ k' ≤ l.ck.f.length ∧ H18 = H18 ∧ ((c16 || p.1 == B.1 && p.2.1 == B.2.1 && p.2.2.1 == B.2.2.1 && p.2.2.2 == B.2.2.2) = true ↔ ∃ x y, x < y ∧ y < l.ck.f.length ∧ (x < i ∨ (x = i ∧ y < k')) ∧ qOf l.ck.f l.ck.now x y = B)) ∧ ((l.ck.f.length : Int) - ((k : Int) + 1)).toNat < ((l.ck.f.length : Int) - (k : Int)).toNat := fun p hp => by
        refine ⟨by unfold inI; omega, ⟨k + 1, by omega, by omega, by omega, rfl, ?_⟩, mz⟩
        rw [eqPr p B, Bool.or_eq_true, decide_eq_true_iff, hc]
        constructor
        · rintro (⟨x, y, a, b, c, d⟩ | h)
          · exact ⟨x, y, a, b, by omega, d⟩
          · exact ⟨i, k, hik, hm2, .inr ⟨rfl, by omega⟩, by rw [← hp]; exact h⟩
        · rintro ⟨x, y, a, b, c, d⟩
          by_cases e : x = i ∧ y = k
          · right; rw [hp, ← d, e.1, e.2]
          · exact .inl ⟨x, y, a, b, by omega, d⟩
      refine ⟨s1, _, _, _, g1, _, _, _, courseAt ot.fit, s2, _, _, _, g2, _, _, _, courseAt ot.fit, _, _, _, qs, fun he => ?_, fun _ => ⟨fun hd => ?_, fun hd => ?_⟩⟩
      · exfalso
        have t1 : (placeM (l.ck.f.getD i (0, 0, 0)) l.ck.now).2 = 0 := t1
        have t2 : (placeM (l.ck.f.getD k (0, 0, 0)) l.ck.now).2 = 0 := t2
        have ts : (subM (placeM (pG l.ck.f i) l.ck.now).1 (placeM (pG l.ck.f k) l.ck.now).1).2 = 0 := ts
        rw [t1, t2, ts] at he; simp at he
      · have hd : (dOf l.ck.f l.ck.now i k).1 < 0 := of_decide_eq_true hd
        have ep : (((pG l.ck.f i).1, (pG l.ck.f k).1, (0 - (dOf l.ck.f l.ck.now i k).1, (dOf l.ck.f l.ck.now i k).2)) : Pr) = qOf l.ck.f l.ck.now i k := by
          unfold qOf; rw [absR_neg, if_pos hd, Int.zero_sub]
        have o1 := os.n1; have o2 := os.n2
        have q := closerV (H := H18) (a := ((pG l.ck.f i).1, (pG l.ck.f k).1, (0 - (dOf l.ck.f l.ck.now i k).1, (dOf l.ck.f l.ck.now i k).2))) (b := B) (by rw [ep]; exact f2) oB
        refine ⟨by show inI (0 - (dOf l.ck.f l.ck.now i k).1); unfold inI; omega, s1, _, g1.1, s2, _, g2.1, _, q, fun hz => ?_, fun _ => nxt _ ep⟩
        rw [ep, f1] at hz; cases hz
      · have hd : ¬ (dOf l.ck.f l.ck.now i k).1 < 0 := of_decide_eq_false hd
        have ep : (((pG l.ck.f i).1, (pG l.ck.f k).1, ((dOf l.ck.f l.ck.now i k).1, (dOf l.ck.f l.ck.now i k).2)) : Pr) = qOf l.ck.f l.ck.now i k := by
          unfold qOf; rw [absR_neg, if_neg hd]
        have q := closerV (H := H18) (a := ((pG l.ck.f i).1, (pG l.ck.f k).1, ((dOf l.ck.f l.ck.now i k).1, (dOf l.ck.f l.ck.now i k).2))) (b := B) (by rw [ep]; exact f2) oB
        refine ⟨s1, _, g1.1, s2, _, g2.1, _, q, fun hz => ?_, fun _ => nxt _ ep⟩
        rw [ep, f1] at hz; cases hz
    · have hm2 : k = l.ck.f.length := by have := of_decide_eq_false hm2; omega
      subst hm2
      refine ⟨by unfold inI; omega, ⟨i + 1, by omega, by omega, rfl, ?_⟩, by show ((l.ck.f.length : Int) - ((i : Int) + 1)).toNat < ((l.ck.f.length : Int) - (i : Int)).toNat; omega⟩
      rw [hc]
      exact ⟨fun ⟨x, y, a, b, c, d⟩ => ⟨x, y, a, b, by omega, d⟩, fun ⟨x, y, a, b, c, d⟩ => ⟨x, y, a, b, by omega, d⟩⟩
  · have hm : i = l.ck.f.length := by have := of_decide_eq_false hm; omega
    have : c11 = true := hc.2 ⟨x0, y0, hxy, hy0, by omega, eB0.symm⟩
    rw [this]; exact ⟨rfl, Hp.le_refl _⟩
end Go.Proofs.YtkemdpobjaiolaaGreat
