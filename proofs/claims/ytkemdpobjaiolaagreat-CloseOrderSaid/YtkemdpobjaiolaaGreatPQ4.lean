/- The engine, parts CL, CE, put together. Conditions: none. -/
import Derived.Test.YtkemdpobjaiolaaGreatPQ1
import Derived.Test.YtkemdpobjaiolaaGreatPN2
set_option linter.unusedVariables false
section
/- At a time that is asked for all places and distances are told; the distance of two points, whoever is ahead. Conditions: none. -/
set_option maxRecDepth 100000
open Go Go.Eng Go.Proofs
namespace Go.Proofs.YtkemdpobjaiolaaGreat

def askedR (t : Int × Int) : Prop := okR t ∧ -1073741824 ≤ t.1 ∧ t.1 ≤ 1073741824 ∧ t.2 ≤ 1024
instance (t : Int × Int) : Decidable (askedR t) := inferInstanceAs (Decidable (_ ∧ _))
theorem ediv_le {x g : Int} (h : 0 ≤ x) : x / g ≤ x := Int.ediv_le_self g h
theorem asked_place {p : Pt} {t : Int × Int} (op : okP p) (a : askedR t) : (placeM p t).2 = 0 ∧ absI (placeM p t).1.1 ≤ 2251799813685248 ∧ (placeM p t).1.2 ≤ 1024 := by
  obtain ⟨ot, a1, a2, a3⟩ := a
  have d1 := ot.d1
  have b := op.b
  have s1 := absI_mul_le (x := p.2.1) (y := t.2) (m := 1048576) (n := 1024) (absI_le (by omega) (by omega)) (absI_le (by omega) (by omega))
  have s2 := absI_mul_le (x := p.2.2) (y := t.1) (m := 1048576) (n := 1073741824) (absI_le (by omega) (by omega)) (absI_le (by omega) (by omega))
  have s3 : absI (numP p t) ≤ absI (p.2.1 * t.2) + absI (p.2.2 * t.1) := by unfold numP absI; split <;> split <;> split <;> omega
  have n0 := absI_nonneg (numP p t)
  have q1 : absI (numP p t) / gcdA (numP p t) t.2 ≤ absI (numP p t) := ediv_le n0
  have q2 : t.2 / gcdA (numP p t) t.2 ≤ t.2 := ediv_le (by omega)
  have g0 : 0 ≤ gcdA (numP p t) t.2 := by unfold gcdA; exact Int.natCast_nonneg _
  have q3 : 0 ≤ absI (numP p t) / gcdA (numP p t) t.2 := Int.ediv_nonneg n0 g0
  rw [placeM_ok op ot]
  unfold overM buildM
  rw [if_neg (by omega)]
  refine ⟨rfl, ?_, by show t.2 / _ ≤ 1024; omega⟩
  have q4 : absI (numP p t) / gcdA (numP p t) t.2 ≤ 2251799813685248 := by omega
  generalize absI (numP p t) / gcdA (numP p t) t.2 = z at *
  have q5 : absI (0 - z) ≤ 2251799813685248 := absI_le (by omega) (by omega)
  have q6 : absI z ≤ 2251799813685248 := absI_le (by omega) (by omega)
  have q7 : ∀ c : Bool, absI (if c = true then 0 - z else z) ≤ 2251799813685248 := fun c => by
    cases c
    · rw [if_neg (by simp)]; exact q6
    · rw [if_pos rfl]; exact q5
  exact q7 _
theorem asked_told {f : List Pt} (of : okF f) {t : Int × Int} (a : askedR t) : Told f t := ⟨of, a.1, fun k hk => (asked_place (sP_ok of hk) a).1⟩
theorem asked_sub {p q : Pt} {t : Int × Int} (op : okP p) (oq : okP q) (a : askedR t) : (subM (placeM p t).1 (placeM q t).1).2 = 0 := by
  obtain ⟨h1, h2, h3⟩ := asked_place op a
  obtain ⟨k1, k2, k3⟩ := asked_place oq a
  have o : ∀ {p : Pt}, okP p → (placeM p t).2 = 0 → okR (placeM p t).1 := fun {p} op h => by
    rw [placeM_ok op a.1] at h ⊢
    obtain ⟨_, _, _, _, x⟩ := overM_eq a.1.d1 h
    exact x
  unfold subM
  refine addM_told (o op h1) (okR_neg (o oq k1)) (P := 2251799813685248) (Q := 1024) h2 ?_ h3 k3 (by omega) (by omega)
  show absI (-(placeM q t).1.1) ≤ _
  generalize (placeM q t).1.1 = z at *
  unfold absI at *
  split <;> split at k2 <;> omega
theorem asked_near {f : List Pt} (of : okF f) {t : Int × Int} (a : askedR t) : nearT f t := fun i hi => asked_sub (sP_ok of (by omega)) (sP_ok of (by omega)) a
theorem asked_all {f : List Pt} (of : okF f) {t : Int × Int} (a : askedR t) : allT f t := fun k hk i hi => asked_sub (sP_ok of (by omega)) (sP_ok of hk) a

/-! ### Whoever is ahead -/

/-! ### No pair comes twice -/
theorem prM_inj {f : List Pt} (of : okF f) {t : Int × Int} {a b c d : Nat} (h1 : a < b) (h2 : b < f.length) (h3 : c < d) (h4 : d < f.length) (h : prM f t a b = prM f t c d) : a = c ∧ b = d := by
  have e1 : min (sP f t a).1 (sP f t b).1 = min (sP f t c).1 (sP f t d).1 := congrArg Prod.fst h
  have e2 : max (sP f t a).1 (sP f t b).1 = max (sP f t c).1 (sP f t d).1 := congrArg (fun x => x.2.1) h
  have same : ∀ {x y : Nat}, x < f.length → y < f.length → (sP f t x).1 = (sP f t y).1 → x = y := fun {x y} hx hy e => by
    rcases Nat.lt_trichotomy x y with k | k | k
    · exact absurd e (sP_ne of k hy)
    · exact k
    · exact absurd e.symm (sP_ne of k hx)
  have s1 := fun e => same (x := a) (y := c) (by omega) (by omega) e
  have s2 := fun e => same (x := b) (y := d) (by omega) (by omega) e
  have s3 := fun e => same (x := a) (y := d) (by omega) (by omega) e
  have s4 := fun e => same (x := b) (y := c) (by omega) (by omega) e
  have s5 := sP_ne of (t := t) h1 h2
  by_cases k : (sP f t a).1 = (sP f t c).1
  · have := s1 k
    have := s2 (by omega)
    omega
  · have k1 : (sP f t a).1 = (sP f t d).1 := by omega
    have k2 : (sP f t b).1 = (sP f t c).1 := by omega
    have := s3 k1
    have := s4 k2
    omega
theorem rowP_nodup {α : Type} {D : Nat → Nat → α} {i n : Nat} (h : ∀ b d, i < b → b < n → i < d → d < n → D i b = D i d → b = d) : (rowP D i n).Nodup := by
  unfold rowP List.Nodup
  rw [List.pairwise_map]
  have hr : ((List.range n).filter fun b => decide (i < b)).Nodup := List.nodup_range.sublist List.filter_sublist
  refine List.Pairwise.imp_of_mem (fun {a b} ha hb hab e => ?_) hr
  obtain ⟨a1, a2⟩ := List.mem_filter.1 ha
  obtain ⟨b1, b2⟩ := List.mem_filter.1 hb
  exact hab (h a b (by simpa using a2) (List.mem_range.1 a1) (by simpa using b2) (List.mem_range.1 b1) e)
theorem allP_nodup {α : Type} {D : Nat → Nat → α} {n : Nat} (h : ∀ a b c d, a < b → b < n → c < d → d < n → D a b = D c d → a = c ∧ b = d) : ∀ i, i ≤ n → (allP D n i).Nodup
  | 0, _ => List.Pairwise.nil
  | i + 1, hi => by
    rw [allP_succ]
    refine List.nodup_append.2 ⟨allP_nodup h i (by omega), rowP_nodup fun b d h1 h2 h3 h4 e => (h i b i d h1 h2 h3 h4 e).2, ?_⟩
    intro x hx y hy e
    subst e
    obtain ⟨a, b, h0, h1, h2, h3⟩ := mem_allP.1 hx
    obtain ⟨c, k1, k2, k3⟩ := mem_rowP.1 hy
    have := (h a b i c h1 h2 k1 k2 (h3.symm.trans k3)).1
    omega
theorem nbrP_nodup {α : Type} {D : Nat → Nat → α} {n m : Nat} (hm : m + 1 ≤ n) (h : ∀ a b c d, a < b → b < n → c < d → d < n → D a b = D c d → a = c ∧ b = d) : (nbrP D m).Nodup := by
  unfold nbrP List.Nodup
  rw [List.pairwise_map]
  refine List.Pairwise.imp_of_mem (fun {a b} ha hb hab e => ?_) (List.nodup_range (n := m))
  have h1 := List.mem_range.1 ha; have h2 := List.mem_range.1 hb
  exact hab (h a (a + 1) b (b + 1) (by omega) (by omega) (by omega) (by omega) e).1
theorem srt_strict {l s : List Pr} (h : ∀ y ∈ l, okPr y) (hn : l.Nodup) (hp : s.Perm l) (hs : Srt clP s) : s.Pairwise fun a b => clP a b = true := by
  have nd : s.Nodup := hp.symm.nodup hn
  unfold List.Nodup at nd
  have := List.Pairwise.and nd hs
  refine List.Pairwise.imp_of_mem (fun {a b} ha hb hab => ?_) this
  exact clP_less (h _ (hp.mem_iff.1 ha)) (h _ (hp.mem_iff.1 hb)) hab.1 hab.2

/-! ### The nearest one -/
def pairT (f : List Pt) (t : Int × Int) (k : Nat) : Prop := (spot f t k).2 = 0 ∧ (spot f t (k + 1)).2 = 0 ∧ (gapD f t k (k + 1)).2 = 0
instance (f : List Pt) (t : Int × Int) (k : Nat) : Decidable (pairT f t k) := inferInstanceAs (Decidable (_ ∧ _))
def pairN (f : List Pt) (t : Int × Int) (k : Nat) : Pr × Int := if pairT f t k then (prM f t k (k + 1), 0) else (zPr, 16)
def nearer (f : List Pt) (t : Int × Int) (i : Nat) : Pr := if cmpR (prM f t i (i + 1)).2.2 (prM f t (i - 1) i).2.2 < 0 ∨ (cmpR (prM f t i (i + 1)).2.2 (prM f t (i - 1) i).2.2 = 0 ∧ (sP f t (i + 1)).1 < (sP f t (i - 1)).1) then prM f t i (i + 1) else prM f t (i - 1) i
def nearI (f : List Pt) (t : Int × Int) (i : Nat) : Pr × Int :=
  if i = 0 then pairN f t 0 else if i + 1 = f.length then pairN f t (i - 1) else if pairT f t (i - 1) ∧ pairT f t i then (nearer f t i, 0) else (zPr, 16)
def nearestM (l : Ls) (id : Int) : Pr × Int := if (kRankM l id).2 ≠ 0 then (zPr, (kRankM l id).2) else if l.ord.length < 2 then (zPr, 42) else nearI l.ck.f l.ck.now (kRankM l id).1.toNat

theorem best_le {f : List Pt} {t : Int × Int} (w : Told f t) (hn : nearT f t) (h2 : 2 ≤ f.length) {p : Pr} (hp : p ∈ toldAll f t) : leR (bestPr f t).2.2 p.2.2 := (clP_no.1 ((w.best hn h2).2 _ hp)).1

/-! ### All within a distance -/
theorem all_told {f : List Pt} {t : Int × Int} (ha : allT f t) : ∀ p, p ∈ allPr f t ↔ p ∈ toldAll f t := fun p => by
  unfold allPr
  rw [mem_allP, mem_toldAll]
  constructor
  · rintro ⟨a, b, h0, h1, h2, rfl⟩; exact ⟨a, b, h1, h2, ha b h2 a h1, rfl⟩
  · rintro ⟨a, b, h1, h2, _, rfl⟩; exact ⟨a, b, by omega, h1, h2, rfl⟩
theorem all_near {f : List Pt} {t : Int × Int} (ha : allT f t) : nearT f t := fun i hi => ha (i + 1) (by omega) i (by omega)
structure InOrder (f : List Pt) (t d : Int × Int) (x n : List Pr) : Prop where
  xs : ∀ p ∈ x, okR p.2.2 ∧ 0 ≤ p.2.2.1 ∧ leR p.2.2 d
  xo : x.Pairwise fun a b => clP a b = true
  ns : ∀ p ∈ n, okR p.2.2
  no : n.Pairwise fun a b => clP a b = true
  nx : ∀ p ∈ n, p ∈ x ↔ leR p.2.2 d
  nl : n.length = f.length - 1
  few : f.length < 2 → x = []
  best : 2 ≤ f.length → (0 < x.length ↔ leR (bestPr f t).2.2 d) ∧ (∀ p, x[0]? = some p → p = bestPr f t)
theorem inOrder {f : List Pt} {t d : Int × Int} (w : Told f t) (ha : allT f t) (od : okR d) : InOrder f t d (withinM f t d).1 (nearM f t).1 := by
  have hn := all_near ha
  have ao := w.allOk ha
  have eo : withinM f t d = (sortP ((allPr f t).filter fun p => decide (cmpR p.2.2 d ≤ 0)), 0) := by unfold withinM; rw [if_pos ⟨w.T, ha⟩]
  have en : nearM f t = (sortP (nearP f t), 0) := by unfold nearM; rw [if_pos ⟨w.T, hn⟩]
  rw [eo, en]
  have inj : ∀ a b c e, a < b → b < f.length → c < e → e < f.length → prM f t a b = prM f t c e → a = c ∧ b = e := fun a b c e h1 h2 h3 h4 h => prM_inj w.of h1 h2 h3 h4 h
  have nd : (allPr f t).Nodup := allP_nodup inj _ (Nat.le_refl _)
  have fo : ∀ p ∈ (allPr f t).filter fun p => decide (cmpR p.2.2 d ≤ 0), okPr p := fun p hp => ao p (List.mem_filter.1 hp).1
  have mx : ∀ p, p ∈ sortP ((allPr f t).filter fun p => decide (cmpR p.2.2 d ≤ 0)) ↔ p ∈ allPr f t ∧ leR p.2.2 d := fun p => by
    rw [(sortP_perm _).mem_iff, List.mem_filter, decide_eq_true_iff, cmpR_le]
  have mn : ∀ p, p ∈ sortP (nearP f t) ↔ p ∈ nearP f t := fun p => (sortP_perm _).mem_iff
  refine ⟨fun p hp => ?_, srt_strict fo (nd.sublist List.filter_sublist) (sortP_perm _) (sortP_srt fo), fun p hp => w.nearOk hn p ((mn p).1 hp), ?_, fun p hp => ?_, ?_, fun h => ?_, fun h2 => ⟨?_, fun p hp => ?_⟩⟩
  · obtain ⟨h1, h2⟩ := (mx p).1 hp
    refine ⟨ao p h1, ?_, h2⟩
    obtain ⟨a, b, h0, h3, h4, rfl⟩ := mem_allP.1 h1
    obtain ⟨og, eg⟩ := w.gap (by omega) h4 (ha b h4 a h3)
    have v := sP_val w.of (t := t) h3 h4
    show 0 ≤ (gapD f t a b).1.1
    have ht : 0 < t.2 := w.ot.d1
    rcases Int.lt_or_le (gapD f t a b).1.1 0 with k | k
    · have x1 := Int.mul_neg_of_neg_of_pos k ht
      have x2 := Int.mul_nonneg (show 0 ≤ valP (sP f t a) t - valP (sP f t b) t by omega) (show 0 ≤ (gapD f t a b).1.2 by have := og.d1; omega)
      omega
    · exact k
  · rcases Nat.eq_zero_or_pos f.length with h0 | h0
    · have : nearP f t = [] := by unfold nearP nbrP; rw [h0]; rfl
      rw [this]; exact List.Pairwise.nil
    · exact srt_strict (w.nearOk hn) (nbrP_nodup (n := f.length) (by omega) inj) (sortP_perm _) (sortP_srt (w.nearOk hn))
  · rw [mx]
    have h1 := (mn p).1 hp
    have h3 := (all_told ha p).2 (nearP_told hn p h1)
    exact ⟨fun h => h.2, fun h => ⟨h3, h⟩⟩
  · rw [(sortP_perm _).length_eq]
    unfold nearP nbrP
    rw [List.length_map, List.length_range]
  · rw [List.eq_nil_iff_forall_not_mem]
    intro p hp
    obtain ⟨a, b, h0, h3, h4, _⟩ := mem_allP.1 ((mx p).1 hp).1
    omega
  · have hb := w.best hn h2
    constructor
    · intro hl
      obtain ⟨p, hp⟩ := List.exists_mem_of_length_pos hl
      obtain ⟨h1, h3⟩ := (mx p).1 hp
      have h4 := (all_told ha p).1 h1
      exact leR_trans (w.okPr _ hb.1) (w.okPr _ h4) od (best_le w hn h2 h4) h3
    · intro hl
      exact List.length_pos_of_mem ((mx _).2 ⟨(all_told ha _).2 hb.1, hl⟩)
  · have hb := w.best hn h2
    have hl := sortP_head fo hp
    obtain ⟨h1, h3⟩ := List.mem_filter.1 hl.1
    rw [decide_eq_true_iff, cmpR_le] at h3
    have h4 := (all_told ha p).1 h1
    have hbd := leR_trans (w.okPr _ hb.1) (w.okPr _ h4) od (best_le w hn h2 h4) h3
    exact clP_anti _ _ (ao p h1) (w.okPr _ hb.1) (hb.2 _ h4) (hl.2 _ (List.mem_filter.2 ⟨(all_told ha _).2 hb.1, by rw [decide_eq_true_iff, cmpR_le]; exact hbd⟩))
end Go.Proofs.YtkemdpobjaiolaaGreat
end
