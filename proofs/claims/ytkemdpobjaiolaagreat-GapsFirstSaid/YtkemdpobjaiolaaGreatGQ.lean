/- The first gap that closes is the next event. Conditions: none. -/
import Derived.Test.YtkemdpobjaiolaaGreatKM
import Derived.Test.YtkemdpobjaiolaaGreatPM4
set_option linter.unusedVariables false
set_option maxRecDepth 100000
open Go Go.Eng Go.Proofs
namespace Go.Proofs.YtkemdpobjaiolaaGreat

/-! ### As many places as things -/
theorem pigeon : ∀ (n : Nat) (l : List Nat), l.Nodup → (∀ x ∈ l, x < n) → l.length ≤ n
  | 0, l, _, h => by
    cases l with
    | nil => simp
    | cons a l => have := h a List.mem_cons_self; omega
  | n + 1, l, hd, h => by
    have ih := pigeon n (l.filter fun x => x != n) (hd.sublist List.filter_sublist) fun x hx => by
      obtain ⟨h1, h2⟩ := List.mem_filter.1 hx
      have := h x h1
      have h2 : x ≠ n := by simpa using h2
      omega
    have c := List.length_eq_countP_add_countP (fun x => x != n) (l := l)
    rw [List.countP_eq_length_filter] at c
    have c2 : l.countP (fun x => decide ¬ (x != n) = true) ≤ 1 := by
      have : l.countP (fun x => decide ¬ (x != n) = true) = l.count n := by
        unfold List.count
        congr 1; funext x
        by_cases e : x = n <;> simp [e]
      rw [this]
      exact List.nodup_iff_count.1 hd n
    omega
theorem all_hit {n : Nat} {f : Nat → Nat} (hi : ∀ i j, i < n → j < n → f i = f j → i = j) (hl : ∀ i, i < n → f i < n) {k : Nat} (hk : k < n) : ∃ i, i < n ∧ f i = k := by
  by_cases h : ∃ i, i < n ∧ f i = k
  · exact h
  · exfalso
    have nd : ((List.range n).map f).Nodup := by
      unfold List.Nodup
      rw [List.pairwise_map]
      have := List.nodup_range (n := n)
      unfold List.Nodup at this
      refine List.Pairwise.imp_of_mem (fun {a b} ha hb hab e => ?_) this
      exact hab (hi a b (List.mem_range.1 ha) (List.mem_range.1 hb) e)
    have nd2 : (k :: (List.range n).map f).Nodup := List.nodup_cons.2 ⟨fun hm => by
      obtain ⟨i, h1, h2⟩ := List.mem_map.1 hm
      exact h ⟨i, List.mem_range.1 h1, h2⟩, nd⟩
    have := pigeon n _ nd2 fun x hx => by
      rcases List.mem_cons.1 hx with rfl | hx
      · exact hk
      · obtain ⟨i, h1, h2⟩ := List.mem_map.1 hx
        rw [← h2]; exact hl i (List.mem_range.1 h1)
    simp at this
    omega

/-! ### The first of the gaps -/
structure BestS (now : Int × Int) (gs : List Gp) : Prop where
  no : (bestM now gs).1 < 0 → ∀ (j : Nat) (g : Gp), gs[j]? = some g → (closesM g now).2 ≠ 0
  yes : 0 ≤ (bestM now gs).1 → ∃ g, gs[(bestM now gs).1.toNat]? = some g ∧ closesM g now = ((bestM now gs).2, 0)
  least : ∀ (j : Nat) (g : Gp), gs[j]? = some g → (closesM g now).2 = 0 → 0 ≤ (bestM now gs).1 ∧ leR (bestM now gs).2 (closesM g now).1 ∧ (leR (closesM g now).1 (bestM now gs).2 → (bestM now gs).1 ≤ j)
theorem bestM_spec (now : Int × Int) : ∀ (n : Nat) (gs : List Gp), gs.length = n → BestS now gs
  | 0, gs, h => by
    have : gs = [] := List.length_eq_zero_iff.1 h
    subst this
    exact ⟨fun _ j g hg => by simp at hg, fun h => absurd (show (0 : Int) ≤ -1 from h) (by omega), fun j g hg => by simp at hg⟩
  | n + 1, gs, h => by
    obtain ⟨init, last, rfl⟩ : ∃ i l, gs = i ++ [l] := ⟨gs.dropLast, gs.getLast (by intro e; subst e; cases h), (List.dropLast_concat_getLast _).symm⟩
    have hl : init.length = n := by simpa using h
    obtain ⟨i1, i2, i3⟩ := bestM_spec now n init hl
    obtain ⟨q1, q2, q3, q4⟩ := bestM_ok now n init hl
    have at_ : ∀ (j : Nat) (g : Gp), (init ++ [last])[j]? = some g → (j < init.length ∧ init[j]? = some g) ∨ (j = init.length ∧ g = last) := fun j g hg => by
      rcases Nat.lt_or_ge j init.length with hj | hj
      · rw [List.getElem?_append_left hj] at hg; exact .inl ⟨hj, hg⟩
      · have hlt := (List.getElem?_eq_some_iff.1 hg).1
        have : j = init.length := by simp at hlt; omega
        subst this
        rw [List.getElem?_append_right (Nat.le_refl _)] at hg
        simp at hg
        exact .inr ⟨rfl, hg.symm⟩
    by_cases hc : (closesM last now).2 = 0 ∧ ((bestM now init).1 < 0 ∨ cmpR (closesM last now).1 (bestM now init).2 < 0)
    · have e : bestM now (init ++ [last]) = ((init.length : Int), (closesM last now).1) := by rw [bestM_snoc]; exact stepM_yes hc.1 hc.2
      have ol := closes_ok hc.1
      rw [show BestS now (init ++ [last]) ↔ _ from Iff.rfl]
      refine ⟨fun hn => ?_, fun _ => ?_, fun j g hg hz => ?_⟩
      · rw [e] at hn; exact absurd hn (by simp only; omega)
      · rw [e]
        refine ⟨last, ?_, ?_⟩
        · simp
        · exact Prod.ext rfl hc.1
      · rw [e]
        rcases at_ j g hg with ⟨hj, hg⟩ | ⟨hj, rfl⟩
        · obtain ⟨b0, b1, b2⟩ := i3 j g hg hz
          have hlt : ¬ leR (bestM now init).2 (closesM last now).1 := by
            rcases hc.2 with h' | h'
            · omega
            · exact cmpR_lt.1 h'
          have ob := q4 b0
          have og := closes_ok hz
          have h1 : leR (closesM last now).1 (bestM now init).2 := by
            rcases leR_total (closesM last now).1 (bestM now init).2 with h' | h'
            · exact h'
            · exact absurd h' hlt
          refine ⟨by simp only; omega, leR_trans ol ob og h1 b1, fun h2 => ?_⟩
          exact absurd (leR_trans ob og ol b1 h2) hlt
        · exact ⟨by simp only; omega, leR_refl _, fun _ => by simp only; omega⟩
    · have e : bestM now (init ++ [last]) = bestM now init := by rw [bestM_snoc]; exact stepM_no hc
      refine ⟨fun hn j g hg => ?_, fun hy => ?_, fun j g hg hz => ?_⟩
      · rw [e] at hn
        rcases at_ j g hg with ⟨_, hg⟩ | ⟨_, rfl⟩
        · exact i1 hn j g hg
        · exact fun hz => hc ⟨hz, .inl hn⟩
      · rw [e] at hy ⊢
        obtain ⟨g, h1, h2⟩ := i2 hy
        refine ⟨g, ?_, h2⟩
        rw [List.getElem?_append_left (List.getElem?_eq_some_iff.1 h1).1]; exact h1
      · rw [e]
        rcases at_ j g hg with ⟨_, hg⟩ | ⟨hj, rfl⟩
        · exact i3 j g hg hz
        · have hb : ¬ (bestM now init).1 < 0 := fun h' => hc ⟨hz, .inl h'⟩
          have hb2 : ¬ cmpR (closesM g now).1 (bestM now init).2 < 0 := fun h' => hc ⟨hz, .inr h'⟩
          refine ⟨by omega, ?_, fun _ => by omega⟩
          by_cases h' : leR (bestM now init).2 (closesM g now).1
          · exact h'
          · exact absurd (cmpR_lt.2 h') hb2

/-! ### Gaps and certificates -/
theorem gapsM_at {l : Ls} {i : Nat} (hi : i < l.num.length) : (gapsM l)[i]? = some (betwM l.ck.f (l.ord.getD i 0) (l.ord.getD (i + 1) 0)) := by
  unfold gapsM gapsN
  rw [List.getElem?_map, List.getElem?_range hi]; rfl
theorem gap_fail {l : Ls} (ok : okLs l) {i : Nat} (hi : i < l.num.length) : closesM (betwM l.ck.f (l.ord.getD i 0) (l.ord.getD (i + 1) 0)) l.ck.now = (match failM (ptL l i) (ptL l (i + 1)) l.ck.now with | some s => (s, 0) | none => ((0, 0), 6)) := by
  have nl := ok.nl
  have p1 := ok.ptOk (k := i) (by omega)
  have p2 := ok.ptOk (k := i + 1) (by omega)
  have hp := ok.pos (i := (i : Int)) (by omega) (by omega)
  have hq := ok.pos (i := ((i + 1 : Nat) : Int)) (by omega) (by omega)
  have ha := ok.apart (i := (i : Int)) (k := ((i + 1 : Nat) : Int)) (by omega) (by omega) (by omega)
  rw [Int.toNat_natCast] at hp hq
  rw [Int.toNat_natCast, Int.toNat_natCast] at ha
  have og := betw_ok ok.ck.f hp hq ha
  have ld := ok.leads (i := i) (j := i + 1) (by omega) (by omega)
  have ld2 := leads_iff.1 ld
  have la := leads_asymm ld
  have e1 : (betwM l.ck.f (l.ord.getD i 0) (l.ord.getD (i + 1) 0)).a = (ptL l i).2.1 - (ptL l (i + 1)).2.1 := rfl
  have e2 : (betwM l.ck.f (l.ord.getD i 0) (l.ord.getD (i + 1) 0)).b = (ptL l i).2.2 - (ptL l (i + 1)).2.2 := rfl
  have efm : failM (ptL l i) (ptL l (i + 1)) l.ck.now = if (ptL l i).2.2 < (ptL l (i + 1)).2.2 then some (makeM ((ptL l i).2.1 - (ptL l (i + 1)).2.1) ((ptL l (i + 1)).2.2 - (ptL l i).2.2)).1 else none := by
    unfold failM
    rw [if_neg (by rw [la]; simp)]
  unfold closesM
  rw [if_pos ⟨og, ok.ck.now⟩, e1, e2, efm]
  have fv := farV_val (ptL l i) (ptL l (i + 1)) l.ck.now
  unfold farV at fv
  generalize ptL l i = p at *
  generalize ptL l (i + 1) = q at *
  by_cases h : p.2.2 < q.2.2
  · rw [if_pos h, if_neg (by omega)]
    have e3 : makeM (-(p.2.1 - q.2.1)) (p.2.2 - q.2.2) = makeM (p.2.1 - q.2.1) (q.2.2 - p.2.2) := by
      rw [makeM_neg (by omega)]
      congr 1 <;> omega
    rw [e3]
    obtain ⟨x, y, g, g0, em, _, _, _⟩ := meet_parts p1.1 p2.1 h
    rw [em]
  · rw [if_neg h, if_pos (by omega)]
/-- A gap that closes is an event of the agenda. -/
theorem gap_event {l : Ls} (ok : okLs l) {i : Nat} (hi : i < l.num.length) {s : Int × Int} (h : failM (ptL l i) (ptL l (i + 1)) l.ck.now = some s) : ∃ x ∈ l.ck.ag.heap, x.at_ = s := by
  obtain ⟨ps, e⟩ := ok.ck.evs
  have hc := ok.cert hi
  unfold certOK at hc
  simp only [Bool.and_eq_true, decide_eq_true_eq, beq_iff_eq] at hc
  obtain ⟨c1, c2⟩ := hc
  obtain ⟨r1, x, r2, r3⟩ := atC_range c1
  have hx : getD3 l.ck.ct.list (atC l.ck.ct (l.num.getD i 0)) = x := by unfold getD3; rw [List.getD_eq_getElem?_getD, r2]; rfl
  rw [hx] at c2
  have hw : whenM l.ck.f x.2 l.ck.now = some s := by rw [c2]; exact h
  obtain ⟨y, hy, _, h3⟩ := e.of_cert (List.mem_of_getElem? r2) hw
  exact ⟨y, e.heap.mem_iff.2 hy, h3⟩
/-- An event of the agenda is a gap that closes. -/
theorem event_gap {l : Ls} (ok : okLs l) {x : Ev} (hx : x ∈ l.ck.ag.heap) : ∃ i, i < l.num.length ∧ failM (ptL l i) (ptL l (i + 1)) l.ck.now = some x.at_ := by
  obtain ⟨ps, e⟩ := ok.ck.evs
  have nl := ok.nl
  have cl := ok.cl
  obtain ⟨h, hm, _, hw⟩ := e.cert (e.heap.mem_iff.1 hx)
  obtain ⟨k, hk⟩ := List.mem_iff_getElem?.1 hm
  have hkl := (List.getElem?_eq_some_iff.1 hk).1
  have facts : ∀ i, i < l.num.length → 0 ≤ atC l.ck.ct (l.num.getD i 0) ∧ atC l.ck.ct (l.num.getD i 0) < l.ck.ct.list.length ∧ (getD3 l.ck.ct.list (atC l.ck.ct (l.num.getD i 0))).2 = pairM l.ord i := fun i hi => by
    have hc := ok.cert hi
    unfold certOK at hc
    simp only [Bool.and_eq_true, decide_eq_true_eq, beq_iff_eq] at hc
    exact ⟨hc.1, (atC_range hc.1).1, hc.2⟩
  have inj : ∀ i j, i < l.num.length → j < l.num.length → (atC l.ck.ct (l.num.getD i 0)).toNat = (atC l.ck.ct (l.num.getD j 0)).toNat → i = j := fun i j hi hj he => by
    obtain ⟨a1, a2, a3⟩ := facts i hi
    obtain ⟨b1, b2, b3⟩ := facts j hj
    have : atC l.ck.ct (l.num.getD i 0) = atC l.ck.ct (l.num.getD j 0) := by omega
    rw [this, b3] at a3
    have a4 := congrArg Prod.snd a3
    have a4 : l.ord.getD j 0 = l.ord.getD i 0 := a4
    have p1 := posO_at ok.ne (getI (xs := l.ord) (i := (i : Int)) (by omega) (by omega))
    have p2 := posO_at ok.ne (getI (xs := l.ord) (i := (j : Int)) (by omega) (by omega))
    rw [Int.toNat_natCast] at p1 p2
    rw [a4, p1] at p2
    omega
  obtain ⟨i, hi, hik⟩ := all_hit (n := l.num.length) (f := fun i => (atC l.ck.ct (l.num.getD i 0)).toNat) inj (fun i hi => by have := facts i hi; show (atC l.ck.ct (l.num.getD i 0)).toNat < _; omega) (k := k) (by omega)
  obtain ⟨a1, a2, a3⟩ := facts i hi
  have hh : getD3 l.ck.ct.list (atC l.ck.ct (l.num.getD i 0)) = h := by
    unfold getD3
    have hik : (atC l.ck.ct (l.num.getD i 0)).toNat = k := hik
    rw [hik, List.getD_eq_getElem?_getD, hk]; rfl
  rw [hh] at a3
  refine ⟨i, hi, ?_⟩
  rw [a3] at hw
  exact hw
theorem first_next {l : Ls} (ok : okLs l) : ((bestM l.ck.now (gapsM l)).1 < 0 → kNextM l = ((0, 0), 6)) ∧ (0 ≤ (bestM l.ck.now (gapsM l)).1 → kNextM l = ((bestM l.ck.now (gapsM l)).2, 0)) := by
  obtain ⟨s1, s2, s3⟩ := bestM_spec l.ck.now _ (gapsM l) rfl
  obtain ⟨q1, q2, q3, q4⟩ := bestM_ok l.ck.now _ (gapsM l) rfl
  have gl : (gapsM l).length = l.num.length := gapsN_len _ _
  have top : l.ck.ag.heap.length ≠ 0 → hp l.ck.ag.heap 0 ∈ l.ck.ag.heap := fun h => by
    have h0 : 0 < l.ck.ag.heap.length := by omega
    have : l.ck.ag.heap[0]? = some (hp l.ck.ag.heap 0) := by unfold hp; simp [List.getD, h0]
    exact List.mem_of_getElem? this
  have gap : l.ck.ag.heap.length ≠ 0 → ∃ (j : Nat) (g : Gp), (gapsM l)[j]? = some g ∧ closesM g l.ck.now = ((hp l.ck.ag.heap 0).at_, 0) := fun h => by
    obtain ⟨i, hi, hf⟩ := event_gap ok (top h)
    have := gap_fail ok hi
    rw [hf] at this
    exact ⟨i, _, gapsM_at hi, this⟩
  unfold kNextM
  rw [if_pos ok]
  refine ⟨fun hn => ?_, fun hy => ?_⟩
  · by_cases h : l.ck.ag.heap.length = 0
    · rw [if_pos h]
    · obtain ⟨j, g, h1, h2⟩ := gap h
      exact absurd (by rw [h2]) (s1 hn j g h1)
  · obtain ⟨g, h1, h2⟩ := s2 hy
    have hi := (List.getElem?_eq_some_iff.1 h1).1
    rw [gl] at hi
    have hg := gapsM_at hi
    rw [h1] at hg
    have hg := Option.some.inj hg
    have hf := gap_fail ok hi
    rw [← hg, h2] at hf
    cases hF : failM (ptL l (bestM l.ck.now (gapsM l)).1.toNat) (ptL l ((bestM l.ck.now (gapsM l)).1.toNat + 1)) l.ck.now with
    | none => rw [hF] at hf; exact absurd (congrArg Prod.snd hf) (by simp)
    | some s =>
      rw [hF] at hf
      have es : s = (bestM l.ck.now (gapsM l)).2 := (congrArg Prod.fst hf).symm
      obtain ⟨x, hx, hat⟩ := gap_event ok hi hF
      have hne : l.ck.ag.heap.length ≠ 0 := by
        intro h
        have := List.length_eq_zero_iff.1 h
        rw [this] at hx; cases hx
      rw [if_neg hne]
      obtain ⟨j, g', h3, h4⟩ := gap hne
      have hz : (closesM g' l.ck.now).2 = 0 := by rw [h4]
      obtain ⟨_, l1, _⟩ := s3 j g' h3 hz
      rw [h4] at l1
      have l2 := leR_of_less (ok.ck.top hx)
      rw [hat, es] at l2
      have o1 := q4 hy
      have o2 := closes_ok hz
      rw [h4] at o2
      exact Prod.ext (okR_eq o2 o1 l2 l1) rfl
/-- At the time it closes a gap is 0. -/
theorem close_at {g : Gp} {now t : Int × Int} (h : closesM g now = (t, 0)) : (atM g t).2 = 0 ∧ (atM g t).1.1 = 0 ∧ okR t ∧ okR now ∧ ¬ leR t now := by
  have oc := closes_ok (g := g) (t := now) (by rw [h])
  rw [h] at oc
  have oc : okR t := oc
  unfold closesM at h
  split at h
  · rename_i hg
    split at h
    · exact absurd (congrArg Prod.snd h) (by simp)
    · rename_i hb
      have og := hg.1
      unfold okGp at og
      obtain ⟨x, y, k, k0, em, e3, e4, e5⟩ := makeNeg (A := g.a) (B := g.b) (by omega) (by omega) (by omega) (by omega)
      rw [em] at h
      have ht : (x, y) = t := congrArg Prod.fst h
      subst ht
      have y1 : 1 ≤ y := oc.d1
      have y2 : y ≤ 9223372036854775807 := oc.d2
      have cs := close_sign (t := now) k0 e3 e4
      have nle : ¬ leR (x, y) now := fun hl => by
        have hl : x * now.2 ≤ now.1 * y := hl
        have := cs.1 hl
        omega
      have ob : okR (g.b, 1) := okW (by omega) (by omega)
      have eb : g.b = y * (-k) := by rw [Int.mul_neg]; omega
      have hgA : gA (g.b, 1) (x, y) = y := by
        unfold gA
        show ((Nat.gcd y.toNat (absI g.b).toNat : Nat) : Int) = y
        have : (absI g.b).toNat = y.toNat * k.toNat := by
          rw [absI_nat, eb, Int.natAbs_mul]
          have a1 : y.natAbs = y.toNat := by omega
          have a2 : (-k).natAbs = k.toNat := by omega
          rw [a1, a2, Int.toNat_natCast]
        rw [this, Nat.gcd_mul_right_right]
        omega
      have hgB : gA (x, y) (g.b, 1) = 1 := by
        unfold gA
        show ((Nat.gcd (1 : Int).toNat _ : Nat) : Int) = 1
        rw [show (1 : Int).toNat = 1 from rfl, Nat.gcd_one_left]; rfl
      have m0 : (mulM (g.b, 1) (x, y)).2 = 0 := by
        unfold mulM
        rw [if_pos ⟨ob, oc⟩, hgA, hgB]
        show (buildM _ (absI (g.b.tdiv y * x.tdiv 1)) (1 / 1 * (y / y))).2 = 0
        have t1 : g.b.tdiv y = -k := by rw [eb]; exact Int.mul_tdiv_cancel_left _ (by omega)
        have t2 : y / y = 1 := Int.ediv_self (by omega)
        have t3 : absI (-k * x) = absI g.a := by
          have : -k * x = -(x * k) := by rw [Int.neg_mul, Int.mul_comm]
          rw [this, e3]
          unfold absI; split <;> split <;> omega
        rw [t1, t2, show x.tdiv 1 = x by simp, t3]
        have : absI g.a ≤ 2097152 := by unfold absI; split <;> omega
        unfold buildM
        rw [if_neg (by omega)]
      have ap := addW_place (A := g.a) ob oc m0
      have z : g.a * y + g.b * x = 0 := by
        have h1 : g.a * y = x * y * k := by rw [← e3, Int.mul_right_comm]
        have h2 : g.b * x = -(x * y * k) := by rw [eb, Int.mul_neg, Int.neg_mul, Int.mul_right_comm, Int.mul_comm y x]
        omega
      have ea : atM g (x, y) = overM 0 y := by
        unfold atM
        rw [if_pos ⟨hg.1, oc⟩, if_pos m0, ap]
        show overM (g.a * y + g.b * x) y = _
        rw [z]
      have ov : overM 0 y = ((0, y / gcdA 0 y), 0) := by
        unfold overM buildM
        have g0 : 0 < gcdA 0 y := gcdA_pos (by omega)
        have : y / gcdA 0 y ≤ y := Int.ediv_le_self _ (by omega)
        have ab : absI 0 / gcdA 0 y = 0 := by show (0 : Int) / _ = 0; simp
        rw [ab, if_neg (by omega)]
        rfl
      rw [ea, ov]
      exact ⟨rfl, rfl, oc, hg.2, nle⟩
  · exact absurd (congrArg Prod.snd h) (by simp)
end Go.Proofs.YtkemdpobjaiolaaGreat
