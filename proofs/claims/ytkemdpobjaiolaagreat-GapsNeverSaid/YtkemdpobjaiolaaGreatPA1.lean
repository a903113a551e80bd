/- The engine, parts AV, AW, AX, AY, put together. Conditions: none. -/
import Derived.Test.YtkemdpobjaiolaaGreatGQ
set_option linter.unusedVariables false
section
/- A list in the middle of an advance: what a swap does, and that swaps end. Conditions: none. -/
set_option maxRecDepth 100000
open Go Go.Eng Go.Proofs
namespace Go.Proofs.YtkemdpobjaiolaaGreat

/-! ### Certificates by their numbers -/
theorem _root_.Go.Eng.okC.uniq {ct : Ct} (ok : okC ct) {n : Int} {x y : Int × Int} (hx : (n, x) ∈ ct.list) (hy : (n, y) ∈ ct.list) : x = y := by
  obtain ⟨i, hi⟩ := List.mem_iff_getElem?.1 hx
  obtain ⟨j, hj⟩ := List.mem_iff_getElem?.1 hy
  obtain ⟨i1, i2⟩ := List.getElem?_eq_some_iff.1 hi
  obtain ⟨j1, j2⟩ := List.getElem?_eq_some_iff.1 hj
  have hp := List.pairwise_iff_getElem.1 ok.ok.inc
  rcases Nat.lt_trichotomy i j with k | k | k
  · have := hp i j i1 j1 k; rw [i2, j2] at this; exact absurd this (Int.lt_irrefl _)
  · subst k; rw [hi] at hj; exact congrArg Prod.snd (Option.some.inj hj)
  · have := hp j i j1 i1 k; rw [i2, j2] at this; exact absurd this (Int.lt_irrefl _)
theorem _root_.Go.Eng.okC.at_mem {ct : Ct} (ok : okC ct) {n : Int} {x : Int × Int} (hx : (n, x) ∈ ct.list) : 0 ≤ atC ct n ∧ atC ct n < ct.list.length ∧ getD3 ct.list (atC ct n) = (n, x) := by
  have h0 : 0 ≤ atC ct n := by
    by_cases h : atC ct n < 0
    · have := idx_out h _ hx
      simp at this
    · omega
  obtain ⟨h1, y, h2, h3⟩ := atC_range h0
  refine ⟨h0, h1, ?_⟩
  have : getD3 ct.list (atC ct n) = y := by unfold getD3; rw [List.getD_eq_getElem?_getD, h2]; rfl
  rw [this]
  have hm : (n, y.2) ∈ ct.list := by rw [← h3]; exact List.mem_of_getElem? h2
  exact Prod.ext h3 (ok.uniq hm hx)
theorem without_mem {ct : Ct} {n m : Int} {x : Int × Int} : (m, x) ∈ (withoutC ct n).list ↔ (m, x) ∈ ct.list ∧ m ≠ n := by
  unfold withoutC
  rw [List.mem_filter]
  simp
theorem without_count {ct : Ct} (ok : okC ct) {n : Int} {x : Int × Int} (hx : (n, x) ∈ ct.list) : (withoutC ct n).list.length + 1 = ct.list.length := by
  have a := (ok.at_mem hx).1
  have : (getC ct n).2 = 0 := by unfold getC; rw [if_pos ok, if_neg (by omega)]
  have := without_len this
  omega
theorem certOK_mem {ct : Ct} (ok : okC ct) {o num : List Int} {k : Nat} : certOK ct o num k = true ↔ (num.getD k 0, pairM o k) ∈ ct.list := by
  unfold certOK
  simp only [Bool.and_eq_true, decide_eq_true_eq, beq_iff_eq]
  constructor
  · intro ⟨h1, h2⟩
    obtain ⟨_, y, h3, h4⟩ := atC_range h1
    have e : getD3 ct.list (atC ct (num.getD k 0)) = y := by unfold getD3; rw [List.getD_eq_getElem?_getD, h3]; rfl
    rw [e] at h2
    have := List.mem_of_getElem? h3
    rw [← h2, ← h4]; exact this
  · intro h
    obtain ⟨a, _, b⟩ := ok.at_mem h
    exact ⟨a, by rw [b]⟩

/-! ### A list in the middle -/
structure okM (l : Ls) : Prop where
  ck : okK l.ck
  perm : l.ord.Perm (l.ck.f.map (·.1))
  nl : l.num.length = l.ord.length - 1
  cl : l.ck.ct.list.length = l.num.length
  certs : ∀ k, k < l.num.length → (l.num.getD k 0, pairM l.ord k) ∈ l.ck.ct.list
  desc : ∀ i j, i < j → j < l.ord.length → valP (ptL l j) l.ck.now ≤ valP (ptL l i) l.ck.now
theorem okLs.weak {l : Ls} (ok : okLs l) : okM l := by
  refine ⟨ok.ck, ?_, ok.nl, ok.cl, fun k hk => (certOK_mem ok.ck.ct).1 (ok.cert hk), fun i j hij hj => ok.val hij hj⟩
  rw [ok.ord]
  exact (sortM_perm l.ck.now l.ck.f).map _
theorem permPos {f : List Pt} (of : okF f) {o : List Int} (hp : o.Perm (f.map (·.1))) {x : Int} (hx : x ∈ o) : 0 ≤ posF f x := by
  obtain ⟨p, h1, h2⟩ := List.mem_map.1 (hp.mem_iff.1 hx)
  by_cases h : posF f x < 0
  · have := idx_out h p h1
    simp at this
    exact absurd h2 this
  · omega
theorem permNe {f : List Pt} (of : okF f) {o : List Int} (hp : o.Perm (f.map (·.1))) : o.Pairwise (· ≠ ·) :=
  hp.symm.pairwise (List.pairwise_map.2 (okF_ids of)) fun h => h.symm
theorem memO {o : List Int} {k : Nat} (hk : k < o.length) : o.getD k 0 ∈ o := by
  have := getI (xs := o) (i := (k : Int)) (by omega) (by omega)
  rw [Int.toNat_natCast] at this
  exact List.mem_of_getElem? this
theorem ptPerm {l : Ls} (of : okF l.ck.f) (hp : l.ord.Perm (l.ck.f.map (·.1))) {k : Nat} (hk : k < l.ord.length) : okP (ptL l k) ∧ ptL l k ∈ l.ck.f ∧ (ptL l k).1 = l.ord.getD k 0 := by
  have h0 := permPos of hp (memO hk)
  refine ⟨of.pt h0, ?_, (posF_range h0).2.2⟩
  exact List.mem_of_getElem? (posF_range h0).2.1
theorem okM.pt {l : Ls} (w : okM l) {k : Nat} (hk : k < l.ord.length) : okP (ptL l k) ∧ ptL l k ∈ l.ck.f ∧ (ptL l k).1 = l.ord.getD k 0 := ptPerm w.ck.f w.perm hk
theorem okM.ne {l : Ls} (w : okM l) : l.ord.Pairwise (· ≠ ·) := permNe w.ck.f w.perm
theorem posO_here {o : List Int} (hd : o.Pairwise (· ≠ ·)) {k : Nat} (hk : k < o.length) : posO o (o.getD k 0) = k := by
  have := getI (xs := o) (i := (k : Int)) (by omega) (by omega)
  rw [Int.toNat_natCast] at this
  exact posO_at hd this
theorem okM.ptNe {l : Ls} (w : okM l) {i j : Nat} (h : i ≠ j) (hi : i < l.ord.length) (hj : j < l.ord.length) : (ptL l i).1 ≠ (ptL l j).1 := by
  rw [(w.pt hi).2.2, (w.pt hj).2.2]
  intro e
  have p1 := posO_here w.ne hi
  have p2 := posO_here w.ne hj
  rw [e, p2] at p1
  omega
theorem pair_inj {o : List Int} (hd : o.Pairwise (· ≠ ·)) {i j : Nat} (hi : i < o.length) (hj : j < o.length) (h : pairM o i = pairM o j) : i = j := by
  have a4 : o.getD i 0 = o.getD j 0 := congrArg Prod.snd h
  have p1 := posO_here hd hi
  have p2 := posO_here hd hj
  rw [a4, p2] at p1
  omega
theorem okM.numInj {l : Ls} (w : okM l) {i j : Nat} (hi : i < l.num.length) (hj : j < l.num.length) (h : l.num.getD i 0 = l.num.getD j 0) : i = j := by
  have a := w.certs i hi
  have b := w.certs j hj
  rw [h] at a
  have nl := w.nl
  exact pair_inj w.ne (by omega) (by omega) (w.ck.ct.uniq a b)
/-- Each event of the agenda is that of two neighbours. -/
theorem okM.event {l : Ls} (w : okM l) {x : Ev} (hx : x ∈ l.ck.ag.heap) : ∃ i, i < l.num.length ∧ l.num.getD i 0 = x.no ∧ failM (ptL l i) (ptL l (i + 1)) l.ck.now = some x.at_ := by
  obtain ⟨ps, e⟩ := w.ck.evs
  have nl := w.nl
  have cl := w.cl
  obtain ⟨h, hm, hno, hw⟩ := e.cert (e.heap.mem_iff.1 hx)
  obtain ⟨k, hk⟩ := List.mem_iff_getElem?.1 hm
  have hkl := (List.getElem?_eq_some_iff.1 hk).1
  have facts : ∀ i, i < l.num.length → 0 ≤ atC l.ck.ct (l.num.getD i 0) ∧ atC l.ck.ct (l.num.getD i 0) < l.ck.ct.list.length ∧ getD3 l.ck.ct.list (atC l.ck.ct (l.num.getD i 0)) = (l.num.getD i 0, pairM l.ord i) := fun i hi => w.ck.ct.at_mem (w.certs i hi)
  have inj : ∀ i j, i < l.num.length → j < l.num.length → (atC l.ck.ct (l.num.getD i 0)).toNat = (atC l.ck.ct (l.num.getD j 0)).toNat → i = j := fun i j hi hj he => by
    obtain ⟨a1, a2, a3⟩ := facts i hi
    obtain ⟨b1, b2, b3⟩ := facts j hj
    have : atC l.ck.ct (l.num.getD i 0) = atC l.ck.ct (l.num.getD j 0) := by omega
    rw [this, b3] at a3
    exact w.numInj hi hj (congrArg Prod.fst a3).symm
  obtain ⟨i, hi, hik⟩ := all_hit (n := l.num.length) (f := fun i => (atC l.ck.ct (l.num.getD i 0)).toNat) inj (fun i hi => by have := facts i hi; show (atC l.ck.ct (l.num.getD i 0)).toNat < _; omega) (k := k) (by omega)
  obtain ⟨a1, a2, a3⟩ := facts i hi
  have hh : getD3 l.ck.ct.list (atC l.ck.ct (l.num.getD i 0)) = h := by
    unfold getD3
    have hik : (atC l.ck.ct (l.num.getD i 0)).toNat = k := hik
    rw [hik, List.getD_eq_getElem?_getD, hk]; rfl
  rw [hh] at a3
  refine ⟨i, hi, ?_, ?_⟩
  · rw [← hno, a3]
  · rw [a3] at hw; exact hw
/-- Neighbours that will meet have an event. -/
theorem okM.meets {l : Ls} (w : okM l) {i : Nat} (hi : i < l.num.length) {s : Int × Int} (h : failM (ptL l i) (ptL l (i + 1)) l.ck.now = some s) : ∃ x ∈ l.ck.ag.heap, x.at_ = s := by
  obtain ⟨ps, e⟩ := w.ck.evs
  have hw : whenM l.ck.f (l.num.getD i 0, pairM l.ord i).2 l.ck.now = some s := h
  obtain ⟨y, hy, _, h3⟩ := e.of_cert (w.certs i hi) hw
  exact ⟨y, e.heap.mem_iff.2 hy, h3⟩

/-! ### Values at the time of an event -/
theorem valP_step {p q : Pt} {s u : Int × Int} : s.2 * farV p q u = u.2 * farV p q s + (p.2.2 - q.2.2) * (u.1 * s.2 - s.1 * u.2) := by
  unfold farV
  generalize p.2.1 - q.2.1 = A
  generalize p.2.2 - q.2.2 = B
  rw [Int.mul_add, Int.mul_add, Int.mul_sub]
  have e1 : s.2 * (A * u.2) = u.2 * (A * s.2) := by rw [Int.mul_left_comm, Int.mul_left_comm u.2, Int.mul_comm s.2]
  have e2 : s.2 * (B * u.1) = B * (u.1 * s.2) := by rw [Int.mul_left_comm, Int.mul_comm s.2]
  have e3 : u.2 * (B * s.1) = B * (s.1 * u.2) := by rw [Int.mul_left_comm, Int.mul_comm u.2]
  omega
/-- Who is ahead by the order of equal places stays ahead. -/
theorem lead_after {p q : Pt} {s u : Int × Int} (hs : 1 ≤ s.2) (hu : 1 ≤ u.2) (h : leR s u) (h0 : farV p q s = 0) (hb : p.2.2 < q.2.2 ∨ p.2.2 = q.2.2 ∧ q.1 < p.1) : leads q p u = true := by
  have e := valP_step (p := p) (q := q) (s := s) (u := u)
  rw [h0, Int.mul_zero, Int.zero_add] at e
  have hle : s.1 * u.2 ≤ u.1 * s.2 := h
  have hneg : (p.2.2 - q.2.2) * (u.1 * s.2 - s.1 * u.2) ≤ 0 := by
    have := Int.mul_le_mul_of_nonneg_right (show p.2.2 - q.2.2 ≤ 0 by omega) (show 0 ≤ u.1 * s.2 - s.1 * u.2 by omega)
    rw [Int.zero_mul] at this; exact this
  have fle : farV p q u ≤ 0 := by
    rcases Int.lt_or_le 0 (farV p q u) with x | x
    · have := Int.mul_pos (show 0 < s.2 by omega) x
      omega
    · exact x
  rw [leads_iff]
  have fv := farV_val p q u
  rcases hb with hb | ⟨hb1, hb2⟩
  · omega
  · have fz : farV p q u = 0 := by
      rw [hb1, Int.sub_self, Int.zero_mul] at e
      rcases Int.mul_eq_zero.1 e with x | x
      · omega
      · exact x
    omega
/-- Two neighbours whose certificate fails at a time are then at one place. -/
theorem okM.level {l : Ls} (w : okM l) {i : Nat} (hi : i < l.num.length) {s : Int × Int} (h : failM (ptL l i) (ptL l (i + 1)) l.ck.now = some s) : farV (ptL l i) (ptL l (i + 1)) s = 0 ∧ ((ptL l i).2.2 < (ptL l (i + 1)).2.2 ∨ (ptL l i).2.2 = (ptL l (i + 1)).2.2 ∧ (ptL l (i + 1)).1 < (ptL l i).1) := by
  have nl := w.nl
  have d := w.desc i (i + 1) (by omega) (by omega)
  have p1 := (w.pt (k := i) (by omega)).1
  have p2 := (w.pt (k := i + 1) (by omega)).1
  generalize ptL l i = p at *
  generalize ptL l (i + 1) = q at *
  unfold failM at h
  split at h
  · rename_i hl
    have hs : s = l.ck.now := (Option.some.inj h).symm
    subst hs
    rw [leads_iff] at hl
    rw [farV_val]
    omega
  · split at h
    · rename_i hb
      obtain ⟨x, y, g, g0, em, e1, e2, e3⟩ := meet_parts p1 p2 hb
      rw [em] at h
      have hs : s = (x, y) := (Option.some.inj h).symm
      subst hs
      rw [farV_at e1 e2]
      refine ⟨?_, .inl hb⟩
      show (x * y - x * y) * g = 0
      rw [Int.sub_self, Int.zero_mul]
    · cases h
/-- At the time of the first event the order is still one of places. -/
theorem okM.descAt {l : Ls} (w : okM l) (h0 : 0 < l.ck.ag.heap.length) : ∀ j i, i < j → j < l.ord.length → valP (ptL l j) (hp l.ck.ag.heap 0).at_ ≤ valP (ptL l i) (hp l.ck.ag.heap 0).at_ := by
  have nl := w.nl
  have o1 : okR (hp l.ck.ag.heap 0).at_ := (w.ck.ag.each _ (hp_mem h0)).1
  obtain ⟨ps, e⟩ := w.ck.evs
  have hle : leR l.ck.now (hp l.ck.ag.heap 0).at_ := (w.ck.failed h0 e).2.2.1
  have next : ∀ k, k + 1 < l.ord.length → valP (ptL l (k + 1)) (hp l.ck.ag.heap 0).at_ ≤ valP (ptL l k) (hp l.ck.ag.heap 0).at_ := fun k hk => by
    have p1 := (w.pt (k := k) (by omega)).1
    have p2 := (w.pt (k := k + 1) hk).1
    have hne := w.ptNe (i := k) (j := k + 1) (by omega) (by omega) hk
    cases hF : failM (ptL l k) (ptL l (k + 1)) l.ck.now with
    | none =>
      have := leads_iff.1 (fail_never hne w.ck.now o1 hF hle).1
      omega
    | some s =>
      obtain ⟨x, hx, hat⟩ := w.meets (i := k) (by omega) hF
      have l1 := leR_of_less (w.ck.top hx)
      rw [hat] at l1
      by_cases h : leR s (hp l.ck.ag.heap 0).at_
      · have os := fail_okR p1 p2 w.ck.now hF
        have : s = (hp l.ck.ag.heap 0).at_ := okR_eq os o1 h l1
        have lv := (w.level (i := k) (by omega) hF).1
        rw [this, farV_val] at lv
        omega
      · have := leads_iff.1 (fail_before p1 p2 hne w.ck.now hF hle h)
        omega
  intro j
  induction j with
  | zero => intro i hi; omega
  | succ j ih =>
    intro i hi hj
    have a := next j hj
    by_cases e : i = j
    · subst e; exact a
    · have := ih i (by omega) (by omega)
      omega
end Go.Proofs.YtkemdpobjaiolaaGreat
end
section
/- A swap of two neighbours, in plain Lean; swaps come to an end. Conditions: none. -/
set_option maxRecDepth 100000
open Go Go.Eng Go.Proofs
namespace Go.Proofs.YtkemdpobjaiolaaGreat

/-! ### Two neighbours of an order exchanged -/
def swapO (o : List Int) (i : Nat) : List Int := (o.set i (o.getD (i + 1) 0)).set (i + 1) (o.getD i 0)
theorem swapO_len (o : List Int) (i : Nat) : (swapO o i).length = o.length := by unfold swapO; rw [List.length_set, List.length_set]
theorem swapO_get {o : List Int} {i : Nat} (hi : i + 1 < o.length) (k : Nat) : (swapO o i).getD k 0 = if k = i then o.getD (i + 1) 0 else if k = i + 1 then o.getD i 0 else o.getD k 0 := by
  unfold swapO
  rw [List.getD_eq_getElem?_getD, List.getElem?_set, List.getElem?_set, List.length_set]
  by_cases h1 : i + 1 = k
  · rw [if_pos h1, if_pos hi, if_neg (by omega), if_pos h1.symm]; rfl
  · rw [if_neg h1]
    by_cases h2 : i = k
    · rw [if_pos h2, if_pos (by omega), if_pos h2.symm]; rfl
    · rw [if_neg h2, if_neg (fun h => h2 h.symm), if_neg (fun h => h1 h.symm), List.getD_eq_getElem?_getD]
theorem swapO_split {o : List Int} {i : Nat} (hi : i + 1 < o.length) : o = o.take i ++ o.getD i 0 :: o.getD (i + 1) 0 :: o.drop (i + 2) ∧ swapO o i = o.take i ++ o.getD (i + 1) 0 :: o.getD i 0 :: o.drop (i + 2) := by
  have h1 : o[i]? = some (o.getD i 0) := by
    have := getI (xs := o) (i := (i : Int)) (by omega) (by omega)
    rw [Int.toNat_natCast] at this; exact this
  have h2 : o[i + 1]? = some (o.getD (i + 1) 0) := by
    have := getI (xs := o) (i := ((i + 1 : Nat) : Int)) (by omega) (by omega)
    rw [Int.toNat_natCast] at this; exact this
  have e : o = o.take i ++ o.getD i 0 :: o.getD (i + 1) 0 :: o.drop (i + 2) := by
    have a := List.take_append_drop i o
    rw [dropX h1, dropX h2] at a
    exact a.symm
  refine ⟨e, ?_⟩
  have tl : (o.take i).length = i := by rw [List.length_take]; omega
  unfold swapO
  generalize o.getD (i + 1) 0 = b at *
  generalize o.getD i 0 = a at *
  generalize o.drop (i + 2) = post at *
  generalize o.take i = pre at *
  subst e
  subst tl
  rw [List.set_append_right _ _ (Nat.le_refl _), Nat.sub_self, List.set_cons_zero, List.set_append_right _ _ (by omega), show pre.length + 1 - pre.length = 1 by omega]
  rfl
theorem swapO_perm {o : List Int} {i : Nat} (hi : i + 1 < o.length) : (swapO o i).Perm o := by
  obtain ⟨e1, e2⟩ := swapO_split hi
  rw [e2]
  conv => rhs; rw [e1]
  exact List.Perm.append_left _ (List.Perm.swap _ _ _)

/-! ### What grows with each swap -/
def phi (rk : Int → Nat) : Nat → List Int → Nat
  | _, [] => 0
  | k, x :: xs => k * rk x + phi rk (k + 1) xs
theorem phi_append (rk : Int → Nat) : ∀ (xs ys : List Int) (k : Nat), phi rk k (xs ++ ys) = phi rk k xs + phi rk (k + xs.length) ys
  | [], ys, k => by simp [phi]
  | x :: xs, ys, k => by
    show k * rk x + phi rk (k + 1) (xs ++ ys) = k * rk x + phi rk (k + 1) xs + phi rk (k + (xs.length + 1)) ys
    rw [phi_append rk xs ys (k + 1), show k + 1 + xs.length = k + (xs.length + 1) by omega]
    omega
theorem phi_swap (rk : Int → Nat) {o : List Int} {i : Nat} (hi : i + 1 < o.length) (h : rk (o.getD (i + 1) 0) < rk (o.getD i 0)) : phi rk 0 o < phi rk 0 (swapO o i) := by
  obtain ⟨e1, e2⟩ := swapO_split hi
  rw [e2]
  conv => lhs; rw [e1]
  rw [phi_append, phi_append]
  show _ + ((0 + (o.take i).length) * rk (o.getD i 0) + ((0 + (o.take i).length + 1) * rk (o.getD (i + 1) 0) + _)) < _ + ((0 + (o.take i).length) * rk (o.getD (i + 1) 0) + ((0 + (o.take i).length + 1) * rk (o.getD i 0) + _))
  generalize 0 + (o.take i).length = K
  rw [Nat.add_mul K 1 (rk (o.getD (i + 1) 0)), Nat.add_mul K 1 (rk (o.getD i 0)), Nat.one_mul, Nat.one_mul]
  omega
theorem phi_le (rk : Int → Nat) {n : Nat} : ∀ (o : List Int) (k : Nat), (∀ x ∈ o, rk x ≤ n) → phi rk k o ≤ o.length * ((k + o.length) * n)
  | [], k, _ => by simp [phi]
  | x :: xs, k, h => by
    have ih := phi_le rk xs (k + 1) fun y hy => h y (List.mem_cons_of_mem _ hy)
    have hx := Nat.mul_le_mul (Nat.le_refl k) (h x List.mem_cons_self)
    have e : k + 1 + xs.length = k + (xs.length + 1) := by omega
    have hk : k * n ≤ (k + (xs.length + 1)) * n := Nat.mul_le_mul_right _ (by omega)
    show k * rk x + phi rk (k + 1) xs ≤ (xs.length + 1) * ((k + (xs.length + 1)) * n)
    rw [e] at ih
    rw [Nat.add_mul xs.length 1, Nat.one_mul]
    omega
theorem rank_lt {f : List Pt} (of : okF f) {p q : Pt} {t : Int × Int} (hp : p ∈ f) (hq : q ∈ f) (h : leads q p t = true) : rankM f q t < rankM f p t := by
  have S := sortM_sorted (okF_ids of) t
  have a1 := S.at_rank (okF_ids of) hp
  have a2 := S.at_rank (okF_ids of) hq
  obtain ⟨b1, b2⟩ := List.getElem?_eq_some_iff.1 a1
  obtain ⟨c1, c2⟩ := List.getElem?_eq_some_iff.1 a2
  rcases Nat.lt_trichotomy (rankM f q t) (rankM f p t) with k | k | k
  · exact k
  · rw [k, a1] at a2
    have := Option.some.inj a2
    subst this
    rw [leads_irrefl] at h; cases h
  · have := List.pairwise_iff_getElem.1 S.ord _ _ b1 c1 k
    rw [b2, c2] at this
    rw [leads_asymm h] at this; cases this
theorem rank_le {f : List Pt} {p : Pt} {t : Int × Int} : rankM f p t ≤ f.length := List.countP_le_length

/-! ### A list without the certificates of some neighbours -/
structure Mid (l : Ls) (lo hi : Nat) : Prop where
  ck : okK l.ck
  perm : l.ord.Perm (l.ck.f.map (·.1))
  nl : l.num.length = l.ord.length - 1
  le : lo ≤ hi
  hl : hi ≤ l.num.length
  cl : l.ck.ct.list.length + (hi - lo) = l.num.length
  certs : ∀ k, k < l.num.length → (k < lo ∨ hi ≤ k) → (l.num.getD k 0, pairM l.ord k) ∈ l.ck.ct.list
  desc : ∀ j i, i < j → j < l.ord.length → valP (ptL l j) l.ck.now ≤ valP (ptL l i) l.ck.now
theorem Mid.done {l : Ls} {k : Nat} (m : Mid l k k) : okM l := ⟨m.ck, m.perm, m.nl, by have := m.cl; omega, fun i hi => m.certs i hi (by omega), fun i j h1 h2 => m.desc j i h1 h2⟩
theorem Mid.other {l : Ls} {lo hi : Nat} (m : Mid l lo hi) {i j : Nat} (hi' : i < l.num.length) (hj : j < l.num.length) (oi : i < lo ∨ hi ≤ i) (oj : j < lo ∨ hi ≤ j) (hne : i ≠ j) : l.num.getD i 0 ≠ l.num.getD j 0 := fun h => by
  have a := m.certs i hi' oi
  have b := m.certs j hj oj
  rw [h] at a
  have nl := m.nl
  exact hne (pair_inj (permNe m.ck.f m.perm) (by omega) (by omega) (m.ck.ct.uniq a b))
theorem Mid.goneLo {l : Ls} {lo hi : Nat} (m : Mid l lo hi) (h : 0 < lo) : Mid ⟨goneK l.ck (l.num.getD (lo - 1) 0), l.ord, l.num⟩ (lo - 1) hi := by
  obtain ⟨c1, c2, c3⟩ := goneK_ct l.ck (l.num.getD (lo - 1) 0)
  have le := m.le; have hl := m.hl; have cl := m.cl
  have hm := m.certs (lo - 1) (by omega) (.inl (by omega))
  have wc := without_count m.ck.ct hm
  refine ⟨(m.ck.gone _).1, by rw [show (goneK l.ck (l.num.getD (lo - 1) 0)).f = l.ck.f from c2]; exact m.perm, m.nl, by omega, hl, ?_, fun k hk ho => ?_, fun j i hij hj => ?_⟩
  · show (goneK l.ck (l.num.getD (lo - 1) 0)).ct.list.length + _ = l.num.length
    rw [c1]; omega
  · show _ ∈ (goneK l.ck (l.num.getD (lo - 1) 0)).ct.list
    have hk : k < l.num.length := hk
    rw [c1]
    exact without_mem.2 ⟨m.certs k hk (by omega), m.other hk (by omega) (by omega) (by omega) (by omega)⟩
  · have := m.desc j i hij hj
    unfold ptL at this ⊢
    simp only
    rw [c2, c3]; exact this
theorem Mid.goneHi {l : Ls} {lo hi : Nat} (m : Mid l lo hi) (h : hi < l.num.length) : Mid ⟨goneK l.ck (l.num.getD hi 0), l.ord, l.num⟩ lo (hi + 1) := by
  obtain ⟨c1, c2, c3⟩ := goneK_ct l.ck (l.num.getD hi 0)
  have le := m.le; have hl := m.hl; have cl := m.cl
  have hm := m.certs hi (by omega) (.inr (by omega))
  have wc := without_count m.ck.ct hm
  refine ⟨(m.ck.gone _).1, by rw [show (goneK l.ck (l.num.getD hi 0)).f = l.ck.f from c2]; exact m.perm, m.nl, by omega, h, ?_, fun k hk ho => ?_, fun j i hij hj => ?_⟩
  · show (goneK l.ck (l.num.getD hi 0)).ct.list.length + _ = l.num.length
    rw [c1]; omega
  · show _ ∈ (goneK l.ck (l.num.getD hi 0)).ct.list
    have hk : k < l.num.length := hk
    rw [c1]
    exact without_mem.2 ⟨m.certs k hk (by omega), m.other hk (by omega) (by omega) (by omega) (by omega)⟩
  · have := m.desc j i hij hj
    unfold ptL at this ⊢
    simp only
    rw [c2, c3]; exact this
/-- Two neighbours at one place exchanged. -/
theorem Mid.swap {l : Ls} {lo hi i : Nat} (m : Mid l lo hi) (hi' : i + 1 < l.ord.length) (h1 : lo + 1 ≤ i ∨ lo = 0) (h2 : i + 2 ≤ hi ∨ hi = l.num.length) (h3 : lo ≤ i) (h4 : i + 1 ≤ hi) (hv : valP (ptL l i) l.ck.now = valP (ptL l (i + 1)) l.ck.now) : Mid ⟨l.ck, swapO l.ord i, l.num⟩ lo hi := by
  have hl := swapO_len l.ord i
  have nl := m.nl
  have hlm := m.hl
  refine ⟨m.ck, (swapO_perm hi').trans m.perm, by rw [hl]; exact nl, m.le, m.hl, m.cl, fun k hk ho => ?_, fun b a hab hb0 => ?_⟩
  · have hk : k < l.num.length := hk
    have e : pairM (swapO l.ord i) k = pairM l.ord k := by
      unfold pairM
      rw [swapO_get hi', swapO_get hi', if_neg (by omega), if_neg (by omega), if_neg (by omega), if_neg (by omega)]
    show (l.num.getD k 0, pairM (swapO l.ord i) k) ∈ _
    rw [e]; exact m.certs k hk ho
  · have hb : b < l.ord.length := by have : b < (swapO l.ord i).length := hb0
                                     omega
    have pe : ∀ k, ptL ⟨l.ck, swapO l.ord i, l.num⟩ k = if k = i then ptL l (i + 1) else if k = i + 1 then ptL l i else ptL l k := fun k => by
      unfold ptL
      simp only
      rw [swapO_get hi']
      split
      · rfl
      · split <;> rfl
    rw [pe, pe]
    show valP (if b = i then _ else _) l.ck.now ≤ valP (if a = i then _ else _) l.ck.now
    by_cases ha : a = i
    · subst ha
      rw [if_neg (by omega), if_pos rfl]
      by_cases hb2 : b = a + 1
      · rw [if_pos hb2, hv]; exact Int.le_refl _
      · rw [if_neg hb2]; exact m.desc b (a + 1) (by omega) hb
    · rw [if_neg ha]
      by_cases ha2 : a = i + 1
      · rw [if_neg (by omega), if_neg (by omega), if_pos ha2]; exact m.desc b i (by omega) hb
      · rw [if_neg ha2]
        by_cases hb2 : b = i
        · rw [if_pos hb2]; exact m.desc (i + 1) a (by omega) hi'
        · rw [if_neg hb2]
          by_cases hb3 : b = i + 1
          · rw [if_pos hb3]; exact m.desc i a (by omega) (by omega)
          · rw [if_neg hb3]; exact m.desc b a hab hb
/-- A certificate made. -/
theorem Mid.make {l : Ls} {lo hi : Nat} (m : Mid l lo hi) (h : lo < hi) (hz : (madeL l lo).2 = 0) : Mid (madeL l lo).1 (lo + 1) hi ∧ (madeL l lo).1.ck.f = l.ck.f ∧ (madeL l lo).1.ck.now = l.ck.now ∧ (madeL l lo).1.ord = l.ord ∧ (madeL l lo).1.num.length = l.num.length := by
  have hlm := m.hl; have nl := m.nl; have cl := m.cl
  have p1 : 0 ≤ posF l.ck.f (pairM l.ord lo).1 := permPos m.ck.f m.perm (memO (by omega))
  have p2 : 0 ≤ posF l.ck.f (pairM l.ord lo).2 := permPos m.ck.f m.perm (memO (by omega))
  unfold madeL at hz ⊢
  split at hz
  · rename_i he
    rw [if_pos he]
    obtain ⟨a1, a2, a3, a4, a5⟩ := m.ck.add p1 p2 he
    refine ⟨⟨a1, ?_, ?_, by omega, ?_, ?_, fun k hk ho => ?_, fun j i hij hj => ?_⟩, a4, a5, rfl, List.length_set ..⟩
    · show l.ord.Perm ((addK l.ck (pairM l.ord lo)).1.f.map (·.1))
      rw [a4]; exact m.perm
    · show (l.num.set _ _).length = _
      rw [List.length_set]; exact nl
    · show hi ≤ (l.num.set _ _).length
      rw [List.length_set]; exact hlm
    · show (addK l.ck (pairM l.ord lo)).1.ct.list.length + _ = (l.num.set _ _).length
      rw [a3, List.length_set, List.length_append]
      show _ + 1 + _ = _
      omega
    · have hk : k < (l.num.set lo (addK l.ck (pairM l.ord lo)).2.1).length := hk
      rw [List.length_set] at hk
      show ((l.num.set lo (addK l.ck (pairM l.ord lo)).2.1).getD k 0, pairM l.ord k) ∈ (addK l.ck (pairM l.ord lo)).1.ct.list
      rw [a3, List.getD_eq_getElem?_getD, List.getElem?_set]
      by_cases e : lo = k
      · subst e
        rw [if_pos rfl, if_pos hk, a2]
        exact List.mem_append_right _ (List.mem_singleton.2 rfl)
      · rw [if_neg e, ← List.getD_eq_getElem?_getD]
        exact List.mem_append_left _ (m.certs k hk (by omega))
    · have := m.desc j i hij hj
      unfold ptL at this ⊢
      simp only
      rw [a4, a5]; exact this
  · rename_i he; exact absurd hz he
/-- Certificates made one after the other. -/
def makesN (l : Ls) (a : Nat) : Nat → Ls × Int
  | 0 => (l, 0)
  | n + 1 => if (makesN l a n).2 = 0 then madeL (makesN l a n).1 (a + n) else makesN l a n
theorem Mid.makes {l : Ls} {lo hi : Nat} (m : Mid l lo hi) : ∀ n, lo + n ≤ hi → (makesN l lo n).2 = 0 → Mid (makesN l lo n).1 (lo + n) hi ∧ (makesN l lo n).1.ck.f = l.ck.f ∧ (makesN l lo n).1.ck.now = l.ck.now ∧ (makesN l lo n).1.ord = l.ord ∧ (makesN l lo n).1.num.length = l.num.length
  | 0, _, _ => ⟨m, rfl, rfl, rfl, rfl⟩
  | n + 1, hn, hz => by
    have e : makesN l lo (n + 1) = if (makesN l lo n).2 = 0 then madeL (makesN l lo n).1 (lo + n) else makesN l lo n := rfl
    rw [e] at hz ⊢
    by_cases h0 : (makesN l lo n).2 = 0
    · rw [if_pos h0] at hz ⊢
      obtain ⟨a1, a2, a3, a4, a5⟩ := m.makes n (by omega) h0
      obtain ⟨b1, b2, b3, b4, b5⟩ := a1.make (by omega) hz
      exact ⟨b1, b2.trans a2, b3.trans a3, b4.trans a4, b5.trans a5⟩
    · rw [if_neg h0] at hz; exact absurd hz h0

/-! ### A swap -/
def goneIf (c : Ck) (b : Bool) (n : Int) : Ck := if b = true then goneK c n else c
def swapC (l : Ls) (i : Nat) : Ck := goneIf (goneIf (failedK l.ck) (decide (0 < i)) (l.num.getD (i - 1) 0)) (decide (i + 1 < l.num.length)) (l.num.getD (i + 1) 0)
def swapL (l : Ls) (i : Nat) : Ls × Int := makesN ⟨swapC l i, swapO l.ord i, l.num⟩ (i - 1) (min (i + 2) l.num.length - (i - 1))
/-- The pair of the first event. -/
def topX (l : Ls) : Int × Int := (getD3 l.ck.ct.list (atC l.ck.ct (hp l.ck.ag.heap 0).no)).2
def rkT (f : List Pt) (to : Int × Int) (x : Int) : Nat := rankM f (gP f (posF f x)) to
structure SwapOk (l : Ls) (to : Int × Int) (i : Nat) : Prop where
  lt : i < l.num.length
  pair : topX l = pairM l.ord i
  pos : posO l.ord (topX l).2 = i
  mid : Mid ⟨swapC l i, swapO l.ord i, l.num⟩ (i - 1) (min (i + 2) l.num.length)
  f : (swapC l i).f = l.ck.f
  now : (swapC l i).now = (hp l.ck.ag.heap 0).at_
  okn : okR (hp l.ck.ag.heap 0).at_
  le : leR (hp l.ck.ag.heap 0).at_ to
  grow : phi (rkT l.ck.f to) 0 l.ord < phi (rkT l.ck.f to) 0 (swapO l.ord i)
  rk : rkT l.ck.f to (l.ord.getD (i + 1) 0) < rkT l.ck.f to (l.ord.getD i 0)
  held0 : okK (failedK l.ck)
  held1 : 0 < i → 0 ≤ atC (failedK l.ck).ct (l.num.getD (i - 1) 0)
  held2 : i + 1 < l.num.length → okK (goneIf (failedK l.ck) (decide (0 < i)) (l.num.getD (i - 1) 0)) ∧ 0 ≤ atC (goneIf (failedK l.ck) (decide (0 < i)) (l.num.getD (i - 1) 0)).ct (l.num.getD (i + 1) 0)
theorem swap_ok {l : Ls} {to : Int × Int} (w : okM l) (ot : okR to) (hw : waitsK l.ck to = true) : ∃ i, SwapOk l to i := by
  have nl := w.nl
  unfold waitsK at hw
  rw [Bool.and_eq_true, decide_eq_true_eq, decide_eq_true_eq] at hw
  obtain ⟨h0, hle⟩ := hw
  have hle := cmpR_le.1 hle
  obtain ⟨ps, ev⟩ := w.ck.evs
  obtain ⟨f1, f2, f3, f4⟩ := w.ck.failed h0 ev
  obtain ⟨i, hi, hno, hF⟩ := w.event (hp_mem h0)
  have hm := w.certs i hi
  obtain ⟨g1, g2, g3⟩ := goneK_ct l.ck (hp l.ck.ag.heap 0).no
  have lv := w.level hi hF
  have pairE : topX l = pairM l.ord i := by
    unfold topX
    rw [← hno, (w.ck.ct.at_mem hm).2.2]
  have fct : (failedK l.ck).ct = withoutC l.ck.ct (l.num.getD i 0) := by rw [hno]; exact g1
  have ff : (failedK l.ck).f = l.ck.f := g2
  have fn : (failedK l.ck).now = (hp l.ck.ag.heap 0).at_ := rfl
  have wc := without_count w.ck.ct hm
  have cl := w.cl
  -- failed
  have M0 : Mid ⟨failedK l.ck, l.ord, l.num⟩ i (i + 1) := by
    refine ⟨f1, by show l.ord.Perm ((failedK l.ck).f.map (·.1)); rw [ff]; exact w.perm, nl, by omega, hi, ?_, fun k hk ho => ?_, fun j a haj hj => ?_⟩
    · show (failedK l.ck).ct.list.length + _ = l.num.length
      rw [fct]; omega
    · have hk : k < l.num.length := hk
      show _ ∈ (failedK l.ck).ct.list
      rw [fct]
      exact without_mem.2 ⟨w.certs k hk, fun e => by have := w.numInj hk hi e; omega⟩
    · have := w.descAt h0 j a haj hj
      unfold ptL at this ⊢
      simp only
      rw [ff, fn]; exact this
  have hnum : ∀ {b : Bool} {n : Int} {c : Ck}, (goneIf c b n).f = c.f ∧ (goneIf c b n).now = c.now := fun {b n c} => by
    unfold goneIf
    split
    · exact (goneK_ct c n).2
    · exact ⟨rfl, rfl⟩
  have M1 : Mid ⟨goneIf (failedK l.ck) (decide (0 < i)) (l.num.getD (i - 1) 0), l.ord, l.num⟩ (i - 1) (i + 1) := by
    unfold goneIf
    by_cases h : 0 < i
    · rw [if_pos (decide_eq_true h)]; exact M0.goneLo h
    · rw [if_neg (by rw [decide_eq_false h]; simp)]
      rw [show i - 1 = i by omega]; exact M0
  have M2 : Mid ⟨swapC l i, l.ord, l.num⟩ (i - 1) (min (i + 2) l.num.length) := by
    unfold swapC
    by_cases h : i + 1 < l.num.length
    · rw [show min (i + 2) l.num.length = i + 1 + 1 by omega]
      have := M1.goneHi h
      unfold goneIf at this ⊢
      rw [decide_eq_true h, if_pos rfl]
      exact this
    · rw [show min (i + 2) l.num.length = i + 1 by omega, decide_eq_false h]
      exact M1
  have sf : (swapC l i).f = l.ck.f := by unfold swapC; rw [hnum.1, hnum.1, ff]
  have sn : (swapC l i).now = (hp l.ck.ag.heap 0).at_ := by unfold swapC; rw [hnum.2, hnum.2, fn]
  have val : valP (ptL l i) (hp l.ck.ag.heap 0).at_ = valP (ptL l (i + 1)) (hp l.ck.ag.heap 0).at_ := by
    have := lv.1
    rw [farV_val] at this; omega
  have M3 := M2.swap (i := i) (by show i + 1 < l.ord.length; omega) (by omega) (by show i + 2 ≤ _ ∨ _ = l.num.length; omega) (by omega) (by omega) (by
    unfold ptL at val ⊢
    simp only
    rw [sf, sn]; exact val)
  have ptm := fun k (hk : k < l.ord.length) => w.pt hk
  have rkh : rkT l.ck.f to (l.ord.getD (i + 1) 0) < rkT l.ck.f to (l.ord.getD i 0) := by
    have la := lead_after f4.d1 ot.d1 hle lv.1 lv.2
    exact rank_lt w.ck.f (ptm i (by omega)).2.1 (ptm (i + 1) (by omega)).2.1 la
  refine ⟨i, hi, pairE, ?_, M3, sf, sn, f4, hle, phi_swap _ (by omega) rkh, rkh, f1, fun h => ?_, fun h => ⟨M1.ck, ?_⟩⟩
  · rw [pairE]; exact posO_here w.ne (by omega)
  · exact (f1.ct.at_mem (M0.certs (i - 1) (by show i - 1 < l.num.length; omega) (.inl (by omega)))).1
  · exact (M1.ck.ct.at_mem (M1.certs (i + 1) h (.inr (by omega)))).1
/-- Behind a swap the list is again one in the middle. -/
theorem SwapOk.after {l : Ls} {to : Int × Int} {i : Nat} (s : SwapOk l to i) (hz : (swapL l i).2 = 0) : okM (swapL l i).1 ∧ (swapL l i).1.ck.f = l.ck.f ∧ (swapL l i).1.ck.now = (hp l.ck.ag.heap 0).at_ ∧ (swapL l i).1.ord = swapO l.ord i ∧ (swapL l i).1.num.length = l.num.length := by
  have le := s.mid.le
  obtain ⟨a1, a2, a3, a4, a5⟩ := s.mid.makes _ (by omega) hz
  rw [show i - 1 + (min (i + 2) l.num.length - (i - 1)) = min (i + 2) l.num.length by omega] at a1
  exact ⟨a1.done, a2.trans s.f, a3.trans s.now, a4, a5⟩
end Go.Proofs.YtkemdpobjaiolaaGreat
end
section
/- Advancing to a time, in plain Lean: it ends, and the order is that of the time. Conditions: none. -/
set_option maxRecDepth 100000
open Go Go.Eng Go.Proofs
namespace Go.Proofs.YtkemdpobjaiolaaGreat

def potL (l : Ls) (to : Int × Int) : Nat := l.ord.length * (l.ord.length * l.ck.f.length) - phi (rkT l.ck.f to) 0 l.ord
theorem pot_lt {l : Ls} {to : Int × Int} {i : Nat} (s : SwapOk l to i) (hz : (swapL l i).2 = 0) : potL (swapL l i).1 to < potL l to := by
  obtain ⟨_, a2, _, a4, _⟩ := s.after hz
  unfold potL
  rw [a2, a4, swapO_len]
  have g := s.grow
  have b := phi_le (rkT l.ck.f to) (n := l.ck.f.length) (swapO l.ord i) 0 fun x _ => rank_le
  rw [swapO_len, Nat.zero_add] at b
  omega
def topI (l : Ls) : Nat := (posO l.ord (topX l).2).toNat
theorem SwapOk.top {l : Ls} {to : Int × Int} {i : Nat} (s : SwapOk l to i) : topI l = i := by unfold topI; rw [s.pos]; rfl
/-- Swaps until no event is due: the list, how many swaps, the error. -/
def advF (to : Int × Int) : Nat → Ls → Ls × Int × Int
  | 0, l => (l, 0, 0)
  | k + 1, l => if waitsK l.ck to = true then (if (swapL l (topI l)).2 = 0 then (if (advF to k (swapL l (topI l)).1).2.2 = 0 then ((advF to k (swapL l (topI l)).1).1, (advF to k (swapL l (topI l)).1).2.1 + 1, 0) else (.zero, 0, (advF to k (swapL l (topI l)).1).2.2)) else (.zero, 0, (swapL l (topI l)).2)) else (l, 0, 0)
theorem advF_fuel {to : Int × Int} (ot : okR to) : ∀ (k k' : Nat) (l : Ls), okM l → potL l to < k → potL l to < k' → advF to k l = advF to k' l
  | 0, _, _, _, h, _ => by omega
  | _ + 1, 0, _, _, _, h => by omega
  | k + 1, k' + 1, l, w, h, h' => by
    unfold advF
    by_cases hw : waitsK l.ck to = true
    · rw [if_pos hw, if_pos hw]
      obtain ⟨i, s⟩ := swap_ok w ot hw
      rw [s.top]
      by_cases hz : (swapL l i).2 = 0
      · have pl := pot_lt s hz
        rw [if_pos hz, if_pos hz, advF_fuel ot k k' _ (s.after hz).1 (by omega) (by omega)]
      · rw [if_neg hz, if_neg hz]
    · rw [if_neg hw, if_neg hw]
def advR (l : Ls) (to : Int × Int) : Ls × Int × Int := advF to (potL l to + 1) l
theorem advR_stop {l : Ls} {to : Int × Int} (hw : waitsK l.ck to = false) : advR l to = (l, 0, 0) := by
  unfold advR advF
  rw [if_neg (by rw [hw]; simp)]
theorem advR_step {l : Ls} {to : Int × Int} {i : Nat} (w : okM l) (ot : okR to) (hw : waitsK l.ck to = true) (s : SwapOk l to i) (hz : (swapL l i).2 = 0) :
    advR l to = if (advR (swapL l i).1 to).2.2 = 0 then ((advR (swapL l i).1 to).1, (advR (swapL l i).1 to).2.1 + 1, 0) else (.zero, 0, (advR (swapL l i).1 to).2.2) := by
  have pl := pot_lt s hz
  have e : advF to (potL l to) (swapL l i).1 = advR (swapL l i).1 to := advF_fuel ot _ _ _ (s.after hz).1 pl (Nat.lt_succ_self _)
  have : advR l to = if waitsK l.ck to = true then (if (swapL l (topI l)).2 = 0 then (if (advF to (potL l to) (swapL l (topI l)).1).2.2 = 0 then ((advF to (potL l to) (swapL l (topI l)).1).1, (advF to (potL l to) (swapL l (topI l)).1).2.1 + 1, 0) else (.zero, 0, (advF to (potL l to) (swapL l (topI l)).1).2.2)) else (.zero, 0, (swapL l (topI l)).2)) else (l, 0, 0) := rfl
  rw [this, if_pos hw, s.top, if_pos hz, e]

/-! ### The order of its time -/
end Go.Proofs.YtkemdpobjaiolaaGreat
end
section
/- What an advance of a list comes to, in plain words. Conditions: none. -/
set_option maxRecDepth 100000
open Go Go.Eng Go.Proofs
namespace Go.Proofs.YtkemdpobjaiolaaGreat

theorem fitMid {l : Ls} (ck : okK l.ck) (hp : l.ord.Perm (l.ck.f.map (·.1))) (nl : l.num.length = l.ord.length - 1) : fitL l := by
  have a := ck.f.small
  have b := hp.length_eq
  rw [List.length_map] at b
  exact ⟨ck.fit, by omega, by omega⟩
theorem Mid.fit {l : Ls} {lo hi : Nat} (m : Mid l lo hi) : fitL l := fitMid m.ck m.perm m.nl
theorem okM.fit {l : Ls} (w : okM l) : fitL l := fitMid w.ck w.perm w.nl
theorem Mid.small {l : Ls} {lo hi : Nat} (m : Mid l lo hi) : l.ord.length ≤ 64 := by
  have a := m.ck.f.len
  have b := m.perm.length_eq
  rw [List.length_map] at b
  omega
/-! ### Advancing -/
def addR (n : Int) (r : Ls × Int × Int) : Ls × Int × Int := if r.2.2 = 0 then (r.1, r.2.1 + n, 0) else (.zero, 0, r.2.2)
theorem addR_addR {n : Int} {r : Ls × Int × Int} : addR n (addR 1 r) = addR (n + 1) r := by
  unfold addR
  by_cases h : r.2.2 = 0
  · rw [if_pos h, if_pos h, if_pos rfl]
    show (r.1, r.2.1 + 1 + n, (0 : Int)) = _
    rw [show r.2.1 + 1 + n = r.2.1 + (n + 1) by omega]
  · rw [if_neg h, if_neg h, if_neg h]
theorem advR_next {l : Ls} {to : Int × Int} {i : Nat} (w : okM l) (ot : okR to) (hw : waitsK l.ck to = true) (s : SwapOk l to i) (hz : (swapL l i).2 = 0) : advR l to = addR 1 (advR (swapL l i).1 to) := advR_step w ot hw s hz
structure AdvInv (l0 : Ls) (to : Int × Int) (n : Int) (l : Ls) : Prop where
  m : okM l
  u : untilK l.ck to = 0
  e : advR l0 to = addR n (advR l to)
  n0 : 0 ≤ n
  pot : n + potL l to ≤ potL l0 to
  f : l.ck.f = l0.ck.f
theorem advR_zero {to : Int × Int} : ∀ k (l : Ls), (advF to k l).2.2 ≠ 0 → (advF to k l).1 = .zero ∧ (advF to k l).2.1 = 0
  | 0, l, h => absurd rfl h
  | k + 1, l, h => by
    unfold advF at h ⊢
    by_cases h1 : waitsK l.ck to = true
    · rw [if_pos h1] at h ⊢
      by_cases h2 : (swapL l (topI l)).2 = 0
      · rw [if_pos h2] at h ⊢
        by_cases h3 : (advF to k (swapL l (topI l)).1).2.2 = 0
        · rw [if_pos h3] at h; exact absurd rfl h
        · rw [if_neg h3]; exact ⟨rfl, rfl⟩
      · rw [if_neg h2]; exact ⟨rfl, rfl⟩
    · rw [if_neg h1] at h; exact absurd rfl h
theorem AdvInv.start {l : Ls} {to : Int × Int} (ok : okLs l) (hu : untilK l.ck to = 0) : AdvInv l to 0 l := by
  refine ⟨ok.weak, hu, ?_, Int.le_refl _, by omega, rfl⟩
  unfold addR
  by_cases h : (advR l to).2.2 = 0
  · rw [if_pos h, Int.add_zero, ← h]
  · rw [if_neg h]
    obtain ⟨h1, h2⟩ := advR_zero _ _ h
    exact Prod.ext h1 (Prod.ext h2 rfl)
theorem AdvInv.next {l0 l : Ls} {to : Int × Int} {n : Int} (a : AdvInv l0 to n l) (hw : waitsK l.ck to = true) {i : Nat} (s : SwapOk l to i) (hz : (swapL l i).2 = 0) : AdvInv l0 to (n + 1) (swapL l i).1 ∧ potL (swapL l i).1 to < potL l to := by
  obtain ⟨ok, ot, hle⟩ := untilK_zero.1 a.u
  obtain ⟨b1, b2, b3, b4, b5⟩ := s.after hz
  have pl := pot_lt s hz
  have n0 := a.n0; have hp := a.pot
  refine ⟨⟨b1, ?_, ?_, by omega, by omega, b2.trans a.f⟩, pl⟩
  · refine untilK_zero.2 ⟨b1.ck, ot, ?_⟩
    rw [b3]; exact s.le
  · rw [a.e, advR_next a.m ot hw s hz, addR_addR]
theorem AdvInv.stop {l0 l : Ls} {to : Int × Int} {n : Int} (a : AdvInv l0 to n l) (hw : waitsK l.ck to = false) : advR l0 to = (l, n, 0) := by
  rw [a.e, advR_stop hw]
  unfold addR
  rw [if_pos rfl, Int.zero_add]
end Go.Proofs.YtkemdpobjaiolaaGreat
end
