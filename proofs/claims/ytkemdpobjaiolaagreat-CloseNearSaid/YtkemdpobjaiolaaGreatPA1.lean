/- The engine, parts AV, AW, AX, AY, put together. Conditions: none. -/
import Derived.Test.YtkemdpobjaiolaaGreatPM4
set_option linter.unusedVariables false
section
/- A list in the middle of an advance: what a swap does, and that swaps end. Conditions: none. -/
set_option maxRecDepth 100000
open Go Go.Eng Go.Proofs
namespace Go.Proofs.YtkemdpobjaiolaaGreat

/-! ### Certificates by their numbers -/
theorem _root_.Go.Eng.okC.uniq {ct : Ct} (ok : okC ct) {n : Int} {x y : Int × Int} (hx : (n, x) ∈ ct.list) (hy : (n, y) ∈ ct.list) : x = y := by
  obtain ⟨i, hi⟩ := List.mem_iff_getElem?.1 hx
  obtain ⟨j, hj⟩ := List.mem_iff_getElem?.1 hy
  obtain ⟨i1, i2⟩ := List.getElem?_eq_some_iff.1 hi
  obtain ⟨j1, j2⟩ := List.getElem?_eq_some_iff.1 hj
  have hp := List.pairwise_iff_getElem.1 ok.ok.inc
  rcases Nat.lt_trichotomy i j with k | k | k
  · have := hp i j i1 j1 k; rw [i2, j2] at this; exact absurd this (Int.lt_irrefl _)
  · subst k; rw [hi] at hj; exact congrArg Prod.snd (Option.some.inj hj)
  · have := hp j i j1 i1 k; rw [i2, j2] at this; exact absurd this (Int.lt_irrefl _)
theorem _root_.Go.Eng.okC.at_mem {ct : Ct} (ok : okC ct) {n : Int} {x : Int × Int} (hx : (n, x) ∈ ct.list) : 0 ≤ atC ct n ∧ atC ct n < ct.list.length ∧ getD3 ct.list (atC ct n) = (n, x) := by
  have h0 : 0 ≤ atC ct n := by
    by_cases h : atC ct n < 0
    · have := idx_out h _ hx
      simp at this
    · omega
  obtain ⟨h1, y, h2, h3⟩ := atC_range h0
  refine ⟨h0, h1, ?_⟩
  have : getD3 ct.list (atC ct n) = y := by unfold getD3; rw [List.getD_eq_getElem?_getD, h2]; rfl
  rw [this]
  have hm : (n, y.2) ∈ ct.list := by rw [← h3]; exact List.mem_of_getElem? h2
  exact Prod.ext h3 (ok.uniq hm hx)
theorem certOK_mem {ct : Ct} (ok : okC ct) {o num : List Int} {k : Nat} : certOK ct o num k = true ↔ (num.getD k 0, pairM o k) ∈ ct.list := by
  unfold certOK
  simp only [Bool.and_eq_true, decide_eq_true_eq, beq_iff_eq]
  constructor
  · intro ⟨h1, h2⟩
    obtain ⟨_, y, h3, h4⟩ := atC_range h1
    have e : getD3 ct.list (atC ct (num.getD k 0)) = y := by unfold getD3; rw [List.getD_eq_getElem?_getD, h3]; rfl
    rw [e] at h2
    have := List.mem_of_getElem? h3
    rw [← h2, ← h4]; exact this
  · intro h
    obtain ⟨a, _, b⟩ := ok.at_mem h
    exact ⟨a, by rw [b]⟩

/-! ### A list in the middle -/
structure okM (l : Ls) : Prop where
  ck : okK l.ck
  perm : l.ord.Perm (l.ck.f.map (·.1))
  nl : l.num.length = l.ord.length - 1
  cl : l.ck.ct.list.length = l.num.length
  certs : ∀ k, k < l.num.length → (l.num.getD k 0, pairM l.ord k) ∈ l.ck.ct.list
  desc : ∀ i j, i < j → j < l.ord.length → valP (ptL l j) l.ck.now ≤ valP (ptL l i) l.ck.now
theorem okLs.weak {l : Ls} (ok : okLs l) : okM l := by
  refine ⟨ok.ck, ?_, ok.nl, ok.cl, fun k hk => (certOK_mem ok.ck.ct).1 (ok.cert hk), fun i j hij hj => ok.val hij hj⟩
  rw [ok.ord]
  exact (sortM_perm l.ck.now l.ck.f).map _
theorem permPos {f : List Pt} (of : okF f) {o : List Int} (hp : o.Perm (f.map (·.1))) {x : Int} (hx : x ∈ o) : 0 ≤ posF f x := by
  obtain ⟨p, h1, h2⟩ := List.mem_map.1 (hp.mem_iff.1 hx)
  by_cases h : posF f x < 0
  · have := idx_out h p h1
    simp at this
    exact absurd h2 this
  · omega
theorem permNe {f : List Pt} (of : okF f) {o : List Int} (hp : o.Perm (f.map (·.1))) : o.Pairwise (· ≠ ·) :=
  hp.symm.pairwise (List.pairwise_map.2 (okF_ids of)) fun h => h.symm
theorem memO {o : List Int} {k : Nat} (hk : k < o.length) : o.getD k 0 ∈ o := by
  have := getI (xs := o) (i := (k : Int)) (by omega) (by omega)
  rw [Int.toNat_natCast] at this
  exact List.mem_of_getElem? this
theorem ptPerm {l : Ls} (of : okF l.ck.f) (hp : l.ord.Perm (l.ck.f.map (·.1))) {k : Nat} (hk : k < l.ord.length) : okP (ptL l k) ∧ ptL l k ∈ l.ck.f ∧ (ptL l k).1 = l.ord.getD k 0 := by
  have h0 := permPos of hp (memO hk)
  refine ⟨of.pt h0, ?_, (posF_range h0).2.2⟩
  exact List.mem_of_getElem? (posF_range h0).2.1
theorem okM.pt {l : Ls} (w : okM l) {k : Nat} (hk : k < l.ord.length) : okP (ptL l k) ∧ ptL l k ∈ l.ck.f ∧ (ptL l k).1 = l.ord.getD k 0 := ptPerm w.ck.f w.perm hk
theorem okM.ne {l : Ls} (w : okM l) : l.ord.Pairwise (· ≠ ·) := permNe w.ck.f w.perm
/-! ### Values at the time of an event -/

/-! ### Two neighbours of an order exchanged -/
/-! ### What grows with each swap -/
/-! ### A list without the certificates of some neighbours -/
/-! ### A swap -/

/-! ### The order of its time -/

theorem fitMid {l : Ls} (ck : okK l.ck) (hp : l.ord.Perm (l.ck.f.map (·.1))) (nl : l.num.length = l.ord.length - 1) : fitL l := by
  have a := ck.f.small
  have b := hp.length_eq
  rw [List.length_map] at b
  exact ⟨ck.fit, by omega, by omega⟩
theorem okM.fit {l : Ls} (w : okM l) : fitL l := fitMid w.ck w.perm w.nl
/-! ### Advancing -/
end Go.Proofs.YtkemdpobjaiolaaGreat
end
