/- The engine, parts PA, PB, PC, PE, PF, PG, PH, PI, PJ, put together. Conditions: none. -/
import Derived.Test.YtkemdpobjaiolaaGreatPQ1
import Derived.Test.YtkemdpobjaiolaaGreatPL3
import Derived.Sort.AssemblyPlain
import Derived.Test.YtkemdpobjaiolaaGreatVgStd
import Derived.Test.YtkemdpobjaiolaaGreatFs
import Derived.Test.YtkemdpobjaiolaaGreatPX1
import Derived.Sort.LotD4
import Derived.Sort.WalkA14
import Derived.Test.YtkemdpobjaiolaaGreatP4
import Derived.Test.YtkemdpobjaiolaaGreatP3
import Derived.Test.YtkemdpobjaiolaaGreatVgClose
set_option linter.unusedVariables false
section
/- Sorting pairs: a slice of one's own, its elements exchanged; insertion sort. Conditions: none. -/
set_option maxRecDepth 100000
open Go Go.Eng Go.Proofs
namespace Go.Proofs.YtkemdpobjaiolaaGreat

abbrev VP := {p : Pr // okPr p}
instance : Inhabited VP := ⟨⟨(0, 0, (0, 1)), ⟨by decide, by decide, by decide, by decide, by decide⟩⟩⟩
def fV (x : VP) : List Value := [.int .i64 x.1.1, .int .i64 x.1.2.1, .int .i64 x.1.2.2.1, .int .i64 x.1.2.2.2]
abbrev vV (x : VP) : Value := sI4 x.1.1 x.1.2.1 x.1.2.2.1 x.1.2.2.2
def ltV (x y : VP) : Bool := clP x.1 y.1
theorem swoV : Go.Sort.SWO ltV := by
  have nt : ∀ x y z : VP, ltV x y = false → ltV y z = false → ltV x z = false := fun x y z h1 h2 => clP_tr z.1 y.1 x.1 z.2 y.2 x.2 h2 h1
  refine ⟨fun x => clP_irrefl _, fun x y z h1 h2 => ?_, nt⟩
  cases h : ltV x z with
  | true => rfl
  | false =>
    have h3 : ltV z y = false := clP_asymm y.1 z.1 y.2 z.2 h2
    have := nt x z y h h3
    rw [this] at h1; cases h1
def CmpV (cmp : Value) (H0 : Hp) : Prop := ∀ (x y : VP) (H : Hp), Hp.le H0 H → ∃ n : Int, QfV Tryz.prog cmp [vV x, vV y] H (.int .i64 n) ∧ (n < 0 ↔ ltV x y = true)

theorem _root_.Go.Eng.Chg.trans {H H' H'' : Hp} {u : Slc} (h : Chg H H' u) (h' : Chg H' H'' u) : Chg H H'' u := fun b hb hu => by
  have e := h b hb hu
  rw [h' b (by rw [e]; exact hb) hu, e]
theorem _root_.Go.Eng.Chg.refl {H : Hp} {u : Slc} : Chg H H u := fun _ _ _ => rfl
theorem _root_.Go.Eng.Chg.ofLe {H H' : Hp} {u : Slc} (h : Hp.le H H') : Chg H H' u := fun b hb _ => by
  obtain ⟨o, ho⟩ := Option.ne_none_iff_exists'.1 hb
  rw [ho, h b o ho]

structure SD (H0 : Hp) (e : TypeId) (u : Slc) (H : Hp) (d : Array VP) : Prop where
  m : Mine 4 fV e H0 H u d.toList
  le : Hp.le H0 H
  sz : d.size ≤ 1000000
section
variable {H0 H : Hp} {e : TypeId} {u : Slc} {d : Array VP} {i j : Int}
theorem SD.rd (s : SD H0 e u H d) : Rd 4 fV H u d.toList := Mine.rd (fun _ => rfl) s.m
theorem SD.up {H' : Hp} (s : SD H0 e u H d) (h : Hp.le H H') : SD H0 e u H' d := ⟨s.m.le h, Hp.le_trans s.le h, s.sz⟩
theorem SD.inS (s : SD H0 e u H d) (h0 : 0 ≤ i) (h1 : i < d.size) : inSl u.a u.n i := s.rd.inS h0 (by simpa using h1)
theorem SD.get (h0 : 0 ≤ i) (h1 : i < d.size) : d.toList[i.toNat]? = some d[i.toNat]! := by
  have h : i.toNat < d.size := by omega
  rw [getElem!_pos d _ h, Array.getElem?_toList, Array.getElem?_eq_getElem h]
theorem SD.at (s : SD H0 e u H d) (h0 : 0 ≤ i) (h1 : i < d.size) :
    H.at (eaddr u.a 4 i) = some (.int .i64 d[i.toNat]!.1.1) ∧ H.at ((eaddr u.a 4 i).add 1) = some (.int .i64 d[i.toNat]!.1.2.1) ∧ H.at ((eaddr u.a 4 i).add 2) = some (.int .i64 d[i.toNat]!.1.2.2.1) ∧ H.at ((eaddr u.a 4 i).add 3) = some (.int .i64 d[i.toNat]!.1.2.2.2) :=
  ⟨s.rd.at0 h0 (SD.get h0 h1) rfl, s.rd.atj h0 (SD.get h0 h1) (j := 1) rfl, s.rd.atj h0 (SD.get h0 h1) (j := 2) rfl, s.rd.atj h0 (SD.get h0 h1) (j := 3) rfl⟩
theorem SD.set {vs : List Value} {y : VP} (s : SD H0 e u H d) (h0 : 0 ≤ i) (h1 : i < d.size) (hv : vs = fV y) {Q : Hp → Prop}
    (q : ∀ H', SD H0 e u H' (d.setIfInBounds i.toNat y) → Chg H H' u → Q H') :
    H.canStore (eaddr u.a 4 i) 0 vs ∧ ∀ H', H' = H.store (eaddr u.a 4 i) 0 vs → Q H' := by
  refine Mine.setE (k := 4) (f := fV) (fun _ => rfl) s.m h0 (SD.get h0 h1) (y := y) (by subst hv; simp [fV]) (by subst hv; simp [fV]) fun H' m c => q H' ⟨?_, Hp.le_chg s.le c s.m.isNew, by simpa using s.sz⟩ c
  rw [Array.toList_setIfInBounds]; exact m
theorem SD.swp {Q : Hp → Prop} (s : SD H0 e u H d) (hi : 0 ≤ i) (hi' : i < d.size) (hj : 0 ≤ j) (hj' : j < d.size)
    (q : ∀ H', SD H0 e u H' (Go.Sort.swp d i.toNat j.toNat) → Chg H H' u → Q H') :
    inSl u.a u.n j ∧ ∃ n1 n2 n3 n4 : Int, (H.at (eaddr u.a 4 j) = some (.int .i64 n1) ∧ H.at ((eaddr u.a 4 j).add 1) = some (.int .i64 n2) ∧ H.at ((eaddr u.a 4 j).add 2) = some (.int .i64 n3) ∧ H.at ((eaddr u.a 4 j).add 3) = some (.int .i64 n4)) ∧
      inSl u.a u.n i ∧ ∃ n5 n6 n7 n8 : Int, (H.at (eaddr u.a 4 i) = some (.int .i64 n5) ∧ H.at ((eaddr u.a 4 i).add 1) = some (.int .i64 n6) ∧ H.at ((eaddr u.a 4 i).add 2) = some (.int .i64 n7) ∧ H.at ((eaddr u.a 4 i).add 3) = some (.int .i64 n8)) ∧
      inSl u.a u.n i ∧ H.canStore (eaddr u.a 4 i) 0 [.int .i64 n1, .int .i64 n2, .int .i64 n3, .int .i64 n4] ∧ ∀ H9, H9 = H.store (eaddr u.a 4 i) 0 [.int .i64 n1, .int .i64 n2, .int .i64 n3, .int .i64 n4] →
      inSl u.a u.n j ∧ H9.canStore (eaddr u.a 4 j) 0 [.int .i64 n5, .int .i64 n6, .int .i64 n7, .int .i64 n8] ∧ ∀ H10, H10 = H9.store (eaddr u.a 4 j) 0 [.int .i64 n5, .int .i64 n6, .int .i64 n7, .int .i64 n8] → Q H10 := by
  refine ⟨s.inS hj hj', _, _, _, _, s.at hj hj', s.inS hi hi', _, _, _, _, s.at hi hi', s.inS hi hi', s.set (y := d[j.toNat]!) hi hi' rfl fun H9 s9 c9 => ?_⟩
  exact ⟨s9.inS hj (by simpa using hj'), s9.set (y := d[i.toNat]!) hj (by simpa using hj') rfl fun H10 s10 c10 => q H10 s10 (c9.trans c10)⟩
end
theorem sizeSwp {d : Array VP} {i j : Nat} : (Go.Sort.swp d i j).size = d.size := Go.Sort.size_swp d i j
structure Did (H0 : Hp) (e : TypeId) (u : Slc) (H H' : Hp) (d' : Array VP) : Prop where
  s : SD H0 e u H' d'
  c : Chg H H' u

set_option maxHeartbeats 2000000 in
theorem insV {H0 H : Hp} {e : TypeId} {u : Slc} {d : Array VP} {cmp : Value} {a b : Nat} (s : SD H0 e u H d) (hc : CmpV cmp H0) (hab : a ≤ b) (hb : b ≤ d.size) :
    Go.Eng.Fn Tryz.prog F.slices_insertionSortCmpFunc_api_Pair #[u.v, .int .i64 a, .int .i64 b, cmp] H fun v H' => v = .tuple #[] ∧ Did H0 e u H H' (Go.Sort.insertionSort ltV d a b) := by
  have sz := s.sz
  refine slices_insertionSortCmpFunc_api_Pair_vc ⟨by unfold inI; omega, fun n H4 => ∃ (i : Nat) (d' : Array VP), n = i ∧ a < i ∧ SD H0 e u H4 d' ∧ d'.size = d.size ∧ Chg H H4 u ∧ Go.Sort.insOuter ltV a b i d' = Go.Sort.insertionSort ltV d a b, fun n _ => (b - n).toNat,
    ⟨a + 1, d, by omega, by omega, s, rfl, .refl, rfl⟩, ?_⟩
  rintro n3 H4 ⟨i, d', rfl, hi, s4, z4, c4, he⟩
  refine ⟨fun hn => ?_, fun hn => ?_⟩
  · have hn : i < b := by simpa using hn
    refine ⟨fun n H8 => ∃ (j : Nat) (d2 : Array VP), n = j ∧ a ≤ j ∧ j ≤ i ∧ SD H0 e u H8 d2 ∧ d2.size = d.size ∧ Chg H H8 u ∧ Go.Sort.insInner ltV a j d2 = Go.Sort.insInner ltV a i d', fun n _ => n.toNat,
      ⟨i, d', rfl, by omega, by omega, s4, z4, c4, rfl⟩, ?_⟩
    rintro n7 H8 ⟨j, d2, rfl, ja, ji, s8, z8, c8, he8⟩
    obtain ⟨n17, hq, hlt⟩ := hc d2[j]! d2[j - 1]! H8 s8.le
    have ej : ((j : Int) - 1).toNat = j - 1 := by omega
    have at1 : a < j → _ := fun h => s8.at (i := (j : Int) - 1) (by omega) (by omega)
    rw [ej] at at1
    refine ⟨fun h => s8.inS (by omega) (by omega), _, _, _, _, fun h => s8.at (i := (j : Int)) (by omega) (by omega), fun h => by unfold inI; omega, fun h => s8.inS (i := (j : Int) - 1) (by have := of_decide_eq_true h; omega) (by omega), _, _, _, _, fun h => at1 (by simpa using h), n17, fun h => hq, fun h => ?_, fun h => ?_⟩
    · simp only [Bool.and_eq_true, decide_eq_true_eq] at h
      have ha : a < j := by omega
      refine ⟨by unfold inI; omega, by unfold inI; omega, s8.swp (i := (j : Int)) (by omega) (by omega) (by omega) (by omega) fun H27 s27 c27 => ⟨by unfold inI; omega, ⟨j - 1, _, by omega, by omega, by omega, s27, by rw [sizeSwp]; exact z8, c8.trans c27, ?_⟩, ?_⟩⟩
      · rw [ej, ← he8]
        obtain ⟨k, rfl⟩ : ∃ k, j = k + 1 := ⟨j - 1, by omega⟩
        show _ = (if (k + 1 > a && ltV d2[k + 1]! d2[k]!) = true then _ else _)
        rw [if_pos (by rw [hlt.1 h.2 |> fun (x : ltV d2[k + 1]! d2[k + 1 - 1]! = true) => (show ltV d2[k + 1]! d2[k]! = true from x)]; simp; omega)]
        rfl
      · show ((j : Int) - 1).toNat < (j : Int).toNat; omega
    · refine ⟨by unfold inI; omega, ⟨i + 1, d2, by omega, by omega, s8, z8, c8, ?_⟩, ?_⟩
      · rw [← he]
        have e0 : Go.Sort.insInner ltV a i d' = d2 := by
          rw [← he8]
          cases j with
          | zero => rfl
          | succ k =>
            show (if (k + 1 > a && ltV d2[k + 1]! d2[k]!) = true then _ else _) = d2
            rw [if_neg]
            intro h2
            simp only [Bool.and_eq_true, decide_eq_true_eq] at h2
            have h3 : n17 < 0 := hlt.2 h2.2
            simp only [Bool.and_eq_false_iff, decide_eq_false_iff_not] at h
            omega
        conv => rhs; unfold Go.Sort.insOuter
        rw [if_pos hn, e0]
      · show ((b : Int) - ((i : Int) + 1)).toNat < ((b : Int) - (i : Int)).toNat; omega
  · have hn : ¬ i < b := by simpa using hn
    refine ⟨rfl, ?_, c4⟩
    rw [← he]
    unfold Go.Sort.insOuter
    rw [if_neg hn]; exact s4

section
variable {H0 H : Hp} {e : TypeId} {u : Slc} {d : Array VP} {cmp : Value}
theorem SD.atN {i : Int} {k : Nat} (s : SD H0 e u H d) (h : i = k) (h1 : k < d.size) :
    H.at (eaddr u.a 4 i) = some (.int .i64 d[k]!.1.1) ∧ H.at ((eaddr u.a 4 i).add 1) = some (.int .i64 d[k]!.1.2.1) ∧ H.at ((eaddr u.a 4 i).add 2) = some (.int .i64 d[k]!.1.2.2.1) ∧ H.at ((eaddr u.a 4 i).add 3) = some (.int .i64 d[k]!.1.2.2.2) := by
  subst h
  exact s.at (i := (k : Int)) (by omega) (by omega)
theorem SD.swpN {i j : Int} {a b : Nat} {Q : Hp → Prop} (s : SD H0 e u H d) (hi : i = a) (hi' : a < d.size) (hj : j = b) (hj' : b < d.size)
    (q : ∀ H', SD H0 e u H' (Go.Sort.swp d a b) → Chg H H' u → Q H') :
    inSl u.a u.n j ∧ ∃ n1 n2 n3 n4 : Int, (H.at (eaddr u.a 4 j) = some (.int .i64 n1) ∧ H.at ((eaddr u.a 4 j).add 1) = some (.int .i64 n2) ∧ H.at ((eaddr u.a 4 j).add 2) = some (.int .i64 n3) ∧ H.at ((eaddr u.a 4 j).add 3) = some (.int .i64 n4)) ∧
      inSl u.a u.n i ∧ ∃ n5 n6 n7 n8 : Int, (H.at (eaddr u.a 4 i) = some (.int .i64 n5) ∧ H.at ((eaddr u.a 4 i).add 1) = some (.int .i64 n6) ∧ H.at ((eaddr u.a 4 i).add 2) = some (.int .i64 n7) ∧ H.at ((eaddr u.a 4 i).add 3) = some (.int .i64 n8)) ∧
      inSl u.a u.n i ∧ H.canStore (eaddr u.a 4 i) 0 [.int .i64 n1, .int .i64 n2, .int .i64 n3, .int .i64 n4] ∧ ∀ H9, H9 = H.store (eaddr u.a 4 i) 0 [.int .i64 n1, .int .i64 n2, .int .i64 n3, .int .i64 n4] →
      inSl u.a u.n j ∧ H9.canStore (eaddr u.a 4 j) 0 [.int .i64 n5, .int .i64 n6, .int .i64 n7, .int .i64 n8] ∧ ∀ H10, H10 = H9.store (eaddr u.a 4 j) 0 [.int .i64 n5, .int .i64 n6, .int .i64 n7, .int .i64 n8] → Q H10 := by
  subst hi; subst hj
  exact s.swp (i := (a : Int)) (j := (b : Int)) (by omega) (by omega) (by omega) (by omega) fun H' s' c' => q H' s' c'
theorem SD.swpMN {i j : Int} {a b : Nat} {M : Prop} {Q : Hp → Prop} (s : SD H0 e u H d) (hi : i = a) (hi' : a < d.size) (hj : j = b) (hj' : b < d.size) (hM : M)
    (q : ∀ H', SD H0 e u H' (Go.Sort.swp d a b) → Chg H H' u → Q H') :
    inSl u.a u.n j ∧ ∃ n1 n2 n3 n4 : Int, (H.at (eaddr u.a 4 j) = some (.int .i64 n1) ∧ H.at ((eaddr u.a 4 j).add 1) = some (.int .i64 n2) ∧ H.at ((eaddr u.a 4 j).add 2) = some (.int .i64 n3) ∧ H.at ((eaddr u.a 4 j).add 3) = some (.int .i64 n4)) ∧ M ∧
      inSl u.a u.n i ∧ ∃ n5 n6 n7 n8 : Int, (H.at (eaddr u.a 4 i) = some (.int .i64 n5) ∧ H.at ((eaddr u.a 4 i).add 1) = some (.int .i64 n6) ∧ H.at ((eaddr u.a 4 i).add 2) = some (.int .i64 n7) ∧ H.at ((eaddr u.a 4 i).add 3) = some (.int .i64 n8)) ∧
      inSl u.a u.n i ∧ H.canStore (eaddr u.a 4 i) 0 [.int .i64 n1, .int .i64 n2, .int .i64 n3, .int .i64 n4] ∧ ∀ H9, H9 = H.store (eaddr u.a 4 i) 0 [.int .i64 n1, .int .i64 n2, .int .i64 n3, .int .i64 n4] →
      inSl u.a u.n j ∧ H9.canStore (eaddr u.a 4 j) 0 [.int .i64 n5, .int .i64 n6, .int .i64 n7, .int .i64 n8] ∧ ∀ H10, H10 = H9.store (eaddr u.a 4 j) 0 [.int .i64 n5, .int .i64 n6, .int .i64 n7, .int .i64 n8] → Q H10 := by
  obtain ⟨h1, n1, n2, n3, n4, h2, h3⟩ := s.swpN hi hi' hj hj' q
  exact ⟨h1, n1, n2, n3, n4, h2, hM, h3⟩

set_option maxHeartbeats 2000000 in
theorem siftV {lo hi first : Nat} (s : SD H0 e u H d) (hc : CmpV cmp H0) (hf : first + hi ≤ d.size) (hl : lo ≤ 1000000) :
    Go.Eng.Fn Tryz.prog F.slices_siftDownCmpFunc_api_Pair #[u.v, .int .i64 lo, .int .i64 hi, .int .i64 first, cmp] H fun v H' => v = .tuple #[] ∧ Did H0 e u H H' (Go.Sort.siftDown ltV hi first lo d) := by
  have sz := s.sz
  refine slices_siftDownCmpFunc_api_Pair_vc ⟨fun n H4 => ∃ (r : Nat) (d' : Array VP), n = r ∧ r ≤ 1000000 ∧ SD H0 e u H4 d' ∧ d'.size = d.size ∧ Chg H H4 u ∧ Go.Sort.siftDown ltV hi first r d' = Go.Sort.siftDown ltV hi first lo d, fun n _ => (hi - n).toNat,
    ⟨lo, d, rfl, hl, s, rfl, .refl, rfl⟩, ?_⟩
  rintro n3 H4 ⟨r, d', rfl, hr, s4, z4, c4, he⟩
  refine ⟨by unfold inI; omega, by unfold inI; omega, fun h => ?_, fun h => ?_⟩
  · have h : 2 * r + 1 ≥ hi := by have := of_decide_eq_true h; omega
    refine ⟨rfl, ?_, c4⟩
    rw [← he]; unfold Go.Sort.siftDown; rw [dif_pos h]; exact s4
  have h : ¬ 2 * r + 1 ≥ hi := by have := of_decide_eq_false h; omega
  have he1 : Go.Sort.siftDown ltV hi first r d' = _ := Go.Sort.siftDown.eq_1 ltV hi first r d'
  rw [dif_neg h] at he1
  obtain ⟨n13, q13, l13⟩ := hc d'[first + (2 * r + 1)]! d'[first + (2 * r + 1) + 1]! H4 s4.le
  refine ⟨by unfold inI; omega, fun _ => by unfold inI; omega, fun _ => s4.inS (by omega) (by omega), _, _, _, _, fun _ => s4.atN (k := first + (2 * r + 1)) (by omega) (by omega), fun _ => by unfold inI; omega, fun _ => by unfold inI; omega,
    fun hb => s4.inS (by omega) (by have := of_decide_eq_true hb; omega), _, _, _, _, fun hb => s4.atN (k := first + (2 * r + 1) + 1) (by omega) (by have := of_decide_eq_true hb; omega), n13, fun _ => q13, fun hb => ?_, fun hb => ?_⟩
  · simp only [Bool.and_eq_true, decide_eq_true_eq] at hb
    have hk : 2 * r + 2 < hi := by omega
    rw [if_pos (by simp only [Bool.and_eq_true, decide_eq_true_eq]; exact ⟨by omega, l13.1 hb.2⟩)] at he1
    obtain ⟨n22, q22, l22⟩ := hc d'[first + r]! d'[first + (2 * r + 2)]! H4 s4.le
    refine ⟨by unfold inI; omega, by unfold inI; omega, s4.inS (by omega) (by omega), _, _, _, _, s4.atN (k := first + r) (by omega) (by omega), by unfold inI; omega, s4.inS (by omega) (by omega), _, _, _, _, s4.atN (k := first + (2 * r + 2)) (by omega) (by omega), n22, q22, fun hx => ?_, fun hx => ?_⟩
    · refine ⟨rfl, ?_, c4⟩
      have hn : ltV d'[first + r]! d'[first + (2 * r + 2)]! = false := by
        cases hv : ltV d'[first + r]! d'[first + (2 * r + 2)]! with
        | false => rfl
        | true => have := l22.2 hv; simp at hx; omega
      rw [hn] at he1
      rw [← he, he1]; exact s4
    · have hn : ltV d'[first + r]! d'[first + (2 * r + 2)]! = true := l22.1 (by simpa using hx)
      rw [hn, if_neg (by simp), dif_pos hk] at he1
      exact ⟨by unfold inI; omega, by unfold inI; omega, by unfold inI; omega, s4.swpMN (a := first + r) (b := first + (2 * r + 2)) (by omega) (by omega) (by omega) (by omega) (by unfold inI; omega) fun H32 s32 c32 =>
        ⟨⟨2 * r + 2, _, by omega, by omega, s32, by rw [sizeSwp]; exact z4, c4.trans c32, by rw [← he1]; exact he⟩, by show ((hi : Int) - (2 * (r : Int) + 1 + 1)).toNat < ((hi : Int) - (r : Int)).toNat; omega⟩⟩
  · rw [if_neg (by
      simp only [Bool.and_eq_true, decide_eq_true_eq]
      intro hh
      have h9 : n13 < 0 := l13.2 hh.2
      simp only [Bool.and_eq_false_iff, decide_eq_false_iff_not] at hb
      omega)] at he1
    obtain ⟨n22, q22, l22⟩ := hc d'[first + r]! d'[first + (2 * r + 1)]! H4 s4.le
    refine ⟨by unfold inI; omega, s4.inS (by omega) (by omega), _, _, _, _, s4.atN (k := first + r) (by omega) (by omega), by unfold inI; omega, s4.inS (by omega) (by omega), _, _, _, _, s4.atN (k := first + (2 * r + 1)) (by omega) (by omega), n22, q22, fun hx => ?_, fun hx => ?_⟩
    · refine ⟨rfl, ?_, c4⟩
      have hn : ltV d'[first + r]! d'[first + (2 * r + 1)]! = false := by
        cases hv : ltV d'[first + r]! d'[first + (2 * r + 1)]! with
        | false => rfl
        | true => have := l22.2 hv; simp at hx; omega
      rw [hn] at he1
      rw [← he, he1]; exact s4
    · have hn : ltV d'[first + r]! d'[first + (2 * r + 1)]! = true := l22.1 (by simpa using hx)
      rw [hn, if_neg (by simp)] at he1
      exact ⟨by unfold inI; omega, by unfold inI; omega, by unfold inI; omega, s4.swpMN (a := first + r) (b := first + (2 * r + 1)) (by omega) (by omega) (by omega) (by omega) (by unfold inI; omega) fun H32 s32 c32 =>
        ⟨⟨2 * r + 1, _, by omega, by omega, s32, by rw [sizeSwp]; exact z4, c4.trans c32, by rw [← he1]; exact he⟩, by show ((hi : Int) - (2 * (r : Int) + 1)).toNat < ((hi : Int) - (r : Int)).toNat; omega⟩⟩

theorem siftSize {lt : VP → VP → Bool} {hi first : Nat} : ∀ (n lo : Nat) (d : Array VP), hi - lo ≤ n → (Go.Sort.siftDown lt hi first lo d).size = d.size
  | 0, lo, d, h => by unfold Go.Sort.siftDown; rw [dif_pos (by omega)]
  | n + 1, lo, d, h => by
    unfold Go.Sort.siftDown
    split
    · rfl
    · split
      · split
        · rfl
        · split
          · rw [siftSize n _ _ (by omega), sizeSwp]
          · rfl
      · split
        · rfl
        · rw [siftSize n _ _ (by omega), sizeSwp]
theorem tdiv2 {n : Nat} : ((n : Int)).tdiv 2 = ((n / 2 : Nat) : Int) := by rw [Int.tdiv_eq_ediv_of_nonneg (by omega)]; omega
set_option maxHeartbeats 2000000 in
theorem heapV {a b : Nat} (s : SD H0 e u H d) (hc : CmpV cmp H0) (hab : a ≤ b) (hb : b ≤ d.size) :
    Go.Eng.Fn Tryz.prog F.slices_heapSortCmpFunc_api_Pair #[u.v, .int .i64 a, .int .i64 b, cmp] H fun v H' => v = .tuple #[] ∧ Did H0 e u H H' (Go.Sort.heapSort ltV d a b) := by
  have sz := s.sz
  have e0 : ((b : Int) - a - 1).tdiv 2 = (((b - a - 1) / 2 + 1 : Nat) : Int) - 1 := by
    by_cases h : a = b
    · subst h
      rw [show (a : Int) - a - 1 = -1 by omega, show a - a - 1 = 0 by omega]; rfl
    · rw [show (b : Int) - a - 1 = ((b - a - 1 : Nat) : Int) by omega, tdiv2]; omega
  refine slices_heapSortCmpFunc_api_Pair_vc ⟨by unfold inI; omega, by unfold inI; omega, ⟨by unfold nz; decide, by rw [e0]; unfold inI; omega⟩, fun n H4 => ∃ (k : Nat) (d' : Array VP), n = (k : Int) - 1 ∧ k ≤ 1000001 ∧ SD H0 e u H4 d' ∧ d'.size = d.size ∧ Chg H H4 u ∧ Go.Sort.heapBuild ltV (b - a) a k d' = Go.Sort.heapBuild ltV (b - a) a ((b - a - 1) / 2 + 1) d, fun n _ => (n + 1).toNat,
    ⟨_, d, e0, by omega, s, rfl, .refl, rfl⟩, ?_⟩
  rintro n3 H4 ⟨k, d', rfl, hk, s4, z4, c4, he⟩
  refine ⟨fun hn => ?_, fun hn => ?_⟩
  · have hn : 1 ≤ k := by have := of_decide_eq_true hn; omega
    obtain ⟨k, rfl⟩ : ∃ j, k = j + 1 := ⟨k - 1, by omega⟩
    have q := siftV (lo := k) (hi := b - a) (first := a) s4 hc (by omega) (by omega)
    rw [show (k : Int) = ((k + 1 : Nat) : Int) - 1 by omega, show ((b - a : Nat) : Int) = (b : Int) - a by omega] at q
    refine q.mono fun v H6 ⟨hv, s6, c6⟩ => ⟨hv, by unfold inI; omega, ⟨k, _, by omega, by omega, s6, by rw [siftSize _ _ _ (Nat.le_refl _)]; exact z4, c4.trans c6, ?_⟩, by show (((k + 1 : Nat) : Int) - 1 - 1 + 1).toNat < (((k + 1 : Nat) : Int) - 1 + 1).toNat; omega⟩
    rw [← he]; rfl
  · have hn : k = 0 := by have := of_decide_eq_false hn; omega
    subst hn
    have he : d' = Go.Sort.heapBuild ltV (b - a) a ((b - a - 1) / 2 + 1) d := he
    refine ⟨by unfold inI; omega, fun n H10 => ∃ (k : Nat) (d2 : Array VP), n = (k : Int) - 1 ∧ k ≤ b - a ∧ SD H0 e u H10 d2 ∧ d2.size = d.size ∧ Chg H H10 u ∧ Go.Sort.heapPop ltV a k d2 = Go.Sort.heapSort ltV d a b, fun n _ => (n + 1).toNat,
      ⟨b - a, d', by omega, by omega, s4, z4, c4, by rw [he]; rfl⟩, ?_⟩
    rintro n9 H10 ⟨k, d2, rfl, hk, s10, z10, c10, he⟩
    refine ⟨fun hn => ?_, fun hn => ?_⟩
    · have hn : 1 ≤ k := by have := of_decide_eq_true hn; omega
      obtain ⟨k, rfl⟩ : ∃ j, k = j + 1 := ⟨k - 1, by omega⟩
      refine ⟨by unfold inI; omega, by unfold inI; omega, s10.swpN (a := a) (b := a + k) rfl (by omega) (by omega) (by omega) fun H20 s20 c20 => ?_⟩
      have q := siftV (lo := 0) (hi := k) (first := a) s20 hc (by rw [sizeSwp]; omega) (by omega)
      rw [show (k : Int) = ((k + 1 : Nat) : Int) - 1 by omega] at q
      refine q.mono fun v H22 ⟨hv, s22, c22⟩ => ⟨hv, by unfold inI; omega, ⟨k, _, by omega, by omega, s22, by rw [siftSize _ _ _ (Nat.le_refl _), sizeSwp]; exact z10, (c10.trans c20).trans c22, ?_⟩, by show (((k + 1 : Nat) : Int) - 1 - 1 + 1).toNat < (((k + 1 : Nat) : Int) - 1 + 1).toNat; omega⟩
      rw [← he]; rfl
    · have hn : k = 0 := by have := of_decide_eq_false hn; omega
      subst hn
      refine ⟨rfl, ?_, c10⟩
      have he : d2 = Go.Sort.heapSort ltV d a b := he
      rw [← he]; exact s10
end

section
variable {H0 H : Hp} {e : TypeId} {u : Slc} {d : Array VP} {cmp : Value}
set_option maxHeartbeats 2000000 in
theorem revV {a b : Nat} (s : SD H0 e u H d) (hab : a < b) (hb : b ≤ d.size) :
    Go.Eng.Fn Tryz.prog F.slices_reverseRangeCmpFunc_api_Pair #[u.v, .int .i64 a, .int .i64 b, cmp] H fun v H' => v = .tuple #[] ∧ Did H0 e u H H' (Go.Sort.reverseRange d a b) := by
  have sz := s.sz
  refine slices_reverseRangeCmpFunc_api_Pair_vc ⟨by unfold inI; omega, fun n m H4 => ∃ (i j : Nat) (d' : Array VP), n = i ∧ m = j ∧ a ≤ i ∧ i ≤ b ∧ j < b ∧ SD H0 e u H4 d' ∧ d'.size = d.size ∧ Chg H H4 u ∧ Go.Sort.reverseLoop i j d' = Go.Sort.reverseRange d a b, fun n m _ => (m - n).toNat,
    ⟨a, b - 1, d, rfl, by omega, by omega, by omega, by omega, s, rfl, .refl, rfl⟩, ?_⟩
  rintro n3 n4 H5 ⟨i, j, d', rfl, rfl, hi, hib, hj, s5, z5, c5, he⟩
  refine ⟨fun hn => ?_, fun hn => ?_⟩
  · have hn : i < j := by have := of_decide_eq_true hn; omega
    refine s5.swpN (a := i) (b := j) rfl (by omega) rfl (by omega) fun H15 s15 c15 => ⟨by unfold inI; omega, by unfold inI; omega, ⟨i + 1, j - 1, _, by omega, by omega, by omega, by omega, by omega, s15, by rw [sizeSwp]; exact z5, c5.trans c15, ?_⟩, by show ((j : Int) - 1 - ((i : Int) + 1)).toNat < ((j : Int) - (i : Int)).toNat; omega⟩
    rw [← he]
    conv => rhs; unfold Go.Sort.reverseLoop
    rw [if_pos hn]
  · have hn : ¬ i < j := by have := of_decide_eq_false hn; omega
    refine ⟨rfl, ?_, c5⟩
    rw [← he]
    unfold Go.Sort.reverseLoop
    rw [if_neg hn]; exact s5

theorem shiftUpL {b j : Nat} {n0 : Int} {K : Hp → Prop} (e0 : n0 = (j : Int)) (s : SD H0 e u H d) (hc : CmpV cmp H0) (hb : b ≤ d.size) (hj : 1 ≤ j) (hj' : j ≤ 1000001) (k : ∀ H', SD H0 e u H' (Go.Sort.shiftUp ltV b j d) → Chg H H' u → K H') :
    ∃ (I : Int → Hp → Prop), ∃ (m : Int → Hp → Nat), I n0 H ∧ ∀ (n : Int) (H4 : Hp), I n H4 →
      (decide (n < (b : Int)) = true → inSl u.a u.n n ∧ ∃ n1 n2 n3 n4 : Int, (H4.at (eaddr u.a 4 n) = some (.int .i64 n1) ∧ H4.at ((eaddr u.a 4 n).add 1) = some (.int .i64 n2) ∧ H4.at ((eaddr u.a 4 n).add 2) = some (.int .i64 n3) ∧ H4.at ((eaddr u.a 4 n).add 3) = some (.int .i64 n4)) ∧ inI (n - 1) ∧
        inSl u.a u.n (n - 1) ∧ ∃ n5 n6 n7 n8 : Int, (H4.at (eaddr u.a 4 (n - 1)) = some (.int .i64 n5) ∧ H4.at ((eaddr u.a 4 (n - 1)).add 1) = some (.int .i64 n6) ∧ H4.at ((eaddr u.a 4 (n - 1)).add 2) = some (.int .i64 n7) ∧ H4.at ((eaddr u.a 4 (n - 1)).add 3) = some (.int .i64 n8)) ∧
        ∃ n9 : Int, QfV Tryz.prog cmp [sI4 n1 n2 n3 n4, sI4 n5 n6 n7 n8] H4 (.int .i64 n9) ∧
        ((!decide (n9 < 0)) = true → K H4) ∧
        ((!decide (n9 < 0)) = false → inI (n - 1) ∧ inI (n - 1) ∧ inSl u.a u.n (n - 1) ∧ ∃ m1 m2 m3 m4 : Int, (H4.at (eaddr u.a 4 (n - 1)) = some (.int .i64 m1) ∧ H4.at ((eaddr u.a 4 (n - 1)).add 1) = some (.int .i64 m2) ∧ H4.at ((eaddr u.a 4 (n - 1)).add 2) = some (.int .i64 m3) ∧ H4.at ((eaddr u.a 4 (n - 1)).add 3) = some (.int .i64 m4)) ∧
          inSl u.a u.n n ∧ ∃ m5 m6 m7 m8 : Int, (H4.at (eaddr u.a 4 n) = some (.int .i64 m5) ∧ H4.at ((eaddr u.a 4 n).add 1) = some (.int .i64 m6) ∧ H4.at ((eaddr u.a 4 n).add 2) = some (.int .i64 m7) ∧ H4.at ((eaddr u.a 4 n).add 3) = some (.int .i64 m8)) ∧
          inSl u.a u.n n ∧ H4.canStore (eaddr u.a 4 n) 0 [.int .i64 m1, .int .i64 m2, .int .i64 m3, .int .i64 m4] ∧ ∀ H9, H9 = H4.store (eaddr u.a 4 n) 0 [.int .i64 m1, .int .i64 m2, .int .i64 m3, .int .i64 m4] →
          inSl u.a u.n (n - 1) ∧ H9.canStore (eaddr u.a 4 (n - 1)) 0 [.int .i64 m5, .int .i64 m6, .int .i64 m7, .int .i64 m8] ∧ ∀ H10, H10 = H9.store (eaddr u.a 4 (n - 1)) 0 [.int .i64 m5, .int .i64 m6, .int .i64 m7, .int .i64 m8] →
          inI (n + 1) ∧ I (n + 1) H10 ∧ m (n + 1) H10 < m n H4)) ∧
      (decide (n < (b : Int)) = false → K H4) := by
  have sz := s.sz
  refine ⟨fun n H4 => ∃ (i : Nat) (d' : Array VP), n = i ∧ 1 ≤ i ∧ SD H0 e u H4 d' ∧ d'.size = d.size ∧ Chg H H4 u ∧ Go.Sort.shiftUp ltV b i d' = Go.Sort.shiftUp ltV b j d, fun n _ => (b - n).toNat, ⟨j, d, e0, hj, s, rfl, .refl, rfl⟩, ?_⟩
  rintro n H4 ⟨i, d', rfl, hi, s4, z4, c4, he⟩
  have eu : Go.Sort.shiftUp ltV b i d' = _ := Go.Sort.shiftUp.eq_1 ltV b i d'
  refine ⟨fun hn => ?_, fun hn => ?_⟩
  · have hn : i < b := by have := of_decide_eq_true hn; omega
    rw [if_pos hn] at eu
    obtain ⟨n9, q9, l9⟩ := hc d'[i]! d'[i - 1]! H4 s4.le
    refine ⟨s4.inS (by omega) (by omega), _, _, _, _, s4.atN (k := i) rfl (by omega), by unfold inI; omega, s4.inS (by omega) (by omega), _, _, _, _, s4.atN (k := i - 1) (by omega) (by omega), n9, q9, fun hx => ?_, fun hx => ?_⟩
    · have hv : ltV d'[i]! d'[i - 1]! = false := by
        cases hv : ltV d'[i]! d'[i - 1]! with
        | false => rfl
        | true => have := l9.2 hv; simp at hx; omega
      rw [hv] at eu
      refine k _ ?_ c4
      rw [← he, eu]; exact s4
    · have hv : ltV d'[i]! d'[i - 1]! = true := l9.1 (by simpa using hx)
      rw [hv, if_neg (by simp)] at eu
      exact ⟨by unfold inI; omega, by unfold inI; omega, s4.swpN (a := i) (b := i - 1) rfl (by omega) (by omega) (by omega) fun H10 s10 c10 => ⟨by unfold inI; omega, ⟨i + 1, _, by omega, by omega, s10, by rw [sizeSwp]; exact z4, c4.trans c10, by rw [← eu]; exact he⟩,
        by show ((b : Int) - ((i : Int) + 1)).toNat < ((b : Int) - (i : Int)).toNat; omega⟩⟩
  · have hn : ¬ i < b := by have := of_decide_eq_false hn; omega
    rw [if_neg hn] at eu
    refine k _ ?_ c4
    rw [← he, eu]; exact s4
theorem shiftDownL {j : Nat} {n0 : Int} {K : Hp → Prop} (e0 : n0 = (j : Int)) (s : SD H0 e u H d) (hc : CmpV cmp H0) (hj : j < d.size) (k : ∀ H', SD H0 e u H' (Go.Sort.shiftDown ltV j d) → Chg H H' u → K H') :
    ∃ (I : Int → Hp → Prop), ∃ (m : Int → Hp → Nat), I n0 H ∧ ∀ (n : Int) (H4 : Hp), I n H4 →
      (decide (n ≥ 1) = true → inSl u.a u.n n ∧ ∃ n1 n2 n3 n4 : Int, (H4.at (eaddr u.a 4 n) = some (.int .i64 n1) ∧ H4.at ((eaddr u.a 4 n).add 1) = some (.int .i64 n2) ∧ H4.at ((eaddr u.a 4 n).add 2) = some (.int .i64 n3) ∧ H4.at ((eaddr u.a 4 n).add 3) = some (.int .i64 n4)) ∧ inI (n - 1) ∧
        inSl u.a u.n (n - 1) ∧ ∃ n5 n6 n7 n8 : Int, (H4.at (eaddr u.a 4 (n - 1)) = some (.int .i64 n5) ∧ H4.at ((eaddr u.a 4 (n - 1)).add 1) = some (.int .i64 n6) ∧ H4.at ((eaddr u.a 4 (n - 1)).add 2) = some (.int .i64 n7) ∧ H4.at ((eaddr u.a 4 (n - 1)).add 3) = some (.int .i64 n8)) ∧
        ∃ n9 : Int, QfV Tryz.prog cmp [sI4 n1 n2 n3 n4, sI4 n5 n6 n7 n8] H4 (.int .i64 n9) ∧
        ((!decide (n9 < 0)) = true → K H4) ∧
        ((!decide (n9 < 0)) = false → inI (n - 1) ∧ inI (n - 1) ∧ inSl u.a u.n (n - 1) ∧ ∃ m1 m2 m3 m4 : Int, (H4.at (eaddr u.a 4 (n - 1)) = some (.int .i64 m1) ∧ H4.at ((eaddr u.a 4 (n - 1)).add 1) = some (.int .i64 m2) ∧ H4.at ((eaddr u.a 4 (n - 1)).add 2) = some (.int .i64 m3) ∧ H4.at ((eaddr u.a 4 (n - 1)).add 3) = some (.int .i64 m4)) ∧
          inSl u.a u.n n ∧ ∃ m5 m6 m7 m8 : Int, (H4.at (eaddr u.a 4 n) = some (.int .i64 m5) ∧ H4.at ((eaddr u.a 4 n).add 1) = some (.int .i64 m6) ∧ H4.at ((eaddr u.a 4 n).add 2) = some (.int .i64 m7) ∧ H4.at ((eaddr u.a 4 n).add 3) = some (.int .i64 m8)) ∧
          inSl u.a u.n n ∧ H4.canStore (eaddr u.a 4 n) 0 [.int .i64 m1, .int .i64 m2, .int .i64 m3, .int .i64 m4] ∧ ∀ H9, H9 = H4.store (eaddr u.a 4 n) 0 [.int .i64 m1, .int .i64 m2, .int .i64 m3, .int .i64 m4] →
          inSl u.a u.n (n - 1) ∧ H9.canStore (eaddr u.a 4 (n - 1)) 0 [.int .i64 m5, .int .i64 m6, .int .i64 m7, .int .i64 m8] ∧ ∀ H10, H10 = H9.store (eaddr u.a 4 (n - 1)) 0 [.int .i64 m5, .int .i64 m6, .int .i64 m7, .int .i64 m8] →
          inI (n - 1) ∧ I (n - 1) H10 ∧ m (n - 1) H10 < m n H4)) ∧
      (decide (n ≥ 1) = false → K H4) := by
  have sz := s.sz
  refine ⟨fun n H4 => ∃ (i : Nat) (d' : Array VP), n = i ∧ i ≤ j ∧ SD H0 e u H4 d' ∧ d'.size = d.size ∧ Chg H H4 u ∧ Go.Sort.shiftDown ltV i d' = Go.Sort.shiftDown ltV j d, fun n _ => n.toNat, ⟨j, d, e0, Nat.le_refl _, s, rfl, .refl, rfl⟩, ?_⟩
  rintro n H4 ⟨i, d', rfl, hi, s4, z4, c4, he⟩
  refine ⟨fun hn => ?_, fun hn => ?_⟩
  · have hn : 1 ≤ i := by have := of_decide_eq_true hn; omega
    obtain ⟨i, rfl⟩ : ∃ k, i = k + 1 := ⟨i - 1, by omega⟩
    have eu : Go.Sort.shiftDown ltV (i + 1) d' = if (!ltV d'[i + 1]! d'[i]!) = true then d' else Go.Sort.shiftDown ltV i (Go.Sort.swp d' (i + 1) i) := rfl
    obtain ⟨n9, q9, l9⟩ := hc d'[i + 1]! d'[i]! H4 s4.le
    refine ⟨s4.inS (by omega) (by omega), _, _, _, _, s4.atN (k := i + 1) rfl (by omega), by unfold inI; omega, s4.inS (by omega) (by omega), _, _, _, _, s4.atN (k := i) (by omega) (by omega), n9, q9, fun hx => ?_, fun hx => ?_⟩
    · have hv : ltV d'[i + 1]! d'[i]! = false := by
        cases hv : ltV d'[i + 1]! d'[i]! with
        | false => rfl
        | true => have := l9.2 hv; simp at hx; omega
      rw [hv] at eu
      refine k _ ?_ c4
      rw [← he, eu]; exact s4
    · have hv : ltV d'[i + 1]! d'[i]! = true := l9.1 (by simpa using hx)
      rw [hv, if_neg (by simp)] at eu
      exact ⟨by unfold inI; omega, by unfold inI; omega, s4.swpN (a := i + 1) (b := i) rfl (by omega) (by omega) (by omega) fun H10 s10 c10 => ⟨by unfold inI; omega, ⟨i, _, by omega, by omega, s10, by rw [sizeSwp]; exact z4, c4.trans c10, by rw [← eu]; exact he⟩,
        by show (((i + 1 : Nat) : Int) - 1).toNat < (((i + 1 : Nat) : Int)).toNat; omega⟩⟩
  · have hn : i = 0 := by have := of_decide_eq_false hn; omega
    subst hn
    refine k _ ?_ c4
    rw [← he]; exact s4
set_option maxHeartbeats 4000000 in
theorem partInsV {a b : Nat} (s : SD H0 e u H d) (hc : CmpV cmp H0) (hab : a < b) (hb : b ≤ d.size) :
    Go.Eng.Fn Tryz.prog F.slices_partialInsertionSortCmpFunc_api_Pair #[u.v, .int .i64 a, .int .i64 b, cmp] H fun v H' => v = .bool (Go.Sort.partialInsertionSort ltV d a b).2 ∧ Did H0 e u H H' (Go.Sort.partialInsertionSort ltV d a b).1 := by
  have sz := s.sz
  refine slices_partialInsertionSortCmpFunc_api_Pair_vc ⟨by unfold inI; omega, fun n m H4 => ∃ (i t : Nat) (d' : Array VP), n = i ∧ m = t ∧ t ≤ 5 ∧ a < i ∧ i ≤ b ∧ SD H0 e u H4 d' ∧ d'.size = d.size ∧ Chg H H4 u ∧ Go.Sort.partialIns ltV a b (5 - t) i d' = Go.Sort.partialInsertionSort ltV d a b, fun _ m _ => (5 - m).toNat,
    ⟨a + 1, 0, d, by omega, by omega, by omega, by omega, by omega, s, rfl, .refl, rfl⟩, ?_⟩
  rintro n3 n4 H5 ⟨i, t, d', rfl, rfl, ht, hi, hib, s5, z5, c5, he⟩
  refine ⟨fun hn => ?_, fun hn => ?_⟩
  · have hn : t < 5 := by have := of_decide_eq_true hn; omega
    refine ⟨fun n H9 => ∃ k : Nat, n = k ∧ i ≤ k ∧ k ≤ b ∧ SD H0 e u H9 d' ∧ Chg H H9 u ∧ Go.Sort.scanSorted ltV d' b k = Go.Sort.scanSorted ltV d' b i, fun n _ => (b - n).toNat, ⟨i, rfl, Nat.le_refl _, hib, s5, c5, rfl⟩, ?_⟩
    rintro n8 H9 ⟨k, rfl, hk, hkb, s9, c9, hs⟩
    have es : Go.Sort.scanSorted ltV d' b k = _ := Go.Sort.scanSorted.eq_1 ltV d' b k
    obtain ⟨n18, q18, l18⟩ := hc d'[k]! d'[k - 1]! H9 s9.le
    refine ⟨fun h => s9.inS (by omega) (by have := of_decide_eq_true h; omega), _, _, _, _, fun h => s9.atN (k := k) rfl (by have := of_decide_eq_true h; omega), fun _ => by unfold inI; omega, fun h => s9.inS (by omega) (by omega), _, _, _, _, fun h => s9.atN (k := k - 1) (by omega) (by omega), n18, fun _ => q18, fun hx => ?_, fun hx => ?_⟩
    · simp only [Bool.and_eq_true, decide_eq_true_eq, Bool.not_eq_true', decide_eq_false_iff_not] at hx
      have hv : ltV d'[k]! d'[k - 1]! = false := by
        cases hv : ltV d'[k]! d'[k - 1]! with
        | false => rfl
        | true => have := l18.2 hv; omega
      rw [if_pos (by rw [hv]; simp; omega)] at es
      exact ⟨by unfold inI; omega, ⟨k + 1, by omega, by omega, by omega, s9, c9, by rw [← es]; exact hs⟩, by show ((b : Int) - ((k : Int) + 1)).toNat < ((b : Int) - (k : Int)).toNat; omega⟩
    · have es : Go.Sort.scanSorted ltV d' b k = k := by
        rw [es, if_neg]
        intro h9
        simp only [Bool.and_eq_true, decide_eq_true_eq, Bool.not_eq_true'] at h9
        have h8 : ¬ n18 < 0 := fun h7 => by have := l18.1 h7; rw [h9.2] at this; cases this
        have h6 := h9.1
        simp only [Bool.and_eq_false_iff, decide_eq_false_iff_not, Bool.not_eq_false', decide_eq_true_eq] at hx
        omega
      rw [es] at hs
      have e5 : 5 - t = (5 - (t + 1)) + 1 := by omega
      rw [e5, Go.Sort.partialIns_succ, ← hs] at he
      refine ⟨fun hy => ?_, fun hy => ?_⟩
      · have hy : k = b := by have : (k : Int) = b := by simpa using hy
                              omega
        rw [if_pos hy] at he
        rw [← he]; exact ⟨rfl, s9, c9⟩
      · have hy : ¬ k = b := fun h => by subst h; simp at hy
        rw [if_neg hy] at he
        refine ⟨by unfold inI; omega, fun hz => ?_, fun hz => ?_⟩
        · have hz : b - a < 50 := by have := of_decide_eq_true hz; omega
          rw [if_pos hz] at he
          rw [← he]; exact ⟨rfl, s9, c9⟩
        · have hz : ¬ b - a < 50 := by have := of_decide_eq_false hz; omega
          rw [if_neg hz] at he
          have fin : ∀ (H' : Hp) (d2 : Array VP), SD H0 e u H' (Go.Sort.fixUp ltV b k d2) → (Go.Sort.fixUp ltV b k d2).size = d.size → Chg H H' u → d2 = Go.Sort.fixDown ltV a k (Go.Sort.swp d' k (k - 1)) →
              inI ((t : Int) + 1) ∧ (∃ (i t' : Nat) (d' : Array VP), (k : Int) = i ∧ (t : Int) + 1 = t' ∧ t' ≤ 5 ∧ a < i ∧ i ≤ b ∧ SD H0 e u H' d' ∧ d'.size = d.size ∧ Chg H H' u ∧ Go.Sort.partialIns ltV a b (5 - t') i d' = Go.Sort.partialInsertionSort ltV d a b) ∧ (5 - ((t : Int) + 1)).toNat < (5 - (t : Int)).toNat :=
            fun H' d2 s' z' c' hd => ⟨by unfold inI; omega, ⟨k, t + 1, _, rfl, by omega, by omega, by omega, by omega, s', z', c', by rw [hd]; exact he⟩, by omega⟩
          have size4 : ∀ (H' : Hp) (d2 : Array VP), SD H0 e u H' d2 → (u.n : Int) = d2.size := fun H' d2 s' => by have := s'.rd.len; simp at this; omega
          have un := size4 _ _ s9
          refine ⟨by unfold inI; omega, by unfold inI; omega, s9.swpN (a := k) (b := k - 1) rfl (by omega) (by omega) (by omega) fun H28 s28 c28 => ⟨by unfold inI; omega, fun h2 => ⟨by unfold inI; omega, shiftDownL (j := k - 1) (by omega) s28 hc (by rw [sizeSwp]; omega) fun H32 s32 c32 => ?_⟩, fun h2 => ?_⟩⟩
          · have h2 : k - a ≥ 2 := by have := of_decide_eq_true h2; omega
            have ed : Go.Sort.shiftDown ltV (k - 1) (Go.Sort.swp d' k (k - 1)) = Go.Sort.fixDown ltV a k (Go.Sort.swp d' k (k - 1)) := by unfold Go.Sort.fixDown; rw [if_pos h2]
            rw [ed] at s32
            have z32 := size4 _ _ s32
            refine ⟨by unfold inI; omega, fun h3 => ⟨by unfold inI; omega, shiftUpL (b := b) (j := k + 1) (by omega) s32 hc (by omega) (by omega) (by omega) fun H45 s45 c45 => ?_⟩, fun h3 => ?_⟩
            · have h3 : b - k ≥ 2 := by have := of_decide_eq_true h3; omega
              have eu : Go.Sort.shiftUp ltV b (k + 1) (Go.Sort.fixDown ltV a k (Go.Sort.swp d' k (k - 1))) = Go.Sort.fixUp ltV b k (Go.Sort.fixDown ltV a k (Go.Sort.swp d' k (k - 1))) := by unfold Go.Sort.fixUp; rw [if_pos h3]
              rw [eu] at s45
              exact fin _ _ s45 (by have := size4 _ _ s45; omega) ((c9.trans c28).trans (c32.trans c45)) rfl
            · have h3 : ¬ b - k ≥ 2 := by have := of_decide_eq_false h3; omega
              have eu : Go.Sort.fixDown ltV a k (Go.Sort.swp d' k (k - 1)) = Go.Sort.fixUp ltV b k (Go.Sort.fixDown ltV a k (Go.Sort.swp d' k (k - 1))) := by unfold Go.Sort.fixUp; rw [if_neg h3]
              have s33 := s32
              rw [eu] at s33
              exact fin _ _ s33 (by have := size4 _ _ s33; omega) ((c9.trans c28).trans c32) rfl
          · have h2 : ¬ k - a ≥ 2 := by have := of_decide_eq_false h2; omega
            have ed : Go.Sort.swp d' k (k - 1) = Go.Sort.fixDown ltV a k (Go.Sort.swp d' k (k - 1)) := by unfold Go.Sort.fixDown; rw [if_neg h2]
            have s32 := s28
            rw [ed] at s32
            have z32 := size4 _ _ s32
            refine ⟨by unfold inI; omega, fun h3 => ⟨by unfold inI; omega, shiftUpL (b := b) (j := k + 1) (by omega) s32 hc (by omega) (by omega) (by omega) fun H45 s45 c45 => ?_⟩, fun h3 => ?_⟩
            · have h3 : b - k ≥ 2 := by have := of_decide_eq_true h3; omega
              have eu : Go.Sort.shiftUp ltV b (k + 1) (Go.Sort.fixDown ltV a k (Go.Sort.swp d' k (k - 1))) = Go.Sort.fixUp ltV b k (Go.Sort.fixDown ltV a k (Go.Sort.swp d' k (k - 1))) := by unfold Go.Sort.fixUp; rw [if_pos h3]
              rw [eu] at s45
              exact fin _ _ s45 (by have := size4 _ _ s45; omega) ((c9.trans c28).trans c45) rfl
            · have h3 : ¬ b - k ≥ 2 := by have := of_decide_eq_false h3; omega
              have eu : Go.Sort.fixDown ltV a k (Go.Sort.swp d' k (k - 1)) = Go.Sort.fixUp ltV b k (Go.Sort.fixDown ltV a k (Go.Sort.swp d' k (k - 1))) := by unfold Go.Sort.fixUp; rw [if_neg h3]
              have s33 := s32
              rw [eu] at s33
              exact fin _ _ s33 (by have := size4 _ _ s33; omega) (c9.trans c28) rfl
  · have hn : t = 5 := by have := of_decide_eq_false hn; omega
    subst hn
    have he : (d', false) = Go.Sort.partialInsertionSort ltV d a b := he
    rw [← he]; exact ⟨rfl, s5, c5⟩
end

section
variable {H0 H : Hp} {e : TypeId} {u : Slc} {d : Array VP} {cmp : Value}
set_option maxHeartbeats 1000000 in
theorem scanUpA {J A0 n0 : Int} {a i0 jn : Nat} {K : Int → Hp → Prop} (eA : A0 = (a : Int)) (ha : a < d.size) (e0 : n0 = (i0 : Int)) (eJ : J = (jn : Int)) (hJ : jn < d.size) (hi : i0 ≤ 1000002) (s : SD H0 e u H d) (hc : CmpV cmp H0) (k : ∀ H', SD H0 e u H' d → Chg H H' u → K ((Go.Sort.scanUp (fun x => ltV x d[a]!) d jn i0 : Nat) : Int) H') :
    ∃ (I : Int → Hp → Prop), ∃ (m : Int → Hp → Nat), I n0 H ∧ ∀ (n : Int) (H4 : Hp), I n H4 →
      (decide (n ≤ J) = true → inSl u.a u.n n) ∧ ∃ n1 n2 n3 n4 : Int, (decide (n ≤ J) = true → H4.at (eaddr u.a 4 n) = some (.int .i64 n1) ∧ H4.at ((eaddr u.a 4 n).add 1) = some (.int .i64 n2) ∧ H4.at ((eaddr u.a 4 n).add 2) = some (.int .i64 n3) ∧ H4.at ((eaddr u.a 4 n).add 3) = some (.int .i64 n4)) ∧
      (decide (n ≤ J) = true → inSl u.a u.n A0) ∧ ∃ n5 n6 n7 n8 : Int, (decide (n ≤ J) = true → H4.at (eaddr u.a 4 A0) = some (.int .i64 n5) ∧ H4.at ((eaddr u.a 4 A0).add 1) = some (.int .i64 n6) ∧ H4.at ((eaddr u.a 4 A0).add 2) = some (.int .i64 n7) ∧ H4.at ((eaddr u.a 4 A0).add 3) = some (.int .i64 n8)) ∧
      ∃ n9 : Int, (decide (n ≤ J) = true → QfV Tryz.prog cmp [sI4 n1 n2 n3 n4, sI4 n5 n6 n7 n8] H4 (.int .i64 n9)) ∧
      ((decide (n ≤ J) && decide (n9 < 0)) = true → inI (n + 1) ∧ I (n + 1) H4 ∧ m (n + 1) H4 < m n H4) ∧
      ((decide (n ≤ J) && decide (n9 < 0)) = false → K n H4) := by
  have sz := s.sz
  subst eA
  subst eJ
  refine ⟨fun n H4 => ∃ k : Nat, n = k ∧ k ≤ 1000002 ∧ SD H0 e u H4 d ∧ Chg H H4 u ∧ Go.Sort.scanUp (fun x => ltV x d[a]!) d jn k = Go.Sort.scanUp (fun x => ltV x d[a]!) d jn i0, fun n _ => (jn + 1 - n).toNat, ⟨i0, e0, by omega, s, .refl, rfl⟩, ?_⟩
  rintro n H4 ⟨i, rfl, hi', s4, c4, he⟩
  have es : Go.Sort.scanUp (fun x => ltV x d[a]!) d jn i = _ := Go.Sort.scanUp.eq_1 (fun x => ltV x d[a]!) d jn i
  obtain ⟨n9, q9, l9⟩ := hc d[i]! d[a]! H4 s4.le
  refine ⟨fun h => s4.inS (by omega) (by have := of_decide_eq_true h; omega), _, _, _, _, fun h => s4.atN (k := i) rfl (by have := of_decide_eq_true h; omega), fun h => s4.inS (by omega) (by omega), _, _, _, _, fun h => s4.atN (k := a) rfl (by omega), n9, fun _ => q9, fun hx => ?_, fun hx => ?_⟩
  · simp only [Bool.and_eq_true, decide_eq_true_eq] at hx
    have hv : ltV d[i]! d[a]! = true := l9.1 hx.2
    rw [if_pos (by rw [hv]; simp; omega)] at es
    exact ⟨by unfold inI; omega, ⟨i + 1, by omega, by omega, s4, c4, by rw [← es]; exact he⟩, by show ((jn : Int) + 1 - ((i : Int) + 1)).toNat < ((jn : Int) + 1 - (i : Int)).toNat; omega⟩
  · have es : Go.Sort.scanUp (fun x => ltV x d[a]!) d jn i = i := by
      rw [es, if_neg]
      intro h9
      simp only [Bool.and_eq_true, decide_eq_true_eq] at h9
      have h8 : n9 < 0 := l9.2 h9.2
      have h6 := h9.1
      simp only [Bool.and_eq_false_iff, decide_eq_false_iff_not] at hx
      omega
    rw [es] at he
    have := k H4 s4 c4
    rw [← he] at this
    exact this
set_option maxHeartbeats 1000000 in
theorem scanDownA {N A0 n0 : Int} {a i0 jn : Nat} {K : Int → Hp → Prop} (eA : A0 = (a : Int)) (ha : a < d.size) (e0 : n0 = (jn : Int)) (eN : N = (i0 : Int)) (hN : 1 ≤ i0) (hj : jn < d.size) (s : SD H0 e u H d) (hc : CmpV cmp H0) (k : ∀ H', SD H0 e u H' d → Chg H H' u → K ((Go.Sort.scanDown (fun x => !ltV x d[a]!) d i0 jn : Nat) : Int) H') :
    ∃ (I : Int → Hp → Prop), ∃ (m : Int → Hp → Nat), I n0 H ∧ ∀ (n : Int) (H4 : Hp), I n H4 →
      (decide (N ≤ n) = true → inSl u.a u.n n) ∧ ∃ n1 n2 n3 n4 : Int, (decide (N ≤ n) = true → H4.at (eaddr u.a 4 n) = some (.int .i64 n1) ∧ H4.at ((eaddr u.a 4 n).add 1) = some (.int .i64 n2) ∧ H4.at ((eaddr u.a 4 n).add 2) = some (.int .i64 n3) ∧ H4.at ((eaddr u.a 4 n).add 3) = some (.int .i64 n4)) ∧
      (decide (N ≤ n) = true → inSl u.a u.n A0) ∧ ∃ n5 n6 n7 n8 : Int, (decide (N ≤ n) = true → H4.at (eaddr u.a 4 A0) = some (.int .i64 n5) ∧ H4.at ((eaddr u.a 4 A0).add 1) = some (.int .i64 n6) ∧ H4.at ((eaddr u.a 4 A0).add 2) = some (.int .i64 n7) ∧ H4.at ((eaddr u.a 4 A0).add 3) = some (.int .i64 n8)) ∧
      ∃ n9 : Int, (decide (N ≤ n) = true → QfV Tryz.prog cmp [sI4 n1 n2 n3 n4, sI4 n5 n6 n7 n8] H4 (.int .i64 n9)) ∧
      ((decide (N ≤ n) && !decide (n9 < 0)) = true → inI (n - 1) ∧ I (n - 1) H4 ∧ m (n - 1) H4 < m n H4) ∧
      ((decide (N ≤ n) && !decide (n9 < 0)) = false → K n H4) := by
  have sz := s.sz
  subst eA
  subst eN
  refine ⟨fun n H4 => ∃ k : Nat, n = k ∧ k ≤ jn ∧ SD H0 e u H4 d ∧ Chg H H4 u ∧ Go.Sort.scanDown (fun x => !ltV x d[a]!) d i0 k = Go.Sort.scanDown (fun x => !ltV x d[a]!) d i0 jn, fun n _ => n.toNat, ⟨jn, e0, by omega, s, .refl, rfl⟩, ?_⟩
  rintro n H4 ⟨j, rfl, hj', s4, c4, he⟩
  cases j with
  | zero =>
    have hx0 : decide ((i0 : Int) ≤ ((0 : Nat) : Int)) = false := decide_eq_false (by omega)
    rw [hx0]
    refine ⟨fun h => (by cases h), 0, 0, 0, 0, fun h => (by cases h), fun h => (by cases h), 0, 0, 0, 0, fun h => (by cases h), 0, fun h => (by cases h), fun h => (by simp at h), fun _ => ?_⟩
    have := k H4 s4 c4
    rw [← he] at this
    exact this
  | succ j =>
  have es : Go.Sort.scanDown (fun x => !ltV x d[a]!) d i0 (j + 1) = if (decide (i0 ≤ j + 1) && (fun x => !ltV x d[a]!) d[j + 1]!) = true then Go.Sort.scanDown (fun x => !ltV x d[a]!) d i0 j else j + 1 := rfl
  obtain ⟨n9, q9, l9⟩ := hc d[j + 1]! d[a]! H4 s4.le
  refine ⟨fun h => s4.inS (by omega) (by omega), _, _, _, _, fun h => s4.atN (k := j + 1) rfl (by omega), fun h => s4.inS (by omega) (by omega), _, _, _, _, fun h => s4.atN (k := a) rfl (by omega), n9, fun _ => q9, fun hx => ?_, fun hx => ?_⟩
  · simp only [Bool.and_eq_true, decide_eq_true_eq, Bool.not_eq_true', decide_eq_false_iff_not] at hx
    have hv : ltV d[j + 1]! d[a]! = false := by
      cases hv : ltV d[j + 1]! d[a]! with
      | false => rfl
      | true => have := l9.2 hv; omega
    rw [if_pos (by simp only [hv]; simp; omega)] at es
    exact ⟨by unfold inI; omega, ⟨j, by omega, by omega, s4, c4, by rw [← es]; exact he⟩, by show (((j + 1 : Nat) : Int) - 1).toNat < (((j + 1 : Nat) : Int)).toNat; omega⟩
  · have es : Go.Sort.scanDown (fun x => !ltV x d[a]!) d i0 (j + 1) = j + 1 := by
      rw [es, if_neg]
      intro h9
      simp only [Bool.and_eq_true, decide_eq_true_eq, Bool.not_eq_true'] at h9
      have h8 : ¬ n9 < 0 := fun h7 => by have := l9.1 h7; rw [h9.2] at this; cases this
      have h6 := h9.1
      simp only [Bool.and_eq_false_iff, decide_eq_false_iff_not, Bool.not_eq_false', decide_eq_true_eq] at hx
      omega
    rw [es] at he
    have := k H4 s4 c4
    rw [← he] at this
    exact this
set_option maxHeartbeats 1000000 in
theorem scanUpB {J A0 n0 : Int} {a i0 jn : Nat} {K : Int → Hp → Prop} (eA : A0 = (a : Int)) (ha : a < d.size) (e0 : n0 = (i0 : Int)) (eJ : J = (jn : Int)) (hJ : jn < d.size) (hi : i0 ≤ 1000002) (s : SD H0 e u H d) (hc : CmpV cmp H0) (k : ∀ H', SD H0 e u H' d → Chg H H' u → K ((Go.Sort.scanUp (fun x => !ltV d[a]! x) d jn i0 : Nat) : Int) H') :
    ∃ (I : Int → Hp → Prop), ∃ (m : Int → Hp → Nat), I n0 H ∧ ∀ (n : Int) (H4 : Hp), I n H4 →
      (decide (n ≤ J) = true → inSl u.a u.n A0) ∧ ∃ n1 n2 n3 n4 : Int, (decide (n ≤ J) = true → H4.at (eaddr u.a 4 A0) = some (.int .i64 n1) ∧ H4.at ((eaddr u.a 4 A0).add 1) = some (.int .i64 n2) ∧ H4.at ((eaddr u.a 4 A0).add 2) = some (.int .i64 n3) ∧ H4.at ((eaddr u.a 4 A0).add 3) = some (.int .i64 n4)) ∧
      (decide (n ≤ J) = true → inSl u.a u.n n) ∧ ∃ n5 n6 n7 n8 : Int, (decide (n ≤ J) = true → H4.at (eaddr u.a 4 n) = some (.int .i64 n5) ∧ H4.at ((eaddr u.a 4 n).add 1) = some (.int .i64 n6) ∧ H4.at ((eaddr u.a 4 n).add 2) = some (.int .i64 n7) ∧ H4.at ((eaddr u.a 4 n).add 3) = some (.int .i64 n8)) ∧
      ∃ n9 : Int, (decide (n ≤ J) = true → QfV Tryz.prog cmp [sI4 n1 n2 n3 n4, sI4 n5 n6 n7 n8] H4 (.int .i64 n9)) ∧
      ((decide (n ≤ J) && !decide (n9 < 0)) = true → inI (n + 1) ∧ I (n + 1) H4 ∧ m (n + 1) H4 < m n H4) ∧
      ((decide (n ≤ J) && !decide (n9 < 0)) = false → K n H4) := by
  have sz := s.sz
  subst eA
  subst eJ
  refine ⟨fun n H4 => ∃ k : Nat, n = k ∧ k ≤ 1000002 ∧ SD H0 e u H4 d ∧ Chg H H4 u ∧ Go.Sort.scanUp (fun x => !ltV d[a]! x) d jn k = Go.Sort.scanUp (fun x => !ltV d[a]! x) d jn i0, fun n _ => (jn + 1 - n).toNat, ⟨i0, e0, by omega, s, .refl, rfl⟩, ?_⟩
  rintro n H4 ⟨i, rfl, hi', s4, c4, he⟩
  have es : Go.Sort.scanUp (fun x => !ltV d[a]! x) d jn i = _ := Go.Sort.scanUp.eq_1 (fun x => !ltV d[a]! x) d jn i
  obtain ⟨n9, q9, l9⟩ := hc d[a]! d[i]! H4 s4.le
  refine ⟨fun h => s4.inS (by omega) (by omega), _, _, _, _, fun h => s4.atN (k := a) rfl (by omega), fun h => s4.inS (by omega) (by have := of_decide_eq_true h; omega), _, _, _, _, fun h => s4.atN (k := i) rfl (by have := of_decide_eq_true h; omega), n9, fun _ => q9, fun hx => ?_, fun hx => ?_⟩
  · simp only [Bool.and_eq_true, decide_eq_true_eq, Bool.not_eq_true', decide_eq_false_iff_not] at hx
    have hv : ltV d[a]! d[i]! = false := by
      cases hv : ltV d[a]! d[i]! with
      | false => rfl
      | true => have := l9.2 hv; omega
    rw [if_pos (by rw [hv]; simp; omega)] at es
    exact ⟨by unfold inI; omega, ⟨i + 1, by omega, by omega, s4, c4, by rw [← es]; exact he⟩, by show ((jn : Int) + 1 - ((i : Int) + 1)).toNat < ((jn : Int) + 1 - (i : Int)).toNat; omega⟩
  · have es : Go.Sort.scanUp (fun x => !ltV d[a]! x) d jn i = i := by
      rw [es, if_neg]
      intro h9
      simp only [Bool.and_eq_true, decide_eq_true_eq, Bool.not_eq_true'] at h9
      have h8 : ¬ n9 < 0 := fun h7 => by have := l9.1 h7; rw [h9.2] at this; cases this
      have h6 := h9.1
      simp only [Bool.and_eq_false_iff, decide_eq_false_iff_not, Bool.not_eq_false', decide_eq_true_eq] at hx
      omega
    rw [es] at he
    have := k H4 s4 c4
    rw [← he] at this
    exact this
set_option maxHeartbeats 1000000 in
theorem scanDownB {N A0 n0 : Int} {a i0 jn : Nat} {K : Int → Hp → Prop} (eA : A0 = (a : Int)) (ha : a < d.size) (e0 : n0 = (jn : Int)) (eN : N = (i0 : Int)) (hN : 1 ≤ i0) (hj : jn < d.size) (s : SD H0 e u H d) (hc : CmpV cmp H0) (k : ∀ H', SD H0 e u H' d → Chg H H' u → K ((Go.Sort.scanDown (fun x => ltV d[a]! x) d i0 jn : Nat) : Int) H') :
    ∃ (I : Int → Hp → Prop), ∃ (m : Int → Hp → Nat), I n0 H ∧ ∀ (n : Int) (H4 : Hp), I n H4 →
      (decide (N ≤ n) = true → inSl u.a u.n A0) ∧ ∃ n1 n2 n3 n4 : Int, (decide (N ≤ n) = true → H4.at (eaddr u.a 4 A0) = some (.int .i64 n1) ∧ H4.at ((eaddr u.a 4 A0).add 1) = some (.int .i64 n2) ∧ H4.at ((eaddr u.a 4 A0).add 2) = some (.int .i64 n3) ∧ H4.at ((eaddr u.a 4 A0).add 3) = some (.int .i64 n4)) ∧
      (decide (N ≤ n) = true → inSl u.a u.n n) ∧ ∃ n5 n6 n7 n8 : Int, (decide (N ≤ n) = true → H4.at (eaddr u.a 4 n) = some (.int .i64 n5) ∧ H4.at ((eaddr u.a 4 n).add 1) = some (.int .i64 n6) ∧ H4.at ((eaddr u.a 4 n).add 2) = some (.int .i64 n7) ∧ H4.at ((eaddr u.a 4 n).add 3) = some (.int .i64 n8)) ∧
      ∃ n9 : Int, (decide (N ≤ n) = true → QfV Tryz.prog cmp [sI4 n1 n2 n3 n4, sI4 n5 n6 n7 n8] H4 (.int .i64 n9)) ∧
      ((decide (N ≤ n) && decide (n9 < 0)) = true → inI (n - 1) ∧ I (n - 1) H4 ∧ m (n - 1) H4 < m n H4) ∧
      ((decide (N ≤ n) && decide (n9 < 0)) = false → K n H4) := by
  have sz := s.sz
  subst eA
  subst eN
  refine ⟨fun n H4 => ∃ k : Nat, n = k ∧ k ≤ jn ∧ SD H0 e u H4 d ∧ Chg H H4 u ∧ Go.Sort.scanDown (fun x => ltV d[a]! x) d i0 k = Go.Sort.scanDown (fun x => ltV d[a]! x) d i0 jn, fun n _ => n.toNat, ⟨jn, e0, by omega, s, .refl, rfl⟩, ?_⟩
  rintro n H4 ⟨j, rfl, hj', s4, c4, he⟩
  cases j with
  | zero =>
    have hx0 : decide ((i0 : Int) ≤ ((0 : Nat) : Int)) = false := decide_eq_false (by omega)
    rw [hx0]
    refine ⟨fun h => (by cases h), 0, 0, 0, 0, fun h => (by cases h), fun h => (by cases h), 0, 0, 0, 0, fun h => (by cases h), 0, fun h => (by cases h), fun h => (by simp at h), fun _ => ?_⟩
    have := k H4 s4 c4
    rw [← he] at this
    exact this
  | succ j =>
  have es : Go.Sort.scanDown (fun x => ltV d[a]! x) d i0 (j + 1) = if (decide (i0 ≤ j + 1) && (fun x => ltV d[a]! x) d[j + 1]!) = true then Go.Sort.scanDown (fun x => ltV d[a]! x) d i0 j else j + 1 := rfl
  obtain ⟨n9, q9, l9⟩ := hc d[a]! d[j + 1]! H4 s4.le
  refine ⟨fun h => s4.inS (by omega) (by omega), _, _, _, _, fun h => s4.atN (k := a) rfl (by omega), fun h => s4.inS (by omega) (by omega), _, _, _, _, fun h => s4.atN (k := j + 1) rfl (by omega), n9, fun _ => q9, fun hx => ?_, fun hx => ?_⟩
  · simp only [Bool.and_eq_true, decide_eq_true_eq] at hx
    have hv : ltV d[a]! d[j + 1]! = true := l9.1 hx.2
    rw [if_pos (by simp only [hv]; simp; omega)] at es
    exact ⟨by unfold inI; omega, ⟨j, by omega, by omega, s4, c4, by rw [← es]; exact he⟩, by show (((j + 1 : Nat) : Int) - 1).toNat < (((j + 1 : Nat) : Int)).toNat; omega⟩
  · have es : Go.Sort.scanDown (fun x => ltV d[a]! x) d i0 (j + 1) = j + 1 := by
      rw [es, if_neg]
      intro h9
      simp only [Bool.and_eq_true, decide_eq_true_eq] at h9
      have h8 : n9 < 0 := l9.2 h9.2
      have h6 := h9.1
      simp only [Bool.and_eq_false_iff, decide_eq_false_iff_not] at hx
      omega
    rw [es] at he
    have := k H4 s4 c4
    rw [← he] at this
    exact this
theorem scanUp_le {p : VP → Bool} {d : Array VP} {j : Nat} : ∀ (n i : Nat), j + 1 - i ≤ n → i ≤ j + 2 → Go.Sort.scanUp p d j i ≤ j + 2
  | 0, i, h, hi => by
    unfold Go.Sort.scanUp
    split
    · rename_i h2; simp only [Bool.and_eq_true, decide_eq_true_eq] at h2; omega
    · omega
  | n + 1, i, h, hi => by
    unfold Go.Sort.scanUp
    split
    · rename_i h2; simp only [Bool.and_eq_true, decide_eq_true_eq] at h2
      exact scanUp_le n (i + 1) (by omega) (by omega)
    · omega
set_option maxHeartbeats 4000000 in
theorem partEqV {a b p : Nat} (s : SD H0 e u H d) (hc : CmpV cmp H0) (hap : a ≤ p) (hpb : p < b) (hb : b ≤ d.size) :
    Go.Eng.Fn Tryz.prog F.slices_partitionEqualCmpFunc_api_Pair #[u.v, .int .i64 a, .int .i64 b, .int .i64 p, cmp] H fun v H' => v = .int .i64 ((Go.Sort.partitionEqual ltV d a b p).1 : Nat) ∧ Did H0 e u H H' (Go.Sort.partitionEqual ltV d a b p).2 := by
  have sz := s.sz
  refine slices_partitionEqualCmpFunc_api_Pair_vc (s.swpN (a := a) (b := p) rfl (by omega) rfl (by omega) fun H10 s10 c10 => ?_)
  refine ⟨by unfold inI; omega, by unfold inI; omega, fun n m H4 => ∃ (i j : Nat) (d' : Array VP), n = i ∧ m = j ∧ a < i ∧ i ≤ j + 2 ∧ j < b ∧ SD H0 e u H4 d' ∧ d'.size = d.size ∧ Chg H H4 u ∧ Go.Sort.partEqLoop ltV a i j d' = Go.Sort.partitionEqual ltV d a b p, fun n m _ => (m + 1 - n).toNat,
    ⟨a + 1, b - 1, _, by omega, by omega, by omega, by omega, by omega, s10, sizeSwp, c10, rfl⟩, ?_⟩
  rintro n13 n14 H15 ⟨i, j, d', rfl, rfl, hi, hij, hj, s15, z15, c15, he⟩
  rw [Go.Sort.partEqLoop_eq] at he
  have g1 := Go.Sort.scanUp_ge (fun x => !ltV d'[a]! x) d' j i
  have g2 := scanUp_le (p := fun x => !ltV d'[a]! x) (d := d') (j := j) _ i (Nat.le_refl _) hij
  have g3 := fun i' => Go.Sort.scanDown_le (fun x => ltV d'[a]! x) d' i' j
  refine scanUpB (a := a) (i0 := i) (jn := j) rfl (by omega) rfl rfl (by omega) (by omega) s15 hc fun H19 s19 c19 => ?_
  generalize Go.Sort.scanUp (fun x => !ltV d'[a]! x) d' j i = i2 at *
  have g3 := g3 i2
  refine scanDownB (a := a) (i0 := i2) (jn := j) rfl (by omega) rfl rfl (by omega) (by omega) s19 hc fun H32 s32 c32 => ?_
  generalize Go.Sort.scanDown (fun x => ltV d'[a]! x) d' i2 j = j2 at *
  refine ⟨fun hn => ?_, fun hn => ?_⟩
  · have hn : i2 > j2 := by have := of_decide_eq_true hn; omega
    rw [if_pos hn] at he
    rw [← he]; exact ⟨rfl, s32, (c15.trans c19).trans c32⟩
  · have hn : ¬ i2 > j2 := by have := of_decide_eq_false hn; omega
    rw [if_neg hn] at he
    exact s32.swpN (a := i2) (b := j2) rfl (by omega) rfl (by omega) fun H51 s51 c51 => ⟨by unfold inI; omega, by unfold inI; omega, ⟨i2 + 1, j2 - 1, _, by omega, by omega, by omega, by omega, by omega, s51, by rw [sizeSwp]; exact z15, ((c15.trans c19).trans c32).trans c51, he⟩,
      by show ((j2 : Int) - 1 + 1 - ((i2 : Int) + 1)).toNat < ((j : Int) + 1 - (i : Int)).toNat; omega⟩
theorem part_eq {d d0 : Array VP} {a b p i j : Nat} (h0 : Go.Sort.swp d a p = d0) (hi : Go.Sort.scanUp (fun x => ltV x d0[a]!) d0 (b - 1) (a + 1) = i) (hj : Go.Sort.scanDown (fun x => !ltV x d0[a]!) d0 i (b - 1) = j) :
    Go.Sort.partition ltV d a b p = if i > j then (j, true, Go.Sort.swp d0 j a) else ((Go.Sort.partLoop ltV a (i + 1) (j - 1) (Go.Sort.swp d0 i j)).1, false, Go.Sort.swp (Go.Sort.partLoop ltV a (i + 1) (j - 1) (Go.Sort.swp d0 i j)).2 (Go.Sort.partLoop ltV a (i + 1) (j - 1) (Go.Sort.swp d0 i j)).1 a) := by
  subst h0; subst hi; subst hj; rfl
set_option maxHeartbeats 4000000 in
theorem partV {a b p : Nat} (s : SD H0 e u H d) (hc : CmpV cmp H0) (hap : a ≤ p) (hpb : p < b) (hb : b ≤ d.size) :
    Go.Eng.Fn Tryz.prog F.slices_partitionCmpFunc_api_Pair #[u.v, .int .i64 a, .int .i64 b, .int .i64 p, cmp] H fun v H' => v = .tuple #[.int .i64 ((Go.Sort.partition ltV d a b p).1 : Nat), .bool (Go.Sort.partition ltV d a b p).2.1] ∧ Did H0 e u H H' (Go.Sort.partition ltV d a b p).2.2 := by
  have sz := s.sz
  refine slices_partitionCmpFunc_api_Pair_vc (s.swpN (a := a) (b := p) rfl (by omega) rfl (by omega) fun H10 s10 c10 => ⟨by unfold inI; omega, by unfold inI; omega, ?_⟩)
  have he := part_eq (d := d) (a := a) (b := b) (p := p) rfl rfl rfl
  have z10 : (Go.Sort.swp d a p).size = d.size := sizeSwp
  generalize Go.Sort.partition ltV d a b p = R at he ⊢
  generalize Go.Sort.swp d a p = d0 at *
  have g1 := Go.Sort.scanUp_ge (fun x => ltV x d0[a]!) d0 (b - 1) (a + 1)
  have g2 := scanUp_le (p := fun x => ltV x d0[a]!) (d := d0) (j := b - 1) _ (a + 1) (Nat.le_refl _) (by omega)
  have g3 := fun i' => Go.Sort.scanDown_le (fun x => !ltV x d0[a]!) d0 i' (b - 1)
  refine scanUpA (a := a) (i0 := a + 1) (jn := b - 1) rfl (by omega) (by omega) (by omega) (by omega) (by omega) s10 hc fun H14 s14 c14 => ?_
  generalize Go.Sort.scanUp (fun x => ltV x d0[a]!) d0 (b - 1) (a + 1) = i2 at *
  have g3 := g3 i2
  refine scanDownA (a := a) (i0 := i2) (jn := b - 1) rfl (by omega) (by omega) rfl (by omega) (by omega) s14 hc fun H27 s27 c27 => ?_
  generalize Go.Sort.scanDown (fun x => !ltV x d0[a]!) d0 i2 (b - 1) = j2 at *
  have c27' := (c10.trans c14).trans c27
  refine ⟨fun hn => ?_, fun hn => ?_⟩
  · have hn : i2 > j2 := by have := of_decide_eq_true hn; omega
    rw [if_pos hn] at he
    subst he
    exact s27.swpN (a := j2) (b := a) rfl (by omega) rfl (by omega) fun H46 s46 c46 => ⟨rfl, s46, c27'.trans c46⟩
  have hn : ¬ i2 > j2 := by have := of_decide_eq_false hn; omega
  rw [if_neg hn] at he
  refine s27.swpN (a := i2) (b := j2) rfl (by omega) rfl (by omega) fun H56 s56 c56 => ⟨by unfold inI; omega, by unfold inI; omega, fun n m H4 => ∃ (i j : Nat) (d' : Array VP), n = i ∧ m = j ∧ a < i ∧ i ≤ j + 2 ∧ j < b ∧ SD H0 e u H4 d' ∧ d'.size = d.size ∧ Chg H H4 u ∧ Go.Sort.partLoop ltV a i j d' = Go.Sort.partLoop ltV a (i2 + 1) (j2 - 1) (Go.Sort.swp d0 i2 j2), fun n m _ => (m + 1 - n).toNat,
    ⟨i2 + 1, j2 - 1, _, by omega, by omega, by omega, by omega, by omega, s56, by rw [sizeSwp]; exact z10, c27'.trans c56, rfl⟩, ?_⟩
  generalize Go.Sort.partLoop ltV a (i2 + 1) (j2 - 1) (Go.Sort.swp d0 i2 j2) = r at he
  subst he
  rintro n59 n60 H61 ⟨i, j, d', rfl, rfl, hi, hij, hj, s61, z61, c61, he⟩
  rw [Go.Sort.partLoop_eq] at he
  have h1 := Go.Sort.scanUp_ge (fun x => ltV x d'[a]!) d' j i
  have h2 := scanUp_le (p := fun x => ltV x d'[a]!) (d := d') (j := j) _ i (Nat.le_refl _) hij
  have h3 := fun i' => Go.Sort.scanDown_le (fun x => !ltV x d'[a]!) d' i' j
  refine scanUpA (a := a) (i0 := i) (jn := j) rfl (by omega) rfl rfl (by omega) (by omega) s61 hc fun H65 s65 c65 => ?_
  generalize Go.Sort.scanUp (fun x => ltV x d'[a]!) d' j i = i3 at *
  have h3 := h3 i3
  refine scanDownA (a := a) (i0 := i3) (jn := j) rfl (by omega) rfl rfl (by omega) (by omega) s65 hc fun H78 s78 c78 => ?_
  generalize Go.Sort.scanDown (fun x => !ltV x d'[a]!) d' i3 j = j3 at *
  have c78' := (c61.trans c65).trans c78
  refine ⟨fun hm => ?_, fun hm => ?_⟩
  · have hm : i3 > j3 := by have := of_decide_eq_true hm; omega
    rw [if_pos hm] at he
    rw [← he]
    exact s78.swpN (a := j3) (b := a) rfl (by omega) rfl (by omega) fun H97 s97 c97 => ⟨rfl, s97, c78'.trans c97⟩
  · have hm : ¬ i3 > j3 := by have := of_decide_eq_false hm; omega
    rw [if_neg hm] at he
    exact s78.swpN (a := i3) (b := j3) rfl (by omega) rfl (by omega) fun H107 s107 c107 => ⟨by unfold inI; omega, by unfold inI; omega, ⟨i3 + 1, j3 - 1, _, by omega, by omega, by omega, by omega, by omega, s107, by rw [sizeSwp]; exact z61, c78'.trans c107, he⟩,
      by show ((j3 : Int) - 1 + 1 - ((i3 : Int) + 1)).toNat < ((j : Int) + 1 - (i : Int)).toNat; omega⟩
end

structure SK (H0 : Hp) (e : TypeId) (u : Slc) (d : Array VP) (bk : Nat) (T : TypeId) (H : Hp) (x : Value) : Prop where
  s : SD H0 e u H d
  v : Var H bk x T
  nw : H0 bk = none
  sp : ∀ p, u.a = some p → p.block ≠ bk
theorem Off.trans' {b : Nat} {H H' H'' : Hp} (h : Off b H H') (h' : Off b H' H'') : Off b H H'' := fun c hc => by rw [h' c hc, h c hc]
section
variable {H0 H : Hp} {e : TypeId} {u : Slc} {d : Array VP} {cmp : Value} {bk : Nat}
theorem SK.set {T : TypeId} {x y : Value} {H' : Hp} (s : SK H0 e u d bk T H x) (h : H' = H.put bk (.cells #[y] T (0, 0))) : SK H0 e u d bk T H' y ∧ Off bk H H' := by
  have o : Off bk H H' := fun c hc => by rw [h]; exact Hp.put_ne _ _ hc
  refine ⟨⟨⟨Mine.off s.s.m o s.sp, fun c v hv => ?_, s.s.sz⟩, Var.new h, s.nw, s.sp⟩, o⟩
  rw [o c fun e => by subst e; rw [s.nw] at hv; cases hv]; exact s.s.le c v hv
theorem SK.new {T : TypeId} {x : Value} {H' : Hp} (s : SD H0 e u H d) (hb : H bk = none) (h : H' = H.put bk (.cells #[x] T (0, 0))) : SK H0 e u d bk T H' x := by
  have l : Hp.le H H' := Hp.le_new (Hp.le_refl _) hb h
  refine ⟨s.up l, Var.new h, ?_, fun p hp e => s.m.isOld p hp (by rw [e]; exact hb)⟩
  cases hx : H0 bk with
  | none => rfl
  | some o => rw [s.le _ _ hx] at hb; cases hb

theorem order2V {a b k : Nat} {A B : Int} (eA : A = a) (eB : B = b) (s : SK H0 e u d bk 3 H (.int .i64 k)) (hc : CmpV cmp H0) (ha : a < d.size) (hb : b < d.size) (hk : k ≤ 1000) :
    Go.Eng.Fn Tryz.prog F.slices_order2CmpFunc_api_Pair #[u.v, .int .i64 A, .int .i64 B, .pointer (some ⟨bk, 0, none⟩), cmp] H fun v H' => v = .tuple #[.int .i64 ((Go.Sort.order2 ltV d a b k).1 : Nat), .int .i64 ((Go.Sort.order2 ltV d a b k).2.1 : Nat)] ∧
      SK H0 e u d bk 3 H' (.int .i64 ((Go.Sort.order2 ltV d a b k).2.2 : Nat)) ∧ Off bk H H' := by
  subst eA; subst eB
  have sz := s.s.sz
  obtain ⟨n9, q9, l9⟩ := hc d[b]! d[a]! H s.s.le
  refine slices_order2CmpFunc_api_Pair_vc ⟨s.s.inS (by omega) (by omega), _, _, _, _, s.s.atN (k := b) rfl hb, s.s.inS (by omega) (by omega), _, _, _, _, s.s.atN (k := a) rfl ha, n9, q9, fun hx => ?_, fun hx => ?_⟩
  · have hv := l9.1 (of_decide_eq_true hx)
    have eo : Go.Sort.order2 ltV d a b k = (b, a, k + 1) := by unfold Go.Sort.order2; rw [if_pos hv]
    rw [eo]
    refine ⟨k, s.v.at, by unfold inI; omega, Var.set s.v _ fun H11 h11 => ?_⟩
    exact ⟨rfl, s.set h11⟩
  · have hv : ¬ ltV d[b]! d[a]! = true := fun h => of_decide_eq_false hx (l9.2 h)
    have eo : Go.Sort.order2 ltV d a b k = (a, b, k) := by unfold Go.Sort.order2; rw [if_neg hv]
    rw [eo]
    exact ⟨rfl, s, fun _ _ => rfl⟩
theorem medianV {a b c k : Nat} {A B C : Int} (eA : A = a) (eB : B = b) (eC : C = c) (s : SK H0 e u d bk 3 H (.int .i64 k)) (hc : CmpV cmp H0) (ha : a < d.size) (hb : b < d.size) (hcc : c < d.size) (hk : k ≤ 900) :
    Go.Eng.Fn Tryz.prog F.slices_medianCmpFunc_api_Pair #[u.v, .int .i64 A, .int .i64 B, .int .i64 C, .pointer (some ⟨bk, 0, none⟩), cmp] H fun v H' => v = .int .i64 ((Go.Sort.median ltV d a b c k).1 : Nat) ∧
      SK H0 e u d bk 3 H' (.int .i64 ((Go.Sort.median ltV d a b c k).2 : Nat)) ∧ Off bk H H' := by
  refine slices_medianCmpFunc_api_Pair_vc ((order2V eA eB s hc ha hb (by omega)).mono fun v H2 ⟨hv, s2, o2⟩ => ⟨_, _, hv, ?_⟩)
  have c1 := Go.Sort.order2_count (lt := ltV) d a b k
  have m1 := Go.Sort.order2_mem ltV d a b k
  have em : Go.Sort.median ltV d a b c k = ((Go.Sort.order2 ltV d (Go.Sort.order2 ltV d a b k).1 (Go.Sort.order2 ltV d (Go.Sort.order2 ltV d a b k).2.1 c (Go.Sort.order2 ltV d a b k).2.2).1 (Go.Sort.order2 ltV d (Go.Sort.order2 ltV d a b k).2.1 c (Go.Sort.order2 ltV d a b k).2.2).2.2).2.1, (Go.Sort.order2 ltV d (Go.Sort.order2 ltV d a b k).1 (Go.Sort.order2 ltV d (Go.Sort.order2 ltV d a b k).2.1 c (Go.Sort.order2 ltV d a b k).2.2).1 (Go.Sort.order2 ltV d (Go.Sort.order2 ltV d a b k).2.1 c (Go.Sort.order2 ltV d a b k).2.2).2.2).2.2) := rfl
  rw [em]
  generalize Go.Sort.order2 ltV d a b k = r1 at *
  have x1 : r1.1 < d.size ∧ r1.2.1 < d.size := by rcases m1 with ⟨h1, h2⟩ | ⟨h1, h2⟩ <;> rw [h1, h2] <;> omega
  refine (order2V (a := r1.2.1) (b := c) rfl eC s2 hc x1.2 hcc (by omega)).mono fun v H6 ⟨hv, s6, o6⟩ => ⟨_, _, hv, ?_⟩
  have c2 := Go.Sort.order2_count (lt := ltV) d r1.2.1 c r1.2.2
  have m2 := Go.Sort.order2_mem ltV d r1.2.1 c r1.2.2
  generalize Go.Sort.order2 ltV d r1.2.1 c r1.2.2 = r2 at *
  have x2 : r2.1 < d.size ∧ r2.2.1 < d.size := by rcases m2 with ⟨h1, h2⟩ | ⟨h1, h2⟩ <;> rw [h1, h2] <;> omega
  exact (order2V (a := r1.1) (b := r2.1) rfl rfl s6 hc x1.1 x2.1 (by omega)).mono fun v H10 ⟨hv, s10, o10⟩ => ⟨_, _, hv, rfl, s10, (o2.trans' o6).trans' o10⟩
theorem medAdjV {a k : Nat} {A : Int} (eA : A = a) (s : SK H0 e u d bk 3 H (.int .i64 k)) (hc : CmpV cmp H0) (h1 : 1 ≤ a) (ha : a + 1 < d.size) (hk : k ≤ 900) :
    Go.Eng.Fn Tryz.prog F.slices_medianAdjacentCmpFunc_api_Pair #[u.v, .int .i64 A, .pointer (some ⟨bk, 0, none⟩), cmp] H fun v H' => v = .int .i64 ((Go.Sort.medianAdjacent ltV d a k).1 : Nat) ∧
      SK H0 e u d bk 3 H' (.int .i64 ((Go.Sort.medianAdjacent ltV d a k).2 : Nat)) ∧ Off bk H H' := by
  have sz := s.s.sz
  subst eA
  exact slices_medianAdjacentCmpFunc_api_Pair_vc ⟨by unfold inI; omega, by unfold inI; omega, (medianV (a := a - 1) (b := a) (c := a + 1) (by omega) rfl (by omega) s hc (by omega) (by omega) ha hk).mono fun v H2 ⟨hv, s2, o2⟩ => ⟨_, hv, rfl, s2, o2⟩⟩
def hintI : Go.Sort.Hint → Int
  | .unknown => 0
  | .increasing => 1
  | .decreasing => 2
theorem hintFin {H H' H2 : Hp} {bk : Nat} {k r : Nat} {P : Value → Hp → Prop} (q : P (.tuple #[.int .i64 (r : Int), .int .i64 (hintI (if k = 0 then .increasing else if k = 12 then .decreasing else .unknown))]) H') :
    (((k : Int) == 0) = true → P (.tuple #[.int .i64 (r : Int), .int .i64 1]) H') ∧ (((k : Int) == 0) = false → (((k : Int) == 12) = true → P (.tuple #[.int .i64 (r : Int), .int .i64 2]) H') ∧ (((k : Int) == 12) = false → P (.tuple #[.int .i64 (r : Int), .int .i64 0]) H')) := by
  refine ⟨fun h => ?_, fun h => ⟨fun h2 => ?_, fun h2 => ?_⟩⟩
  · have h : k = 0 := by have : (k : Int) = 0 := by simpa using h
                         omega
    rw [if_pos h] at q; exact q
  · have h : ¬ k = 0 := fun x => by subst x; simp at h
    have h2 : k = 12 := by have : (k : Int) = 12 := by simpa using h2
                           omega
    rw [if_neg h, if_pos h2] at q; exact q
  · have h : ¬ k = 0 := fun x => by subst x; simp at h
    have h2 : ¬ k = 12 := fun x => by subst x; simp at h2
    rw [if_neg h, if_neg h2] at q; exact q
theorem tdiv4 {a b : Nat} (h : a ≤ b) : ((b : Int) - a).tdiv 4 = (((b - a) / 4 : Nat) : Int) := by
  rw [show (b : Int) - a = ((b - a : Nat) : Int) by omega, Int.tdiv_eq_ediv_of_nonneg (by omega)]; omega
theorem choose_eq {d : Array VP} {a b : Nat} {r1 r2 r3 : Nat × Nat} (h : b - a ≥ 50) (h1 : Go.Sort.medianAdjacent ltV d (a + (b - a) / 4 * 1) 0 = r1) (h2 : Go.Sort.medianAdjacent ltV d (a + (b - a) / 4 * 2) r1.2 = r2) (h3 : Go.Sort.medianAdjacent ltV d (a + (b - a) / 4 * 3) r2.2 = r3) :
    Go.Sort.choosePivot ltV d a b = ((Go.Sort.median ltV d r1.1 r2.1 r3.1 r3.2).1, if (Go.Sort.median ltV d r1.1 r2.1 r3.1 r3.2).2 = 0 then .increasing else if (Go.Sort.median ltV d r1.1 r2.1 r3.1 r3.2).2 = 12 then .decreasing else .unknown) := by
  subst h1; subst h2; subst h3
  unfold Go.Sort.choosePivot
  simp only [if_pos (show b - a ≥ 8 by omega), if_pos h]
set_option maxHeartbeats 2000000 in
theorem pivotV {a b : Nat} (s : SD H0 e u H d) (hc : CmpV cmp H0) (hab : a + 12 < b) (hb : b ≤ d.size) :
    Qf Tryz.prog F.slices_choosePivotCmpFunc_api_Pair #[u.v, .int .i64 a, .int .i64 b, cmp] H (.tuple #[.int .i64 ((Go.Sort.choosePivot ltV d a b).1 : Nat), .int .i64 (hintI (Go.Sort.choosePivot ltV d a b).2)]) := by
  have sz := s.sz
  have e4 := tdiv4 (a := a) (b := b) (by omega)
  refine slices_choosePivotCmpFunc_api_Pair_vc ⟨by unfold inI; omega, fun b1 H2 hb1 hH2 => ?_⟩
  rw [e4]
  have i4 : nz 4 ∧ inI (((b - a) / 4 : Nat) : Int) := ⟨by unfold nz; decide, by unfold inI; omega⟩
  have s2 : SK H0 e u d b1 3 H2 (.int .i64 ((0 : Nat) : Int)) := SK.new s hb1 hH2
  have l2 : Hp.le H H2 := Hp.le_new (Hp.le_refl _) hb1 hH2
  have fin : ∀ H', Off b1 H2 H' → Hp.le H H' := fun H' o c v hv => by
    rw [o c fun e => by subst e; rw [hb1] at hv; cases hv]; exact l2 c v hv
  refine ⟨i4, by unfold inI; omega, by unfold inI; omega, i4, by unfold inI; omega, by unfold inI; omega, i4, by unfold inI; omega, by unfold inI; omega, fun h8 => ⟨fun h50 => ?_, fun h50 => ?_⟩, fun h8 => ?_⟩
  · have h50 : b - a ≥ 50 := by have := of_decide_eq_true h50; omega
    have ec := choose_eq (d := d) (a := a) (b := b) h50 rfl rfl rfl
    rw [ec]
    refine (medAdjV (a := a + (b - a) / 4 * 1) (k := 0) (by omega) s2 hc (by omega) (by omega) (by omega)).mono fun v H4 ⟨hv, s4, o4⟩ => ⟨_, hv, ?_⟩
    have c1 := Go.Sort.medianAdjacent_count (lt := ltV) d (a + (b - a) / 4 * 1) 0
    have m1 := Go.Sort.medianAdjacent_mem ltV d (a + (b - a) / 4 * 1) 0
    generalize Go.Sort.medianAdjacent ltV d (a + (b - a) / 4 * 1) 0 = r1 at *
    refine (medAdjV (a := a + (b - a) / 4 * 2) (k := r1.2) (by omega) s4 hc (by omega) (by omega) (by omega)).mono fun v H7 ⟨hv, s7, o7⟩ => ⟨_, hv, ?_⟩
    have c2 := Go.Sort.medianAdjacent_count (lt := ltV) d (a + (b - a) / 4 * 2) r1.2
    have m2 := Go.Sort.medianAdjacent_mem ltV d (a + (b - a) / 4 * 2) r1.2
    generalize Go.Sort.medianAdjacent ltV d (a + (b - a) / 4 * 2) r1.2 = r2 at *
    refine (medAdjV (a := a + (b - a) / 4 * 3) (k := r2.2) (by omega) s7 hc (by omega) (by omega) (by omega)).mono fun v H10 ⟨hv, s10, o10⟩ => ⟨_, hv, ?_⟩
    have c3 := Go.Sort.medianAdjacent_count (lt := ltV) d (a + (b - a) / 4 * 3) r2.2
    have m3 := Go.Sort.medianAdjacent_mem ltV d (a + (b - a) / 4 * 3) r2.2
    generalize Go.Sort.medianAdjacent ltV d (a + (b - a) / 4 * 3) r2.2 = r3 at *
    refine (medianV (a := r1.1) (b := r2.1) (c := r3.1) rfl rfl rfl s10 hc (by omega) (by omega) (by omega) (by omega)).mono fun v H13 ⟨hv, s13, o13⟩ => ⟨_, hv, _, s13.v.at, hintFin (P := fun v H' => v = _ ∧ Hp.le H H') (H := H) (H2 := H2) (bk := b1) ⟨rfl, fin _ (((o4.trans' o7).trans' o10).trans' o13)⟩⟩
  · have h50 : ¬ b - a ≥ 50 := by have := of_decide_eq_false h50; omega
    have ec : Go.Sort.choosePivot ltV d a b = ((Go.Sort.median ltV d (a + (b - a) / 4 * 1) (a + (b - a) / 4 * 2) (a + (b - a) / 4 * 3) 0).1, if (Go.Sort.median ltV d (a + (b - a) / 4 * 1) (a + (b - a) / 4 * 2) (a + (b - a) / 4 * 3) 0).2 = 0 then .increasing else if (Go.Sort.median ltV d (a + (b - a) / 4 * 1) (a + (b - a) / 4 * 2) (a + (b - a) / 4 * 3) 0).2 = 12 then .decreasing else .unknown) := by
      unfold Go.Sort.choosePivot
      simp only [if_pos (show b - a ≥ 8 by omega), if_neg h50]
    rw [ec]
    exact (medianV (a := a + (b - a) / 4 * 1) (b := a + (b - a) / 4 * 2) (c := a + (b - a) / 4 * 3) (k := 0) (by omega) (by omega) (by omega) s2 hc (by omega) (by omega) (by omega) (by omega)).mono fun v H13 ⟨hv, s13, o13⟩ => ⟨_, hv, _, s13.v.at, hintFin (P := fun v H' => v = _ ∧ Hp.le H H') (H := H) (H2 := H2) (bk := b1) ⟨rfl, fin _ o13⟩⟩
  · have := of_decide_eq_false h8; omega
end

theorem lenV {H : Hp} {x : Int} (h0 : 0 ≤ x) (h1 : x ≤ 18446744073709551615) : Qf Tryz.prog F.math_bits_Len #[.int .u64 x] H (.int .i64 ((Go.Lib.bitLen x.toNat : Nat) : Int)) := fun w hv =>
  (Any.bits_Len Tryz.lenW x w h0 h1).mono fun e w' ⟨he, hw⟩ => ⟨_, H, he, by rw [hw]; exact Tr.refl hv, rfl, Hp.le_refl _⟩
theorem pow_le {n : Nat} (h0 : 0 < n) (hn : n ≤ 1000000) : n < 2 ^ Go.Lib.bitLen n ∧ 2 ^ Go.Lib.bitLen n ≤ 2 * n := by
  have e : Go.Lib.bitLen n = Go.Sort.bitsLen n := Go.Proofs.bitLen_eq n (by omega)
  rw [e]
  exact ⟨Go.Sort.lt_two_pow_bitsLen n, Go.Sort.two_pow_bitsLen_le h0⟩
theorem powV {H : Hp} {n : Nat} {N : Int} (eN : N = n) (h0 : 0 < n) (h : n ≤ 1000000) : Qf Tryz.prog F.slices_nextPowerOfTwo #[.int .i64 N] H (.int .u64 ((2 ^ Go.Lib.bitLen n : Nat) : Int)) := by
  subst eN
  have p := pow_le h0 h
  have q := lenV (H := H) (x := wrapU (n : Int)) (by unfold wrapU; omega) (by unfold wrapU; omega)
  rw [wrapU_id (by omega) (by omega), Int.toNat_natCast] at q
  have hb : Go.Lib.bitLen n ≤ 64 := by
    rcases Nat.lt_or_ge 64 (Go.Lib.bitLen n) with hx | hx
    · have := Nat.pow_le_pow_right (n := 2) (by omega) (show 65 ≤ Go.Lib.bitLen n by omega)
      omega
    · exact hx
  refine slices_nextPowerOfTwo_vc ⟨_, by rw [wrapU_id (by omega) (by omega)]; exact q, by unfold nn; omega, ?_, Hp.le_refl _⟩
  have e1 : Min.min ((Go.Lib.bitLen n : Nat) : Int).toNat IntKind.u64.bits = Go.Lib.bitLen n := by rw [Int.toNat_natCast]; exact Nat.min_eq_left hb
  have e2 : (1 : Int) * 2 ^ Go.Lib.bitLen n = ((2 ^ Go.Lib.bitLen n : Nat) : Int) := by rw [Int.one_mul, Int.natCast_pow]; rfl
  rw [e1, e2, wrap_u64, wrapU_id (by omega) (by omega)]
theorem andR {r M : Int} {K : Nat} (hM : M = (K : Int) - 1) (h1 : 1 ≤ K) (hK : K ≤ 4000000) :
    ∃ o : Nat, IntKind.i64.wrap (IntKind.u64.wrap (↑(BitVec.ofInt IntKind.u64.bits r &&& BitVec.ofInt IntKind.u64.bits (wrapU M)).toNat : Int)) = (o : Int) ∧ o ≤ K - 1 := by
  have hle : (BitVec.ofInt IntKind.u64.bits r &&& BitVec.ofInt IntKind.u64.bits (wrapU M)).toNat ≤ K - 1 := by
    rw [BitVec.toNat_and]
    refine Nat.le_trans Nat.and_le_right ?_
    rw [wrapU_id (by omega) (by omega), hM, show (K : Int) - 1 = ((K - 1 : Nat) : Int) by omega, BitVec.ofInt_natCast, BitVec.toNat_ofNat]
    exact Nat.mod_le _ _
  generalize (BitVec.ofInt IntKind.u64.bits r &&& BitVec.ofInt IntKind.u64.bits (wrapU M)).toNat = o at hle
  exact ⟨o, by rw [wrap_u64, wrapU_id (by omega) (by omega), wrap_i64 (by unfold inI; omega)], hle⟩
section
variable {H0 H : Hp} {e : TypeId} {u : Slc} {d : Array VP} {cmp : Value} {bk : Nat}
theorem nextV {r : Int} (s : SK H0 e u d bk 330 H (.int .u64 r)) :
    Go.Eng.Fn Tryz.prog F.slices_xorshift_Next #[.pointer (some ⟨bk, 0, none⟩)] H fun v H' => ∃ r' : Int, v = .int .u64 r' ∧ SK H0 e u d bk 330 H' (.int .u64 r') ∧ Off bk H H' := by
  refine slices_xorshift_Next_vc ⟨_, s.v.at, _, s.v.at, by unfold nn; omega, Var.set s.v _ fun H3 h3 => ?_⟩
  obtain ⟨s3, o3⟩ := s.set h3
  refine ⟨_, s3.v.at, _, s3.v.at, by unfold nn; omega, Var.set s3.v _ fun H6 h6 => ?_⟩
  obtain ⟨s6, o6⟩ := s3.set h6
  refine ⟨_, s6.v.at, _, s6.v.at, by unfold nn; omega, Var.set s6.v _ fun H9 h9 => ?_⟩
  obtain ⟨s9, o9⟩ := s6.set h9
  exact ⟨_, s9.v.at, _, rfl, s9, (Off.trans' o3 o6).trans' o9⟩
theorem Off.chg {H' : Hp} {K : Hp} (o : Off bk H H') (hb : K bk = none) (h : Chg K H u) : Chg K H' u := fun c hc hp => by
  rw [o c fun e => by subst e; exact hc hb]; exact h c hc hp
set_option maxHeartbeats 2000000 in
theorem breakV {a b : Nat} (s : SD H0 e u H d) (hab : a + 12 < b) (hb : b ≤ d.size) :
    Go.Eng.Fn Tryz.prog F.slices_breakPatternsCmpFunc_api_Pair #[u.v, .int .i64 a, .int .i64 b, cmp] H fun v H' => v = .tuple #[] ∧ ∃ d' : Array VP, Go.Sort.PermIn a b d d' ∧ Did H0 e u H H' d' := by
  have sz := s.sz
  have e4 := tdiv4 (a := a) (b := b) (by omega)
  have i4 : nz 4 ∧ inI (((b - a) / 4 : Nat) : Int) := ⟨by unfold nz; decide, by unfold inI; omega⟩
  have p2 := pow_le (n := b - a) (by omega) (by omega)
  refine slices_breakPatternsCmpFunc_api_Pair_vc ⟨by unfold inI; omega, fun h8 => fun b1 H2 hb1 hH2 => ?_, fun h8 => by have := of_decide_eq_false h8; omega⟩
  have s2 : SK H0 e u d b1 330 H2 (.int .u64 0) := SK.new s hb1 hH2
  have l2 : Hp.le H H2 := Hp.le_new (Hp.le_refl _) hb1 hH2
  refine Var.set s2.v _ fun H3 h3 => ?_
  obtain ⟨s3, o3⟩ := s2.set h3
  have c3 : Chg H H3 u := Off.chg o3 hb1 (Chg.ofLe l2)
  refine ⟨_, powV (n := b - a) (by omega) (by omega) (by omega), ?_⟩
  rw [e4]
  refine ⟨i4, by unfold inI; omega, by unfold inI; omega, by unfold inI; omega, fun n H8 => ∃ (i : Nat) (d' : Array VP) (r : Int), n = i ∧ a + (b - a) / 4 * 2 - 1 ≤ i ∧ i ≤ a + (b - a) / 4 * 2 + 2 ∧ Go.Sort.PermIn a b d d' ∧ SK H0 e u d' b1 330 H8 (.int .u64 r) ∧ Chg H H8 u, fun n _ => (a + (b - a) / 4 * 2 + 2 - n).toNat,
    ⟨a + (b - a) / 4 * 2 - 1, d, _, by omega, by omega, by omega, Go.Sort.permIn_refl _ _ _, s3, c3⟩, ?_⟩
  rintro n7 H8 ⟨i, d', r, rfl, hi, hi', pm, s8, c8⟩
  have z8 : d'.size = d.size := pm.1
  refine ⟨i4, by unfold inI; omega, by unfold inI; omega, by unfold inI; omega, fun hn => ?_, fun hn => ⟨rfl, d', pm, s8.s, c8⟩⟩
  have hn : i ≤ a + (b - a) / 4 * 2 + 1 := by have := of_decide_eq_true hn; omega
  refine (nextV s8).mono fun v H10 ⟨r', hv, s10, o10⟩ => ⟨r', hv, ?_⟩
  have c10 : Chg H H10 u := Off.chg o10 hb1 c8
  obtain ⟨o, eo, ho⟩ := andR (r := r') (M := ((2 ^ Go.Lib.bitLen (b - a) : Nat) : Int) - 1) (K := 2 ^ Go.Lib.bitLen (b - a)) rfl (by omega) (by omega)
  rw [eo]
  have nxt : ∀ (H' : Hp) (j : Nat), a ≤ j → j < b → SD H0 e u H' (Go.Sort.swp d' i j) → Chg H10 H' u → inI ((i : Int) + 1) ∧ (∃ (i' : Nat) (d' : Array VP) (r : Int), (i : Int) + 1 = i' ∧ a + (b - a) / 4 * 2 - 1 ≤ i' ∧ i' ≤ a + (b - a) / 4 * 2 + 2 ∧ Go.Sort.PermIn a b d d' ∧ SK H0 e u d' b1 330 H' (.int .u64 r) ∧ Chg H H' u) ∧
      ((a : Int) + (((b : Int) - a) / 4) * 2 + 2 - ((i : Int) + 1)).toNat < ((a : Int) + (((b : Int) - a) / 4) * 2 + 2 - (i : Int)).toNat := fun H' j j1 j2 s' c' =>
    ⟨by unfold inI; omega, ⟨i + 1, _, r', by omega, by omega, by omega, Go.Sort.permIn_trans _ _ _ a b pm (Go.Sort.swp_permIn d' a b i j (by omega) (by omega) j1 j2 (by omega)), ⟨s', s10.v.chg c' s10.sp, s10.nw, s10.sp⟩, c10.trans c'⟩, by omega⟩
  refine ⟨fun hx => ?_, fun hx => ?_⟩
  · have hx : o ≥ b - a := by have := of_decide_eq_true hx; omega
    exact ⟨by unfold inI; omega, by unfold inI; omega, by unfold inI; omega, s10.s.swpN (a := i) (b := a + (o - (b - a))) rfl (by omega) (by omega) (by omega) fun H21 s21 c21 => nxt _ _ (by omega) (by omega) s21 c21⟩
  · have hx : ¬ o ≥ b - a := by have := of_decide_eq_false hx; omega
    exact ⟨by unfold inI; omega, by unfold inI; omega, s10.s.swpN (a := i) (b := a + o) rfl (by omega) (by omega) (by omega) fun H21 s21 c21 => nxt _ _ (by omega) (by omega) s21 c21⟩
end

section
variable {H0 H : Hp} {e : TypeId} {u : Slc} {d : Array VP} {cmp : Value}
structure Nx (H0 : Hp) (e : TypeId) (u : Slc) (H : Hp) (d3 : Array VP) (a1 b1 a' b' : Nat) (H' : Hp) (d' : Array VP) : Prop where
  lo : a1 ≤ a'
  mid : a' ≤ b'
  hi : b' ≤ b1
  sm : b' - a' < b1 - a1
  s : SD H0 e u H' d'
  z : d'.size = d3.size
  c : Chg H H' u
  bel : Go.Sort.Below ltV a' b' d'
  fin : ∀ d2, Go.Sort.PermIn a' b' d' d2 → Go.Sort.SortedIn ltV a' b' d2 → Go.Sort.PermIn a1 b1 d3 d2 ∧ Go.Sort.SortedIn ltV a1 b1 d2
def Srts (H0 : Hp) (e : TypeId) (u : Slc) (cmp : Value) (L : Int) (a b : Nat) (H : Hp) (d : Array VP) : Prop := ∀ A B : Int, A = a → B = b →
  Go.Eng.Fn Tryz.prog F.slices_pdqsortCmpFunc_api_Pair #[u.v, .int .i64 A, .int .i64 B, .int .i64 L, cmp] H fun v H' => v = .tuple #[] ∧ ∃ d', Go.Sort.PermIn a b d d' ∧ Go.Sort.SortedIn ltV a b d' ∧ Did H0 e u H H' d'
theorem tdiv8 {a b : Nat} (h : a ≤ b) : ((b : Int) - a).tdiv 8 = (((b - a) / 8 : Nat) : Int) := by
  rw [show (b : Int) - a = ((b - a : Nat) : Int) by omega, Int.tdiv_eq_ediv_of_nonneg (by omega)]; omega
set_option maxHeartbeats 4000000 in
theorem pdqTail {a1 b1 p : Nat} {P L : Int} {c6 c7 : Bool} {M : Nat} {I1 : Int → Int → Int → Bool → Bool → Hp → Prop} {m2 : Int → Int → Int → Bool → Bool → Hp → Nat} (eP : P = p)
    (ih : ∀ {a' b' : Nat} {H' : Hp} {d' : Array VP}, b' - a' < b1 - a1 → a' ≤ b' → b' ≤ d'.size → SD H0 e u H' d' → Go.Sort.Below ltV a' b' d' → Srts H0 e u cmp L a' b' H' d')
    (s : SD H0 e u H d) (hc : CmpV cmp H0) (hap : a1 ≤ p) (hpb : p < b1) (hb : b1 ≤ d.size) (bel : Go.Sort.Below ltV a1 b1 d)
    (kI : ∀ (a' b' : Nat) (A' B' : Int) (c c' : Bool) (H' : Hp) (d' : Array VP), A' = a' → B' = b' → Nx H0 e u H d a1 b1 a' b' H' d' → I1 A' B' L c c' H' ∧ m2 A' B' L c c' H' < M) :
    (decide ((a1 : Int) > 0) = true → inI ((a1 : Int) - 1)) ∧ (decide ((a1 : Int) > 0) = true → inSl u.a u.n ((a1 : Int) - 1)) ∧ ∃ n22 n23 n24 n25 : Int, (decide ((a1 : Int) > 0) = true → H.at (eaddr u.a 4 ((a1 : Int) - 1)) = some (.int .i64 n22) ∧ H.at ((eaddr u.a 4 ((a1 : Int) - 1)).add 1) = some (.int .i64 n23) ∧ H.at ((eaddr u.a 4 ((a1 : Int) - 1)).add 2) = some (.int .i64 n24) ∧ H.at ((eaddr u.a 4 ((a1 : Int) - 1)).add 3) = some (.int .i64 n25)) ∧
    (decide ((a1 : Int) > 0) = true → inSl u.a u.n P) ∧ ∃ n26 n27 n28 n29 : Int, (decide ((a1 : Int) > 0) = true → H.at (eaddr u.a 4 P) = some (.int .i64 n26) ∧ H.at ((eaddr u.a 4 P).add 1) = some (.int .i64 n27) ∧ H.at ((eaddr u.a 4 P).add 2) = some (.int .i64 n28) ∧ H.at ((eaddr u.a 4 P).add 3) = some (.int .i64 n29)) ∧
    ∃ n30 : Int, (decide ((a1 : Int) > 0) = true → QfV Tryz.prog cmp [sI4 n22 n23 n24 n25, sI4 n26 n27 n28 n29] H (.int .i64 n30)) ∧
    ((decide ((a1 : Int) > 0) && !decide (n30 < 0)) = true → Go.Eng.Fn Tryz.prog F.slices_partitionEqualCmpFunc_api_Pair #[u.v, .int .i64 (a1 : Int), .int .i64 (b1 : Int), .int .i64 P, cmp] H fun v31 H32 => ∃ n33 : Int, v31 = .int .i64 n33 ∧ I1 n33 (b1 : Int) L c6 c7 H32 ∧ m2 n33 (b1 : Int) L c6 c7 H32 < M) ∧
    ((decide ((a1 : Int) > 0) && !decide (n30 < 0)) = false → Go.Eng.Fn Tryz.prog F.slices_partitionCmpFunc_api_Pair #[u.v, .int .i64 (a1 : Int), .int .i64 (b1 : Int), .int .i64 P, cmp] H fun v34 H35 => ∃ (n36 : Int) (c37 : Bool), v34 = .tuple #[.int .i64 n36, .bool c37] ∧
      inI (n36 - (a1 : Int)) ∧ inI ((b1 : Int) - n36) ∧ (nz 8 ∧ inI (((b1 : Int) - (a1 : Int)).tdiv 8)) ∧
      (decide (n36 - (a1 : Int) < (b1 : Int) - n36) = true → Go.Eng.Fn Tryz.prog F.slices_pdqsortCmpFunc_api_Pair #[u.v, .int .i64 (a1 : Int), .int .i64 n36, .int .i64 L, cmp] H35 fun v38 H39 => v38 = .tuple #[] ∧ inI (n36 + 1) ∧ I1 (n36 + 1) (b1 : Int) L (decide (n36 - (a1 : Int) ≥ ((b1 : Int) - (a1 : Int)).tdiv 8)) c37 H39 ∧ m2 (n36 + 1) (b1 : Int) L (decide (n36 - (a1 : Int) ≥ ((b1 : Int) - (a1 : Int)).tdiv 8)) c37 H39 < M) ∧
      (decide (n36 - (a1 : Int) < (b1 : Int) - n36) = false → inI (n36 + 1) ∧ Go.Eng.Fn Tryz.prog F.slices_pdqsortCmpFunc_api_Pair #[u.v, .int .i64 (n36 + 1), .int .i64 (b1 : Int), .int .i64 L, cmp] H35 fun v40 H41 => v40 = .tuple #[] ∧ I1 (a1 : Int) n36 L (decide ((b1 : Int) - n36 ≥ ((b1 : Int) - (a1 : Int)).tdiv 8)) c37 H41 ∧ m2 (a1 : Int) n36 L (decide ((b1 : Int) - n36 ≥ ((b1 : Int) - (a1 : Int)).tdiv 8)) c37 H41 < M)) := by
  have sz := s.sz
  subst eP
  obtain ⟨n30, q30, l30⟩ := hc d[a1 - 1]! d[p]! H s.le
  refine ⟨fun h => by unfold inI; omega, fun h => s.inS (by have := of_decide_eq_true h; omega) (by omega), _, _, _, _, fun h => s.atN (k := a1 - 1) (by have := of_decide_eq_true h; omega) (by omega), fun h => s.inS (by omega) (by omega), _, _, _, _, fun h => s.atN (k := p) rfl (by omega), n30, fun _ => q30, fun hx => ?_, fun hx => ?_⟩
  · simp only [Bool.and_eq_true, decide_eq_true_eq, Bool.not_eq_true', decide_eq_false_iff_not] at hx
    have hnl : ltV d[a1 - 1]! d[p]! = false := by
      cases hv : ltV d[a1 - 1]! d[p]! with
      | false => rfl
      | true => have := l30.2 hv; omega
    refine (partEqV s hc hap hpb hb).mono fun v H32 ⟨hv, s32, c32⟩ => ⟨_, hv, ?_⟩
    obtain ⟨r1, r2, r3, r4, r5⟩ := Go.Sort.round_eq swoV (Go.Sort.partitionEqual_holds ltV) (d3 := d) (a := a1) (b := b1) (pivot := p) (mid := (Go.Sort.partitionEqual ltV d a1 b1 p).1) (d4 := (Go.Sort.partitionEqual ltV d a1 b1 p).2) (by omega) hap hpb hb bel hnl rfl
    exact kI _ b1 _ _ _ _ _ _ rfl rfl ⟨by omega, r2, Nat.le_refl _, by omega, s32, r3, c32, r4, r5⟩
  · refine (partV s hc hap hpb hb).mono fun v H35 ⟨hv, s35, c35⟩ => ⟨_, _, hv, ?_⟩
    obtain ⟨r1, r2, r3, r4, r5, r6, r7⟩ := Go.Sort.round_part swoV (Go.Sort.partition_holds ltV) (d3 := d) (a := a1) (b := b1) (pivot := p) (mid := (Go.Sort.partition ltV d a1 b1 p).1) (ap := (Go.Sort.partition ltV d a1 b1 p).2.1) (d4 := (Go.Sort.partition ltV d a1 b1 p).2.2) hap hpb hb bel rfl
    generalize Go.Sort.partition ltV d a1 b1 p = R at *
    refine ⟨by unfold inI; omega, by unfold inI; omega, ⟨by unfold nz; decide, by rw [tdiv8 (by omega)]; unfold inI; omega⟩, fun h => ?_, fun h => ⟨by unfold inI; omega, ?_⟩⟩
    · have h : R.1 - a1 < b1 - R.1 := by have := of_decide_eq_true h; omega
      refine (ih (a' := a1) (b' := R.1) (by omega) (by omega) (by omega) s35 r4 _ _ rfl rfl).mono fun v H39 ⟨hv, d5, pm, st, s39, c39⟩ => ⟨hv, by unfold inI; omega, ?_⟩
      obtain ⟨x1, x2⟩ := r6 d5 pm st
      exact kI (R.1 + 1) b1 _ _ _ _ _ d5 (by omega) rfl ⟨by omega, by omega, Nat.le_refl _, by omega, s39, by rw [pm.1]; exact r3, c35.trans c39, x1, x2⟩
    · have h : ¬ R.1 - a1 < b1 - R.1 := by have := of_decide_eq_false h; omega
      refine (ih (a' := R.1 + 1) (b' := b1) (by omega) (by omega) (by omega) s35 r5 _ _ (by omega) rfl).mono fun v H41 ⟨hv, d5, pm, st, s41, c41⟩ => ⟨hv, ?_⟩
      obtain ⟨x1, x2⟩ := r7 d5 pm st
      exact kI a1 R.1 _ _ _ _ _ d5 rfl rfl ⟨Nat.le_refl _, by omega, by omega, by omega, s41, by rw [pm.1]; exact r3, c35.trans c41, x1, x2⟩
end

section
variable {H0 H : Hp} {e : TypeId} {u : Slc} {d : Array VP} {cmp : Value}
def PdqI (H0 : Hp) (e : TypeId) (u : Slc) (a b : Nat) (d : Array VP) (H : Hp) : Int → Int → Int → Bool → Bool → Hp → Prop := fun A B L _ _ H8 => ∃ (a1 b1 : Nat) (d1 : Array VP), A = a1 ∧ B = b1 ∧ 0 ≤ L ∧ L ≤ 100 ∧ a1 ≤ b1 ∧ b1 - a1 ≤ b - a ∧ b1 ≤ d.size ∧
  SD H0 e u H8 d1 ∧ d1.size = d.size ∧ Chg H H8 u ∧ Go.Sort.Below ltV a1 b1 d1 ∧ ∀ d2, Go.Sort.PermIn a1 b1 d1 d2 → Go.Sort.SortedIn ltV a1 b1 d2 → Go.Sort.PermIn a b d d2 ∧ Go.Sort.SortedIn ltV a b d2
abbrev PdqM : Int → Int → Int → Bool → Bool → Hp → Nat := fun A B _ _ _ _ => (B - A).toNat
set_option maxHeartbeats 8000000 in
theorem pdqV (hc : CmpV cmp H0) (n : Nat) : ∀ {a b : Nat} {L : Int} {H : Hp} {d : Array VP}, b - a ≤ n → a ≤ b → b ≤ d.size → 0 ≤ L → L ≤ 100 → SD H0 e u H d → Go.Sort.Below ltV a b d → Srts H0 e u cmp L a b H d := by
  induction n using Nat.strongRecOn with
  | _ n ih =>
  intro a b L H d hn hab hb hL0 hL1 s bel0 A B eA eB
  subst eA; subst eB
  have sz := s.sz
  refine slices_pdqsortCmpFunc_api_Pair_vc ⟨PdqI H0 e u a b d H, PdqM, ⟨a, b, d, rfl, rfl, hL0, hL1, hab, Nat.le_refl _, hb, s, rfl, .refl, bel0, fun d2 h1 h2 => ⟨h1, h2⟩⟩, ?_⟩
  rintro n3 n4 n5 c6 c7 H8 ⟨a1, b1, d1, rfl, rfl, h50, h51, hab1, hba, hb1, s8, z8, c8, bel, fin⟩
  have post : ∀ (H' : Hp) (d2 : Array VP), SD H0 e u H' d2 → Go.Sort.PermIn a1 b1 d1 d2 → Go.Sort.SortedIn ltV a1 b1 d2 → Chg H8 H' u → Value.tuple #[] = Value.tuple #[] ∧ ∃ d', Go.Sort.PermIn a b d d' ∧ Go.Sort.SortedIn ltV a b d' ∧ Did H0 e u H H' d' :=
    fun H' d2 s2 p2 t2 c2 => ⟨rfl, d2, (fin d2 p2 t2).1, (fin d2 p2 t2).2, s2, c8.trans c2⟩
  refine ⟨by unfold inI; omega, fun h12 => ?_, fun h12 => ⟨fun h0 => ?_, fun h0 => ?_⟩⟩
  · have sp := Go.Sort.insertionSort_holds (lt := ltV) swoV d1 a1 b1 hab1 (by omega)
    exact (insV s8 hc hab1 (by omega)).mono fun v H10 ⟨hv, s10, c10⟩ => ⟨hv, post H10 _ s10 sp.1 sp.2 c10⟩
  · have sp := Go.Sort.heapSort_holds (lt := ltV) swoV d1 a1 b1 hab1 (by omega)
    exact (heapV s8 hc hab1 (by omega)).mono fun v H10 ⟨hv, s10, c10⟩ => ⟨hv, post H10 _ s10 sp.1 sp.2 c10⟩
  have h12 : a1 + 12 < b1 := by have := of_decide_eq_false h12; omega
  have h5 : n5 ≠ 0 := fun h => by rw [h] at h0; simp at h0
  have tl := fun (L' : Int) (H20 : Hp) (d20 : Array VP) (P : Int) (p : Nat) (l0 : 0 ≤ L') (l1 : L' ≤ 100) (eP : P = p) (hp0 : a1 ≤ p) (hp1 : p < b1) (s20 : SD H0 e u H20 d20) (pm : Go.Sort.PermIn a1 b1 d1 d20) (c20 : Chg H8 H20 u) =>
    pdqTail (I1 := PdqI H0 e u a b d H) (m2 := PdqM) (M := PdqM (a1 : Int) (b1 : Int) n5 c6 c7 H8) (L := L') (c6 := c6) (c7 := c7) eP
      (fun {a' b' H' d'} h1 h2 h3 s' bl => ih (b' - a') (by omega) (Nat.le_refl _) h2 h3 l0 l1 s' bl) s20 hc hp0 hp1 (by rw [pm.1]; omega) (Go.Sort.Below.perm bel (by omega) pm)
      (fun a' b' A' B' c c' H' d' eA eB nx => ⟨⟨a', b', d', eA, eB, l0, l1, nx.mid, (by have := nx.sm; omega), (by have := nx.hi; omega), nx.s, by rw [nx.z, pm.1]; exact z8, (c8.trans c20).trans nx.c, nx.bel, fun d2 p2 t2 => fin d2 (Go.Sort.permIn_trans _ _ _ a1 b1 pm (nx.fin d2 p2 t2).1) (nx.fin d2 p2 t2).2⟩,
        by have := nx.sm; have := nx.mid; show (B' - A').toNat < ((b1 : Int) - (a1 : Int)).toNat; omega⟩)
  refine ⟨fun _ => ?_, fun _ => ?_⟩
  · refine (breakV (a := a1) (b := b1) s8 h12 (by omega)).mono fun v H14 ⟨hv, d14, pm14, s14, c14⟩ => ⟨hv, by unfold inI; omega, ?_⟩
    have hp := Go.Sort.choosePivot_holds ltV d14 a1 b1 (by omega)
    have zz := (pm14).1
    have q := pivotV (a := a1) (b := b1) s14 hc (by omega) (by omega)
    generalize Go.Sort.choosePivot ltV d14 a1 b1 = cp at q hp
    refine ⟨_, _, q, fun _ => ?_, fun _ => ?_⟩
    · refine (revV (a := a1) (b := b1) s14 (by omega) (by omega)).mono fun v H18 ⟨hv, s18, c18⟩ => ⟨hv, by unfold inI; omega, by unfold inI; omega, by unfold inI; omega, fun _ => ?_, fun _ => ?_⟩
      · have pm18 := Go.Sort.permIn_trans _ _ _ a1 b1 (pm14) (Go.Sort.reverseRange_holds d14 a1 b1 (by omega) (by omega))
        have c18 := (c14).trans c18
        generalize Go.Sort.reverseRange d14 a1 b1 = d18 at *
        have z18 := pm18.1
        refine (partInsV (a := a1) (b := b1) s18 hc (by omega) (by omega)).mono fun v H20 ⟨hv, s20, c20⟩ => ⟨_, hv, fun ht => ?_, fun _ => ?_⟩
        · have sp := Go.Sort.partialInsertionSort_holds (lt := ltV) swoV d18 a1 b1 (by omega) (by omega) (bel.perm (by omega) pm18)
          exact post H20 _ s20 (Go.Sort.permIn_trans _ _ _ a1 b1 pm18 sp.1) (sp.2 ht) (c18.trans c20)
        · have sp := Go.Sort.partialInsertionSort_holds (lt := ltV) swoV d18 a1 b1 (by omega) (by omega) (bel.perm (by omega) pm18)
          exact tl (n5 - 1) H20 _ (_) (b1 - 1 - (cp.1 - a1)) (by omega) (by omega) (by omega) (by omega) (by omega) s20 (Go.Sort.permIn_trans _ _ _ a1 b1 pm18 sp.1) (c18.trans c20)
      · have pm18 := Go.Sort.permIn_trans _ _ _ a1 b1 (pm14) (Go.Sort.reverseRange_holds d14 a1 b1 (by omega) (by omega))
        have c18 := (c14).trans c18
        generalize Go.Sort.reverseRange d14 a1 b1 = d18 at *
        have z18 := pm18.1
        exact tl (n5 - 1) H18 _ (_) (b1 - 1 - (cp.1 - a1)) (by omega) (by omega) (by omega) (by omega) (by omega) s18 (pm18) (c18)
    · refine ⟨fun _ => ?_, fun _ => ?_⟩
      · refine (partInsV (a := a1) (b := b1) s14 hc (by omega) (by omega)).mono fun v H20 ⟨hv, s20, c20⟩ => ⟨_, hv, fun ht => ?_, fun _ => ?_⟩
        · have sp := Go.Sort.partialInsertionSort_holds (lt := ltV) swoV d14 a1 b1 (by omega) (by omega) (bel.perm (by omega) (pm14))
          exact post H20 _ s20 (Go.Sort.permIn_trans _ _ _ a1 b1 (pm14) sp.1) (sp.2 ht) ((c14).trans c20)
        · have sp := Go.Sort.partialInsertionSort_holds (lt := ltV) swoV d14 a1 b1 (by omega) (by omega) (bel.perm (by omega) (pm14))
          exact tl (n5 - 1) H20 _ (_) (cp.1) (by omega) (by omega) (by omega) (hp.1) (hp.2) s20 (Go.Sort.permIn_trans _ _ _ a1 b1 (pm14) sp.1) ((c14).trans c20)
      · exact tl (n5 - 1) H14 _ (_) (cp.1) (by omega) (by omega) (by omega) (hp.1) (hp.2) s14 (pm14) (c14)
  · have pm14 := Go.Sort.permIn_refl d1 a1 b1
    have c14 : Chg H8 H8 u := .refl
    have hp := Go.Sort.choosePivot_holds ltV d1 a1 b1 (by omega)
    have zz := (pm14).1
    have q := pivotV (a := a1) (b := b1) s8 hc (by omega) (by omega)
    generalize Go.Sort.choosePivot ltV d1 a1 b1 = cp at q hp
    refine ⟨_, _, q, fun _ => ?_, fun _ => ?_⟩
    · refine (revV (a := a1) (b := b1) s8 (by omega) (by omega)).mono fun v H18 ⟨hv, s18, c18⟩ => ⟨hv, by unfold inI; omega, by unfold inI; omega, by unfold inI; omega, fun _ => ?_, fun _ => ?_⟩
      · have pm18 := Go.Sort.permIn_trans _ _ _ a1 b1 (pm14) (Go.Sort.reverseRange_holds d1 a1 b1 (by omega) (by omega))
        have c18 := (c14).trans c18
        generalize Go.Sort.reverseRange d1 a1 b1 = d18 at *
        have z18 := pm18.1
        refine (partInsV (a := a1) (b := b1) s18 hc (by omega) (by omega)).mono fun v H20 ⟨hv, s20, c20⟩ => ⟨_, hv, fun ht => ?_, fun _ => ?_⟩
        · have sp := Go.Sort.partialInsertionSort_holds (lt := ltV) swoV d18 a1 b1 (by omega) (by omega) (bel.perm (by omega) pm18)
          exact post H20 _ s20 (Go.Sort.permIn_trans _ _ _ a1 b1 pm18 sp.1) (sp.2 ht) (c18.trans c20)
        · have sp := Go.Sort.partialInsertionSort_holds (lt := ltV) swoV d18 a1 b1 (by omega) (by omega) (bel.perm (by omega) pm18)
          exact tl (n5) H20 _ (_) (b1 - 1 - (cp.1 - a1)) h50 h51 (by omega) (by omega) (by omega) s20 (Go.Sort.permIn_trans _ _ _ a1 b1 pm18 sp.1) (c18.trans c20)
      · have pm18 := Go.Sort.permIn_trans _ _ _ a1 b1 (pm14) (Go.Sort.reverseRange_holds d1 a1 b1 (by omega) (by omega))
        have c18 := (c14).trans c18
        generalize Go.Sort.reverseRange d1 a1 b1 = d18 at *
        have z18 := pm18.1
        exact tl (n5) H18 _ (_) (b1 - 1 - (cp.1 - a1)) h50 h51 (by omega) (by omega) (by omega) s18 (pm18) (c18)
    · refine ⟨fun _ => ?_, fun _ => ?_⟩
      · refine (partInsV (a := a1) (b := b1) s8 hc (by omega) (by omega)).mono fun v H20 ⟨hv, s20, c20⟩ => ⟨_, hv, fun ht => ?_, fun _ => ?_⟩
        · have sp := Go.Sort.partialInsertionSort_holds (lt := ltV) swoV d1 a1 b1 (by omega) (by omega) (bel.perm (by omega) (pm14))
          exact post H20 _ s20 (Go.Sort.permIn_trans _ _ _ a1 b1 (pm14) sp.1) (sp.2 ht) ((c14).trans c20)
        · have sp := Go.Sort.partialInsertionSort_holds (lt := ltV) swoV d1 a1 b1 (by omega) (by omega) (bel.perm (by omega) (pm14))
          exact tl (n5) H20 _ (_) (cp.1) h50 h51 (by omega) (hp.1) (hp.2) s20 (Go.Sort.permIn_trans _ _ _ a1 b1 (pm14) sp.1) ((c14).trans c20)
      · exact tl (n5) H8 _ (_) (cp.1) h50 h51 (by omega) (hp.1) (hp.2) s8 (pm14) (c14)
theorem bitLen64 {n : Nat} (h : n ≤ 1000000) : Go.Lib.bitLen n ≤ 64 := by
  by_cases h0 : n = 0
  · subst h0; decide
  have p := pow_le (n := n) (by omega) h
  rcases Nat.lt_or_ge 64 (Go.Lib.bitLen n) with hx | hx
  · have := Nat.pow_le_pow_right (n := 2) (by omega) (show 65 ≤ Go.Lib.bitLen n by omega)
    omega
  · exact hx
theorem sortV (s : SD H0 e u H d) (hc : CmpV cmp H0) :
    Go.Eng.Fn Tryz.prog F.slices_SortFunc_api_Pair_api_Pair #[u.v, cmp] H fun v H' => v = .tuple #[] ∧ ∃ d', Go.Sort.PermIn 0 d.size d d' ∧ Go.Sort.SortedIn ltV 0 d.size d' ∧ Did H0 e u H H' d' := by
  have sz := s.sz
  have un : (u.n : Int) = d.size := by have := s.rd.len; simp at this; omega
  have b := bitLen64 (n := d.size) sz
  have q := lenV (H := H) (x := wrapU (d.size : Int)) (by unfold wrapU; omega) (by unfold wrapU; omega)
  rw [wrapU_id (by omega) (by omega), Int.toNat_natCast] at q
  refine slices_SortFunc_api_Pair_api_Pair_vc ⟨_, by rw [un, wrapU_id (by omega) (by omega)]; exact q, ?_⟩
  exact (pdqV hc (d.size - 0) (Nat.le_refl _) (Nat.zero_le _) (Nat.le_refl _) (by omega) (by omega) s (.inl rfl) 0 _ rfl un).mono fun v H' ⟨hv, h⟩ => ⟨hv, rfl, h⟩
end

def fPr (x : Pr) : List Value := [.int .i64 x.1, .int .i64 x.2.1, .int .i64 x.2.2.1, .int .i64 x.2.2.2]
abbrev prV (x : Pr) : Value := sI4 x.1 x.2.1 x.2.2.1 x.2.2.2
def ordP (a b : Pr) : Int := if (cmpM a.2.2 b.2.2).1 ≠ 0 then (cmpM a.2.2 b.2.2).1 else if cmpI a.1 b.1 ≠ 0 then cmpI a.1 b.1 else cmpI a.2.1 b.2.1
theorem orInts {H : Hp} {u : Slc} {x y z : Int} (h : RdI H u [x, y, z]) : Qf Tryz.prog F.cmp_Or_int #[u.v] H (.int .i64 (if x ≠ 0 then x else if y ≠ 0 then y else z)) := by
  have un : (u.n : Int) = 3 := by have := h.len; simp at this; omega
  refine cmp_Or_int_vc ⟨fun n H' => H' = H ∧ ((n = 0) ∨ (n = 1 ∧ x = 0) ∨ (n = 2 ∧ x = 0 ∧ y = 0) ∨ (n = 3 ∧ x = 0 ∧ y = 0 ∧ z = 0)), fun n _ => (3 - n).toNat, ⟨rfl, .inl rfl⟩, ?_⟩
  rintro n H' ⟨rfl, hn⟩
  rw [un]
  refine ⟨fun hb => ?_, fun hb => ?_⟩
  · rcases hn with rfl | ⟨rfl, hx⟩ | ⟨rfl, hx, hy⟩ | ⟨rfl, _⟩
    · refine ⟨h.inS (by omega) (by simp), x, RdI.get h (by omega) (by simp), fun hz => ⟨?_, Hp.le_refl _⟩, fun hz => ?_⟩
      · rw [if_pos (by simpa using hz)]
      · have hz : x = 0 := by simpa using hz
        exact ⟨by unfold inI; omega, ⟨rfl, .inr (.inl ⟨rfl, hz⟩)⟩, by show (3 - ((0 : Int) + 1)).toNat < (3 - (0 : Int)).toNat; decide⟩
    · refine ⟨h.inS (by omega) (by simp), y, RdI.get h (by omega) (by simp), fun hz => ⟨?_, Hp.le_refl _⟩, fun hz => ?_⟩
      · rw [if_neg (by omega), if_pos (by simpa using hz)]
      · have hz : y = 0 := by simpa using hz
        exact ⟨by unfold inI; omega, ⟨rfl, .inr (.inr (.inl ⟨rfl, hx, hz⟩))⟩, by show (3 - ((1 : Int) + 1)).toNat < (3 - (1 : Int)).toNat; decide⟩
    · refine ⟨h.inS (by omega) (by simp), z, RdI.get h (by omega) (by simp), fun hz => ⟨?_, Hp.le_refl _⟩, fun hz => ?_⟩
      · rw [if_neg (by omega), if_neg (by omega)]
      · have hz : z = 0 := by simpa using hz
        exact ⟨by unfold inI; omega, ⟨rfl, .inr (.inr (.inr ⟨rfl, hx, hy, hz⟩))⟩, by show (3 - ((2 : Int) + 1)).toNat < (3 - (2 : Int)).toNat; decide⟩
    · simp at hb
  · rcases hn with rfl | ⟨rfl, _⟩ | ⟨rfl, _⟩ | ⟨rfl, hx, hy, hz⟩
    · simp at hb
    · simp at hb
    · simp at hb
    · refine ⟨?_, Hp.le_refl _⟩
      rw [if_neg (by omega), if_neg (by omega), hz]
theorem rowOrder' {H : Hp} {i j n d i' j' n' d' : Int} (fa : fitR (n, d)) (fb : fitR (n', d')) : Qf Tryz.prog F.close_row_order #[.agg #[], sI4 i j n d, sI4 i' j' n' d'] H (.int .i64 (if (cmpM (n, d) (n', d')).1 ≠ 0 then (cmpM (n, d) (n', d')).1 else if cmpI i i' ≠ 0 then cmpI i i' else cmpI j j')) := by
  have q := ratioCmp (H := H) fa fb
  generalize cmpM (n, d) (n', d') = c at q ⊢
  refine close_row_order_vc ⟨_, _, q, _, compare_int, _, compare_int, fun b5 H6 hb hH => ?_⟩
  have r : RdI H6 ⟨some ⟨b5, 0, none⟩, 3, 3⟩ [c.1, cmpI i i', cmpI j j'] := rdConst (k := 1) (f := fI) (fun _ => rfl) hH rfl rfl
  have q2 := orInts r
  have l6 : Hp.le H H6 := Hp.le_new (Hp.le_refl _) hb hH
  generalize (if c.1 ≠ 0 then c.1 else if cmpI i i' ≠ 0 then cmpI i i' else cmpI j j') = z at q2 ⊢
  exact ⟨z, q2, rfl, l6⟩
theorem rowOrder {H : Hp} {a b : Pr} (fa : fitR a.2.2) (fb : fitR b.2.2) : Qf Tryz.prog F.close_row_order #[.agg #[], prV a, prV b] H (.int .i64 (ordP a b)) := by
  obtain ⟨i, j, n, d⟩ := a
  obtain ⟨i', j', n', d'⟩ := b
  exact rowOrder' fa fb
theorem cmpI_lt {x y : Int} : cmpI x y < 0 ↔ x < y := by
  unfold cmpI
  by_cases h : x < y
  · simp [h]
  · rw [if_neg h]; split <;> omega
theorem cmpI_ne {x y : Int} : cmpI x y ≠ 0 ↔ x ≠ y := by
  unfold cmpI
  by_cases h : x < y
  · rw [if_pos h]; omega
  · rw [if_neg h]; split <;> omega
theorem ordP_lt {a b : Pr} (oa : okPr a) (ob : okPr b) : ordP a b < 0 ↔ clP a b = true := by
  have e : cmpM a.2.2 b.2.2 = (cmpR a.2.2 b.2.2, 0) := by unfold cmpM; rw [if_pos ⟨oa, ob⟩]
  unfold ordP clP
  rw [e]
  by_cases h : cmpR a.2.2 b.2.2 ≠ 0
  · rw [if_pos h, if_pos h, decide_eq_true_iff]
  rw [if_neg h, if_neg h]
  by_cases h1 : a.1 ≠ b.1
  · rw [if_pos (cmpI_ne.2 h1), if_pos h1, decide_eq_true_iff, cmpI_lt]
  · rw [if_neg (fun x => h1 (cmpI_ne.1 x)), if_neg h1, decide_eq_true_iff, cmpI_lt]
theorem close_row_order_callable : callable Tryz.prog F.close_row_order := ⟨_, Tryz.func97, by kernel_rfl⟩
theorem cmpOrder {H0 : Hp} : CmpV (.func (.func F.close_row_order) #[.agg #[]] #[]) H0 := fun x y H _ =>
  ⟨ordP x.1 y.1, ⟨F.close_row_order, #[.agg #[]], #[], rfl, close_row_order_callable, rowOrder x.2.fit y.2.fit⟩, ordP_lt x.2 y.2⟩

theorem Own.map {α β : Type} {k : Nat} {f : α → List Value} {f' : β → List Value} {g : α → β} (hf : ∀ x, f' (g x) = f x) {e : TypeId} {H : Hp} {b : Nat} {u : Slc} {xs : List α} : Own k f e H b u xs ↔ Own k f' e H b u (xs.map g) := by
  have ef : (xs.map g).flatMap f' = xs.flatMap f := by
    induction xs with
    | nil => rfl
    | cons x xs ih => simp only [List.map_cons, List.flatMap_cons, hf, ih]
  constructor
  · rintro ⟨h1, h2, h3, cs, h4, h5, h6⟩
    exact ⟨by simpa using h1, h2, h3, cs, h4, h5, by rw [ef, List.length_map]; exact h6⟩
  · rintro ⟨h1, h2, h3, cs, h4, h5, h6⟩
    exact ⟨by simpa using h1, h2, h3, cs, h4, h5, by rw [ef, List.length_map] at h6; exact h6⟩
theorem Mine.map {α β : Type} {k : Nat} {f : α → List Value} {f' : β → List Value} {g : α → β} (hf : ∀ x, f' (g x) = f x) {e : TypeId} {H H' : Hp} {u : Slc} {xs : List α} : Mine k f e H H' u xs ↔ Mine k f' e H H' u (xs.map g) := by
  constructor
  · rintro (⟨h, h'⟩ | ⟨b, hb, h⟩)
    · exact .inl ⟨h, by rw [h']; rfl⟩
    · exact .inr ⟨b, hb, (Own.map hf).1 h⟩
  · rintro (⟨h, h'⟩ | ⟨b, hb, h⟩)
    · exact .inl ⟨h, List.map_eq_nil_iff.1 h'⟩
    · exact .inr ⟨b, hb, (Own.map hf).2 h⟩
def vps (l : List Pr) (h : ∀ x ∈ l, okPr x) : List VP := l.pmap Subtype.mk h
theorem vps_map (l : List Pr) (h : ∀ x ∈ l, okPr x) : (vps l h).map (fun x : VP => x.1) = l := by
  unfold vps
  rw [List.map_pmap]
  simp
theorem sortPairs {H0 H : Hp} {e : TypeId} {u : Slc} {l : List Pr} (hl : ∀ x ∈ l, okPr x) (m : Mine 4 fPr e H0 H u l) (le : Hp.le H0 H) (sz : l.length ≤ 1000000) :
    Go.Eng.Fn Tryz.prog F.slices_SortFunc_api_Pair_api_Pair #[u.v, .func (.func F.close_row_order) #[.agg #[]] #[]] H fun v H' => v = .tuple #[] ∧ Hp.le H0 H' ∧ Mine 4 fPr e H0 H' u (sortP l) ∧ Chg H H' u := by
  have em := vps_map l hl
  have ln : (vps l hl).length = l.length := by unfold vps; simp
  have s : SD H0 e u H (vps l hl).toArray := ⟨(Mine.map (f := fV) (f' := fPr) (g := fun x : VP => x.1) fun _ => rfl).2 (by rw [List.toList_toArray, em]; exact m), le, by simpa [ln] using sz⟩
  refine (sortV s cmpOrder).mono fun v H' ⟨hv, d', pm, st, s', c'⟩ => ⟨hv, s'.le, ?_, c'⟩
  have md := (Mine.map (f := fV) (f' := fPr) (g := fun x : VP => x.1) fun _ => rfl).1 s'.m
  have e2 : d'.toList.map (fun x : VP => x.1) = sortP l := by
    have hs := pm.1
    have hp := pm.2.2
    rw [Array.extract_eq_self_of_le (by omega)] at hp
    rw [show (vps l hl).toArray.extract 0 (vps l hl).toArray.size = (vps l hl).toArray from Array.extract_size] at hp
    refine sortP_of hl ?_ ?_
    · have := hp.map (fun x : VP => x.1)
      rw [List.toList_toArray, em] at this
      exact this
    · refine List.pairwise_map.2 (List.pairwise_iff_getElem.2 fun i j hi hj hij => ?_)
      have := st i j (Nat.zero_le _) hij (by rw [← hs]; simpa using hj)
      rw [getElem!_pos d' j (by simpa using hj), getElem!_pos d' i (by simpa using hi)] at this
      exact this
  rw [e2] at md
  exact md
end Go.Proofs.YtkemdpobjaiolaaGreat
end
