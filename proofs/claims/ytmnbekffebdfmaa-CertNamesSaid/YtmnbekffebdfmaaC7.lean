/- The laws CertLists, CertBack, CertOne. Conditions: none. -/
import Derived.Test.YtmnbekffebdfmaaC6
import Derived.Test.YtmnbekffebdfmaaVgH08
import Derived.Test.YtmnbekffebdfmaaVgLCertLists
import Derived.Test.YtmnbekffebdfmaaFs
set_option linter.unusedVariables false
set_option maxRecDepth 100000
open Go Go.Eng Go.Proofs
namespace Go.Proofs.Ytmnbekffebdfmaa

/-- Ints that are laid down whole. -/
theorem rdInts {H H' : Hp} {b : Nat} {xs : List Int} {cs : Array Value} {n : Nat} {e : TypeId} (h : H' = H.put b (.cells cs e (0, 0))) (hc : cs = (xs.flatMap fI).toArray) (hn : n = xs.length) : RdI H' ⟨some ⟨b, 0, none⟩, n, n⟩ xs :=
  rdConst (k := 1) (f := fI) (fun _ => rfl) h hc hn
theorem rdPts {H H' : Hp} {b : Nat} {xs : List Pt} {cs : Array Value} {n : Nat} {e : TypeId} (h : H' = H.put b (.cells cs e (0, 0))) (hc : cs = (xs.flatMap fD).toArray) (hn : n = xs.length) : Rd 3 fD H' ⟨some ⟨b, 0, none⟩, n, n⟩ xs :=
  rdConst (k := 3) (f := fD) (fun _ => rfl) h hc hn

theorem law8at {H : Hp} {n : Int} : Qf Try.prog F.pelotonlaw08_at #[.int .i64 n] H (.agg #[.int .i64 n, .int .i64 1]) := pelotonlaw08_at_vc ⟨rfl, Hp.le_refl _⟩

def ca1 : Ct := ⟨1, [(0, 1, 2)]⟩
def ca2 : Ct := ⟨2, [(0, 1, 2), (1, 3, 2)]⟩
def ca3 : Ct := ⟨2, [(1, 3, 2)]⟩
def ca4 : Ct := ⟨3, [(1, 3, 2), (2, 1, 2)]⟩
def ptsA : List Pt := [(1, 5, 0), (2, 6, 0), (3, 7, 0)]

theorem law8alive {H : Hp} : Qf Try.prog F.pelotonlaw08_alive #[] H (.bool true) := by
  have e1 : addC .zero (1, 2) = (ca1, 0, 0) := by kernel_rfl
  have e2 : addC ca1 (3, 2) = (ca2, 1, 0) := by kernel_rfl
  have e3 : ofC ca2 2 = ([0, 1], 0) := by kernel_rfl
  have e4 : ofC ca2 1 = ([0], 0) := by kernel_rfl
  have e5 : holdsC ca2 ptsA (0, 1) = ([0], 0) := by kernel_rfl
  have e6 : removeC ca2 0 = (ca3, (1, 2), 0) := by kernel_rfl
  have e7 : addC ca3 (1, 2) = (ca4, 2, 0) := by kernel_rfl
  refine pelotonlaw08_alive_vc (certNew.mono fun v H2 ⟨hv, l2⟩ => ⟨0, zs, hv, ?_⟩)
  have k1 := certAdd (H := H2) (u := zs) (c := .zero) (x := (1, 2)) Rd.nil
  rw [e1] at k1
  refine k1.mono fun v H6 ⟨u1, hv, n1⟩ => ⟨_, u1, _, _, hv, ?_⟩
  have k2 := certAdd (x := (3, 2)) n1.rd
  rw [e2] at k2
  refine k2.mono fun v H12 ⟨u2, hv, n2⟩ => ⟨_, u2, _, _, hv, ?_⟩
  have k3 := certOf (id := 2) n2.rd
  rw [e3] at k3
  refine k3.mono fun v H18 ⟨u3, hv, l3, m3⟩ => ⟨u3, _, hv, ?_⟩
  have k4 := certOf (id := 1) (n2.rd.le l3)
  rw [e4] at k4
  refine k4.mono fun v H22 ⟨u4, hv, l4, m4⟩ => ⟨u4, _, hv, 0, 1, law8at, fun b27 H28 hb27 hH28 => ?_⟩
  have l28 : Hp.le H22 H28 := Hp.le_new (Hp.le_refl _) hb27 hH28
  have k5 := certHolds (w := ⟨some ⟨b27, 0, none⟩, 3, 3⟩) (f := ptsA) (t := (0, 1)) (((n2.rd.le l3).le l4).le l28) (rdPts hH28 rfl rfl) ⟨by unfold inI; omega, by unfold inI; omega⟩
  rw [e5] at k5
  refine k5.mono fun v H30 ⟨u5, hv, l5, m5⟩ => ⟨l5, u5, _, hv, ?_⟩
  have k6 := certRemove (n := 0) ((((n2.rd.le l3).le l4).le l28).le l5)
  rw [e6] at k6
  refine k6.mono fun v H34 ⟨u6, hv, n6⟩ => ⟨_, u6, _, _, _, hv, ?_⟩
  have k7 := certAdd (x := (1, 2)) n6.rd
  rw [e7] at k7
  refine k7.mono fun v H41 ⟨u7, hv, n7⟩ => ⟨_, u7, _, _, hv, fun _ b46 H47 hb46 hH47 => ?_, fun h => absurd h (by decide)⟩
  have l41 : Hp.le H22 H41 := Hp.le_trans l28 (Hp.le_trans l5 (Hp.le_trans n6.le n7.le))
  have l47 : Hp.le H41 H47 := Hp.le_new (Hp.le_refl _) hb46 hH47
  refine ⟨_, fun _ => sameIDs (b := ⟨some ⟨b46, 0, none⟩, 2, 2⟩) (((m3.le l4).le l41).le l47).rdI (rdInts (xs := [0, 1]) hH47 rfl rfl) (by simp), fun _ b49 H50 hb49 hH50 => ?_, fun h => absurd h (by decide)⟩
  have l50 : Hp.le H47 H50 := Hp.le_new (Hp.le_refl _) hb49 hH50
  refine ⟨_, fun _ => sameIDs (b := ⟨some ⟨b49, 0, none⟩, 1, 1⟩) (((m4.le l41).le l47).le l50).rdI (rdInts (xs := [0]) hH50 rfl rfl) (by simp), fun _ b52 H53 hb52 hH53 => ?_, fun h => absurd h (by decide)⟩
  have l53 : Hp.le H50 H53 := Hp.le_new (Hp.le_refl _) hb52 hH53
  refine ⟨_, fun _ => sameIDs (b := ⟨some ⟨b52, 0, none⟩, 1, 1⟩) (((((m5.le n6.le).le n7.le).le l47).le l50).le l53).rdI (rdInts (xs := [0]) hH53 rfl rfl) (by simp), rfl, ?_⟩
  exact Hp.le_trans l2 (Hp.le_trans n1.le (Hp.le_trans n2.le (Hp.le_trans l3 (Hp.le_trans l4 (Hp.le_trans l41 (Hp.le_trans l47 (Hp.le_trans l50 l53)))))))

theorem law8fit {H : Hp} {u : Slc} {c : Ct} (h : Rd 3 fD H u c.list) :
    Qf Try.prog F.pelotonlaw08_fit #[.agg #[.int .i64 c.next, u.v]] H (.bool (!decide ((40 < c.list.length ∧ c.list.length < 200) ∨ 210 < c.list.length) && chkC c == 0)) :=
  pelotonlaw08_fit_vc ⟨_, rGreatC h, _, fun _ => refCheckC h, rfl, Hp.le_refl _⟩

theorem law8part {H : Hp} {u w : Slc} {a b : Ct} {n : Int} (ha : Rd 3 fD H u a.list) (hb : Rd 3 fD H w b.list) (hla : a.list.length ≤ 1000000) (hlb : b.list.length ≤ 1000000) :
    Qf Try.prog F.pelotonlaw08_part #[.agg #[.int .i64 a.next, u.v], .agg #[.int .i64 b.next, w.v], .int .i64 n] H (.bool (a.list == b.list.filter fun h => h.1 != n)) := by
  have la := ha.len
  have lb := hb.len
  refine pelotonlaw08_part_vc ⟨fun k i H' => H' = H ∧ 0 ≤ i ∧ i ≤ b.list.length ∧ 0 ≤ k ∧ k ≤ a.list.length ∧ a.list.take k.toNat = (b.list.take i.toNat).filter fun h => h.1 != n, fun _ i _ => (b.list.length - i).toNat,
    ⟨rfl, by omega, by omega, by omega, by omega, by simp⟩, fun k i H' ⟨e, i0, i1, k0, k1, hp⟩ => ?_⟩
  subst e
  refine ⟨fun hn => ?_, fun hn => ⟨?_, Hp.le_refl _⟩⟩
  · have hn : i < b.list.length := by have : i < w.n := by simpa using hn
                                      omega
    have hg := getX (d := ((0 : Int), (0 : Int), (0 : Int))) i0 hn
    have h2 := hb.gD i0 hn
    generalize b.list.getD i.toNat (0, 0, 0) = x at hg h2
    have e1 : (i + 1).toNat = i.toNat + 1 := by omega
    have hts := filter_take (p := fun h : Int × Int × Int => h.1 != n) hg
    have hm : ((b.list.length : Int) - (i + 1)).toNat < ((b.list.length : Int) - i).toNat := by omega
    refine ⟨hb.inS i0 hn, _, h2.1, fun he => ⟨by unfold inI; omega, ⟨rfl, by omega, by omega, k0, k1, ?_⟩, hm⟩, fun he => ?_⟩
    · rw [e1, hts, if_neg (by simpa using he), List.append_nil]; exact hp
    · have hx : (x.1 != n) = true := by simpa using he
      rw [if_pos hx] at hts
      -- the whole of it, in parts
      have hall : (b.list.filter fun h => h.1 != n) = a.list.take k.toNat ++ x :: ((b.list.drop (i.toNat + 1)).filter fun h => h.1 != n) := by
        conv => lhs; rw [← List.take_append_drop (i.toNat + 1) b.list, List.filter_append, hts, ← hp]
        simp
      refine ⟨fun hc => ha.inS k0 (by simp at hc; omega), (a.list.getD k.toNat (0, 0, 0)).1, (a.list.getD k.toNat (0, 0, 0)).2.1, (a.list.getD k.toNat (0, 0, 0)).2.2, fun hc => ha.gD k0 (by simp at hc; omega), fun _ => hb.inS i0 hn, _, _, _, fun _ => h2, fun hc => ⟨?_, Hp.le_refl _⟩, fun hc => ?_⟩
      · have : (a.list == b.list.filter fun h => h.1 != n) = false := by
          rw [beq_eq_false_iff_ne]
          intro e
          rw [hall] at e
          have hlen := congrArg List.length e
          have hk : k < a.list.length := by simp at hlen; omega
          have hga := getX (d := ((0 : Int), (0 : Int), (0 : Int))) k0 hk
          have : a.list[k.toNat]? = some x := by
            rw [e, List.getElem?_append_right (by rw [List.length_take]; omega), List.length_take, Nat.min_eq_left (by omega), Nat.sub_self]; rfl
          rw [this] at hga
          have hxe := Option.some.inj hga
          simp only [Bool.or_eq_true, decide_eq_true_eq, Bool.not_eq_true', ← hxe, beq_self_eq_true, Bool.and_self] at hc
          simp at hc
          omega
        rw [this]
      · simp only [Bool.or_eq_false_iff, decide_eq_false_iff_not, Bool.not_eq_false', Bool.and_eq_true, beq_iff_eq] at hc
        obtain ⟨hk, ⟨q1, q2⟩, q3⟩ := hc
        have hk : k < a.list.length := by omega
        have hga := getX (d := ((0 : Int), (0 : Int), (0 : Int))) k0 hk
        have hxe : a.list.getD k.toNat (0, 0, 0) = x := Prod.ext q1 (Prod.ext q2 q3)
        rw [hxe] at hga
        refine ⟨by unfold inI; omega, by unfold inI; omega, ⟨rfl, by omega, by omega, by omega, by omega, ?_⟩, hm⟩
        rw [e1, hts, show (k + 1).toNat = k.toNat + 1 by omega, take_succ hga, hp]
  · have : i = b.list.length := by have : ¬ i < w.n := by simpa using hn
                                   omega
    subst this
    rw [Int.toNat_natCast, List.take_length] at hp
    congr 1
    rw [Bool.eq_iff_iff, beq_iff_eq, beq_iff_eq, ← hp]
    constructor
    · intro e; rw [List.take_of_length_le (by omega)]
    · intro e
      have := congrArg List.length e
      rw [List.length_take] at this
      omega

/-- What is at a place is found under its number. -/
theorem getC_at {c : Ct} (ok : okC c) {i : Nat} {x : Int × Int × Int} (hx : c.list[i]? = some x) : atC c x.1 = i ∧ getC c x.1 = (x.2, 0) := by
  have hlt : i < c.list.length := (List.getElem?_eq_some_iff.1 hx).1
  have e : atC c x.1 = i := by
    refine idx_hit hx (by simp) fun y hy => ?_
    obtain ⟨j, hj, ey⟩ := List.mem_take_iff_getElem.1 hy
    have hij : j < i := by omega
    have := List.pairwise_iff_getElem.1 ok.ok.inc j i (by omega) hlt hij
    rw [(List.getElem?_eq_some_iff.1 hx).2, ey] at this
    rw [beq_eq_false_iff_ne]; omega
  refine ⟨e, ?_⟩
  unfold getC
  rw [if_pos ok, if_neg (by omega), e]
  have : getD3 c.list (i : Int) = x := by unfold getD3; rw [Int.toNat_natCast, List.getD_eq_getElem?_getD, hx]; rfl
  rw [this]

theorem certLists {H : Hp} {u : Slc} {c : Ct} {id : Int} (h : Rd 3 fD H u c.list) :
    Qf Try.prog F.pelotonlaw08_CertLists #[.agg #[.int .i64 c.next, u.v], .int .i64 id] H (.bool true) := by
  have lu := h.len
  refine pelotonlaw08_CertLists_vc ⟨_, law8fit h, fun _ => ⟨_, law8alive, rfl, Hp.le_refl _⟩, fun hf => ?_⟩
  simp only [Bool.not_eq_false', Bool.and_eq_true, beq_iff_eq] at hf
  have ok := chkC_zero.1 hf.2
  have := ok.len
  refine (certOf (id := id) h).mono fun v H4 ⟨a, hv, l4, m4⟩ => ⟨a, _, hv, ?_⟩
  have e : ofC c id = (thoseC c fun x => x.1 == id || x.2 == id, 0) := by unfold ofC; rw [if_pos ok]
  rw [e] at m4 ⊢
  refine ⟨fun hb => by simp at hb, fun _ => ?_⟩
  have ra : RdI H4 a (thoseC c fun x => x.1 == id || x.2 == id) := m4.rdI
  have la := ra.len
  have h4 := h.le l4
  have hlen : (thoseC c fun x => x.1 == id || x.2 == id).length ≤ 200 := by
    have := ofC_len c id; rw [e] at this
    have := List.length_filter_le (fun h : Int × Int × Int => h.2.1 == id || h.2.2 == id) c.list
    show ((c.list.filter fun h => h.2.1 == id || h.2.2 == id).map (·.1)).length ≤ 200
    rw [List.length_map]; omega
  refine ⟨fun k i H' => H' = H4 ∧ 0 ≤ i ∧ i ≤ c.list.length ∧ 0 ≤ k ∧ k.toNat = (((c.list.take i.toNat).filter fun h => h.2.1 == id || h.2.2 == id).map (·.1)).length, fun _ i _ => (c.list.length - i).toNat,
    ⟨rfl, by omega, by omega, by omega, by simp⟩, fun k i H' ⟨e', i0, i1, k0, hk⟩ => ?_⟩
  subst e'
  refine ⟨fun hn => ?_, fun hn => ⟨true, fun _ => law8alive, ?_, l4⟩⟩
  · have hn : i < c.list.length := by have : i < u.n := by simpa using hn
                                      omega
    have hg := getX (d := ((0 : Int), (0 : Int), (0 : Int))) i0 hn
    have h2 := h4.gD2 i0 hn
    have h1 := (h4.gD i0 hn).1
    generalize c.list.getD i.toNat (0, 0, 0) = x at hg h2 h1
    have hget := (getC_at ok hg).2
    have kk := certGet (n := x.1) h4
    rw [hget] at kk
    have e1 : (i + 1).toNat = i.toNat + 1 := by omega
    have hts := thoseC_take (c := c) (p := fun y => y.1 == id || y.2 == id) hg
    have hm : ((c.list.length : Int) - (i + 1)).toNat < ((c.list.length : Int) - i).toNat := by omega
    refine ⟨h4.inS i0 hn, _, h1, _, _, _, kk, fun _ => h4.inS i0 hn, _, _, fun _ => h2, fun hb => by simp at hb, fun _ => ⟨fun hc => ⟨by unfold inI; omega, ⟨rfl, by omega, by omega, k0, ?_⟩, hm⟩, fun hc => ?_⟩⟩
    · rw [e1, hts, if_neg, List.append_nil]; exact hk
      simp at hc ⊢; exact hc
    · have hcx : (x.2.1 == id || x.2.2 == id) = true := by
        by_cases q1 : x.2.1 = id
        · simp [q1]
        · by_cases q2 : x.2.2 = id
          · simp [q2]
          · simp [q1, q2] at hc
      rw [if_pos hcx] at hts
      have hall : (thoseC c fun y => y.1 == id || y.2 == id) = ((c.list.take i.toNat).filter fun h => h.2.1 == id || h.2.2 == id).map (·.1) ++ x.1 :: ((c.list.drop (i.toNat + 1)).filter fun h => h.2.1 == id || h.2.2 == id).map (·.1) := by
        unfold thoseC
        conv => lhs; rw [← List.take_append_drop (i.toNat + 1) c.list, List.filter_append, List.map_append, hts]
        simp
      have hkl : k < (thoseC c fun y => y.1 == id || y.2 == id).length := by rw [hall]; simp; simp at hk; omega
      have hkx : (thoseC c fun y => y.1 == id || y.2 == id).getD k.toNat 0 = x.1 := by
        rw [hall, hk, List.getD_eq_getElem?_getD, List.getElem?_append_right (Nat.le_refl _), Nat.sub_self]; rfl
      have hld := ra.gI k0 hkl
      rw [hkx] at hld
      refine ⟨fun _ => ra.inS k0 hkl, _, fun _ => hld, fun _ => h4.inS i0 hn, _, fun _ => h1, fun hb => ?_, fun hb => ⟨by unfold inI; omega, by unfold inI; omega, ⟨rfl, by omega, by omega, by omega, ?_⟩, hm⟩⟩
      · simp at hb; omega
      · rw [e1, hts, List.length_append, ← hk]; simp; omega
  · have : i = c.list.length := by have : ¬ i < u.n := by simpa using hn
                                   omega
    subst this
    rw [Int.toNat_natCast, List.take_length] at hk
    have : (k == (a.n : Int)) = true := by
      rw [beq_iff_eq]
      have la : a.n = ((c.list.filter fun h => h.2.1 == id || h.2.2 == id).map (·.1)).length := la
      omega
    rw [this]; rfl
end Go.Proofs.Ytmnbekffebdfmaa
