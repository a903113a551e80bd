/- Contracts of cert and pelotonref08, second part. Conditions: none. -/
import Derived.Test.YtmnbekffebdfmaaC1
import Derived.Test.YtmnbekffebdfmaaVgBase
import Derived.Test.YtmnbekffebdfmaaVgCert
import Derived.Test.YtmnbekffebdfmaaVgStd
import Derived.Test.YtmnbekffebdfmaaFs
set_option linter.unusedVariables false
open Go Go.Eng Go.Proofs
namespace Go.Proofs.Ytmnbekffebdfmaa

theorem sameIDs {H : Hp} {a b : Slc} {xs ys : List Int} (ha : RdI H a xs) (hb : RdI H b ys) (h63 : xs.length ≤ 1000000000) : Qf Try.prog F.pelotonref03_SameIDs #[a.v, b.v] H (.bool (xs == ys)) := by
  have la := ha.len
  have lb := hb.len
  refine pelotonref03_SameIDs_vc ⟨fun h => ⟨?_, Hp.le_refl H⟩, fun h => ?_⟩
  · have hl : (a.n : Int) ≠ b.n := by simpa using h
    have : (xs == ys) = false := by
      rw [beq_eq_false_iff_ne]; intro e; subst e; omega
    rw [this]
  · have hl : (a.n : Int) = b.n := by simpa using h
    refine upto (N := xs.length) (J := fun n => xs.take n.toNat = ys.take n.toNat) (by omega) (by simp) fun n h0 h1 h2 => ⟨fun hn => ?_, fun hn => ⟨?_, Hp.le_refl _⟩⟩
    · have hn : n < a.n := by simpa using hn
      have gx := getI (xs := xs) h0 (by omega)
      have gy := getI (xs := ys) h0 (by omega)
      refine ⟨ha.inN h0 hn, _, ha.get h0 (by omega), hb.inN h0 (by omega), _, hb.get h0 (by omega), fun hne => ⟨?_, Hp.le_refl _⟩, fun he => upto.nx h0 (by omega) (by omega) ?_⟩
      · have : (xs == ys) = false := by
          rw [beq_eq_false_iff_ne]; intro e; subst e; simp at hne
        rw [this]
      · have e : (n + 1).toNat = n.toNat + 1 := by omega
        rw [e]
        exact (take_succ_eq gx gy h2).2 (by simpa using he)
    · have hn : n = xs.length := by
        have : ¬ n < a.n := by simpa using hn
        omega
      subst hn
      have : xs = ys := by
        have e1 : xs.take xs.length = xs := List.take_length
        have e2 : ys.take xs.length = ys := by
          have : xs.length = ys.length := by omega
          rw [this]; exact List.take_length
        rw [Int.toNat_natCast] at h2
        rw [← e1, h2, e2]
      subst this; simp

theorem rSameC {H : Hp} {a b : Slc} {c d : Ct} (ha : Rd 3 fD H a c.list) (hb : Rd 3 fD H b d.list) (h63 : c.list.length ≤ 1000000000) :
    Qf Try.prog F.pelotonref08_Same #[.agg #[.int .i64 c.next, a.v], .agg #[.int .i64 d.next, b.v]] H (.bool (c == d)) := by
  have la := ha.len
  have lb := hb.len
  have hcd : (c == d) = (c.next == d.next && c.list == d.list) := by
    rw [Bool.eq_iff_iff, Bool.and_eq_true, beq_iff_eq, beq_iff_eq, beq_iff_eq]
    exact ⟨fun e => by subst e; exact ⟨rfl, rfl⟩, fun ⟨e1, e2⟩ => by cases c; cases d; simp_all⟩
  rw [hcd]
  refine pelotonref08_Same_vc ⟨fun h => ⟨?_, Hp.le_refl H⟩, fun h => ?_⟩
  · have : (c.next == d.next && c.list == d.list) = false := by
      rw [Bool.and_eq_false_iff, beq_eq_false_iff_ne, beq_eq_false_iff_ne]
      simp only [Bool.or_eq_true, bne_iff_ne] at h
      rcases h with h | h
      · exact .inl h
      · exact .inr fun e => by rw [e] at la; omega
    rw [this]
  · simp only [Bool.or_eq_false_iff, bne_eq_false_iff_eq] at h
    obtain ⟨h1, h2⟩ := h
    rw [h1, beq_self_eq_true, Bool.true_and]
    refine upto (N := c.list.length) (J := fun n => c.list.take n.toNat = d.list.take n.toNat) (by omega) (by simp) fun n i0 i1 i2 => ⟨fun hn => ?_, fun hn => ⟨?_, Hp.le_refl _⟩⟩
    · have hn : n < a.n := by simpa using hn
      have gx := getX (d := ((0 : Int), (0 : Int), (0 : Int))) i0 (by omega : n < c.list.length)
      have gy := getX (d := ((0 : Int), (0 : Int), (0 : Int))) i0 (by omega : n < d.list.length)
      refine ha.ldD i0 (by omega) (hb.ldD i0 (by omega) ?_)
      generalize c.list.getD n.toNat (0, 0, 0) = x at gx ⊢
      generalize d.list.getD n.toNat (0, 0, 0) = y at gy ⊢
      refine ⟨fun hne => ⟨?_, Hp.le_refl _⟩, fun he => upto.nx i0 (by omega) (by omega) ?_⟩
      · have : (c.list == d.list) = false := by
          rw [beq_eq_false_iff_ne]; intro e; rw [e, gy] at gx; cases gx; simp at hne
        rw [this]
      · have e : (n + 1).toNat = n.toNat + 1 := by omega
        rw [e]
        refine (take_succ_eq gx gy i2).2 ?_
        simp only [Bool.not_eq_false', Bool.and_eq_true, beq_iff_eq] at he
        obtain ⟨⟨q1, q2⟩, q3⟩ := he
        exact Prod.ext q1 (Prod.ext q2 q3)
    · have hn : n = c.list.length := by
        have : ¬ n < a.n := by simpa using hn
        omega
      subst hn
      have : c.list = d.list := by
        have e2 : d.list.take c.list.length = d.list := by
          have : c.list.length = d.list.length := by omega
          rw [this]; exact List.take_length
        rw [Int.toNat_natCast, List.take_length, e2] at i2
        exact i2
      rw [this, beq_self_eq_true]

/-- A fresh store. -/
structure NewC (H0 H : Hp) (u : Slc) (c : Ct) : Prop where
  le : Hp.le H0 H
  list : Mine 3 fD T.api_Held H0 H u c.list
theorem NewC.rd {H0 H : Hp} {u : Slc} {c : Ct} (h : NewC H0 H u c) : Rd 3 fD H u c.list := h.list.rdD
theorem NewC.zero {H H' : Hp} (h : Hp.le H H') : NewC H H' zs .zero := ⟨h, .inl ⟨rfl, rfl⟩⟩
theorem NewC.up {H H' H'' : Hp} {u : Slc} {c : Ct} (h : NewC H H' u c) (hl : Hp.le H' H'') : NewC H H'' u c := ⟨Hp.le_trans h.le hl, h.list.le hl⟩
theorem NewC.low {H0 H H' : Hp} {u : Slc} {c : Ct} (h : NewC H H' u c) (hl : Hp.le H0 H) : NewC H0 H' u c := ⟨Hp.le_trans hl h.le, h.list.low hl⟩

theorem rTwinC {H : Hp} {u : Slc} {c : Ct} (h : Rd 3 fD H u c.list) (hl : c.list.length ≤ 1000000000) :
    Go.Eng.Fn Try.prog F.pelotonref08_Twin #[.agg #[.int .i64 c.next, u.v]] H fun v H' => ∃ a : Slc, v = .agg #[.int .i64 c.next, a.v] ∧ NewC H H' a c := by
  refine pelotonref08_Twin_vc fun b1 H2 hb1 hH2 => ?_
  exact (copy_ok (k := 3) (f := fD) (bytes := 24) (e := T.api_Held) (by kernel_rfl) (by decide) (fun _ => rfl) (fun x v hv => by simp [fD] at hv; rcases hv with rfl | rfl | rfl <;> rfl) hb1 hH2 h (by omega) (by omega)).mono
    fun v H1 ⟨a, hv, hl, hm⟩ => ⟨a, hv, a, rfl, hl, hm⟩

theorem rGreatC {H : Hp} {u : Slc} {c : Ct} (h : Rd 3 fD H u c.list) :
    Qf Try.prog F.pelotonref08_Great #[.agg #[.int .i64 c.next, u.v]] H (.bool (decide ((40 < c.list.length ∧ c.list.length < 200) ∨ 210 < c.list.length))) := by
  have lu := h.len
  refine pelotonref08_Great_vc ⟨?_, Hp.le_refl _⟩
  congr 1
  rw [Bool.eq_iff_iff]
  simp only [Bool.or_eq_true, Bool.and_eq_true, decide_eq_true_eq]
  omega

theorem rAtC {H : Hp} {u : Slc} {c : Ct} {n : Int} (h : Rd 3 fD H u c.list) (hl : c.list.length ≤ 1000000000) : Qf Try.prog F.pelotonref08_At #[.agg #[.int .i64 c.next, u.v], .int .i64 n] H (.int .i64 (atC c n)) := by
  have lu := h.len
  refine pelotonref08_At_vc (upto (N := c.list.length) (J := fun i => ∀ y ∈ c.list.take i.toNat, (y.1 == n) = false) (by omega) (by simp) fun i i0 i1 i2 => ⟨fun hn => ?_, fun hn => ⟨?_, Hp.le_refl _⟩⟩)
  · have hn : i < c.list.length := by have : i < u.n := by simpa using hn
                                      omega
    have hg := getX (d := ((0 : Int), (0 : Int), (0 : Int))) i0 hn
    have h2 := (h.gD i0 hn).1
    generalize c.list.getD i.toNat (0, 0, 0) = x at hg h2
    refine ⟨h.inS i0 hn, _, h2, fun hb => ⟨?_, Hp.le_refl _⟩, fun hb => upto.nx i0 hn (by omega) ?_⟩
    · unfold atC; rw [idx_hit hg hb i2, Int.toNat_of_nonneg i0]
    · rw [show (i + 1).toNat = i.toNat + 1 by omega, take_succ hg]
      intro y hy
      rcases List.mem_append.1 hy with hy | hy
      · exact i2 y hy
      · simp only [List.mem_singleton] at hy; subst hy; exact hb
  · have : i = c.list.length := by have : ¬ i < u.n := by simpa using hn
                                   omega
    subst this
    rw [Int.toNat_natCast, List.take_length] at i2
    unfold atC; rw [idx_miss i2]

theorem rHasC {H : Hp} {u : Slc} {c : Ct} {x : Int × Int} (h : Rd 3 fD H u c.list) (hl : c.list.length ≤ 1000000000) : Qf Try.prog F.pelotonref08_Has #[.agg #[.int .i64 c.next, u.v], .agg #[.int .i64 x.1, .int .i64 x.2]] H (.bool (hasC c x)) := by
  have lu := h.len
  refine pelotonref08_Has_vc (upto (N := c.list.length) (J := fun i => ∀ y ∈ c.list.take i.toNat, (y.2 == x) = false) (by omega) (by simp) fun i i0 i1 i2 => ⟨fun hn => ?_, fun hn => ⟨?_, Hp.le_refl _⟩⟩)
  · have hn : i < c.list.length := by have : i < u.n := by simpa using hn
                                      omega
    have hg := getX (d := ((0 : Int), (0 : Int), (0 : Int))) i0 hn
    have h2 := h.gD2 i0 hn
    generalize c.list.getD i.toNat (0, 0, 0) = y at hg h2
    refine ⟨h.inS i0 hn, _, _, h2, fun hb => ⟨?_, Hp.le_refl _⟩, fun hb => upto.nx i0 hn (by omega) ?_⟩
    · have : hasC c x = true := List.any_eq_true.2 ⟨y, List.mem_of_getElem? hg, hb⟩
      rw [this]
    · rw [show (i + 1).toNat = i.toNat + 1 by omega, take_succ hg]
      intro z hz
      rcases List.mem_append.1 hz with hz | hz
      · exact i2 z hz
      · simp only [List.mem_singleton] at hz; subst hz; exact hb
  · have : i = c.list.length := by have : ¬ i < u.n := by simpa using hn
                                   omega
    subst this
    rw [Int.toNat_natCast, List.take_length] at i2
    have : hasC c x = false := by
      unfold hasC; rw [List.any_eq_false]; intro y hy; rw [i2 y hy]; simp
    rw [this]

/-- slices.IndexFunc over certificates. -/
theorem indexFunc_held {H : Hp} {s : Slc} {xs : List (Int × Int × Int)} {fv : Value} {p : Int × Int × Int → Bool} (h : Rd 3 fD H s xs) (hl : xs.length ≤ 1000000000)
    (hf : ∀ x, QfV Try.prog fv [.agg #[.int .i64 x.1, .int .i64 x.2.1, .int .i64 x.2.2]] H (.bool (p x))) : Qf Try.prog F.slices_IndexFunc_api_Held_api_Held #[s.v, fv] H (.int .i64 (idx p xs)) := by
  have ls := h.len
  refine slices_IndexFunc_api_Held_api_Held_vc (upto (N := xs.length) (J := fun n => ∀ y ∈ xs.take n.toNat, p y = false) (by omega) (by simp) fun n h0 h1 hJ => ⟨fun hn => ?_, fun hn => ⟨?_, Hp.le_refl _⟩⟩)
  · have hn : n < xs.length := by have : n < s.n := by simpa using hn
                                  omega
    have hg := getX (d := ((0 : Int), (0 : Int), (0 : Int))) h0 hn
    refine h.ldD h0 hn ⟨_, hf (xs.getD n.toNat (0, 0, 0)), ?_⟩
    generalize xs.getD n.toNat (0, 0, 0) = x at hg ⊢
    refine ⟨fun hb => ⟨?_, Hp.le_refl _⟩, fun hb => upto.nx h0 hn (by omega) ?_⟩
    · rw [idx_hit hg hb hJ, Int.toNat_of_nonneg h0]
    · rw [show (n + 1).toNat = n.toNat + 1 by omega, take_succ hg]
      intro y hy
      rcases List.mem_append.1 hy with hy | hy
      · exact hJ y hy
      · simp only [List.mem_singleton] at hy; subst hy; exact hb
  · have : n = xs.length := by have : ¬ n < s.n := by simpa using hn
                               omega
    subst this
    rw [Int.toNat_natCast, List.take_length] at hJ
    rw [idx_miss hJ]

theorem containsFunc_held {H : Hp} {s : Slc} {xs : List (Int × Int × Int)} {fv : Value} {p : Int × Int × Int → Bool} (h : Rd 3 fD H s xs) (hl : xs.length ≤ 1000000000)
    (hf : ∀ x, QfV Try.prog fv [.agg #[.int .i64 x.1, .int .i64 x.2.1, .int .i64 x.2.2]] H (.bool (p x))) : Qf Try.prog F.slices_ContainsFunc_api_Held_api_Held #[s.v, fv] H (.bool (xs.any p)) :=
  slices_ContainsFunc_api_Held_api_Held_vc ⟨_, indexFunc_held h hl hf, by rw [← idx_ge], Hp.le_refl _⟩

theorem certAdd1 {H : Hp} {b : Nat} {x h : Int × Int} {n : Int} {T : TypeId} (hv : H.at ((Addr.mk b 0 none).add 0) = some (.int .i64 x.1) ∧ H.at ((Addr.mk b 0 none).add 1) = some (.int .i64 x.2)) :
    QfV Try.prog (.func (.func F.cert_Add_1) #[] #[.pointer (some ⟨b, 0, none⟩)]) [.agg #[.int .i64 n, .int .i64 h.1, .int .i64 h.2]] H (.bool (h == x)) := by
  refine ⟨F.cert_Add_1, #[], _, rfl, cert_Add_1_callable, ?_⟩
  exact cert_Add_1_vc (p1 := ⟨b, 0, none⟩) ⟨_, _, hv, rfl, Hp.le_refl _⟩

/-- Two cells in a block. -/
theorem pair_at {H H' : Hp} {b : Nat} {x y : Value} {T : TypeId} (h : H' = H.put b (.cells #[x, y] T (0, 0))) : H'.at ((Addr.mk b 0 none).add 0) = some x ∧ H'.at ((Addr.mk b 0 none).add 1) = some y := by
  subst h
  constructor
  · rw [add_zero', Cel.at Cel.put]; rfl
  · rw [Addr.add_lit, Cel.at Cel.put]; rfl

theorem addC_bad {c : Ct} {x : Int × Int} (h : chkC c ≠ 0) : addC c x = (.zero, 0, 8) := by
  unfold addC; rw [if_neg]; intro ⟨h1, _⟩; exact h (chkC_ok h1)

theorem certAdd {H : Hp} {u : Slc} {c : Ct} {x : Int × Int} (h : Rd 3 fD H u c.list) :
    Go.Eng.Fn Try.prog F.cert_Add #[.agg #[.int .i64 c.next, u.v], .agg #[.int .i64 x.1, .int .i64 x.2]] H fun v H' => ∃ a : Slc, v = .tuple #[.agg #[.int .i64 (addC c x).1.next, a.v], .int .i64 (addC c x).2.1, .int .i64 (addC c x).2.2] ∧ NewC H H' a (addC c x).1 := by
  have lu := h.len
  refine cert_Add_vc fun b1 H2 hb1 hH2 => ?_
  have le2 : Hp.le H H2 := Hp.le_new (Hp.le_refl _) hb1 hH2
  refine ⟨_, certCheck (h.le le2), fun hc => ?_, fun hc => ?_⟩
  · have hc : chkC c ≠ 0 := by simpa using hc
    rw [addC_bad hc]
    have h8 : chkC c = 8 := by unfold chkC at *; split at hc <;> simp_all
    rw [h8]; exact ⟨zs, rfl, NewC.zero le2⟩
  have hc : chkC c = 0 := by simpa using hc
  have ok := chkC_zero.1 hc
  have := ok.len
  refine ⟨_, _, pair_at hH2, _, certValid (x := x), fun hv => ?_, fun hv => ?_⟩
  · have hv : validC x = false := by simpa using hv
    have : addC c x = (.zero, 0, 8) := by unfold addC; rw [if_neg (fun hh => by rw [hv] at hh; exact absurd hh.2 (by simp))]
    rw [this]; exact ⟨zs, rfl, NewC.zero le2⟩
  have hv : validC x = true := by simpa using hv
  have e : addC c x = (if hasC c x then (.zero, 0, 14) else if c.list.length = 200 ∨ c.next = 1000000 then (.zero, 0, 18) else (⟨c.next + 1, c.list ++ [(c.next, x)]⟩, c.next, 0)) := by unfold addC; rw [if_pos ⟨ok, hv⟩]
  rw [e]
  refine ⟨_, containsFunc_held (p := fun h => h.2 == x) (h.le le2) (by omega) (fun y => certAdd1 (T := 0) (h := y.2) (pair_at hH2)), fun hb => ?_, fun hb => ?_⟩
  · rw [if_pos (show hasC c x = true from hb)]; exact ⟨zs, rfl, NewC.zero le2⟩
  rw [if_neg (by show ¬ hasC c x = true; unfold hasC; rw [hb]; simp)]
  refine ⟨fun hf => ?_, fun hf => ?_⟩
  · rw [if_pos (by simp at hf; omega)]; exact ⟨zs, rfl, NewC.zero le2⟩
  rw [if_neg (by simp at hf; omega)]
  refine ⟨_, _, pair_at hH2, (clone_held (h.le le2) (by omega)).mono fun v H11 ⟨a, hv, l11, m⟩ => ⟨l11, a, hv, fun b13 H14 hb13 hH14 => ?_⟩⟩
  refine (append1 (k := 3) (f := fD) (bytes := 24) (x := (c.next, x)) (by kernel_rfl) (by decide) (fun _ => rfl) (fun x v hv => by simp [fD] at hv; rcases hv with rfl | rfl | rfl <;> rfl) (Hp.le_trans le2 l11) (m.low le2) hb13 hH14 rfl (by omega) (by omega)).mono fun v H16 ⟨w, hw, l16, mw, _, _⟩ => ?_
  have := ok.n1
  have := ok.n0
  exact ⟨w, hw, by unfold inI; omega, w, rfl, l16, mw⟩

theorem rAddC {H : Hp} {u : Slc} {c : Ct} {x : Int × Int} (h : Rd 3 fD H u c.list) :
    Go.Eng.Fn Try.prog F.pelotonref08_Add #[.agg #[.int .i64 c.next, u.v], .agg #[.int .i64 x.1, .int .i64 x.2]] H fun v H' => ∃ a : Slc, v = .tuple #[.agg #[.int .i64 (addC c x).1.next, a.v], .int .i64 (addC c x).2.1, .int .i64 (addC c x).2.2] ∧ NewC H H' a (addC c x).1 := by
  have lu := h.len
  refine pelotonref08_Add_vc ⟨_, refCheckC h, _, fun _ => refCert (x := x), fun hc => ?_, fun hc => ?_⟩
  · have : addC c x = (.zero, 0, 8) := by
      unfold addC; rw [if_neg]; intro ⟨h1, h2⟩; rw [chkC_ok h1, h2] at hc; simp at hc
    rw [this]; exact ⟨zs, rfl, NewC.zero (Hp.le_refl _)⟩
  simp only [Bool.or_eq_false_iff, bne_eq_false_iff_eq, Bool.not_eq_false'] at hc
  obtain ⟨hc, hv⟩ := hc
  have ok := chkC_zero.1 hc
  have := ok.len
  have e : addC c x = (if hasC c x then (.zero, 0, 14) else if c.list.length = 200 ∨ c.next = 1000000 then (.zero, 0, 18) else (⟨c.next + 1, c.list ++ [(c.next, x)]⟩, c.next, 0)) := by unfold addC; rw [if_pos ⟨ok, hv⟩]
  rw [e]
  refine ⟨_, rHasC (x := x) h (by omega), fun hb => ?_, fun hb => ?_⟩
  · rw [if_pos hb]; exact ⟨zs, rfl, NewC.zero (Hp.le_refl _)⟩
  rw [if_neg (by rw [hb]; simp)]
  refine ⟨fun hf => ?_, fun hf => ?_⟩
  · rw [if_pos (by simp at hf; omega)]; exact ⟨zs, rfl, NewC.zero (Hp.le_refl _)⟩
  rw [if_neg (by simp at hf; omega)]
  refine (rTwinC h (by omega)).mono fun v H5 ⟨a, hv, m⟩ => ⟨_, a, hv, fun b8 H9 hb8 hH9 => ?_⟩
  refine (append1 (k := 3) (f := fD) (bytes := 24) (x := (c.next, x)) (by kernel_rfl) (by decide) (fun _ => rfl) (fun x v hv => by simp [fD] at hv; rcases hv with rfl | rfl | rfl <;> rfl) m.le m.list hb8 hH9 rfl (by omega) (by omega)).mono fun v H16 ⟨w, hw, l16, mw, _, _⟩ => ?_
  have := ok.n1
  have := ok.n0
  exact ⟨w, hw, by unfold inI; omega, w, rfl, l16, mw⟩
end Go.Proofs.Ytmnbekffebdfmaa
