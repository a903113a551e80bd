/- The laws CertBack, CertOne. Conditions: none. -/
import Derived.Test.YtmnbekffebdfmaaC7
import Derived.Test.YtmnbekffebdfmaaVgLCertBack
import Derived.Test.YtmnbekffebdfmaaVgLCertOne
import Derived.Test.YtmnbekffebdfmaaFs
set_option linter.unusedVariables false
set_option maxRecDepth 100000
open Go Go.Eng Go.Proofs
namespace Go.Proofs.Ytmnbekffebdfmaa

theorem okL.up {nx : Int} {l : List (Int × Int × Int)} (h : okL nx l) : okL (nx + 1) l := ⟨fun x hx => by have := h.each x hx; exact ⟨this.1, this.2.1, by omega⟩, h.inc, h.dist⟩

theorem okC_add {c : Ct} {x : Int × Int} (ok : okC c) (hx : validC x = true) (hh : hasC c x = false) (h1 : c.list.length < 200) (h2 : c.next < 1000000) : okC ⟨c.next + 1, c.list ++ [(c.next, x)]⟩ := by
  have := ok.n0
  refine ⟨by simp; omega, by show 0 ≤ c.next + 1; omega, by show c.next + 1 ≤ 1000000; omega, okL.snoc.2 ⟨okL.up ok.ok, hx, this, by show c.next < c.next + 1; omega, fun y hy => (ok.ok.each y hy).2.2, fun hm => ?_⟩⟩
  obtain ⟨y, hy, e⟩ := List.mem_map.1 hm
  have : hasC c x = true := List.any_eq_true.2 ⟨y, hy, by rw [beq_iff_eq]; exact e⟩
  rw [hh] at this; cases this

theorem okC_without {c : Ct} (ok : okC c) (n : Int) : okC (withoutC c n) := by
  have hs : (withoutC c n).list.Sublist c.list := List.filter_sublist
  have := hs.length_le
  have := ok.len
  exact ⟨by omega, ok.n0, ok.n1, fun x hx => ok.ok.each x (hs.subset hx), ok.ok.inc.sublist hs, ok.ok.dist.sublist (hs.map _)⟩

theorem without_len {c : Ct} {n : Int} (h : (getC c n).2 = 0) : ((withoutC c n).list.length : Int) = c.list.length - 1 := by
  obtain ⟨ok, g0, g1, gn, ge⟩ := getC_ok h
  have hg := getX (d := ((0 : Int), (0 : Int), (0 : Int))) g0 g1
  have hw := filter_erase ok.ok.inc hg
  have e : (withoutC c n).list = c.list.take (atC c n).toNat ++ c.list.drop ((atC c n).toNat + 1) := by
    rw [hw]
    unfold withoutC
    simp only
    congr 1
    funext y
    have : (c.list.getD (atC c n).toNat (0, 0, 0)).1 = n := gn
    rw [this]
  rw [e]; simp; omega

theorem getC_none {c : Ct} (ok : okC c) {n : Int} (h : ∀ y ∈ c.list, y.1 ≠ n) : getC c n = ((0, 0), 6) := by
  have : atC c n = -1 := idx_miss fun y hy => by rw [beq_eq_false_iff_ne]; exact h y hy
  unfold getC; rw [if_pos ok, this]; rfl

/-- What follows from a certificate's being added. -/
theorem addC_facts {c : Ct} {x : Int × Int} (h : (addC c x).2.2 = 0) : okC c ∧ validC x = true ∧ hasC c x = false ∧ c.list.length < 200 ∧ c.next < 1000000 ∧ addC c x = (⟨c.next + 1, c.list ++ [(c.next, x)]⟩, c.next, 0) := by
  unfold addC at *
  split at h
  · rename_i h1
    rw [if_pos h1]
    split at h
    · cases h
    · rename_i h2
      rw [if_neg h2]
      split at h
      · cases h
      · rename_i h3
        rw [if_neg h3]
        have := h1.1.len; have := h1.1.n1
        exact ⟨h1.1, h1.2, by simpa using h2, by omega, by omega, rfl⟩
  · cases h

theorem certBack {H : Hp} {u : Slc} {c : Ct} {x : Int × Int} {n : Int} (h : Rd 3 fD H u c.list) :
    Qf Try.prog F.pelotonlaw08_CertBack #[.agg #[.int .i64 c.next, u.v], .agg #[.int .i64 x.1, .int .i64 x.2], .int .i64 n] H (.bool true) := by
  have lu := h.len
  refine pelotonlaw08_CertBack_vc ⟨_, law8fit h, fun _ => ⟨_, law8alive, rfl, Hp.le_refl _⟩, fun hf => ?_⟩
  simp only [Bool.not_eq_false', Bool.and_eq_true, beq_iff_eq] at hf
  have ok := chkC_zero.1 hf.2
  have := ok.len; have := ok.n0; have := ok.n1
  refine (certRemove (n := n) h).mono fun v H4 ⟨d, hv, m4⟩ => ⟨_, d, _, _, _, hv, _, _, _, certGet (n := n) (h.le m4.le), ?_⟩
  have h4 := h.le m4.le
  have rd := m4.rd
  have ld := rd.len
  have er : (removeC c n).2.2 = (getC c n).2 := by
    unfold removeC; split
    · rename_i e; rw [e]
    · rfl
  have hrl := removeC_len c n
  refine ⟨fun _ => by unfold inI; omega, (removeC c n).1.list == c.list.filter (fun h => h.1 != n), fun _ => law8part (a := (removeC c n).1) (b := c) rd h4 (by omega) (by omega), validC (removeC c n).2.1, fun _ => refCert, fun hb => ?_, fun _ => ?_⟩
  · exfalso
    rw [er] at hb
    simp only [bne_self_eq_false, Bool.false_or, Bool.and_eq_true, beq_iff_eq] at hb
    obtain ⟨h0, hb⟩ := hb
    have e1 : removeC c n = (withoutC c n, (getC c n).1, 0) := by unfold removeC; rw [if_pos h0]
    have wl := without_len h0
    obtain ⟨_, g0, g1, gn, ge⟩ := getC_ok h0
    have hg := getX (d := ((0 : Int), (0 : Int), (0 : Int))) g0 g1
    have hval : validC (getC c n).1 = true := by rw [ge]; exact (ok.ok.each _ (List.mem_of_getElem? hg)).1
    rw [e1] at hb ld
    have hld : (d.n : Int) = c.list.length - 1 := by rw [ld]; exact wl
    have e2 : ((withoutC c n).list == c.list.filter fun h => h.1 != n) = true := by rw [beq_iff_eq]; rfl
    rw [hval, e2, hld] at hb
    simp [withoutC] at hb
    omega
  · refine (certAdd (x := x) h4).mono fun v H16 ⟨a, hv, m16⟩ => ⟨_, a, _, _, hv, fun hg => ?_, fun hg => ?_⟩
    · have lall := Hp.le_trans m4.le m16.le
      refine ⟨_, fun _ => refCert (x := x), _, fun _ => rHasC (x := x) (h.le lall) (by omega), true, fun _ => law8alive, ?_, lall⟩
      congr 1
      have hg : (addC c x).2.2 ≠ 0 := by simpa using hg
      rw [Bool.and_true]
      unfold addC at hg ⊢
      by_cases h1 : validC x = true
      · rw [if_pos ⟨ok, h1⟩] at hg ⊢
        by_cases h2 : hasC c x = true
        · rw [if_pos h2, h1, h2]; rfl
        · rw [if_neg h2] at hg ⊢
          by_cases h3 : c.list.length = 200 ∨ c.next = 1000000
          · rw [if_pos h3]
            have : ((u.n : Int) == 200 || c.next == 1000000) = true := by
              rw [Bool.or_eq_true, beq_iff_eq, beq_iff_eq]; omega
            rw [this]; simp
          · rw [if_neg h3] at hg; exact absurd rfl hg
      · rw [if_neg (fun hh => h1 hh.2), Bool.not_eq_true] at *
        rename_i h1
        rw [h1]; rfl
    · have hg : (addC c x).2.2 = 0 := by simpa using hg
      obtain ⟨_, hvx, hhx, hl, hnx, ea⟩ := addC_facts hg
      rw [ea] at m16 ⊢
      have ok2 : okC ⟨c.next + 1, c.list ++ [(c.next, x)]⟩ := okC_add ok hvx hhx hl hnx
      have hat : (c.list ++ [(c.next, x)])[c.list.length]? = some (c.next, x) := by simp
      obtain ⟨ha1, ha2⟩ := getC_at (c := ⟨c.next + 1, c.list ++ [(c.next, x)]⟩) ok2 hat
      have ha2 : getC ⟨c.next + 1, c.list ++ [(c.next, x)]⟩ c.next = (x, 0) := ha2
      have hrem : removeC ⟨c.next + 1, c.list ++ [(c.next, x)]⟩ c.next = (withoutC ⟨c.next + 1, c.list ++ [(c.next, x)]⟩ c.next, x, 0) := by
        unfold removeC; rw [if_pos (by rw [ha2]), ha2]
      have hfil : (c.list ++ [(c.next, x)]).filter (fun h => h.1 != c.next) = c.list := by
        rw [List.filter_append, List.filter_eq_self.2 (fun y hy => ?_)]
        · simp
        · have := (ok.ok.each y hy).2.2; simp; omega
      have hwo : withoutC ⟨c.next + 1, c.list ++ [(c.next, x)]⟩ c.next = ⟨c.next + 1, c.list⟩ := by
        unfold withoutC; simp only; rw [hfil]
      rw [hwo] at hrem
      have ok3 : okC ⟨c.next + 1, c.list⟩ := by rw [← hwo]; exact okC_without ok2 _
      have hgn : getC ⟨c.next + 1, c.list⟩ c.next = ((0, 0), 6) := getC_none ok3 fun y hy => by have := (ok.ok.each y hy).2.2; omega
      have ra := m16.rd
      have la : a.n = c.list.length + 1 := by rw [ra.len]; simp
      have kg := certGet (n := c.next) ra
      rw [ha2] at kg
      have kr := certRemove (n := c.next) ra
      rw [hrem] at kr
      refine ⟨_, _, _, kg, kr.mono fun v H28 ⟨b, hv, m28⟩ => ⟨_, b, _, _, _, hv, ?_⟩⟩
      have rb := m28.rd
      have lb : b.n = c.list.length := rb.len
      have kn := certGet (n := c.next) rb
      rw [hgn] at kn
      have lall := Hp.le_trans m4.le (Hp.le_trans m16.le m28.le)
      have hp1 := law8part (a := c) (b := ⟨c.next + 1, c.list ++ [(c.next, x)]⟩) (n := c.next) (h.le lall) (ra.le m28.le) (by omega) (by simp; omega)
      have hp2 := law8part (a := ⟨c.next + 1, c.list⟩) (b := ⟨c.next + 1, c.list ++ [(c.next, x)]⟩) (n := c.next) rb (ra.le m28.le) (by show c.list.length ≤ _; omega) (by simp; omega)
      simp only [hfil, beq_self_eq_true] at hp1 hp2
      refine ⟨_, _, _, kn, fun _ => (show inI (c.next + 1) by unfold inI; omega), _, fun _ => hp1, fun _ => by unfold inI; omega, _, fun _ => hp2, true, fun _ => law8alive, ?_, lall⟩
      congr 1
      have e1 : ((a.n : Int) == u.n + 1) = true := by rw [beq_iff_eq]; omega
      have e2 : ((b.n : Int) == u.n) = true := by rw [beq_iff_eq]; omega
      rw [e1, e2]
      simp

theorem farV_swap (p q : Pt) (t : Int × Int) : farV q p t = - farV p q t := by
  unfold farV
  have e1 : (q.2.1 - p.2.1) * t.2 = -((p.2.1 - q.2.1) * t.2) := by rw [← Int.neg_mul]; congr 1; omega
  have e2 : (q.2.2 - p.2.2) * t.1 = -((p.2.2 - q.2.2) * t.1) := by rw [← Int.neg_mul]; congr 1; omega
  rw [e1, e2]; omega
theorem leads_swap {p q : Pt} (t : Int × Int) (h : p.1 ≠ q.1) : leads q p t = !leads p q t := by
  unfold leads
  rw [farV_swap p q t]
  by_cases h1 : farV p q t = 0
  · rw [if_neg (show ¬ (-farV p q t ≠ 0) by omega), if_neg (show ¬ (farV p q t ≠ 0) by omega)]
    by_cases h2 : p.2.2 = q.2.2
    · rw [if_neg (show ¬ (q.2.2 ≠ p.2.2) by omega), if_neg (show ¬ (p.2.2 ≠ q.2.2) by omega), Bool.eq_iff_iff, Bool.not_eq_true', decide_eq_true_eq, decide_eq_false_iff_not]; omega
    · rw [if_pos (show q.2.2 ≠ p.2.2 by omega), if_pos (show p.2.2 ≠ q.2.2 by omega), Bool.eq_iff_iff, Bool.not_eq_true', decide_eq_true_eq, decide_eq_false_iff_not]; omega
  · rw [if_pos (show -farV p q t ≠ 0 by omega), if_pos h1, Bool.eq_iff_iff, Bool.not_eq_true', decide_eq_true_eq, decide_eq_false_iff_not]; omega

theorem certOne {H : Hp} {w : Slc} {f : List Pt} {t : Int × Int} {lo hi : Int} (hf : Rd 3 fD H w f) (hlf : f.length ≤ 9223372036854775807) (ht : fitR t) :
    Qf Try.prog F.pelotonlaw08_CertOne #[.agg #[w.v], .agg #[.int .i64 t.1, .int .i64 t.2], .int .i64 lo, .int .i64 hi] H (.bool true) := by
  refine pelotonlaw08_CertOne_vc ⟨_, refFGreat hf, timedF f t, fun _ => refTimed hf ht, posF f lo, fun hc => ?_, posF f hi, fun hc => ?_, fun _ => ⟨_, law8alive, rfl, Hp.le_refl _⟩, fun hc => ?_⟩
  · simp only [Bool.not_eq_true', Bool.or_eq_false_iff, decide_eq_false_iff_not] at hc
    exact refFAt hf (by omega)
  · simp only [Bool.not_eq_true', Bool.or_eq_false_iff, decide_eq_false_iff_not] at hc
    exact refFAt hf (by omega)
  simp only [Bool.or_eq_false_iff, decide_eq_false_iff_not, bne_eq_false_iff_eq, beq_eq_false_iff_ne] at hc
  obtain ⟨⟨⟨⟨_, hc⟩, hne⟩, h1⟩, h2⟩ := hc
  obtain ⟨of, ot⟩ := timedF_zero.1 hc
  have := of.len
  obtain ⟨a1, a2, a3⟩ := posF_range (f := f) (id := lo) (by omega)
  obtain ⟨b1, b2, b3⟩ := posF_range (f := f) (id := hi) (by omega)
  have okl := of.each _ (List.mem_of_getElem? a2)
  have okh := of.each _ (List.mem_of_getElem? b2)
  have l0 := okl.i0; have l1 := okl.i1; have h0 := okh.i0; have h1' := okh.i1
  have vx : validC (lo, hi) = true := by unfold validC; simp only [Bool.and_eq_true, decide_eq_true_eq, bne_iff_ne]; omega
  have vy : validC (hi, lo) = true := by unfold validC; simp only [Bool.and_eq_true, decide_eq_true_eq, bne_iff_ne]; omega
  have e1 : addC .zero (lo, hi) = (⟨1, [(0, lo, hi)]⟩, 0, 0) := by
    unfold addC
    rw [if_pos ⟨⟨by simp [Ct.zero], by simp [Ct.zero], by simp [Ct.zero], okL.nil _⟩, vx⟩, if_neg (by simp [hasC, Ct.zero]), if_neg (by simp [Ct.zero])]; rfl
  have ok1 : okC ⟨1, [(0, lo, hi)]⟩ := okC_add (c := .zero) ⟨by simp [Ct.zero], by simp [Ct.zero], by simp [Ct.zero], okL.nil _⟩ vx (by simp [hasC, Ct.zero]) (by simp [Ct.zero]) (by simp [Ct.zero])
  have hh : hasC ⟨1, [(0, lo, hi)]⟩ (hi, lo) = false := by
    simp [hasC]; intro e; omega
  have e2 : addC ⟨1, [(0, lo, hi)]⟩ (hi, lo) = (⟨2, [(0, lo, hi), (1, hi, lo)]⟩, 1, 0) := by
    unfold addC
    rw [if_pos ⟨ok1, vy⟩, if_neg (by rw [hh]; simp), if_neg (by simp)]; rfl
  have ok2 : okC ⟨2, [(0, lo, hi), (1, hi, lo)]⟩ := okC_add (c := ⟨1, [(0, lo, hi)]⟩) ok1 vy hh (by simp) (by simp)
  have hsw : leads (gP f (posF f lo)) (gP f (posF f hi)) t = !leads (gP f (posF f hi)) (gP f (posF f lo)) t := leads_swap t (by rw [a3, b3]; omega)
  have e3 : holdsC ⟨2, [(0, lo, hi), (1, hi, lo)]⟩ f t = (if leads (gP f (posF f hi)) (gP f (posF f lo)) t = true then [0] else [1], 0) := by
    have hk : knownC ⟨2, [(0, lo, hi), (1, hi, lo)]⟩ f = true := by unfold knownC; simp; omega
    unfold holdsC
    rw [if_pos ok2, if_pos hc, if_pos hk]
    congr 1
    unfold thoseC trueC
    simp only [List.filter_cons, List.filter_nil, hsw]
    cases leads (gP f (posF f hi)) (gP f (posF f lo)) t <;> rfl
  refine (certNew.mono fun v H7 ⟨hv, l7⟩ => ⟨0, zs, hv, ?_⟩)
  have k1 := certAdd (H := H7) (u := zs) (c := .zero) (x := (lo, hi)) Rd.nil
  rw [e1] at k1
  refine k1.mono fun v H11 ⟨u1, hv, n1⟩ => ⟨_, u1, _, _, hv, ?_⟩
  have k2 := certAdd (x := (hi, lo)) n1.rd
  rw [e2] at k2
  refine k2.mono fun v H17 ⟨u2, hv, n2⟩ => ⟨_, u2, _, _, hv, ?_⟩
  have lall := Hp.le_trans l7 (Hp.le_trans n1.le n2.le)
  have k3 := certHolds (t := t) n2.rd (hf.le lall) ht
  rw [e3] at k3
  refine k3.mono fun v H23 ⟨u3, hv, l3, m3⟩ => ⟨u3, _, hv, ?_⟩
  have rl := m3.rdI
  have hl23 := hf.le (Hp.le_trans lall l3)
  have kA := courseAhead (H := H23) (p := gP f (posF f hi)) (q := gP f (posF f lo)) ht
  have tw : twoM (gP f (posF f hi)) (gP f (posF f lo)) t = 0 := twoM_zero.2 ⟨okh, okl, ot, by rw [a3, b3]; omega⟩
  have eA : aheadM (gP f (posF f hi)) (gP f (posF f lo)) t = (leads (gP f (posF f hi)) (gP f (posF f lo)) t, 0) := by unfold aheadM; rw [if_pos tw]
  rw [eA] at kA
  have fin : ∀ (z : Int), ((if leads (gP f (posF f hi)) (gP f (posF f lo)) t = true then [(0 : Int)] else [1]) = [z]) → (leads (gP f (posF f hi)) (gP f (posF f lo)) t = (z == 0)) → (z = 0 ∨ z = 1) →
      ((!((0 : Int) != 0 || (0 : Int) != 0 || (0 : Int) != 0 || (u3.n : Int) != 1)) = true → inSl u3.a u3.n 0) ∧ (H23.at (eaddr u3.a 1 0) = some (.int .i64 z)) ∧ (u3.n : Int) = 1 := fun z hz _ _ => by
    rw [hz] at rl
    have lr := rl.len
    exact ⟨fun _ => rl.inS (by omega) (by simp), rl.gI (by omega) (by simp), by simpa using congrArg (fun n : Nat => (n : Int)) lr⟩
  obtain ⟨z, hz, hlz, hz01⟩ : ∃ z : Int, ((if leads (gP f (posF f hi)) (gP f (posF f lo)) t = true then [(0 : Int)] else [1]) = [z]) ∧ (leads (gP f (posF f hi)) (gP f (posF f lo)) t = (z == 0)) ∧ (z = 0 ∨ z = 1) := by
    cases leads (gP f (posF f hi)) (gP f (posF f lo)) t
    · exact ⟨1, rfl, rfl, .inr rfl⟩
    · exact ⟨0, rfl, rfl, .inl rfl⟩
  obtain ⟨f1, f2, f3⟩ := fin z hz hlz hz01
  have fI : inSl u3.a u3.n 0 := f1 (by rw [f3]; rfl)
  refine ⟨fun _ => fI, z, fun _ => f2, fun _ => fI, z, fun _ => f2, fun hb => ?_, fun _ => ?_⟩
  · exfalso
    rw [f3] at hb
    simp at hb
    omega
  · refine ⟨_, refFAt hl23 (by omega), hl23.inS (by omega) b1, _, _, _, hl23.gD (by omega) b1, _, refFAt hl23 (by omega), hl23.inS (by omega) a1, _, _, _, hl23.gD (by omega) a1, _, _, kA, fun _ => fI, z, fun _ => f2, true, fun _ => law8alive, ?_, Hp.le_trans lall l3⟩
    congr 1
    rw [hlz]
    rcases hz01 with rfl | rfl <;> rfl
end Go.Proofs.Ytmnbekffebdfmaa
