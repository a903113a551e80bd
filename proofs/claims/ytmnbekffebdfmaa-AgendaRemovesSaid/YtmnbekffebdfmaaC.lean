/- Contracts of slot.twin and pelotonref06.Twin, Same. Conditions: none. -/
import Derived.Test.YtmnbekffebdfmaaB
import Derived.Test.YtmnbekffebdfmaaE4
import Derived.Test.YtmnbekffebdfmaaVgSlot
import Derived.Test.YtmnbekffebdfmaaFs
set_option linter.unusedVariables false
open Go Go.Eng Go.Proofs
namespace Go.Proofs.Ytmnbekffebdfmaa

theorem sameBools {H : Hp} {a b : Slc} {xs ys : List Bool} (ha : RdB H a xs) (hb : RdB H b ys) (h63 : xs.length ≤ 1000000000) : Qf Try.prog F.pelotonref06_SameBools #[a.v, b.v] H (.bool (xs == ys)) := by
  have la := ha.len
  have lb := hb.len
  refine pelotonref06_SameBools_vc ⟨fun h => ⟨?_, Hp.le_refl H⟩, fun h => ?_⟩
  · have hl : (a.n : Int) ≠ b.n := by simpa using h
    have : (xs == ys) = false := by
      rw [beq_eq_false_iff_ne]; intro e; subst e; omega
    rw [this]
  · have hl : (a.n : Int) = b.n := by simpa using h
    refine ⟨fun n H4 => H4 = H ∧ 0 ≤ n ∧ n ≤ xs.length ∧ xs.take n.toNat = ys.take n.toNat, fun n _ => xs.length - n.toNat, ⟨rfl, by omega, by omega, by simp⟩, fun n H4 ⟨hH, h0, h1, h2⟩ => ?_⟩
    subst hH
    refine ⟨fun hn => ?_, fun hn => ⟨?_, Hp.le_refl _⟩⟩
    · have hn : n < a.n := by simpa using hn
      have gx := getB (xs := xs) h0 (by omega)
      have gy := getB (xs := ys) h0 (by omega)
      refine ⟨ha.inN h0 hn, _, ha.get h0 (by omega), hb.inN h0 (by omega), _, hb.get h0 (by omega), fun hne => ⟨?_, Hp.le_refl _⟩, fun he => ⟨?_, ⟨rfl, by omega, by omega, ?_⟩, ?_⟩⟩
      · have : (xs == ys) = false := by
          rw [beq_eq_false_iff_ne]; intro e; subst e; simp at hne
        rw [this]
      · unfold inI; omega
      · have e : (n + 1).toNat = n.toNat + 1 := by omega
        rw [e]
        exact (take_succ_eq gx gy h2).2 (by simpa using he)
      · show xs.length - (n + 1).toNat < xs.length - n.toNat; omega
    · have hn : n = xs.length := by
        have : ¬ n < a.n := by simpa using hn
        omega
      subst hn
      have : xs = ys := by
        have e1 : xs.take xs.length = xs := List.take_length
        have e2 : ys.take xs.length = ys := by
          have : xs.length = ys.length := by omega
          rw [this]; exact List.take_length
        rw [Int.toNat_natCast] at h2
        rw [← e1, h2, e2]
      subst this; simp


theorem twin {H : Hp} {u1 u2 u3 : Slc} {t : Tb} (h : RdT H u1 u2 u3 t) (hs : t.small) :
    Go.Eng.Fn Try.prog F.slot_twin #[.agg #[u1.v, u2.v, u3.v]] H fun v H' => ∃ a b : Slc, v = .agg #[a.v, b.v, u3.v] ∧ Hp.le H H' ∧ Mine 1 fI 3 H H' a t.uses ∧ Mine 1 fB 4 H H' b t.used ∧ Sep a b := by
  obtain ⟨s1, s2, s3⟩ := hs
  refine slot_twin_vc ((clone_int h.uses (by omega)).mono fun v H1 ⟨a, hv, hl, hm⟩ => ⟨hl, a, hv, ?_⟩)
  exact (clone_bool (h.used.le hl) (by omega)).mono fun v H2 ⟨b, hv, hl2, hm2⟩ => ⟨hl2, b, hv, a, b, rfl, Hp.le_trans hl hl2, hm.le hl2, hm2.low hl, Sep.of hm.isOld hm2.isNew⟩

theorem rtwin {H : Hp} {u1 u2 u3 : Slc} {t : Tb} (h : RdT H u1 u2 u3 t) (hs : t.small) :
    Go.Eng.Fn Try.prog F.pelotonref06_Twin #[.agg #[u1.v, u2.v, u3.v]] H fun v H' => ∃ a b c : Slc, v = .agg #[a.v, b.v, c.v] ∧ NewT H H' a b c t := by
  obtain ⟨s1, s2, s3⟩ := hs
  refine pelotonref06_Twin_vc fun b1 H2 hb1 hH2 => ?_
  refine (copy_ok (k := 1) (f := fI) (bytes := 8) (e := 3) (by kernel_rfl) (by decide) (fun _ => rfl) (fun x v hv => by simp [fI] at hv; subst hv; rfl) hb1 hH2 h.uses (by omega) (by omega)).mono fun v H1 ⟨a, hv, hl, hm⟩ => ⟨a, hv, fun b2 H3 hb2 hH3 => ?_⟩
  refine (copy_ok (k := 1) (f := fB) (bytes := 1) (e := 4) (by kernel_rfl) (by decide) (fun _ => rfl) (fun x v hv => by simp [fB] at hv; subst hv; rfl) hb2 hH3 (h.used.le hl) (by omega) (by omega)).mono fun v H2' ⟨b, hv, hl2, hm2⟩ => ⟨b, hv, fun b3 H5 hb3 hH5 => ?_⟩
  exact (copy_ok (k := 1) (f := fI) (bytes := 8) (e := 3) (by kernel_rfl) (by decide) (fun _ => rfl) (fun x v hv => by simp [fI] at hv; subst hv; rfl) hb3 hH5 ((h.free.le hl).le hl2) (by omega) (by omega)).mono fun v H3' ⟨c, hv, hl3, hm3⟩ =>
    ⟨c, hv, a, b, c, rfl, Hp.le_trans hl (Hp.le_trans hl2 hl3), (hm.le hl2).le hl3, (hm2.low hl).le hl3, (hm3.low hl2).low hl, Sep.of hm.isOld hm2.isNew, Sep.of (hm.isOld.le hl2) hm3.isNew, Sep.of hm2.isOld hm3.isNew⟩

theorem same {H : Hp} {u1 u2 u3 v1 v2 v3 : Slc} {t s : Tb} (ht : RdT H u1 u2 u3 t) (hs : RdT H v1 v2 v3 s) (hsm : t.small) :
    Qf Try.prog F.pelotonref06_Same #[.agg #[u1.v, u2.v, u3.v], .agg #[v1.v, v2.v, v3.v]] H (.bool (t.uses == s.uses && t.used == s.used && t.free == s.free)) := by
  obtain ⟨s1, s2, s3⟩ := hsm
  exact pelotonref06_Same_vc ⟨_, sameInts ht.uses hs.uses (by omega), _, fun _ => sameBools ht.used hs.used (by omega), _, fun _ => sameInts ht.free hs.free (by omega), rfl, Hp.le_refl H⟩
end Go.Proofs.Ytmnbekffebdfmaa
