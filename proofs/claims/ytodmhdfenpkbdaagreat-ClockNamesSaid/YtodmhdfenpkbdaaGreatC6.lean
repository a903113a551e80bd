/- Contracts of cert.Holds and its reference; the law CertTrue. Conditions: none. -/
import Derived.Test.YtodmhdfenpkbdaaGreatC5
import Derived.Test.YtodmhdfenpkbdaaGreatP4
import Derived.Test.YtodmhdfenpkbdaaGreatVgCert
import Derived.Test.YtodmhdfenpkbdaaGreatFs
set_option linter.unusedVariables false
set_option maxRecDepth 100000
open Go Go.Eng Go.Proofs
namespace Go.Proofs.YtodmhdfenpkbdaaGreat

def knownC (c : Ct) (f : List Pt) : Bool := c.list.all fun h => !(decide (posF f h.2.1 < 0)) && !(decide (posF f h.2.2 < 0))
theorem posF_range {f : List Pt} {id : Int} (h : 0 ≤ posF f id) : posF f id < f.length ∧ f[(posF f id).toNat]? = some (gP f (posF f id)) ∧ (gP f (posF f id)).1 = id := by
  unfold posF at *
  unfold idx at *
  split at h
  · rename_i ha
    rw [if_pos ha]
    have hl : f.findIdx (fun p => p.1 == id) < f.length := by rw [List.findIdx_lt_length]; simpa using ha
    refine ⟨by omega, getX (by omega) (by omega), ?_⟩
    have := List.findIdx_getElem (xs := f) (p := fun p : Pt => p.1 == id) (w := hl)
    unfold gP
    rw [Int.toNat_natCast, List.getD_eq_getElem?_getD, List.getElem?_eq_getElem hl]
    simpa using this
  · omega

theorem refKnown {H : Hp} {u w : Slc} {c : Ct} {f : List Pt} (h : Rd 3 fD H u c.list) (hf : Rd 3 fD H w f) (hl : c.list.length ≤ 1000000000) (hlf : f.length ≤ 1000000000) :
    Qf Tryz.prog F.pelotonref08_Known #[.agg #[.int .i64 c.next, u.v], .agg #[w.v]] H (.bool (knownC c f)) := by
  have lu := h.len
  refine pelotonref08_Known_vc (upto (N := c.list.length) (J := fun i => ∀ y ∈ c.list.take i.toNat, (!(decide (posF f y.2.1 < 0)) && !(decide (posF f y.2.2 < 0))) = true) (by omega) (by simp) fun i i0 i1 i2 => ⟨fun hn => ?_, fun hn => ⟨?_, Hp.le_refl _⟩⟩)
  · have hn : i < c.list.length := by have : i < u.n := by simpa using hn
                                      omega
    have hg := getX (d := ((0 : Int), (0 : Int), (0 : Int))) i0 hn
    have h2 := h.gD2 i0 hn
    generalize c.list.getD i.toNat (0, 0, 0) = x at hg h2
    refine ⟨h.inS i0 hn, _, by rw [add_zero']; exact h2.1, _, refFAt hf hlf, fun _ => h.inS i0 hn, _, fun _ => by rw [add_zero']; exact h2.2, _, fun _ => refFAt hf hlf, fun hb => ⟨?_, Hp.le_refl _⟩, fun hb => upto.nx i0 hn (by omega) ?_⟩
    · have : knownC c f = false := by
        unfold knownC
        rw [List.all_eq_false]
        refine ⟨x, List.mem_of_getElem? hg, ?_⟩
        simp at hb ⊢
        intro h1
        rcases hb with hb | hb <;> omega
      rw [this]
    · rw [show (i + 1).toNat = i.toNat + 1 by omega, take_succ hg]
      intro y hy
      rcases List.mem_append.1 hy with hy | hy
      · exact i2 y hy
      · simp only [List.mem_singleton] at hy; subst hy
        simp at hb ⊢; exact hb
  · have : i = c.list.length := by have : ¬ i < u.n := by simpa using hn
                                   omega
    subst this
    rw [Int.toNat_natCast, List.take_length] at i2
    have : knownC c f = true := List.all_eq_true.2 i2
    rw [this]

theorem knownC_at {c : Ct} {f : List Pt} (h : knownC c f = true) {x : Int × Int × Int} (hx : x ∈ c.list) : 0 ≤ posF f x.2.1 ∧ 0 ≤ posF f x.2.2 := by
  have := List.all_eq_true.1 h x hx
  simp at this; exact this

end Go.Proofs.YtodmhdfenpkbdaaGreat
