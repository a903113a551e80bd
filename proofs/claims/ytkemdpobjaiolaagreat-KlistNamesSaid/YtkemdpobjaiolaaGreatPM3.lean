/- The engine, parts M3, M4, put together. Conditions: none. -/
import Derived.Test.YtkemdpobjaiolaaGreatPM2
import Derived.Test.YtkemdpobjaiolaaGreatPK2
import Derived.Test.YtkemdpobjaiolaaGreatVgBase
import Derived.Test.YtkemdpobjaiolaaGreatVgGaps
import Derived.Test.YtkemdpobjaiolaaGreatFs
import Derived.Test.YtkemdpobjaiolaaGreatVgKlist
set_option linter.unusedVariables false
section
/- Points of a list, gaps. Conditions: none. -/
set_option maxRecDepth 100000
open Go Go.Eng Go.Proofs
namespace Go.Proofs.YtkemdpobjaiolaaGreat

/-- Every ID of a valid list's order is one of the field's. -/
theorem ord_pos {f : List Pt} (of : okF f) {t : Int × Int} {x : Int} (hx : x ∈ ordM f t) : 0 ≤ posF f x := by
  obtain ⟨p, hp, e⟩ := List.mem_map.1 hx
  have hpf : p ∈ f := (sortM_perm t f).mem_iff.1 hp
  by_cases h : posF f x < 0
  · have := idx_out h p hpf
    simp at this
    exact absurd e this
  · omega
theorem okLs.pos {l : Ls} (h : okLs l) {i : Int} (i0 : 0 ≤ i) (i1 : i < l.ord.length) : 0 ≤ posF l.ck.f (l.ord.getD i.toNat 0) :=
  ord_pos h.ck.f (t := l.ck.now) (by rw [← h.ord]; exact List.mem_of_getElem? (getI i0 i1))

end Go.Proofs.YtkemdpobjaiolaaGreat
end
section
/- The first gap that closes, sums, lists copied and compared. Conditions: none. -/
set_option maxRecDepth 100000
open Go Go.Eng Go.Proofs
namespace Go.Proofs.YtkemdpobjaiolaaGreat

theorem fit00g : fitR (0, 0) := ⟨by show inI 0; unfold inI; omega, by show inI 0; unfold inI; omega⟩
/-! ### Lists copied, compared -/
def greatL (l : Ls) : Bool := greatK l.ck || decide ((l.ord.length : Int) > 80) || decide ((l.num.length : Int) > 80)
theorem refLSame {H : Hp} {u w : Lu} {l : Ls} (r : RdL H u l) (s : RdL H w l) (fl : fitL l) : Qf Tryz.prog F.pelotonref25_Same #[lsV u l, lsV w l] H (.bool true) := by
  have f1 := fl.o; have f2 := fl.n
  refine pelotonref25_Same_vc ⟨_, refKSame r.k s.k fl.k, _, fun _ => sameIDs r.o s.o (by omega), _, fun _ => sameIDs r.n s.n (by omega), ?_, Hp.le_refl _⟩
  simp
theorem fitKof {c : Ck} (hn : fitR c.now) (hg : greatK c = false) (hh : ∀ x ∈ c.ag.heap, fitR x.at_) : fitK c := by
  unfold greatK greatF greatG at hg
  simp only [Bool.or_eq_false_iff, decide_eq_false_iff_not] at hg
  obtain ⟨⟨⟨h1, h2⟩, h3⟩, ⟨⟨⟨h4, h5⟩, h6⟩, h7⟩, h8⟩ := hg
  exact ⟨hn, by omega, by omega, ⟨⟨by omega, by omega, by omega⟩, by omega, by omega, hh⟩, by omega⟩
theorem fitL_of {l : Ls} (hn : fitR l.ck.now) (hg : greatL l = false) (hh : ∀ y ∈ l.ck.ag.heap, fitR y.at_) : fitL l := by
  unfold greatL at hg
  simp only [Bool.or_eq_false_iff, decide_eq_false_iff_not] at hg
  exact ⟨fitKof hn hg.1.1 hh, by omega, by omega⟩
end Go.Proofs.YtkemdpobjaiolaaGreat
end
