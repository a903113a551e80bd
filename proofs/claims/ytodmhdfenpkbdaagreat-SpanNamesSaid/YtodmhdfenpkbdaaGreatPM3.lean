/- The engine, parts M3, M4, put together. Conditions: none. -/
import Derived.Test.YtodmhdfenpkbdaaGreatPM2
import Derived.Test.YtodmhdfenpkbdaaGreatPK2
import Derived.Test.YtodmhdfenpkbdaaGreatVgBase
import Derived.Test.YtodmhdfenpkbdaaGreatVgGaps
import Derived.Test.YtodmhdfenpkbdaaGreatFs
import Derived.Test.YtodmhdfenpkbdaaGreatVgKlist
set_option linter.unusedVariables false
section
/- Points of a list, gaps. Conditions: none. -/
set_option maxRecDepth 100000
open Go Go.Eng Go.Proofs
namespace Go.Proofs.YtodmhdfenpkbdaaGreat

theorem fieldFind {H : Hp} {u : Slc} {f : List Pt} {id : Int} (hf : Rd 3 fD H u f) (of : okF f) (h0 : 0 ≤ posF f id) :
    Qf Tryz.prog F.field_Find #[vFd u, .int .i64 id] H (.tuple #[ptW (gP f (posF f id)), .int .i64 0]) := by
  have hl := of.small
  have hb := bsearch_fd (n := id) hf of.inc (by omega)
  rcases pos_dich of.inc id with ⟨h1, h2⟩ | ⟨h1, h2⟩
  · have e : posF f id = posI (f.map (·.1)) id := h2
    rw [h1, ← e] at hb
    have hp : Qf Tryz.prog F.field_place #[vFd u, .int .i64 id] H (.tuple #[.int .i64 (posF f id), .int .i64 0]) :=
      field_place_vc ⟨_, fieldCheck hf, fun h => by rw [chkF_zero.2 of] at h; simp at h, fun _ => ⟨_, _, field_find_vc ⟨_, _, hb, rfl, Hp.le_refl _⟩, fun h => by simp at h, fun _ => ⟨rfl, Hp.le_refl _⟩⟩⟩
    refine field_Find_vc ⟨_, _, hp, fun h => by simp at h, fun _ => ?_⟩
    exact hf.ldD h0 (posF_lt h0) ⟨rfl, Hp.le_refl _⟩
  · have : posF f id = -1 := h2
    omega

/-- Every ID of a valid list's order is one of the field's. -/
theorem ord_pos {f : List Pt} (of : okF f) {t : Int × Int} {x : Int} (hx : x ∈ ordM f t) : 0 ≤ posF f x := by
  obtain ⟨p, hp, e⟩ := List.mem_map.1 hx
  have hpf : p ∈ f := (sortM_perm t f).mem_iff.1 hp
  by_cases h : posF f x < 0
  · have := idx_out h p hpf
    simp at this
    exact absurd e this
  · omega
theorem okLs.pos {l : Ls} (h : okLs l) {i : Int} (i0 : 0 ≤ i) (i1 : i < l.ord.length) : 0 ≤ posF l.ck.f (l.ord.getD i.toNat 0) :=
  ord_pos h.ck.f (t := l.ck.now) (by rw [← h.ord]; exact List.mem_of_getElem? (getI i0 i1))

end Go.Proofs.YtodmhdfenpkbdaaGreat
end
section
/- The first gap that closes, sums, lists copied and compared. Conditions: none. -/
set_option maxRecDepth 100000
open Go Go.Eng Go.Proofs
namespace Go.Proofs.YtodmhdfenpkbdaaGreat

theorem cmpM_ok {a b : Int × Int} (h1 : okR a) (h2 : okR b) : cmpM a b = (cmpR a b, 0) := if_pos ⟨h1, h2⟩
theorem fit00g : fitR (0, 0) := ⟨by show inI 0; unfold inI; omega, by show inI 0; unfold inI; omega⟩
/-! ### Lists copied, compared -/
def greatL (l : Ls) : Bool := greatK l.ck || decide ((l.ord.length : Int) > 80) || decide ((l.num.length : Int) > 80)
theorem refLGreat {H : Hp} {u : Lu} {l : Ls} (r : RdL H u l) : Qf Tryz.prog F.pelotonref25_Great #[lsV u l] H (.bool (greatL l)) := by
  have a := r.o.len; have b := r.n.len
  refine pelotonref25_Great_vc ⟨_, refKGreat r.k, ?_, Hp.le_refl _⟩
  rw [a, b]; rfl
theorem fitKof {c : Ck} (hn : fitR c.now) (hg : greatK c = false) (hh : ∀ x ∈ c.ag.heap, fitR x.at_) : fitK c := by
  unfold greatK greatF greatG at hg
  simp only [Bool.or_eq_false_iff, decide_eq_false_iff_not] at hg
  obtain ⟨⟨⟨h1, h2⟩, h3⟩, ⟨⟨⟨h4, h5⟩, h6⟩, h7⟩, h8⟩ := hg
  exact ⟨hn, by omega, by omega, ⟨⟨by omega, by omega, by omega⟩, by omega, by omega, hh⟩, by omega⟩
theorem fitL_of {l : Ls} (hn : fitR l.ck.now) (hg : greatL l = false) (hh : ∀ y ∈ l.ck.ag.heap, fitR y.at_) : fitL l := by
  unfold greatL at hg
  simp only [Bool.or_eq_false_iff, decide_eq_false_iff_not] at hg
  exact ⟨fitKof hn hg.1.1 hh, by omega, by omega⟩
end Go.Proofs.YtodmhdfenpkbdaaGreat
end
