/- The law CertKeeps. Conditions: none. -/
import Derived.Test.YtmnbekffebdfmaaC4
import Derived.Test.YtmnbekffebdfmaaVgLCertKeeps
import Derived.Test.YtmnbekffebdfmaaFs
set_option linter.unusedVariables false
set_option maxRecDepth 100000
open Go Go.Eng Go.Proofs
namespace Go.Proofs.Ytmnbekffebdfmaa
/-- The law CertKeeps. -/
theorem certKeeps {H : Hp} {u : Slc} {c : Ct} {x : Int × Int} {n id : Int} (h : Rd 3 fD H u c.list) :
    Qf Try.prog F.pelotonlaw08_CertKeeps #[.agg #[.int .i64 c.next, u.v], .agg #[.int .i64 x.1, .int .i64 x.2], .int .i64 n, .int .i64 id] H (.bool true) := by
  refine pelotonlaw08_CertKeeps_vc ⟨_, rGreatC h, fun _ => ⟨rfl, Hp.le_refl _⟩, fun hg => ?_⟩
  have hlen : c.list.length ≤ 210 := by
    simp only [decide_eq_false_iff_not] at hg; omega
  refine (rTwinC h (by omega)).mono fun v H3 ⟨a, hv, m3⟩ => ⟨_, a, hv, ?_⟩
  have ra := m3.rd
  refine (certAdd ra).mono fun v H7 ⟨b, hv, mb⟩ => ⟨_, b, _, _, hv, ?_⟩
  refine (rAddC ((h.le m3.le).le mb.le)).mono fun v H13 ⟨d, hv, md⟩ => ⟨_, d, _, _, hv, ?_⟩
  have l13 : Hp.le H3 H13 := Hp.le_trans mb.le md.le
  refine (certRemove (n := n) (ra.le l13)).mono fun v H19 ⟨e, hv, me⟩ => ⟨_, e, _, _, _, hv, ?_⟩
  refine (rRemoveC (n := n) (((h.le m3.le).le l13).le me.le)).mono fun v H26 ⟨f, hv, mf⟩ => ⟨_, f, _, _, _, hv, ?_⟩
  have l26 : Hp.le H13 H26 := Hp.le_trans me.le mf.le
  have ra26 := (ra.le l13).le l26
  have h26 := ((h.le m3.le).le l13).le l26
  refine ⟨_, _, _, certGet (n := n) ra26, _, _, _, rGetC (n := n) h26, (certOf (id := id) ra26).mono fun v H39 ⟨g, hv, l39, mg⟩ => ⟨g, _, hv, (rOfC (id := id) (h26.le l39)).mono fun v H43 ⟨k, hv, l43, mk⟩ => ⟨k, _, hv, ?_⟩⟩⟩
  have l43' := Hp.le_trans l39 l43
  have ra43 := ra26.le l43'
  have h43 := h26.le l43'
  have hz : Qf Try.prog F.pelotonref08_Same #[.agg #[.int .i64 0, zs.v], .agg #[.int .i64 0, .slice none 0 0]] H43 (.bool true) := rSameC (a := zs) (b := zs) (c := .zero) (d := .zero) Rd.nil Rd.nil (by simp [Ct.zero])
  refine ⟨_, certCheck ra43, _, refCheckC h43, _, fun _ => rSameC ra43 h43 (by omega), 0, zs, fun _ => certNew, _, fun _ => hz, fun hb => ?_, fun _ => ?_⟩
  · rw [beq_self_eq_true] at hb; simp at hb
  have lall : Hp.le H H43 := Hp.le_trans m3.le (Hp.le_trans l13 (Hp.le_trans l26 l43'))
  -- the results, at the end, standing apart from the copy
  have la := ra43.len
  have mb43 : Mine 3 fD T.api_Held H3 H43 b (addC c x).1.list := mb.list.le (Hp.le_trans md.le (Hp.le_trans l26 l43'))
  have md43 : Mine 3 fD T.api_Held H3 H43 d (addC c x).1.list := (md.list.low mb.le).le (Hp.le_trans l26 l43')
  have me43 : Mine 3 fD T.api_Held H3 H43 e (removeC c n).1.list := (me.list.low l13).le (Hp.le_trans mf.le l43')
  have mf43 : Mine 3 fD T.api_Held H3 H43 f (removeC c n).1.list := (mf.list.low (Hp.le_trans l13 me.le)).le l43'
  have mg43 : Mine 1 fI T.int H3 H43 g (ofC c id).1 := (mg.low (Hp.le_trans l13 l26)).le l43
  have mk43 : Mine 1 fI T.int H3 H43 k (ofC c id).1 := mk.low (Hp.le_trans l13 (Hp.le_trans l26 l39))
  have ma43 : Mine 3 fD T.api_Held H H43 a c.list := m3.list.le (Hp.le_trans l13 (Hp.le_trans l26 l43'))
  have ao := m3.list.isOld
  refine ⟨fun i H' => 0 ≤ i ∧ i ≤ c.list.length ∧ Hp.le H H' ∧ (∃ xs, xs.length = c.list.length ∧ Mine 3 fD T.api_Held H H' a xs) ∧ Mine 3 fD T.api_Held H3 H' b (addC c x).1.list ∧ Mine 3 fD T.api_Held H3 H' d (addC c x).1.list ∧ Mine 3 fD T.api_Held H3 H' e (removeC c n).1.list ∧ Mine 3 fD T.api_Held H3 H' f (removeC c n).1.list ∧ Mine 1 fI T.int H3 H' g (ofC c id).1 ∧ Mine 1 fI T.int H3 H' k (ofC c id).1,
    fun i _ => (c.list.length - i).toNat, ⟨Int.le_refl _, by omega, lall, ⟨_, rfl, ma43⟩, mb43, md43, me43, mf43, mg43, mk43⟩, fun i H' ⟨i0, i1, i2, ⟨xs, hxs, i3⟩, i4, i5, i6, i7, i8, i9⟩ => ⟨fun hn => ?_, fun hn => ?_⟩⟩
  · have hn : i < c.list.length := by have : i < a.n := by simpa using hn
                                      omega
    have hrd := i3.rdD
    have hgx := getX (d := ((0 : Int), (0 : Int), (0 : Int))) i0 (by omega : i < xs.length)
    refine ⟨hrd.inS i0 (by omega), _, (hrd.gD i0 (by omega)).1, hrd.inS i0 (by omega), ?_⟩
    refine Mine.setE (k := 3) (f := fD) (vs := [.int .i64 (IntKind.i64.wrap ((xs.getD i.toNat (0, 0, 0)).1 + 1))]) (y := (IntKind.i64.wrap ((xs.getD i.toNat (0, 0, 0)).1 + 1), (xs.getD i.toNat (0, 0, 0)).2)) (fun _ => rfl) i3 i0 hgx rfl (by simp) fun H'' m'' hc => ?_
    have ew : IntKind.i64.wrap (i + 1) = i + 1 := wrap_i64 (by unfold inI; omega)
    rw [ew]
    have sb : ∀ {α : Type} {kk : Nat} {ff : α → List Value} {ee : TypeId} {ww : Slc} {zz : List α}, Mine kk ff ee H3 H' ww zz → Mine kk ff ee H3 H'' ww zz := fun hm => hm.chg hc (Sep.of ao hm.isNew).symm
    refine ⟨⟨by omega, by omega, Hp.le_chg i2 hc i3.isNew, ⟨_, by rw [List.length_set]; exact hxs, m''⟩, sb i4, sb i5, sb i6, sb i7, sb i8, sb i9⟩, ?_⟩
    show ((c.list.length : Int) - (i + 1)).toNat < ((c.list.length : Int) - i).toNat; omega
  · have := addC_len c x
    have := removeC_len c n
    have := ofC_len c id
    refine ⟨_, rSameC i4.rdD i5.rdD (by omega), _, fun _ => rSameC i6.rdD i7.rdD (by omega), _, fun _ => sameIDs i8.rdI i9.rdI (by omega), ?_, i2⟩
    simp
end Go.Proofs.Ytmnbekffebdfmaa
