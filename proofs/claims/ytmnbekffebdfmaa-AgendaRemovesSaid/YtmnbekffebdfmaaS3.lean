/- The law SlotDoes, and the chapter's examples. Conditions: none. -/
import Derived.Test.YtmnbekffebdfmaaS2
import Derived.Test.YtmnbekffebdfmaaE4
import Derived.Test.YtmnbekffebdfmaaVgH06
import Derived.Test.YtmnbekffebdfmaaVgLSlotDoes
import Derived.Test.YtmnbekffebdfmaaFs
set_option linter.unusedVariables false
open Go Go.Eng Go.Proofs
namespace Go.Proofs.Ytmnbekffebdfmaa

theorem lawAlive {H : Hp} : Qf Try.prog F.pelotonlaw06_alive #[] H (.bool true) := by
  have s0 := newM_small 3
  refine pelotonlaw06_alive_vc (slotNew.mono fun v H2 ⟨a1, b1, c1, hv, n1⟩ => ⟨a1, b1, c1, _, hv, ?_⟩)
  refine (slotTake n1.rd s0).mono fun v H3 ⟨a2, b2, c2, hv, n2⟩ => ⟨a2, b2, c2, _, _, _, hv, ?_⟩
  have s1 := takeM_small s0
  refine (slotTake n2.rd s1).mono fun v H4 ⟨a3, b3, c3, hv, n3⟩ => ⟨a3, b3, c3, _, _, _, hv, ?_⟩
  have s2 := takeM_small s1
  refine (slotTake n3.rd s2).mono fun v H5 ⟨a4, b4, c4, hv, n4⟩ => ⟨a4, b4, c4, _, _, _, hv, ?_⟩
  have s3 := takeM_small s2
  refine (slotTake n4.rd s3).mono fun v H6 ⟨a5, b5, c5, hv, n5⟩ => ⟨a5, b5, c5, _, _, _, hv, ?_⟩
  refine (slotGive (n4.rd.le n5.le) s3).mono fun v H7 ⟨a6, b6, c6, hv, n6⟩ => ⟨a6, b6, c6, _, hv, ?_⟩
  have s5 := giveM_small (t := (takeM (takeM (takeM (newM 3).1).1).1).1) (takeM (takeM (newM 3).1).1).2.1 (takeM (takeM (newM 3).1).1).2.2.1
  refine (slotTake n6.rd s5).mono fun v H8 ⟨a7, b7, c7, hv, n7⟩ => ⟨a7, b7, c7, _, _, _, hv, ?_⟩
  have s6 := takeM_small s5
  have le : Hp.le H H8 := Hp.le_trans n1.le (Hp.le_trans n2.le (Hp.le_trans n3.le (Hp.le_trans n4.le (Hp.le_trans n5.le (Hp.le_trans n6.le n7.le)))))
  exact ⟨_, fun _ => lawHas n7.rd s6, _, fun _ => lawHas n7.rd s6, _, fun _ => lawHas (n6.rd.le n7.le) s5, by kernel_rfl, le⟩

theorem slotDoes {H : Hp} {n i u : Int} {u1 u2 u3 : Slc} {t : Tb} (h : RdT H u1 u2 u3 t) :
    Qf Try.prog F.pelotonlaw06_SlotDoes #[.int .i64 n, .agg #[u1.v, u2.v, u3.v], .agg #[.int .i64 i, .int .i64 u]] H (.bool true) := by
  refine pelotonlaw06_SlotDoes_vc ⟨_, refGreat h, fun _ => ⟨rfl, Hp.le_refl _⟩, fun hg => ?_⟩
  have hs : t.small := by simp at hg; unfold Tb.small; omega
  refine (rtwin h hs).mono fun v H3 ⟨u4, u5, u6, hv, no⟩ => ⟨u4, u5, u6, hv, ?_⟩
  refine slotNew.mono fun v H8 ⟨a1, b1, c1, hv, n1⟩ => ⟨a1, b1, c1, _, hv, ?_⟩
  refine refNew.mono fun v H14 ⟨a2, b2, c2, hv, n2⟩ => ⟨a2, b2, c2, _, hv, ?_⟩
  have l14 := Hp.le_trans n1.le n2.le
  refine (slotTake (no.rd.le l14) hs).mono fun v H20 ⟨a3, b3, c3, hv, n3⟩ => ⟨a3, b3, c3, _, _, _, hv, ?_⟩
  have l20 := Hp.le_trans l14 n3.le
  refine (refTake (h.le (Hp.le_trans no.le l20)) hs).mono fun v H28 ⟨a4, b4, c4, hv, n4⟩ => ⟨a4, b4, c4, _, _, _, hv, ?_⟩
  have l28 := Hp.le_trans l20 n4.le
  refine (slotGive (no.rd.le l28) hs).mono fun v H36 ⟨a5, b5, c5, hv, n5⟩ => ⟨a5, b5, c5, _, hv, ?_⟩
  have l36 := Hp.le_trans l28 n5.le
  refine (refGive (h.le (Hp.le_trans no.le l36)) hs).mono fun v H42 ⟨a6, b6, c6, hv, n6⟩ => ⟨a6, b6, c6, _, hv, ?_⟩
  have l42 := Hp.le_trans l36 n6.le
  have ho := no.rd.le l42
  have hh := h.le (Hp.le_trans no.le l42)
  have q3 := n3.rd.le (Hp.le_trans n4.le (Hp.le_trans n5.le n6.le))
  have q4 := n4.rd.le (Hp.le_trans n5.le n6.le)
  have q5 := n5.rd.le n6.le
  have q6 := n6.rd
  have h2 := n2.rd.le (Hp.le_trans n3.le (Hp.le_trans n4.le (Hp.le_trans n5.le n6.le)))
  have h1 := n1.rd.le (Hp.le_trans n2.le (Hp.le_trans n3.le (Hp.le_trans n4.le (Hp.le_trans n5.le n6.le))))
  refine ⟨_, _, slotHas ho hs, _, _, refHas hh hs, _, _, slotRoom ho hs, _, _, refRoom hh hs, _, same h1 h2 (newM_small n), _, fun _ => slotCheck ho hs, _, fun _ => rcheck hh hs, _, fun _ => same ho hh hs, fun hb => ?_, fun _ => ?_⟩
  · exfalso; simp at hb
  -- the changes of one's own table
  have o4 := no.uses.isOld
  have o5 := no.used.isOld
  have o6 := no.free.isOld
  let P4 : Hp → Prop := fun H' => RdT H' a3 b3 c3 (takeM t).1 ∧ RdT H' a4 b4 c4 (takeM t).1 ∧ RdT H' a5 b5 c5 (giveM t i u).1 ∧ RdT H' a6 b6 c6 (giveM t i u).1
  have hP : ∀ (w : Slc) (H' H'' : Hp), Old H3 w → P4 H' → Chg H' H'' w → P4 H'' := fun w H' H'' hw ⟨p3, p4, p5, p6⟩ hc =>
    ⟨p3.chg hc (n3.sep (hw.le l14)), p4.chg hc (n4.sep (hw.le l20)), p5.chg hc (n5.sep (hw.le l28)), p6.chg hc (n6.sep (hw.le l36))⟩
  obtain ⟨s1, s2, s3⟩ := hs
  have k4 := no.rd.uses.len
  have k5 := no.rd.used.len
  have k6 := no.rd.free.len
  have wr : ∀ z : Int, 0 ≤ z → z < 1000000 → IntKind.i64.wrap (z + 1) = z + 1 := fun z z0 z1 => wrap_i64 (by unfold inI; omega)
  refine uptoH (N := u4.n) (J := fun _ H' => Hp.le H H' ∧ P4 H' ∧ Mine 1 fB 4 H H' u5 t.used ∧ Mine 1 fI 3 H H' u6 t.free ∧ ∃ xs : List Int, xs.length = t.uses.length ∧ Mine 1 fI 3 H H' u4 xs) (by omega) ⟨Hp.le_trans no.le l42, ⟨q3, q4, q5, q6⟩, no.used.le l42, no.free.le l42, _, rfl, no.uses.le l42⟩
    fun m H62 j0 j1 ⟨jl0, jp, j5, j6, xs, jl, j4⟩ => ⟨fun hm => ?_, fun hm => ?_⟩
  · have hm : m < u4.n := by simpa using hm
    rw [wr m j0 (by omega)]
    refine j4.rdI.ldI j0 (by omega) ⟨j4.rdI.inS j0 (by omega), j4.setI j0 (by omega) _ fun H' m' ch => (uptoH.nx j0 hm (by omega) ?_).2⟩
    exact ⟨Hp.le_chg jl0 ch m'.isNew, hP u4 _ _ o4 jp ch, j5.chg ch no.s12.symm, j6.chg ch no.s13.symm, _, by simpa using jl, m'⟩
  · refine uptoH (N := u5.n) (J := fun _ H' => Hp.le H H' ∧ P4 H' ∧ Mine 1 fI 3 H H' u6 t.free ∧ ∃ xs : List Bool, xs.length = t.used.length ∧ Mine 1 fB 4 H H' u5 xs) (by omega) ⟨jl0, jp, j6, _, rfl, j5⟩
      fun m H62 j0 j1 ⟨jl0, jp, j6, xs, jl, j4⟩ => ⟨fun hm => ?_, fun hm => ?_⟩
    · have hm : m < u5.n := by simpa using hm
      rw [wr m j0 (by omega)]
      refine j4.rdB.ldB j0 (by omega) ⟨j4.rdB.inS j0 (by omega), j4.setB j0 (by omega) _ fun H' m' ch => (uptoH.nx j0 hm (by omega) ?_).2⟩
      exact ⟨Hp.le_chg jl0 ch m'.isNew, hP u5 _ _ o5 jp ch, j6.chg ch no.s23.symm, _, by simpa using jl, m'⟩
    · refine uptoH (N := u6.n) (J := fun _ H' => Hp.le H H' ∧ P4 H' ∧ ∃ xs : List Int, xs.length = t.free.length ∧ Mine 1 fI 3 H H' u6 xs) (by omega) ⟨jl0, jp, _, rfl, j6⟩
        fun m H62 j0 j1 ⟨jl0, jp, xs, jl, j4⟩ => ⟨fun hm => ?_, fun hm => ?_⟩
      · have hm : m < u6.n := by simpa using hm
        rw [wr m j0 (by omega)]
        refine j4.rdI.ldI j0 (by omega) ⟨j4.rdI.inS j0 (by omega), j4.setI j0 (by omega) _ fun H' m' ch => (uptoH.nx j0 hm (by omega) ?_).2⟩
        exact ⟨Hp.le_chg jl0 ch m'.isNew, hP u6 _ _ o6 jp ch, _, by simpa using jl, m'⟩
      · obtain ⟨p3, p4, p5, p6⟩ := jp
        refine ⟨_, same p3 p4 (takeM_small ⟨s1, s2, s3⟩), _, fun _ => same p5 p6 (giveM_small i u), ?_⟩
        exact ⟨by simp, jl0⟩
end Go.Proofs.Ytmnbekffebdfmaa
