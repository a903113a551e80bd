/- The law KlistMakes. Conditions: none. -/
import Derived.Test.YtkemdpobjaiolaaGreatPL7
import Derived.Test.YtkemdpobjaiolaaGreatPN2
import Derived.Test.YtkemdpobjaiolaaGreatVgKlist
import Derived.Test.YtkemdpobjaiolaaGreatFs
set_option linter.unusedVariables false
set_option maxRecDepth 100000
open Go Go.Eng Go.Proofs
namespace Go.Proofs.YtkemdpobjaiolaaGreat

def kNextM (l : Ls) : (Int × Int) × Int := if okLs l then (if l.ck.ag.heap.length = 0 then ((0, 0), 6) else ((hp l.ck.ag.heap 0).at_, 0)) else ((0, 0), 8)
theorem kNext {H : Hp} {u : Lu} {l : Ls} (r : RdL H u l) (fl : fitL l) :
    Qf Tryz.prog F.klist_Next #[lsV u l] H (.tuple #[sI2 (kNextM l).1.1 (kNextM l).1.2, .int .i64 (kNextM l).2]) := by
  have cn := clockNext r.k fl.k
  refine klist_Next_vc ⟨_, klistCheck r fl, fun hc => ?_, fun hc => ⟨_, _, _, _, _, _, cn, fun hb => ?_, fun hb => ?_⟩⟩
  · have hn : ¬ okLs l := fun ok => by rw [chkLs_ok ok] at hc; simp at hc
    unfold kNextM; rw [if_neg hn, chkLs_bad hn]; exact ⟨rfl, Hp.le_refl _⟩
  · have ok : okLs l := chkLs_zero.1 (by simpa using hc)
    have hb : (nextK l.ck).2 ≠ 0 := by simpa using hb
    unfold nextK at hb
    rw [if_pos ok.ck] at hb
    unfold kNextM; rw [if_pos ok]
    by_cases h : l.ck.ag.heap.length = 0
    · rw [if_pos h]; exact ⟨rfl, Hp.le_refl _⟩
    · rw [if_neg h] at hb; exact absurd rfl hb
  · have ok : okLs l := chkLs_zero.1 (by simpa using hc)
    have hb : (nextK l.ck).2 = 0 := by simpa using hb
    unfold nextK at hb ⊢
    rw [if_pos ok.ck] at hb ⊢
    unfold kNextM; rw [if_pos ok]
    by_cases h : l.ck.ag.heap.length = 0
    · rw [if_pos h] at hb; cases hb
    · rw [if_neg h, if_neg h]; exact ⟨rfl, Hp.le_refl _⟩
end Go.Proofs.YtkemdpobjaiolaaGreat
