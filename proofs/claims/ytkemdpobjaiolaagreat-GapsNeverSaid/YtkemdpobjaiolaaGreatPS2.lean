/- The engine, parts LT, LU, put together. Conditions: none. -/
import Derived.Test.YtkemdpobjaiolaaGreatPS1
import Derived.Test.YtkemdpobjaiolaaGreatKM
import Derived.Test.YtkemdpobjaiolaaGreatVgKlist
import Derived.Test.YtkemdpobjaiolaaGreatFs
set_option linter.unusedVariables false
section
/- klist.Advance and Step, and the reference's. Conditions: none. -/
set_option maxRecDepth 100000
open Go Go.Eng Go.Proofs
namespace Go.Proofs.YtkemdpobjaiolaaGreat

def untilL (l : Ls) (to : Int × Int) : Int := if okLs l then untilK l.ck to else 8
theorem untilL_ok {l : Ls} {to : Int × Int} (ok : okLs l) : untilL l to = untilK l.ck to := by unfold untilL; rw [if_pos ok]
theorem untilL_bad {l : Ls} {to : Int × Int} (ok : ¬ okLs l) : untilL l to = 8 := by unfold untilL; rw [if_neg ok]
theorem rUntil25 {H : Hp} {u : Lu} {l : Ls} {to : Int × Int} (r : RdL H u l) (fl : fitL l) (ht : fitR to) :
    Qf Tryz.prog F.pelotonref25_Until #[lsV u l, raW to] H (.int .i64 (untilL l to)) := by
  refine pelotonref25_Until_vc ⟨_, refLCheck r fl, fun hc => ⟨_, refLCheck r fl, ?_⟩, fun hc => ⟨_, rUntil r.k fl.k ht, ?_⟩⟩
  · have hn : ¬ okLs l := fun ok => by rw [chkLs_ok ok] at hc; simp at hc
    rw [untilL_bad hn, chkLs_bad hn]; exact ⟨rfl, Hp.le_refl _⟩
  · have ok : okLs l := chkLs_zero.1 (by simpa using hc)
    rw [untilL_ok ok]; exact ⟨rfl, Hp.le_refl _⟩
end Go.Proofs.YtkemdpobjaiolaaGreat
end
section
/- The reference's Advance, and Step. Conditions: none. -/
set_option maxRecDepth 100000
open Go Go.Eng Go.Proofs
namespace Go.Proofs.YtkemdpobjaiolaaGreat

/-! ### Step -/
theorem kNext_fit {l : Ls} (h : (kNextM l).2 = 0) : okR (kNextM l).1 := by
  unfold kNextM at h ⊢
  by_cases ok : okLs l
  · rw [if_pos ok] at h ⊢
    by_cases h0 : l.ck.ag.heap.length = 0
    · rw [if_pos h0] at h; cases h
    · rw [if_neg h0]
      exact (ok.ck.ag.each _ (hp_mem (by omega))).1
  · rw [if_neg ok] at h; cases h
end Go.Proofs.YtkemdpobjaiolaaGreat
end
