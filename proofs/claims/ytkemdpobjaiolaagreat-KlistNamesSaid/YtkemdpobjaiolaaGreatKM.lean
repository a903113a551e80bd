/- The law KlistMakes. Conditions: none. -/
import Derived.Test.YtkemdpobjaiolaaGreatPL7
import Derived.Test.YtkemdpobjaiolaaGreatPN2
import Derived.Test.YtkemdpobjaiolaaGreatVgKlist
import Derived.Test.YtkemdpobjaiolaaGreatFs
set_option linter.unusedVariables false
set_option maxRecDepth 100000
open Go Go.Eng Go.Proofs
namespace Go.Proofs.YtkemdpobjaiolaaGreat

def kOrdM (l : Ls) : List Int × Int := if okLs l then (l.ord, 0) else ([], 8)
def kRankM (l : Ls) (id : Int) : Int × Int := if okLs l then (if posO l.ord id < 0 then (0, 6) else (posO l.ord id, 0)) else (0, 8)
def kNextM (l : Ls) : (Int × Int) × Int := if okLs l then (if l.ck.ag.heap.length = 0 then ((0, 0), 6) else ((hp l.ck.ag.heap 0).at_, 0)) else ((0, 0), 8)
theorem kOrder {H : Hp} {u : Lu} {l : Ls} (r : RdL H u l) (fl : fitL l) :
    Go.Eng.Fn Tryz.prog F.klist_Order #[lsV u l] H fun v H' => ∃ s : Slc, v = .tuple #[s.v, .int .i64 (kOrdM l).2] ∧ Hp.le H H' ∧ Mine 1 fI 3 H H' s (kOrdM l).1 := by
  have f1 := fl.o
  refine klist_Order_vc ⟨_, klistCheck r fl, fun hc => ?_, fun hc => ?_⟩
  · have hn : ¬ okLs l := fun ok => by rw [chkLs_ok ok] at hc; simp at hc
    unfold kOrdM; rw [if_neg hn, chkLs_bad hn]
    exact ⟨zs, rfl, Hp.le_refl _, .inl ⟨rfl, rfl⟩⟩
  · have ok : okLs l := chkLs_zero.1 (by simpa using hc)
    unfold kOrdM; rw [if_pos ok]
    exact (clone_int r.o (by omega)).mono fun v H3 ⟨s, hv, l3, m⟩ => ⟨s, hv, s, rfl, l3, m⟩
theorem kRank {H : Hp} {u : Lu} {l : Ls} {id : Int} (r : RdL H u l) (fl : fitL l) :
    Qf Tryz.prog F.klist_Rank #[lsV u l, .int .i64 id] H (.tuple #[.int .i64 (kRankM l id).1, .int .i64 (kRankM l id).2]) := by
  have f1 := fl.o
  refine klist_Rank_vc ⟨_, klistCheck r fl, fun hc => ?_, fun hc => ⟨_, indexInts (id := id) r.o (by omega), fun hb => ?_, fun hb => ?_⟩⟩
  · have hn : ¬ okLs l := fun ok => by rw [chkLs_ok ok] at hc; simp at hc
    unfold kRankM; rw [if_neg hn, chkLs_bad hn]; exact ⟨rfl, Hp.le_refl _⟩
  · have ok : okLs l := chkLs_zero.1 (by simpa using hc)
    unfold kRankM; rw [if_pos ok, if_pos (by simpa using hb)]; exact ⟨rfl, Hp.le_refl _⟩
  · have ok : okLs l := chkLs_zero.1 (by simpa using hc)
    unfold kRankM; rw [if_pos ok, if_neg (by simpa using hb)]; exact ⟨rfl, Hp.le_refl _⟩
theorem kNext {H : Hp} {u : Lu} {l : Ls} (r : RdL H u l) (fl : fitL l) :
    Qf Tryz.prog F.klist_Next #[lsV u l] H (.tuple #[sI2 (kNextM l).1.1 (kNextM l).1.2, .int .i64 (kNextM l).2]) := by
  have cn := clockNext r.k fl.k
  refine klist_Next_vc ⟨_, klistCheck r fl, fun hc => ?_, fun hc => ⟨_, _, _, _, _, _, cn, fun hb => ?_, fun hb => ?_⟩⟩
  · have hn : ¬ okLs l := fun ok => by rw [chkLs_ok ok] at hc; simp at hc
    unfold kNextM; rw [if_neg hn, chkLs_bad hn]; exact ⟨rfl, Hp.le_refl _⟩
  · have ok : okLs l := chkLs_zero.1 (by simpa using hc)
    have hb : (nextK l.ck).2 ≠ 0 := by simpa using hb
    unfold nextK at hb
    rw [if_pos ok.ck] at hb
    unfold kNextM; rw [if_pos ok]
    by_cases h : l.ck.ag.heap.length = 0
    · rw [if_pos h]; exact ⟨rfl, Hp.le_refl _⟩
    · rw [if_neg h] at hb; exact absurd rfl hb
  · have ok : okLs l := chkLs_zero.1 (by simpa using hc)
    have hb : (nextK l.ck).2 = 0 := by simpa using hb
    unfold nextK at hb ⊢
    rw [if_pos ok.ck] at hb ⊢
    unfold kNextM; rw [if_pos ok]
    by_cases h : l.ck.ag.heap.length = 0
    · rw [if_pos h] at hb; cases hb
    · rw [if_neg h, if_neg h]; exact ⟨rfl, Hp.le_refl _⟩
theorem buildN_ck {f : List Pt} {t : Int × Int} (h : timedF f t = 0) : ∀ n, n ≤ f.length - 1 → ((buildN f t n).2 = 0 → BInv f t (buildN f t n).1) ∧ ((buildN f t n).2 ≠ 0 → (buildN f t n).1 = .zero)
  | 0, _ => ⟨fun _ => BInv.start h, fun h => absurd rfl h⟩
  | n + 1, hn => by
    obtain ⟨a, b⟩ := buildN_ck h n (by omega)
    have e : buildN f t (n + 1) = if (buildN f t n).2 = 0 then madeL (buildN f t n).1 n else buildN f t n := rfl
    rw [e]
    by_cases h0 : (buildN f t n).2 = 0
    · rw [if_pos h0]
      have bi := a h0
      have hnum := bi.num
      refine ⟨fun hz => bi.made (timedF_zero.1 h).1 (by omega) hz, fun hz => ?_⟩
      unfold madeL at hz ⊢
      split
      · rename_i h2; rw [if_pos h2] at hz; exact absurd rfl hz
      · rfl
    · rw [if_neg h0]
      exact ⟨fun h => absurd h h0, b⟩
theorem fitZl : fitL .zero := fitL_of (l := .zero) fit00g (by kernel_rfl) (fun y hy => by cases hy)
theorem buildL_fit (f : List Pt) (t : Int × Int) : fitL (buildL f t).1 := by
  unfold buildL
  split
  · rename_i h
    obtain ⟨a, b⟩ := buildN_ck h (f.length - 1) (Nat.le_refl _)
    by_cases h0 : (buildN f t (f.length - 1)).2 = 0
    · exact (a h0).fit (timedF_zero.1 h).1
    · rw [b h0]; exact fitZl
  · exact fitZl

end Go.Proofs.YtkemdpobjaiolaaGreat
