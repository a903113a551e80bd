/- The law KlistMakes. Conditions: none. -/
import Derived.Test.YtodmhdfenpkbdaaGreatPL7
import Derived.Test.YtodmhdfenpkbdaaGreatN6
import Derived.Test.YtodmhdfenpkbdaaGreatVgKlist
import Derived.Test.YtodmhdfenpkbdaaGreatVgLKlistMakes
import Derived.Test.YtodmhdfenpkbdaaGreatFs
set_option linter.unusedVariables false
set_option maxRecDepth 100000
open Go Go.Eng Go.Proofs
namespace Go.Proofs.YtodmhdfenpkbdaaGreat

def kOrdM (l : Ls) : List Int × Int := if okLs l then (l.ord, 0) else ([], 8)
def kRankM (l : Ls) (id : Int) : Int × Int := if okLs l then (if posO l.ord id < 0 then (0, 6) else (posO l.ord id, 0)) else (0, 8)
def kNextM (l : Ls) : (Int × Int) × Int := if okLs l then (if l.ck.ag.heap.length = 0 then ((0, 0), 6) else ((hp l.ck.ag.heap 0).at_, 0)) else ((0, 0), 8)
theorem kOrder {H : Hp} {u : Lu} {l : Ls} (r : RdL H u l) (fl : fitL l) :
    Go.Eng.Fn Tryz.prog F.klist_Order #[lsV u l] H fun v H' => ∃ s : Slc, v = .tuple #[s.v, .int .i64 (kOrdM l).2] ∧ Hp.le H H' ∧ Mine 1 fI 3 H H' s (kOrdM l).1 := by
  have f1 := fl.o
  refine klist_Order_vc ⟨_, klistCheck r fl, fun hc => ?_, fun hc => ?_⟩
  · have hn : ¬ okLs l := fun ok => by rw [chkLs_ok ok] at hc; simp at hc
    unfold kOrdM; rw [if_neg hn, chkLs_bad hn]
    exact ⟨zs, rfl, Hp.le_refl _, .inl ⟨rfl, rfl⟩⟩
  · have ok : okLs l := chkLs_zero.1 (by simpa using hc)
    unfold kOrdM; rw [if_pos ok]
    exact (clone_int r.o (by omega)).mono fun v H3 ⟨s, hv, l3, m⟩ => ⟨s, hv, s, rfl, l3, m⟩
theorem refKOrder {H : Hp} {u : Lu} {l : Ls} (r : RdL H u l) (fl : fitL l) :
    Go.Eng.Fn Tryz.prog F.pelotonref25_Order #[lsV u l] H fun v H' => ∃ s : Slc, v = .tuple #[s.v, .int .i64 (kOrdM l).2] ∧ Hp.le H H' ∧ Mine 1 fI 3 H H' s (kOrdM l).1 := by
  have f1 := fl.o
  refine pelotonref25_Order_vc ⟨_, refLCheck r fl, fun hc => ⟨_, refLCheck r fl, ?_⟩, fun hc b3 H4 hb hH => ?_⟩
  · have hn : ¬ okLs l := fun ok => by rw [chkLs_ok ok] at hc; simp at hc
    unfold kOrdM; rw [if_neg hn, chkLs_bad hn]
    exact ⟨zs, rfl, Hp.le_refl _, .inl ⟨rfl, rfl⟩⟩
  · have ok : okLs l := chkLs_zero.1 (by simpa using hc)
    unfold kOrdM; rw [if_pos ok]
    exact (copy_ok (k := 1) (f := fI) (bytes := 8) (e := 3) (by kernel_rfl) (by decide) (fun _ => rfl) (fun x v hv => by simp [fI] at hv; subst hv; rfl) hb hH r.o (by omega) (by omega)).mono fun v H6 ⟨s, hv, l6, m⟩ => ⟨s, hv, s, rfl, l6, m⟩
theorem kRank {H : Hp} {u : Lu} {l : Ls} {id : Int} (r : RdL H u l) (fl : fitL l) :
    Qf Tryz.prog F.klist_Rank #[lsV u l, .int .i64 id] H (.tuple #[.int .i64 (kRankM l id).1, .int .i64 (kRankM l id).2]) := by
  have f1 := fl.o
  refine klist_Rank_vc ⟨_, klistCheck r fl, fun hc => ?_, fun hc => ⟨_, indexInts (id := id) r.o (by omega), fun hb => ?_, fun hb => ?_⟩⟩
  · have hn : ¬ okLs l := fun ok => by rw [chkLs_ok ok] at hc; simp at hc
    unfold kRankM; rw [if_neg hn, chkLs_bad hn]; exact ⟨rfl, Hp.le_refl _⟩
  · have ok : okLs l := chkLs_zero.1 (by simpa using hc)
    unfold kRankM; rw [if_pos ok, if_pos (by simpa using hb)]; exact ⟨rfl, Hp.le_refl _⟩
  · have ok : okLs l := chkLs_zero.1 (by simpa using hc)
    unfold kRankM; rw [if_pos ok, if_neg (by simpa using hb)]; exact ⟨rfl, Hp.le_refl _⟩
theorem refKRank {H : Hp} {u : Lu} {l : Ls} {id : Int} (r : RdL H u l) (fl : fitL l) :
    Qf Tryz.prog F.pelotonref25_Rank #[lsV u l, .int .i64 id] H (.tuple #[.int .i64 (kRankM l id).1, .int .i64 (kRankM l id).2]) := by
  have f1 := fl.o
  have lo := r.o.len
  refine pelotonref25_Rank_vc ⟨_, refLCheck r fl, fun hc => ⟨_, refLCheck r fl, ?_⟩, fun hc => ?_⟩
  · have hn : ¬ okLs l := fun ok => by rw [chkLs_ok ok] at hc; simp at hc
    unfold kRankM; rw [if_neg hn, chkLs_bad hn]; exact ⟨rfl, Hp.le_refl _⟩
  have ok : okLs l := chkLs_zero.1 (by simpa using hc)
  unfold kRankM; rw [if_pos ok]
  refine upto (N := l.ord.length) (J := fun n => ∀ y ∈ l.ord.take n.toNat, (id == y) = false) (by omega) (by simp) fun n h0 h1 hJ => ⟨fun hn => ?_, fun hn => ?_⟩
  · have hn : n < l.ord.length := by have : n < u.o.n := by simpa using hn
                                     omega
    have hg := getI h0 hn
    refine ⟨r.o.inS h0 hn, _, RdI.get r.o h0 hn, ?_⟩
    generalize l.ord.getD n.toNat 0 = x at hg ⊢
    refine ⟨fun hb => ?_, fun hb => upto.nx h0 hn (by omega) ?_⟩
    · have hb : x = id := by simpa using hb
      subst hb
      have e : posO l.ord x = n := by unfold posO; rw [idx_hit hg (by simp) hJ, Int.toNat_of_nonneg h0]
      rw [e, if_neg (by omega)]; exact ⟨rfl, Hp.le_refl _⟩
    · have hb : x ≠ id := by simpa using hb
      rw [show (n + 1).toNat = n.toNat + 1 by omega, take_succ hg]
      intro y hy
      rcases List.mem_append.1 hy with hy | hy
      · exact hJ y hy
      · simp only [List.mem_singleton] at hy; subst hy
        rw [beq_eq_false_iff_ne]; exact fun h => hb h.symm
  · have : n = l.ord.length := by have : ¬ n < u.o.n := by simpa using hn
                                  omega
    subst this
    rw [Int.toNat_natCast, List.take_length] at hJ
    have e : posO l.ord id = -1 := by unfold posO; rw [idx_miss hJ]
    rw [e, if_pos (by omega)]; exact ⟨rfl, Hp.le_refl _⟩
theorem kNext {H : Hp} {u : Lu} {l : Ls} (r : RdL H u l) (fl : fitL l) :
    Qf Tryz.prog F.klist_Next #[lsV u l] H (.tuple #[sI2 (kNextM l).1.1 (kNextM l).1.2, .int .i64 (kNextM l).2]) := by
  have cn := clockNext r.k fl.k
  refine klist_Next_vc ⟨_, klistCheck r fl, fun hc => ?_, fun hc => ⟨_, _, _, _, _, _, cn, fun hb => ?_, fun hb => ?_⟩⟩
  · have hn : ¬ okLs l := fun ok => by rw [chkLs_ok ok] at hc; simp at hc
    unfold kNextM; rw [if_neg hn, chkLs_bad hn]; exact ⟨rfl, Hp.le_refl _⟩
  · have ok : okLs l := chkLs_zero.1 (by simpa using hc)
    have hb : (nextK l.ck).2 ≠ 0 := by simpa using hb
    unfold nextK at hb
    rw [if_pos ok.ck] at hb
    unfold kNextM; rw [if_pos ok]
    by_cases h : l.ck.ag.heap.length = 0
    · rw [if_pos h]; exact ⟨rfl, Hp.le_refl _⟩
    · rw [if_neg h] at hb; exact absurd rfl hb
  · have ok : okLs l := chkLs_zero.1 (by simpa using hc)
    have hb : (nextK l.ck).2 = 0 := by simpa using hb
    unfold nextK at hb ⊢
    rw [if_pos ok.ck] at hb ⊢
    unfold kNextM; rw [if_pos ok]
    by_cases h : l.ck.ag.heap.length = 0
    · rw [if_pos h] at hb; cases hb
    · rw [if_neg h, if_neg h]; exact ⟨rfl, Hp.le_refl _⟩
theorem refKNext {H : Hp} {u : Lu} {l : Ls} (r : RdL H u l) (fl : fitL l) :
    Qf Tryz.prog F.pelotonref25_Next #[lsV u l] H (.tuple #[sI2 (kNextM l).1.1 (kNextM l).1.2, .int .i64 (kNextM l).2]) := by
  have lh := r.k.ag.heap.len
  refine pelotonref25_Next_vc ⟨_, refLCheck r fl, fun hc => ⟨_, refLCheck r fl, ?_⟩, fun hc => ⟨fun hb => ?_, fun hb => ?_⟩⟩
  · have hn : ¬ okLs l := fun ok => by rw [chkLs_ok ok] at hc; simp at hc
    unfold kNextM; rw [if_neg hn, chkLs_bad hn]; exact ⟨rfl, Hp.le_refl _⟩
  · have ok : okLs l := chkLs_zero.1 (by simpa using hc)
    have hb : (u.k.u4.n : Int) = 0 := by simpa using hb
    unfold kNextM; rw [if_pos ok, if_pos (by omega)]; exact ⟨rfl, Hp.le_refl _⟩
  · have ok : okLs l := chkLs_zero.1 (by simpa using hc)
    have hb : (u.k.u4.n : Int) ≠ 0 := by simpa using hb
    have ge := r.k.ag.heap.gE (i := 0) (by omega) (by omega)
    unfold kNextM; rw [if_pos ok, if_neg (by omega)]
    exact ⟨r.k.ag.heap.inS (by omega) (by omega), _, _, ⟨ge.1, ge.2.1⟩, rfl, Hp.le_refl _⟩

theorem buildN_ck {f : List Pt} {t : Int × Int} (h : timedF f t = 0) : ∀ n, n ≤ f.length - 1 → ((buildN f t n).2 = 0 → BInv f t (buildN f t n).1) ∧ ((buildN f t n).2 ≠ 0 → (buildN f t n).1 = .zero)
  | 0, _ => ⟨fun _ => BInv.start h, fun h => absurd rfl h⟩
  | n + 1, hn => by
    obtain ⟨a, b⟩ := buildN_ck h n (by omega)
    have e : buildN f t (n + 1) = if (buildN f t n).2 = 0 then madeL (buildN f t n).1 n else buildN f t n := rfl
    rw [e]
    by_cases h0 : (buildN f t n).2 = 0
    · rw [if_pos h0]
      have bi := a h0
      have hnum := bi.num
      refine ⟨fun hz => bi.made (timedF_zero.1 h).1 (by omega) hz, fun hz => ?_⟩
      unfold madeL at hz ⊢
      split
      · rename_i h2; rw [if_pos h2] at hz; exact absurd rfl hz
      · rfl
    · rw [if_neg h0]
      exact ⟨fun h => absurd h h0, b⟩
theorem fitZl : fitL .zero := fitL_of (l := .zero) fit00g (by kernel_rfl) (fun y hy => by cases hy)
theorem buildL_fit (f : List Pt) (t : Int × Int) : fitL (buildL f t).1 := by
  unfold buildL
  split
  · rename_i h
    obtain ⟨a, b⟩ := buildN_ck h (f.length - 1) (Nat.le_refl _)
    by_cases h0 : (buildN f t (f.length - 1)).2 = 0
    · exact (a h0).fit (timedF_zero.1 h).1
    · rw [b h0]; exact fitZl
  · exact fitZl

set_option maxHeartbeats 1000000 in
theorem klistMakes {H : Hp} {w : Slc} {f : List Pt} {t : Int × Int} {u : Lu} {l : Ls} {id : Int} (hf : Rd 3 fD H w f) (ht : fitR t) (r : RdL H u l) (hn : fitR l.ck.now) (hh : ∀ y ∈ l.ck.ag.heap, fitR y.at_) :
    Qf Tryz.prog F.pelotonlaw25_KlistMakes #[vFd w, raW t, lsV u l, .int .i64 id] H (.bool true) := by
  have lw := hf.len
  refine pelotonlaw25_KlistMakes_vc ⟨_, pelotonref25_Wide_vc ⟨rfl, Hp.le_refl _⟩, _, fun _ => refLGreat r, fun _ => ⟨rfl, Hp.le_refl _⟩, fun hb => ?_⟩
  simp only [Bool.or_eq_false_iff, Bool.and_eq_false_iff, decide_eq_false_iff_not] at hb
  obtain ⟨⟨hb1, hb2⟩, hg⟩ := hb
  have fl := fitL_of hn hg hh
  have f1 := fl.o
  refine (refFTwin hf (by omega)).mono fun v H4 ⟨w2, hv, l4, m4⟩ => ⟨l4, w2, hv, ?_⟩
  refine (refLTwin (r.le l4) fl).mono fun v H7 ⟨z, hv, l7, r7⟩ => ⟨l7, _, _, z.k.f, _, z.k.cl, z.k.u1, z.k.u2, z.k.u3, z.k.u4, z.k.u5, z.k.d, z.o, z.n, hv, ?_⟩
  have hf7 := (hf.le l4).le l7
  have hg7 := m4.rdD.le l7
  refine (klistBuild hf7 ht).mono fun v H22 ⟨a, hv, l22, ra⟩ => ⟨_, _, a.k.f, _, a.k.cl, a.k.u1, a.k.u2, a.k.u3, a.k.u4, a.k.u5, a.k.d, a.o, a.n, _, hv, ?_⟩
  refine (refBuildL (hg7.le l22) ht).mono fun v H38 ⟨c, hv, l38, rc⟩ => ⟨_, _, c.k.f, _, c.k.cl, c.k.u1, c.k.u2, c.k.u3, c.k.u4, c.k.u5, c.k.d, c.o, c.n, _, hv, ?_⟩
  have l738 := Hp.le_trans l22 l38
  have l038 := Hp.le_trans l4 (Hp.le_trans l7 l738)
  refine (kOrder (r.le l038) fl).mono fun v H54 ⟨s1, hv, l54, m1⟩ => ⟨s1, _, hv, ?_⟩
  refine (refKOrder ((r7.le l738).le l54) fl).mono fun v H58 ⟨s2, hv, l58, m2⟩ => ⟨s2, _, hv, ?_⟩
  have l3858 := Hp.le_trans l54 l58
  have l058 := Hp.le_trans l038 l3858
  have r0 := r.le l058
  have rz := r7.le (Hp.le_trans l738 l3858)
  have k1 := kRank (id := id) r0 fl
  have k2 := refKRank (id := id) rz fl
  have k3 := kNext r0 fl
  have k4 := refKNext rz fl
  have bf := buildL_fit f t
  have k5 := refLSame (ra.le (Hp.le_trans l38 l3858)) (rc.le l3858) bf
  have kl : (kOrdM l).1.length ≤ 1000000000 := by
    unfold kOrdM; split
    · show l.ord.length ≤ _; omega
    · simp
  have k6 := sameIDs (m1.rdI.le l58) m2.rdI kl
  have k7 := klistCheck r0 fl
  have k8 := refLCheck rz fl
  have k9 := refFSame (hf.le l058) (hg7.le (Hp.le_trans l738 l3858)) (by omega)
  have k10 := refLSame r0 rz fl
  refine ⟨_, _, k1, _, _, k2, _, _, _, k3, _, _, _, k4, _, k5, _, fun _ => k6, fun hb => ?_, fun _ => ⟨_, k7, _, k8, _, fun _ => k9, _, fun _ => k10, ?_, l058⟩⟩
  · exfalso
    simp at hb
  · simp
end Go.Proofs.YtodmhdfenpkbdaaGreat
