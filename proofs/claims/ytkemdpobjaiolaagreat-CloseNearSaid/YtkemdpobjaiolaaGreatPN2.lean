/- The engine, parts N5, N6, KM, N7, put together. Conditions: none. -/
import Derived.Test.YtkemdpobjaiolaaGreatPN1
import Derived.Test.YtkemdpobjaiolaaGreatVgStd
import Derived.Test.YtkemdpobjaiolaaGreatFs
import Derived.Test.YtkemdpobjaiolaaGreatPL7
import Derived.Test.YtkemdpobjaiolaaGreatVgKlist
import Derived.Test.YtkemdpobjaiolaaGreatVgBase
set_option linter.unusedVariables false
section
/- The law SpanFinds. Conditions: none. -/
set_option maxRecDepth 100000
open Go Go.Eng Go.Proofs
namespace Go.Proofs.YtkemdpobjaiolaaGreat

def posO (o : List Int) (id : Int) : Int := idx (fun y => id == y) o
theorem posO_in {o : List Int} {id : Int} (h : 0 ≤ posO o id) : posO o id < o.length ∧ o[(posO o id).toNat]? = some id := by
  obtain ⟨x, h1, h2, _, h4⟩ := idx_in h
  refine ⟨h4, ?_⟩
  have : id = x := by simpa using h2
  rw [this] at h1 ⊢; exact h1
theorem posO_at {o : List Int} (hd : o.Pairwise (· ≠ ·)) {i : Nat} {x : Int} (hi : o[i]? = some x) : posO o x = i := by
  refine idx_hit hi (by simp) fun y hy => ?_
  obtain ⟨j, hj, e⟩ := List.mem_take_iff_getElem.1 hy
  obtain ⟨a1, a2⟩ := List.getElem?_eq_some_iff.1 hi
  have := List.pairwise_iff_getElem.1 hd j i (by omega) a1 (by omega)
  rw [e, a2] at this
  simpa using fun h => this h.symm
theorem indexInts {H : Hp} {s : Slc} {xs : List Int} {id : Int} (h : RdI H s xs) (hl : xs.length ≤ 1000000000) : Qf Tryz.prog F.slices_Index_int_int #[s.v, .int .i64 id] H (.int .i64 (posO xs id)) := by
  have ls := h.len
  refine slices_Index_int_int_vc (upto (N := xs.length) (J := fun n => ∀ y ∈ xs.take n.toNat, (id == y) = false) (by omega) (by simp) fun n h0 h1 hJ => ⟨fun hn => ?_, fun hn => ⟨?_, Hp.le_refl _⟩⟩)
  · have hn : n < xs.length := by have : n < s.n := by simpa using hn
                                  omega
    have hg := getI h0 hn
    refine ⟨h.inS h0 hn, _, RdI.get h h0 hn, ?_⟩
    generalize xs.getD n.toNat 0 = x at hg ⊢
    refine ⟨fun hb => ⟨?_, Hp.le_refl _⟩, fun hb => upto.nx h0 hn (by omega) ?_⟩
    · unfold posO; rw [idx_hit hg hb hJ, Int.toNat_of_nonneg h0]
    · rw [show (n + 1).toNat = n.toNat + 1 by omega, take_succ hg]
      intro y hy
      rcases List.mem_append.1 hy with hy | hy
      · exact hJ y hy
      · simp only [List.mem_singleton] at hy; subst hy; exact hb
  · have : n = xs.length := by have : ¬ n < s.n := by simpa using hn
                               omega
    subst this
    rw [Int.toNat_natCast, List.take_length] at hJ
    unfold posO
    rw [idx_miss hJ]

theorem okR.eq_of {a b : Int × Int} (ha : okR a) (hb : okR b) (h : a.1 * b.2 = b.1 * a.2) : a = b := by
  have h1 := ha.d1; have h2 := hb.d1
  have hn : a.1.natAbs * b.2.natAbs = b.1.natAbs * a.2.natAbs := by rw [← Int.natAbs_mul, ← Int.natAbs_mul, h]
  have d1 : a.2.natAbs ∣ b.2.natAbs := by
    have c : Nat.Coprime a.2.natAbs a.1.natAbs := Nat.Coprime.symm ha.g
    exact Nat.Coprime.dvd_of_dvd_mul_left c (by rw [hn]; exact Nat.dvd_mul_left ..)
  have d2 : b.2.natAbs ∣ a.2.natAbs := by
    have c : Nat.Coprime b.2.natAbs b.1.natAbs := Nat.Coprime.symm hb.g
    exact Nat.Coprime.dvd_of_dvd_mul_left c (by rw [← hn]; exact Nat.dvd_mul_left ..)
  have e := Nat.dvd_antisymm d1 d2
  have e2 : a.2 = b.2 := by omega
  rw [e2] at h
  have e1 : a.1 = b.1 := Int.eq_of_mul_eq_mul_right (by omega) h
  exact Prod.ext e1 e2
theorem okLs.ne {l : Ls} (ok : okLs l) : l.ord.Pairwise (· ≠ ·) := by
  have hi := (sortM_sorted (okF_ids ok.ck.f) l.ck.now).ids (okF_ids ok.ck.f)
  have ho : l.ord = (sortM l.ck.f l.ck.now).map (·.1) := ok.ord
  rw [ho]
  exact List.pairwise_map.2 hi

theorem Desc.least {xs : List (Int × Int)} (d : Desc xs) {a b : Int} (a0 : 0 ≤ a) (a1 : a < xs.length) (b0 : 0 ≤ b) (b1 : b < xs.length) :
    (if cmpR (xs.getD a.toNat (0, 0)) (xs.getD b.toNat (0, 0)) < 0 then xs.getD a.toNat (0, 0) else xs.getD b.toNat (0, 0)) = xs.getD (if a > b then a else b).toNat (0, 0) := by
  have ha := getX (d := ((0 : Int), (0 : Int))) a0 a1
  have hb := getX (d := ((0 : Int), (0 : Int))) b0 b1
  rcases Int.lt_trichotomy a b with h | h | h
  · have := d.ge a.toNat b.toNat _ _ (by omega) ha hb
    rw [if_neg (by omega), if_neg (by omega)]
  · subst h; simp
  · have := d.ge b.toNat a.toNat _ _ (by omega) hb ha
    rw [if_pos h]
    split
    · rfl
    · rename_i hc
      refine okR.eq_of (d.ok _ (List.mem_of_getElem? hb)) (d.ok _ (List.mem_of_getElem? ha)) ?_
      rw [cmpR_ge] at this
      have hc : 0 ≤ cmpR (xs.getD a.toNat (0, 0)) (xs.getD b.toNat (0, 0)) := by omega
      rw [cmpR_ge] at hc
      omega

def kRankM (l : Ls) (id : Int) : Int × Int := if okLs l then (if posO l.ord id < 0 then (0, 6) else (posO l.ord id, 0)) else (0, 8)
def kNextM (l : Ls) : (Int × Int) × Int := if okLs l then (if l.ck.ag.heap.length = 0 then ((0, 0), 6) else ((hp l.ck.ag.heap 0).at_, 0)) else ((0, 0), 8)
theorem kRank {H : Hp} {u : Lu} {l : Ls} {id : Int} (r : RdL H u l) (fl : fitL l) :
    Qf Tryz.prog F.klist_Rank #[lsV u l, .int .i64 id] H (.tuple #[.int .i64 (kRankM l id).1, .int .i64 (kRankM l id).2]) := by
  have f1 := fl.o
  refine klist_Rank_vc ⟨_, klistCheck r fl, fun hc => ?_, fun hc => ⟨_, indexInts (id := id) r.o (by omega), fun hb => ?_, fun hb => ?_⟩⟩
  · have hn : ¬ okLs l := fun ok => by rw [chkLs_ok ok] at hc; simp at hc
    unfold kRankM; rw [if_neg hn, chkLs_bad hn]; exact ⟨rfl, Hp.le_refl _⟩
  · have ok : okLs l := chkLs_zero.1 (by simpa using hc)
    unfold kRankM; rw [if_pos ok, if_pos (by simpa using hb)]; exact ⟨rfl, Hp.le_refl _⟩
  · have ok : okLs l := chkLs_zero.1 (by simpa using hc)
    unfold kRankM; rw [if_pos ok, if_neg (by simpa using hb)]; exact ⟨rfl, Hp.le_refl _⟩
theorem kNext {H : Hp} {u : Lu} {l : Ls} (r : RdL H u l) (fl : fitL l) :
    Qf Tryz.prog F.klist_Next #[lsV u l] H (.tuple #[sI2 (kNextM l).1.1 (kNextM l).1.2, .int .i64 (kNextM l).2]) := by
  have cn := clockNext r.k fl.k
  refine klist_Next_vc ⟨_, klistCheck r fl, fun hc => ?_, fun hc => ⟨_, _, _, _, _, _, cn, fun hb => ?_, fun hb => ?_⟩⟩
  · have hn : ¬ okLs l := fun ok => by rw [chkLs_ok ok] at hc; simp at hc
    unfold kNextM; rw [if_neg hn, chkLs_bad hn]; exact ⟨rfl, Hp.le_refl _⟩
  · have ok : okLs l := chkLs_zero.1 (by simpa using hc)
    have hb : (nextK l.ck).2 ≠ 0 := by simpa using hb
    unfold nextK at hb
    rw [if_pos ok.ck] at hb
    unfold kNextM; rw [if_pos ok]
    by_cases h : l.ck.ag.heap.length = 0
    · rw [if_pos h]; exact ⟨rfl, Hp.le_refl _⟩
    · rw [if_neg h] at hb; exact absurd rfl hb
  · have ok : okLs l := chkLs_zero.1 (by simpa using hc)
    have hb : (nextK l.ck).2 = 0 := by simpa using hb
    unfold nextK at hb ⊢
    rw [if_pos ok.ck] at hb ⊢
    unfold kNextM; rw [if_pos ok]
    by_cases h : l.ck.ag.heap.length = 0
    · rw [if_pos h] at hb; cases hb
    · rw [if_neg h, if_neg h]; exact ⟨rfl, Hp.le_refl _⟩

set_option maxHeartbeats 1000000 in
def askT (t : Int × Int) : Int := if okR t then (if t.1 > 1073741824 ∨ t.1 < -1073741824 ∨ t.2 > 1024 then 2 else 0) else 8
theorem askT_zero {t : Int × Int} : askT t = 0 ↔ okR t ∧ -1073741824 ≤ t.1 ∧ t.1 ≤ 1073741824 ∧ t.2 ≤ 1024 := by
  unfold askT
  split
  · split
    · simp; omega
    · simp [*]; omega
  · simp [*]
theorem refAskT {H : Hp} {t : Int × Int} (ft : fitR t) : Qf Tryz.prog F.pelotonref01_Asked #[sI2 t.1 t.2] H (.int .i64 (askT t)) := by
  refine pelotonref01_Asked_vc ⟨_, refRCheck ft, fun hc => ⟨_, refRCheck ft, ?_, Hp.le_refl _⟩, fun hc => ⟨fun hb => ⟨?_, Hp.le_refl _⟩, fun hb => ⟨?_, Hp.le_refl _⟩⟩⟩
  · have : ¬ okR t := fun h => by rw [chkR_ok h] at hc; simp at hc
    unfold askT; rw [if_neg this, chkR_bad this]
  · have : okR t := chkR_zero.1 (by simpa using hc)
    simp only [Bool.or_eq_true, decide_eq_true_eq] at hb
    unfold askT; rw [if_pos this, if_pos (by omega)]
  · have : okR t := chkR_zero.1 (by simpa using hc)
    simp only [Bool.or_eq_false_iff, decide_eq_false_iff_not] at hb
    unfold askT; rw [if_pos this, if_neg (by omega)]
end Go.Proofs.YtkemdpobjaiolaaGreat
end
