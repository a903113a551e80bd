/- The engine, parts N5, N6, KM, N7, put together. Conditions: none. -/
import Derived.Test.YtkemdpobjaiolaaGreatPN1
import Derived.Test.YtkemdpobjaiolaaGreatVgStd
import Derived.Test.YtkemdpobjaiolaaGreatFs
import Derived.Test.YtkemdpobjaiolaaGreatPL7
import Derived.Test.YtkemdpobjaiolaaGreatVgKlist
import Derived.Test.YtkemdpobjaiolaaGreatVgBase
set_option linter.unusedVariables false
section
/- The law SpanFinds. Conditions: none. -/
set_option maxRecDepth 100000
open Go Go.Eng Go.Proofs
namespace Go.Proofs.YtkemdpobjaiolaaGreat

theorem okR.eq_of {a b : Int × Int} (ha : okR a) (hb : okR b) (h : a.1 * b.2 = b.1 * a.2) : a = b := by
  have h1 := ha.d1; have h2 := hb.d1
  have hn : a.1.natAbs * b.2.natAbs = b.1.natAbs * a.2.natAbs := by rw [← Int.natAbs_mul, ← Int.natAbs_mul, h]
  have d1 : a.2.natAbs ∣ b.2.natAbs := by
    have c : Nat.Coprime a.2.natAbs a.1.natAbs := Nat.Coprime.symm ha.g
    exact Nat.Coprime.dvd_of_dvd_mul_left c (by rw [hn]; exact Nat.dvd_mul_left ..)
  have d2 : b.2.natAbs ∣ a.2.natAbs := by
    have c : Nat.Coprime b.2.natAbs b.1.natAbs := Nat.Coprime.symm hb.g
    exact Nat.Coprime.dvd_of_dvd_mul_left c (by rw [← hn]; exact Nat.dvd_mul_left ..)
  have e := Nat.dvd_antisymm d1 d2
  have e2 : a.2 = b.2 := by omega
  rw [e2] at h
  have e1 : a.1 = b.1 := Int.eq_of_mul_eq_mul_right (by omega) h
  exact Prod.ext e1 e2
theorem okLs.ne {l : Ls} (ok : okLs l) : l.ord.Pairwise (· ≠ ·) := by
  have hi := (sortM_sorted (okF_ids ok.ck.f) l.ck.now).ids (okF_ids ok.ck.f)
  have ho : l.ord = (sortM l.ck.f l.ck.now).map (·.1) := ok.ord
  rw [ho]
  exact List.pairwise_map.2 hi

theorem Desc.least {xs : List (Int × Int)} (d : Desc xs) {a b : Int} (a0 : 0 ≤ a) (a1 : a < xs.length) (b0 : 0 ≤ b) (b1 : b < xs.length) :
    (if cmpR (xs.getD a.toNat (0, 0)) (xs.getD b.toNat (0, 0)) < 0 then xs.getD a.toNat (0, 0) else xs.getD b.toNat (0, 0)) = xs.getD (if a > b then a else b).toNat (0, 0) := by
  have ha := getX (d := ((0 : Int), (0 : Int))) a0 a1
  have hb := getX (d := ((0 : Int), (0 : Int))) b0 b1
  rcases Int.lt_trichotomy a b with h | h | h
  · have := d.ge a.toNat b.toNat _ _ (by omega) ha hb
    rw [if_neg (by omega), if_neg (by omega)]
  · subst h; simp
  · have := d.ge b.toNat a.toNat _ _ (by omega) hb ha
    rw [if_pos h]
    split
    · rfl
    · rename_i hc
      refine okR.eq_of (d.ok _ (List.mem_of_getElem? hb)) (d.ok _ (List.mem_of_getElem? ha)) ?_
      rw [cmpR_ge] at this
      have hc : 0 ≤ cmpR (xs.getD a.toNat (0, 0)) (xs.getD b.toNat (0, 0)) := by omega
      rw [cmpR_ge] at hc
      omega

def kNextM (l : Ls) : (Int × Int) × Int := if okLs l then (if l.ck.ag.heap.length = 0 then ((0, 0), 6) else ((hp l.ck.ag.heap 0).at_, 0)) else ((0, 0), 8)
theorem kNext {H : Hp} {u : Lu} {l : Ls} (r : RdL H u l) (fl : fitL l) :
    Qf Tryz.prog F.klist_Next #[lsV u l] H (.tuple #[sI2 (kNextM l).1.1 (kNextM l).1.2, .int .i64 (kNextM l).2]) := by
  have cn := clockNext r.k fl.k
  refine klist_Next_vc ⟨_, klistCheck r fl, fun hc => ?_, fun hc => ⟨_, _, _, _, _, _, cn, fun hb => ?_, fun hb => ?_⟩⟩
  · have hn : ¬ okLs l := fun ok => by rw [chkLs_ok ok] at hc; simp at hc
    unfold kNextM; rw [if_neg hn, chkLs_bad hn]; exact ⟨rfl, Hp.le_refl _⟩
  · have ok : okLs l := chkLs_zero.1 (by simpa using hc)
    have hb : (nextK l.ck).2 ≠ 0 := by simpa using hb
    unfold nextK at hb
    rw [if_pos ok.ck] at hb
    unfold kNextM; rw [if_pos ok]
    by_cases h : l.ck.ag.heap.length = 0
    · rw [if_pos h]; exact ⟨rfl, Hp.le_refl _⟩
    · rw [if_neg h] at hb; exact absurd rfl hb
  · have ok : okLs l := chkLs_zero.1 (by simpa using hc)
    have hb : (nextK l.ck).2 = 0 := by simpa using hb
    unfold nextK at hb ⊢
    rw [if_pos ok.ck] at hb ⊢
    unfold kNextM; rw [if_pos ok]
    by_cases h : l.ck.ag.heap.length = 0
    · rw [if_pos h] at hb; cases hb
    · rw [if_neg h, if_neg h]; exact ⟨rfl, Hp.le_refl _⟩
theorem refKNext {H : Hp} {u : Lu} {l : Ls} (r : RdL H u l) (fl : fitL l) :
    Qf Tryz.prog F.pelotonref25_Next #[lsV u l] H (.tuple #[sI2 (kNextM l).1.1 (kNextM l).1.2, .int .i64 (kNextM l).2]) := by
  have lh := r.k.ag.heap.len
  refine pelotonref25_Next_vc ⟨_, refLCheck r fl, fun hc => ⟨_, refLCheck r fl, ?_⟩, fun hc => ⟨fun hb => ?_, fun hb => ?_⟩⟩
  · have hn : ¬ okLs l := fun ok => by rw [chkLs_ok ok] at hc; simp at hc
    unfold kNextM; rw [if_neg hn, chkLs_bad hn]; exact ⟨rfl, Hp.le_refl _⟩
  · have ok : okLs l := chkLs_zero.1 (by simpa using hc)
    have hb : (u.k.u4.n : Int) = 0 := by simpa using hb
    unfold kNextM; rw [if_pos ok, if_pos (by omega)]; exact ⟨rfl, Hp.le_refl _⟩
  · have ok : okLs l := chkLs_zero.1 (by simpa using hc)
    have hb : (u.k.u4.n : Int) ≠ 0 := by simpa using hb
    have ge := r.k.ag.heap.gE (i := 0) (by omega) (by omega)
    unfold kNextM; rw [if_pos ok, if_neg (by omega)]
    exact ⟨r.k.ag.heap.inS (by omega) (by omega), _, _, ⟨ge.1, ge.2.1⟩, rfl, Hp.le_refl _⟩


end Go.Proofs.YtkemdpobjaiolaaGreat
end
