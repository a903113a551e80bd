/- Agendas: new ones. Conditions: none. -/
import Derived.Test.YtmnbekffebdfmaaG7
import Derived.Test.YtmnbekffebdfmaaR3
import Derived.Test.YtmnbekffebdfmaaVgAgenda
import Derived.Test.YtmnbekffebdfmaaVgStd
import Derived.Test.YtmnbekffebdfmaaFs
set_option linter.unusedVariables false
set_option maxRecDepth 100000
open Go Go.Eng Go.Proofs
namespace Go.Eng
/-- copy into a row: elements of one cell each. -/
theorem copyRow {P : Program} {t t2 ty e : TypeId} {x : TypeDesc} {cs : Array Bool} (ht : P.underlying t = some (.slice e)) (he : P.underlying e = some x) (h1 : P.cellsOf e = 1)
    {H : Hp} {b off n c : Nat} {cells : Array Value} {T : TypeId} (hb : H b = some (.cells cells T (0, 0))) {q : Addr} {m c' : Nat} {vs : List Value} (hl : vs.length = m.min n)
    (hvs : ∀ j v, vs[j]? = some v → H.at (q.add j) = some v) (hone : ∀ v ∈ vs, v.oneCell' = true) (hsz : off + vs.length ≤ cells.size) :
    OpSem P (bcall .copy #[t, t2] ty cs [.slice (some ⟨b, off, none⟩) n c, .slice (some q) m c']) H fun v H' => v = .int .i64 (vs.length : Int) ∧
      H' = H.put b (.cells (cells.toList.take off ++ vs ++ cells.toList.drop (off + vs.length)).toArray T (0, 0)) := by
  intro w hv
  have hld := run_loadCells_list (P := P) w q vs (fun j v h => hv.cell (hvs j v h))
  have hst := run_storeCells_at (P := P) b off T vs 0 cells w (hv b _ hb) (by omega) hone
  simp only [Nat.add_zero] at hst
  refine ⟨.int .i64 (vs.length : Int), w.setRow b (cells.toList.take off ++ vs ++ cells.toList.drop (off + vs.length)).toArray, _, .inl ?_, Tr.setRow hv hb _, rfl, rfl⟩
  have hcp : (Builtin.copy_ #[t, t2] ty #[.slice (some ⟨b, off, none⟩) n c, .slice (some q) m c']).run P w = .ok (.int .i64 (vs.length : Int)) (w.setRow b (cells.toList.take off ++ vs ++ cells.toList.drop (off + vs.length)).toArray) := by
    unfold Builtin.copy_
    simp only [List.getElem?_toArray, List.getElem?_cons_zero, List.getElem?_cons_succ]
    rw [Sem.run_bind, run_underlying ht, Result.andThen_ok]
    simp only []
    rw [Sem.run_bind, show (Builtin.lenOf (.slice (some q) m c')).run P w = .ok m w from rfl, Result.andThen_ok]
    rw [Sem.run_bind, run_sizeOf he, Result.andThen_ok, h1]
    rw [Sem.run_bind, show Builtin.firstCells 1 (m.min n) (.slice (some q) m c') = loadCells q (m.min n * 1) from rfl, Nat.mul_one, ← hl, hld, Result.andThen_ok]
    simp only []
    rw [Sem.run_bind]
    rw [hst, Result.andThen_ok]
    rfl
  simp [bcall, Go.builtin, hcp]
end Go.Eng
namespace Go.Proofs.Ytmnbekffebdfmaa

theorem bitsMul {H : Hp} {x y : Int} (hx : 0 ≤ x) (hx' : x < 18446744073709551616) (hy : 0 ≤ y) (hy' : y < 18446744073709551616) :
    Qf Try.prog F.math_bits_Mul #[.int .u64 x, .int .u64 y] H (.tuple #[.int .u64 (x * y / 18446744073709551616), .int .u64 (x * y % 18446744073709551616)]) :=
  math_bits_Mul_vc ⟨fun h => (by cases h), fun _ => ⟨_, _, mul64 hx hx' hy hy', rfl, Hp.le_refl _⟩⟩

def negs (N k : Nat) : List Value := List.replicate k (.int .i64 (-1)) ++ List.replicate (N - k) (.int .i64 0)
theorem negs_len {N k : Nat} (h : k ≤ N) : (negs N k).length = N := by simp [negs]; omega
theorem negs_step {N k l : Nat} (h : k + l ≤ N) : (negs N k).take k ++ List.replicate l (.int .i64 (-1)) ++ (negs N k).drop (k + l) = negs N (k + l) := by
  unfold negs
  rw [List.take_left' (by simp), List.drop_append, List.drop_eq_nil_of_le (by simp), List.drop_replicate, List.replicate_append_replicate, List.length_replicate, List.nil_append]
  congr 2
  omega

theorem repeatInt {H : Hp} {N b : Nat} (h1 : 1 ≤ N) (h2 : N ≤ 200) (hx : H.at ⟨b, 0, none⟩ = some (.int .i64 (-1))) :
    Go.Eng.Fn Try.prog F.slices_Repeat_int_int #[.slice (some ⟨b, 0, none⟩) 1 1, .int .i64 (N : Int)] H fun v H' => Hp.le H H' ∧ ∃ u : Slc, v = u.v ∧ Mine 1 fI T.int H H' u (List.replicate N (-1)) := by
  have e1 : wrapU (1 : Int) = 1 := by decide
  have eN : wrapU (N : Int) = N := by unfold wrapU; omega
  have ew : IntKind.i64.wrap (N : Int) = N := by rw [i64w]; omega
  refine slices_Repeat_int_int_vc (x := ⟨some ⟨b, 0, none⟩, 1, 1⟩) ⟨fun h => by simp at h; omega, fun _ => ⟨0, (N : Int), ?_, fun h => by simp at h; omega, fun _ => ?_⟩⟩
  · have := bitsMul (H := H) (x := wrapU (((1 : Nat) : Int))) (y := wrapU (N : Int)) (by decide) (by decide) (by rw [eN]; omega) (by rw [eN]; omega)
    rw [show wrapU (((1 : Nat) : Int)) = 1 from e1, eN, show (1 : Int) * N / 18446744073709551616 = 0 by omega, show (1 : Int) * N % 18446744073709551616 = N by omega] at this
    rw [show wrapU (((1 : Nat) : Int)) = 1 from e1, eN]
    exact this
  rw [ew, Int.toNat_natCast]
  refine ⟨⟨rfl, by omega, by omega⟩, fun b3 H4 hb3 hH4 => ?_⟩
  have hne : b3 ≠ b := fun e => by subst e; unfold Hp.at at hx; rw [hb3] at hx; cases hx
  have c0 : (List.replicate N [Value.int .i64 0]).flatten.toArray = (negs N 0).toArray := by simp [negs]
  have le4 : Hp.le H H4 := Hp.le_new (Hp.le_refl _) hb3 hH4
  rw [c0] at hH4
  have hb4 : H4 b3 = some (.cells (negs N 0).toArray 3 (0, 0)) := by rw [hH4]; exact Hp.put_same ..
  have st := copyRow (P := Try.prog) (t := 22) (t2 := 22) (ty := 3) (e := 3) (cs := #[false, false]) Try.underlying22 Try.underlying3 (by kernel_rfl) (H := H4) (off := 0) (n := N) (c := N) hb4 (q := ⟨b, 0, none⟩) (m := 1) (c' := 1) (vs := [.int .i64 (-1)]) (by simp [Nat.min_def]; omega)
    (fun j v hj => by
      have : j = 0 := by have := (List.getElem?_eq_some_iff.1 hj).1; simp at this; exact this
      subst this; simp at hj; subst hj; rw [add_zero']; exact Hp.at_le le4 hx) (fun v hv => by simp at hv; subst hv; rfl) (by simp [negs]; omega)
  refine st.mono fun v H6 ⟨hv, hH6⟩ => ⟨1, hv, ?_⟩
  have e6 : H6 = H.put b3 (.cells (negs N 1).toArray 3 (0, 0)) := by
    rw [hH6, hH4, Hp.put_put]
    have := negs_step (N := N) (k := 0) (l := 1) (by omega)
    rw [← this]; rfl
  refine ⟨fun n H' => ∃ k : Nat, n = k ∧ 1 ≤ k ∧ k ≤ N ∧ H' = H.put b3 (.cells (negs N k).toArray 3 (0, 0)), fun n _ => (N - n).toNat, ⟨1, rfl, by omega, h1, e6⟩, fun n H11 ⟨k, hn, k1, k2, hH⟩ => ?_⟩
  subst hn
  refine ⟨fun hlt => ⟨⟨by omega, by omega, by omega, by omega⟩, ⟨by omega, by omega, by omega, by omega⟩, ?_⟩, fun hge => ?_⟩
  · have hlt : k < N := by have : (k : Int) < N := by simpa using hlt
                           omega
    have hb11 : H11 b3 = some (.cells (negs N k).toArray 3 (0, 0)) := by rw [hH]; exact Hp.put_same ..
    have hsub : subA (some ⟨b3, 0, none⟩) (Try.prog.cellsOf 3) (k : Int) (N : Int) = some ⟨b3, k, none⟩ := by
      unfold subA
      rw [if_neg (by omega), show Try.prog.cellsOf 3 = 1 by kernel_rfl]
      simp only [Option.map_some, Addr.add_lit, Int.toNat_natCast, Nat.zero_add, Nat.mul_one]
    rw [hsub, subA_zero]
    have st := copyRow (P := Try.prog) (t := 22) (t2 := 22) (ty := 3) (e := 3) (cs := #[false, false]) Try.underlying22 Try.underlying3 (by kernel_rfl) (H := H11) (off := k) (n := (N : Int).toNat - (k : Int).toNat) (c := (N : Int).toNat - (k : Int).toNat) hb11 (q := ⟨b3, 0, none⟩) (m := (k : Int).toNat - Int.toNat 0) (c' := (N : Int).toNat - Int.toNat 0) (vs := List.replicate (min k (N - k)) (.int .i64 (-1))) (by simp [Nat.min_def])
      (fun j v hj => by
        have hjl := (List.getElem?_eq_some_iff.1 hj).1
        rw [List.length_replicate] at hjl
        rw [List.getElem?_replicate, if_pos hjl] at hj
        cases hj
        rw [add_off, Cel.at hb11]
        rw [show (0 + j) = j from Nat.zero_add j]
        rw [List.getElem?_toArray]
        unfold negs
        rw [List.getElem?_append_left (by rw [List.length_replicate]; omega), List.getElem?_replicate, if_pos (by omega)]) (fun v hv => by rw [List.mem_replicate] at hv; rw [hv.2]; rfl) (by simp [negs_len k2]; omega)
    refine st.mono fun v H13 ⟨hv, hH13⟩ => ⟨_, hv, ?_⟩
    rw [List.length_replicate] at hH13 ⊢
    refine ⟨by unfold inI; omega, ⟨k + min k (N - k), by omega, by omega, by omega, ?_⟩, by show ((N : Int) - ((k : Int) + (min k (N - k) : Nat))).toNat < ((N : Int) - (k : Int)).toNat; omega⟩
    rw [hH13, hH, Hp.put_put]
    have := negs_step (N := N) (k := k) (l := min k (N - k)) (by omega)
    rw [← this]
  · have hge : ¬ (k : Int) < N := by simpa using hge
    have : k = N := by omega
    subst this
    have le11 : Hp.le H H11 := Hp.le_new (Hp.le_refl _) hb3 hH
    refine ⟨le11, ⟨some ⟨b3, 0, none⟩, k, k⟩, rfl, ?_⟩
    have := made_mine (g := fun x => Value.int .i64 x) (e := 3) hfI (n := (k : Int)) (z := (-1 : Int)) hb3 hH (by simp [negs])
    rw [Int.toNat_natCast] at this
    exact this

theorem agendaNew {H : Hp} {n : Int} :
    Go.Eng.Fn Try.prog F.agenda_New #[.int .i64 n] H fun v H' => ∃ v1 v2 v3 v4 v5 : Slc, v = .tuple #[agV v1 v2 v3 v4 v5, .int .i64 (newA n).2] ∧ NewA H H' v1 v2 v3 v4 v5 (newA n).1 := by
  refine agenda_New_vc (slotNew.mono fun v H2 ⟨s1, s2, s3, hv, nt⟩ => ⟨s1, s2, s3, _, hv, ?_⟩)
  unfold newM at nt ⊢
  unfold newA
  by_cases h : n < 1 ∨ n > 200
  · rw [if_pos h] at nt ⊢
    rw [if_pos h]
    exact ⟨fun _ => ⟨zs, zs, zs, zs, zs, rfl, NewA.zero nt.le⟩, fun he => by simp at he⟩
  · rw [if_neg h] at nt ⊢
    rw [if_neg h]
    refine ⟨fun he => by simp at he, fun _ b7 H8 hb7 hH8 => ?_⟩
    have le8 : Hp.le H2 H8 := Hp.le_new (Hp.le_refl _) hb7 hH8
    have hx : H8.at ⟨b7, 0, none⟩ = some (.int .i64 (-1)) := by rw [hH8, Cel.at Cel.put]; rfl
    have := repeatInt (N := n.toNat) (by omega) (by omega) hx
    rw [Int.toNat_of_nonneg (by omega)] at this
    refine this.mono fun v H10 ⟨l10, u, hv, m⟩ => ⟨l10, u, hv, s1, s2, s3, zs, u, rfl, ?_⟩
    have o := nt.old
    exact ⟨nt.up (Hp.le_trans le8 l10), .inl ⟨rfl, rfl⟩, m.low (Hp.le_trans nt.le le8), Sep.nil.symm, ⟨Sep.nil, Sep.nil, Sep.nil⟩, ⟨Sep.of (o.le le8).1 m.isNew, Sep.of (o.le le8).2.1 m.isNew, Sep.of (o.le le8).2.2 m.isNew⟩⟩

theorem refABegin {H : Hp} {N : Nat} (h1 : 1 ≤ N) (h2 : N ≤ 200) :
    Go.Eng.Fn Try.prog F.pelotonref07_Begin #[.int .i64 (N : Int)] H fun v H' => ∃ v1 v2 v3 v4 v5 : Slc, v = agV v1 v2 v3 v4 v5 ∧ NewA H H' v1 v2 v3 v4 v5 (beginA N) := by
  refine pelotonref07_Begin_vc ((refBegin h1 h2).mono fun v H2 ⟨s1, s2, s3, hv, nt⟩ => ⟨s1, s2, s3, hv, ?_⟩)
  refine ⟨fun n u9 u10 u11 u12 u13 H' => u9 = s1 ∧ u10 = s2 ∧ u11 = s3 ∧ u12 = zs ∧ ∃ k : Nat, n = k ∧ k ≤ N ∧ Hp.le H2 H' ∧ Mine 1 fI T.int H2 H' u13 (List.replicate k (-1)), fun n _ _ _ _ _ _ => (N - n).toNat, ⟨rfl, rfl, rfl, rfl, 0, rfl, by omega, Hp.le_refl _, .inl ⟨rfl, rfl⟩⟩, fun n u9 u10 u11 u12 u13 H' ⟨e1, e2, e3, e4, k, hn, hk, l, m⟩ => ?_⟩
  subst e1; subst e2; subst e3; subst e4; subst hn
  refine ⟨fun hlt b15 H16 hb15 hH16 => ?_, fun hge => ?_⟩
  · have hlt : k < N := by have : (k : Int) < N := by simpa using hlt
                           omega
    refine (append1 (k := 1) (f := fI) (bytes := 8) (x := -1) (e := T.int) (by kernel_rfl) (by decide) (fun _ => rfl) (fun x v hv => by simp [fI] at hv; subst hv; rfl) l m hb15 hH16 rfl (by simp; omega) (by omega)).mono fun v H18 ⟨w, hw, l18, mw, _, _⟩ => ⟨w, hw, by unfold inI; omega, ⟨rfl, rfl, rfl, rfl, k + 1, by omega, by omega, l18, ?_⟩, ?_⟩
    · rw [List.replicate_succ']; exact mw
    · show ((N : Int) - ((k : Int) + 1)).toNat < ((N : Int) - (k : Int)).toNat; omega
  · have hge : ¬ (k : Int) < N := by simpa using hge
    have : k = N := by omega
    subst this
    have o := nt.old
    exact ⟨u9, u10, u11, zs, u13, rfl, nt.up l, .inl ⟨rfl, rfl⟩, m.low nt.le, Sep.nil.symm, ⟨Sep.nil, Sep.nil, Sep.nil⟩, ⟨Sep.of o.1 m.isNew, Sep.of o.2.1 m.isNew, Sep.of o.2.2 m.isNew⟩⟩

theorem refANew {H : Hp} {n : Int} :
    Go.Eng.Fn Try.prog F.pelotonref07_New #[.int .i64 n] H fun v H' => ∃ v1 v2 v3 v4 v5 : Slc, v = .tuple #[agV v1 v2 v3 v4 v5, .int .i64 (newA n).2] ∧ NewA H H' v1 v2 v3 v4 v5 (newA n).1 := by
  unfold newA
  refine pelotonref07_New_vc ⟨fun hc => ?_, fun hc => ?_⟩
  · rw [if_pos (by simpa using hc)]
    exact ⟨zs, zs, zs, zs, zs, rfl, NewA.zero (Hp.le_refl _)⟩
  · have h : ¬ (n < 1 ∨ n > 200) := by simpa using hc
    rw [if_neg h]
    have := refABegin (H := H) (N := n.toNat) (by omega) (by omega)
    rw [Int.toNat_of_nonneg (by omega)] at this
    exact this.mono fun v H2 ⟨v1, v2, v3, v4, v5, hv, nn⟩ => ⟨v1, v2, v3, v4, v5, hv, v1, v2, v3, v4, v5, rfl, nn⟩
end Go.Proofs.Ytmnbekffebdfmaa
