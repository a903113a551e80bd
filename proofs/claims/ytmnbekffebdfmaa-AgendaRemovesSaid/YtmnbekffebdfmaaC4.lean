/- Contracts of cert and pelotonref08, fourth part. Conditions: none. -/
import Derived.Test.YtmnbekffebdfmaaC3
import Derived.Test.YtmnbekffebdfmaaVgCert
import Derived.Test.YtmnbekffebdfmaaVgStd
import Derived.Test.YtmnbekffebdfmaaFs
set_option linter.unusedVariables false
set_option maxRecDepth 100000
open Go Go.Eng Go.Proofs
namespace Go.Proofs.Ytmnbekffebdfmaa

theorem certThose {H Hb : Hp} {u v0 : Slc} {c : Ct} {fv : Value} {p : Int × Int → Bool} {J : Int → Hp → Prop} (hl : c.list.length ≤ 1000000)
    (hJ : ∀ n H', J n H' → Hp.le Hb H' ∧ Old H' v0 ∧ Rd 3 fD H' u c.list) (j0 : J 0 H)
    (hb : ∀ (n : Int) H' (x : Int × Int × Int), 0 ≤ n → c.list[n.toNat]? = some x → J n H' → FnV Try.prog fv [.agg #[.int .i64 x.2.1, .int .i64 x.2.2]] H' fun v H'' => v = .bool (p x.2) ∧ J (n + 1) H'' ∧ Chg H' H'' v0)
    (ha : ∀ n H' H'' w, J n H' → Chg H' H'' w → Sep w v0 → New Hb w → J n H'') :
    Go.Eng.Fn Try.prog F.cert_those #[.agg #[.int .i64 c.next, u.v], fv] H fun v H' => ∃ w : Slc, v = w.v ∧ J c.list.length H' ∧ Mine 1 fI T.int Hb H' w (thoseC c p) ∧ Sep w v0 := by
  have lu := (hJ 0 H j0).2.2.len
  refine cert_those_vc ⟨fun w i H' => 0 ≤ i ∧ i ≤ c.list.length ∧ J i H' ∧ Mine 1 fI T.int Hb H' w (((c.list.take i.toNat).filter fun h => p h.2).map (·.1)) ∧ Sep w v0, fun _ i _ => (c.list.length - i).toNat,
    ⟨Int.le_refl _, by omega, j0, .inl ⟨rfl, by simp⟩, fun p q hp _ => by cases hp⟩, fun w i H' ⟨i0, i1, i2, i3, i4⟩ => ⟨fun hn => ?_, fun hn => ?_⟩⟩
  · have hn : i < c.list.length := by have : i < u.n := by simpa using hn
                                      omega
    have hg := getX (d := ((0 : Int), (0 : Int), (0 : Int))) i0 hn
    obtain ⟨le', old', rd'⟩ := hJ i H' i2
    have h2 := rd'.gD i0 hn
    generalize c.list.getD i.toNat (0, 0, 0) = x at hg h2
    have e1 : (i + 1).toNat = i.toNat + 1 := by omega
    have ht := thoseC_take (p := p) hg
    refine ⟨rd'.inS i0 hn, _, _, _, h2, (hb i H' x i0 hg i2).mono fun v H10 ⟨hv, j10, ch⟩ => ⟨p x.2, hv, fun hp => fun b12 H13 hb12 hH13 => ?_, fun hp => ⟨by unfold inI; omega, ⟨by omega, by omega, j10, ?_, i4⟩, ?_⟩⟩⟩
    · obtain ⟨le10, old10, rd10⟩ := hJ _ H10 j10
      have m10 := i3.chg ch i4
      have hlen : (((c.list.take i.toNat).filter fun h => p h.2).map (·.1)).length ≤ 100000000 := by
        rw [List.length_map]; exact Nat.le_trans (filter_len _ _ _) (by omega)
      refine (append1 (k := 1) (f := fI) (bytes := 8) (x := x.1) (by kernel_rfl) (by decide) (fun _ => rfl) (fun x v hv => by simp [fI] at hv; subst hv; rfl) le10 m10 hb12 hH13 rfl hlen (by omega)).mono fun v H14 ⟨w', hw, l14, mw, hc, he⟩ => ?_
      refine ⟨w', hw, by unfold inI; omega, ⟨by omega, by omega, ha _ _ _ w j10 hc i4 m10.isNew, ?_, i4.ext old10 he⟩, ?_⟩
      · rw [e1, ht, if_pos hp]; exact mw
      · show ((c.list.length : Int) - (i + 1)).toNat < ((c.list.length : Int) - i).toNat; omega
    · rw [e1, ht, if_neg (by rw [hp]; simp), List.append_nil]; exact i3.chg ch i4
    · show ((c.list.length : Int) - (i + 1)).toNat < ((c.list.length : Int) - i).toNat; omega
  · have : i = c.list.length := by have : ¬ i < u.n := by simpa using hn
                                   omega
    subst this
    rw [Int.toNat_natCast, List.take_length] at i3
    exact ⟨w, rfl, i2, i3, i4⟩

theorem Hp.le.chg {H H' : Hp} {v : Slc} (h : Hp.le H H') : Chg H H' v := fun b hb _ => by
  obtain ⟨o, ho⟩ := Option.ne_none_iff_exists'.1 hb
  rw [ho]; exact h b o ho

theorem Old.zs {H : Hp} : Old H zs := fun p hp => by unfold Go.Eng.zs at hp; cases hp

theorem certOf {H : Hp} {u : Slc} {c : Ct} {id : Int} (h : Rd 3 fD H u c.list) :
    Go.Eng.Fn Try.prog F.cert_Of #[.agg #[.int .i64 c.next, u.v], .int .i64 id] H fun v H' => ∃ a : Slc, v = .tuple #[a.v, .int .i64 (ofC c id).2] ∧ Hp.le H H' ∧ Mine 1 fI T.int H H' a (ofC c id).1 := by
  refine cert_Of_vc fun b1 H2 hb1 hH2 => ?_
  have le2 : Hp.le H H2 := Hp.le_new (Hp.le_refl _) hb1 hH2
  have v2 : Var H2 b1 (.int .i64 id) T.int := Var.new hH2
  refine ⟨_, certCheck (h.le le2), fun hc => ?_, fun hc => ?_⟩
  · have hc : chkC c ≠ 0 := by simpa using hc
    have h8 : chkC c = 8 := by unfold chkC at *; split at hc <;> simp_all
    have : ofC c id = ([], 8) := by unfold ofC; rw [if_neg fun ok => hc (chkC_ok ok)]
    rw [this, h8]; exact ⟨zs, rfl, le2, .inl ⟨rfl, rfl⟩⟩
  have hc : chkC c = 0 := by simpa using hc
  have ok := chkC_zero.1 hc
  have := ok.len
  have e : ofC c id = (thoseC c fun x => x.1 == id || x.2 == id, 0) := by unfold ofC; rw [if_pos ok]
  rw [e]
  have key := certThose (H := H2) (Hb := H2) (u := u) (v0 := zs) (c := c) (fv := .func (.func F.cert_Of_1) #[] #[.pointer (some ⟨b1, 0, none⟩)]) (J := fun _ H' => Hp.le H2 H') (p := fun x => x.1 == id || x.2 == id) (by omega)
    (fun n H' hj => ⟨hj, Old.zs, (h.le le2).le hj⟩) (Hp.le_refl _)
    (fun n H' x _ _ hj => ⟨F.cert_Of_1, #[], _, rfl, cert_Of_1_callable, cert_Of_1_vc (p1 := ⟨b1, 0, none⟩) ⟨_, (v2.le hj).at, _, fun _ => (v2.le hj).at, rfl, hj, Hp.le.chg (Hp.le_refl _)⟩⟩)
    (fun n H' H'' w hj hc _ hn => Hp.le_chg hj hc hn)
  exact key.mono fun v H' ⟨w, hv, hl, m, _⟩ => ⟨w, hv, w, rfl, Hp.le_trans le2 hl, m.low le2⟩

theorem delete_held {H0 H : Hp} {s : Slc} {xs : List (Int × Int × Int)} {i : Int} (hl : Hp.le H0 H) (h : Mine 3 fD T.api_Held H0 H s xs) (h0 : 0 ≤ i) (h1 : i < xs.length) :
    Go.Eng.Fn Try.prog F.slices_Delete_api_Held_api_Held #[s.v, .int .i64 i, .int .i64 (i + 1)] H fun v H' => ∃ u : Slc, v = u.v ∧ Hp.le H0 H' ∧ Mine 3 fD T.api_Held H0 H' u (xs.take i.toNat ++ xs.drop (i.toNat + 1)) := by
  refine slices_Delete_api_Held_api_Held_vc (delete_mine (k := 3) (f := fD) (bytes := 24) (j := i + 1) (post := fun v H' => ∃ u : Slc, v = u.v ∧ Hp.le H0 H' ∧ Mine 3 fD T.api_Held H0 H' u (xs.take i.toNat ++ xs.drop (i.toNat + 1))) (by kernel_rfl) (by kernel_rfl) (by decide) (fun _ => rfl) (fun x v hv => by simp [fD] at hv; rcases hv with rfl | rfl | rfl <;> rfl) (by kernel_rfl) hl h h0 (by omega) (by omega) fun u H' g1 g2 _ _ => ⟨u, rfl, g1, ?_⟩)
  rw [show i.toNat + 1 = (i + 1).toNat by omega]; exact g2

theorem certRemove {H : Hp} {u : Slc} {c : Ct} {n : Int} (h : Rd 3 fD H u c.list) :
    Go.Eng.Fn Try.prog F.cert_Remove #[.agg #[.int .i64 c.next, u.v], .int .i64 n] H fun v H' => ∃ a : Slc, v = .tuple #[.agg #[.int .i64 (removeC c n).1.next, a.v], .agg #[.int .i64 (removeC c n).2.1.1, .int .i64 (removeC c n).2.1.2], .int .i64 (removeC c n).2.2] ∧ NewC H H' a (removeC c n).1 := by
  refine cert_Remove_vc ⟨_, _, certFind (n := n) h, fun hc => ?_, fun hc => ?_⟩
  · have hc : (getC c n).2 ≠ 0 := by simpa using hc
    have : removeC c n = (.zero, (0, 0), (getC c n).2) := by unfold removeC; rw [if_neg hc]
    rw [this]; exact ⟨zs, rfl, NewC.zero (Hp.le_refl _)⟩
  have hc : (getC c n).2 = 0 := by simpa using hc
  obtain ⟨ok, g0, g1, gn, ge⟩ := getC_ok hc
  have := ok.len
  have hr : removeC c n = (withoutC c n, (getC c n).1, 0) := by unfold removeC; rw [if_pos hc]
  rw [hr, hc, if_pos rfl]
  have hg := getX (d := ((0 : Int), (0 : Int), (0 : Int))) g0 g1
  have hw : (withoutC c n).list = c.list.take (atC c n).toNat ++ c.list.drop ((atC c n).toNat + 1) := by
    rw [filter_erase ok.ok.inc hg]
    unfold withoutC
    simp only
    congr 1
    funext y
    have : (c.list.getD (atC c n).toNat (0, 0, 0)).1 = n := gn
    rw [this]
  have fin : ∀ {H6 H9 : Hp} {a : Slc}, Hp.le H H9 → Mine 3 fD T.api_Held H H9 a (c.list.take (atC c n).toNat ++ c.list.drop ((atC c n).toNat + 1)) → NewC H H9 a (withoutC c n) := fun hl hm => ⟨hl, by rw [hw]; exact hm⟩
  have hv : ∀ a : Slc, (Value.tuple #[.agg #[.int .i64 c.next, a.v], .agg #[.int .i64 (c.list.getD (atC c n).toNat (0, 0, 0)).2.1, .int .i64 (c.list.getD (atC c n).toNat (0, 0, 0)).2.2], .int .i64 0]) = .tuple #[.agg #[.int .i64 (withoutC c n).next, a.v], .agg #[.int .i64 (getC c n).1.1, .int .i64 (getC c n).1.2], .int .i64 0] := fun a => by
    rw [ge]; rfl
  refine ⟨by unfold inI; omega, h.inS g0 g1, ⟨_, _, h.gD2 g0 g1, ?_⟩, ?_⟩
  · refine (clone_held h (by omega)).mono fun v H6 ⟨a, hva, l6, m⟩ => ⟨l6, a, hva, (delete_held l6 m g0 g1).mono fun v H9 ⟨b, hvb, l9, m9⟩ => ⟨b, hvb, b, hv b, fin (H6 := H6) l9 m9⟩⟩
  · refine (clone_held h (by omega)).mono fun v H6 ⟨a, hva, l6, m⟩ => ⟨l6, a, hva, ⟨_, _, (h.le l6).gD2 g0 g1, (delete_held l6 m g0 g1).mono fun v H9 ⟨b, hvb, l9, m9⟩ => ⟨b, hvb, b, hv b, fin (H6 := H6) l9 m9⟩⟩, ?_⟩
    exact (delete_held l6 m g0 g1).mono fun v H9 ⟨b, hvb, l9, m9⟩ => ⟨b, hvb, _, _, (h.le l9).gD2 g0 g1, b, hv b, fin (H6 := H6) l9 m9⟩

theorem addC_len (c : Ct) (x : Int × Int) : (addC c x).1.list.length ≤ 1000 := by
  unfold addC
  split
  · rename_i h
    have := h.1.len
    split
    · simp [Ct.zero]
    · split
      · simp [Ct.zero]
      · simp; omega
  · simp [Ct.zero]
theorem removeC_len (c : Ct) (n : Int) : (removeC c n).1.list.length ≤ 1000 := by
  unfold removeC
  split
  · rename_i h
    have := (getC_ok h).1.len
    have := List.length_filter_le (fun h : Int × Int × Int => h.1 != n) c.list
    show ((c.list.filter _).length) ≤ 1000
    omega
  · simp [Ct.zero]
theorem ofC_len (c : Ct) (id : Int) : (ofC c id).1.length ≤ 1000 := by
  unfold ofC
  split
  · rename_i h
    have := h.len
    have := List.length_filter_le (fun h : Int × Int × Int => h.2.1 == id || h.2.2 == id) c.list
    simp [thoseC]; omega
  · simp

theorem certNew {H : Hp} : Qf Try.prog F.cert_New #[] H (.agg #[.int .i64 0, .slice none 0 0]) := cert_New_vc ⟨rfl, Hp.le_refl _⟩

end Go.Proofs.Ytmnbekffebdfmaa
