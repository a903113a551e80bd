/- Agendas: removing and rekeying. Conditions: none. -/
import Derived.Test.YtmnbekffebdfmaaG5
import Derived.Test.YtmnbekffebdfmaaVgAgenda
import Derived.Test.YtmnbekffebdfmaaFs
set_option linter.unusedVariables false
set_option maxRecDepth 100000
open Go Go.Eng Go.Proofs
namespace Go.Proofs.Ytmnbekffebdfmaa

theorem MyA.up {H0 H H' : Hp} {u4 u5 : Slc} {s : Hw} (m : MyA H0 H u4 u5 s) (hl : Hp.le H H') : MyA H0 H' u4 u5 s := ⟨Hp.le_trans m.le hl, m.heap.le hl, m.wh.le hl, m.sep⟩
theorem MyA.low {H0 H1 H : Hp} {u4 u5 : Slc} {s : Hw} (m : MyA H1 H u4 u5 s) (hl : Hp.le H0 H1) : MyA H0 H u4 u5 s := ⟨Hp.le_trans hl m.le, m.heap.low hl, m.wh.low hl, m.sep⟩
theorem MyA.cut {H0 H : Hp} {u4 u5 : Slc} {s : Hw} (m : MyA H0 H u4 u5 s) {n : Nat} (hn : n ≤ s.1.length) : MyA H0 H ⟨u4.a, n, u4.c⟩ u5 (s.1.take n, s.2) :=
  ⟨m.le, Mine.cut (k := 5) (f := fE) (fun _ => rfl) m.heap hn, m.wh, fun p q hp hq => m.sep p q hp hq⟩
theorem MyA.put {H0 H : Hp} {u4 u5 : Slc} {s : Hw} (m : MyA H0 H u4 u5 s) {i y : Int} (h0 : 0 ≤ i) (h1 : i < s.2.length) {Q : Hp → Prop}
    (q : ∀ H', MyA H0 H' u4 u5 (s.1, s.2.set i.toNat y) → Chg2 H H' u4 u5 → Q H') :
    H.canStore (eaddr u5.a 1 i) 0 [.int .i64 y] ∧ ∀ H', H' = H.store (eaddr u5.a 1 i) 0 [.int .i64 y] → Q H' :=
  Mine.setI m.wh h0 h1 y fun H' m' c' => q H' ⟨Hp.le_chg m.le c' m.wh.isNew, m.heap.chg c' m.sep, m', m.sep⟩ fun b hb _ h2 => c' b hb h2

/-- up, then down. -/
theorem refMove {H0 H : Hp} {u1 u2 u3 u4 u5 : Slc} {s : Hw} {i : Nat} {post : Hp → Prop} (m : MyA H0 H u4 u5 s) (pl : plA s) (ht : timeH s.1) (hi : i < s.1.length) (hl : s.1.length ≤ 1000000)
    (hp' : ∀ H', MyA H0 H' u4 u5 (moveA s i) → Chg2 H H' u4 u5 → post H') :
    Go.Eng.Fn Try.prog F.pelotonref07_up #[agV u1 u2 u3 u4 u5, .int .i64 (i : Int)] H fun v H11 => ∃ n12 : Int, v = .int .i64 n12 ∧
      Go.Eng.Fn Try.prog F.pelotonref07_down #[agV u1 u2 u3 u4 u5, .int .i64 n12] H11 fun v H14 => v = .tuple #[] ∧ post H14 := by
  refine (refUp m pl ht hi hl).mono fun v H11 ⟨hv, m11, c11⟩ => ⟨_, hv, ?_⟩
  obtain ⟨k, kle⟩ := upA_kept i s i pl hi
  refine (refDown m11 k.pl (timeH.perm ht k.perm) (by rw [k.len]; omega) (by rw [k.len]; exact hl)).mono fun v H14 ⟨hv, m14, c14⟩ => ⟨hv, hp' H14 ?_ (c11.trans c14)⟩
  unfold moveA
  rw [k.len] at m14
  exact m14

theorem okA.time {a : Ag} (ok : okA a) : timeH a.heap := fun x hx => (ok.each x hx).1
theorem remS_time {a : Ag} {h : Int × Int} (ok : okA a) (hl : a.tb.live h.1 h.2 = true) (hne : atA a h ≠ a.heap.length - 1) : timeH (remS a h).1 := fun x hx => by
  have := (removed_perm0 ok hl hne).2.mem_iff.1 (List.mem_cons_of_mem _ hx)
  exact (ok.each x this).1
theorem rem_ne {a : Ag} {h : Int × Int} (ok : okA a) (hl : a.tb.live h.1 h.2 = true) (hne : atA a h ≠ a.heap.length - 1) : h.1.toNat ≠ (hp a.heap (a.heap.length - 1)).h.1.toNat := fun e => by
  obtain ⟨m1, m2, m3⟩ := find_mem ok hl
  have := (ok.pl (a.heap.length - 1) (by show a.heap.length - 1 < a.heap.length; omega)).2.2
  have this : a.wh.getD (hp a.heap (a.heap.length - 1)).h.1.toNat 0 = ((a.heap.length - 1 : Nat) : Int) := this
  rw [← e] at this
  apply hne; unfold atA; rw [this, Int.toNat_natCast]
theorem atA_int {a : Ag} {h : Int × Int} (ok : okA a) (hl : a.tb.live h.1 h.2 = true) : a.wh.getD h.1.toNat 0 = (atA a h : Int) := by
  unfold atA; rw [Int.toNat_of_nonneg (ok.slotOf hl).1]

theorem agendaRemove0 {H : Hp} {u1 u2 u3 u4 u5 : Slc} {a : Ag} {h : Int × Int} (r : RdA H u1 u2 u3 u4 u5 a) (ok : okA a) (hl : a.tb.live h.1 h.2 = true) :
    Go.Eng.Fn Try.prog F.agenda_remove #[agV u1 u2 u3 u4 u5, .int .i64 (atA a h : Int)] H fun v H' => ∃ v1 v2 v3 v4 v5 : Slc,
      v = .tuple #[agV v1 v2 v3 v4 v5, evV (hp a.heap (atA a h)), .int .i64 0] ∧ NewA H H' v1 v2 v3 v4 v5 (removedA a h) := by
  have f := okA.fitG ok
  have fh := f.hl; have fw := f.wl
  obtain ⟨m1, m2, m3⟩ := find_mem ok hl
  obtain ⟨l1, l2, l3, l4⟩ := live_iff.1 hl
  have hwl := ok.wl
  have g := Rd.gE r.heap (i := (atA a h : Int)) (by omega) (by omega)
  rw [Int.toNat_natCast] at g
  refine agenda_remove_vc ⟨r.heap.inS (by omega) (by omega), _, _, _, _, _, g, ?_⟩
  rw [m2]
  refine (slotGive r.tb f.tb).mono fun v H7 ⟨s1, s2, s3, hv, nt⟩ => ⟨s1, s2, s3, _, hv, ?_⟩
  rw [giveM, if_pos ok.tb, if_pos hl] at nt ⊢
  refine ⟨fun he => by simp at he, fun _ => ?_⟩
  refine (agendaTwin (r.le nt.le) fh fw).mono fun v H13 ⟨b, c, hv, m⟩ => ⟨_, _, _, b, c, hv, ?_⟩
  have lb : b.n = a.heap.length := m.heap.rdE.len
  have cb := m.heap.rdE.cap
  have gl := Rd.gE m.heap.rdE (i := ((a.heap.length - 1 : Nat) : Int)) (by omega) (by show _ < (a.heap.length : Int); omega)
  rw [Int.toNat_natCast] at gl
  have en : (b.n : Int) - 1 = ((a.heap.length - 1 : Nat) : Int) := by omega
  have o := nt.old
  have sb : SepT s1 s2 s3 b := ⟨Sep.of o.1 m.heap.isNew, Sep.of o.2.1 m.heap.isNew, Sep.of o.2.2 m.heap.isNew⟩
  have sc : SepT s1 s2 s3 c := ⟨Sep.of o.1 m.wh.isNew, Sep.of o.2.1 m.wh.isNew, Sep.of o.2.2 m.wh.isNew⟩
  have sb' : SepT s1 s2 s3 ⟨b.a, a.heap.length - 1, b.c⟩ := ⟨fun p q hp hq => sb.1 p q hp hq, fun p q hp hq => sb.2.1 p q hp hq, fun p q hp hq => sb.2.2 p q hp hq⟩
  rw [en, slcCut, Int.toNat_natCast]
  refine ⟨by unfold inI; omega, m.heap.rdE.inS (by omega) (by show _ < (a.heap.length : Int); omega), _, _, _, _, _, gl, ⟨by omega, by omega, by omega, by omega⟩, m.wh.rdI.inS l1 (by show _ < (a.wh.length : Int); omega), ?_⟩
  have m0 := (m.low nt.le).cut (n := a.heap.length - 1) (by show _ ≤ a.heap.length; omega)
  refine m0.put l1 (by show _ < (a.wh.length : Int); omega) fun H24 m24 c24 => ⟨fun hlt => ?_, fun hge => ?_⟩
  · have hlt : (atA a h : Int) < ((a.heap.length - 1 : Nat) : Int) := by simpa using hlt
    have hne : atA a h ≠ a.heap.length - 1 := by omega
    obtain ⟨p1, p2, p3, p4⟩ := rem_parts ok hl hne
    obtain ⟨q1, q2, q3⟩ := ok.pl (a.heap.length - 1) (by show a.heap.length - 1 < a.heap.length; omega)
    have es : ((a.heap.take (a.heap.length - 1)).set (atA a h) (hp a.heap (a.heap.length - 1)), (a.wh.set h.1.toNat (-1)).set (hp a.heap (a.heap.length - 1)).h.1.toNat (atA a h : Nat)) = remS a h := by
      unfold remS
      rw [List.take_set, List.set_comm _ _ (rem_ne ok hl hne)]
    have hset := agendaSettle (u1 := s1) (u2 := s2) (u3 := s3) (i := atA a h) (x := hp a.heap (a.heap.length - 1)) m24 (by show _ < (a.heap.take _).length; simp; omega) (by show _ < ((a.wh.set _ _).length : Int); rw [List.length_set]; exact q2) q1
      (by show plA ((a.heap.take (a.heap.length - 1)).set (atA a h) (hp a.heap (a.heap.length - 1)), (a.wh.set h.1.toNat (-1)).set (hp a.heap (a.heap.length - 1)).h.1.toNat (atA a h : Nat)); rw [es]; exact p1)
      (by show timeH ((a.heap.take (a.heap.length - 1)).set (atA a h) (hp a.heap (a.heap.length - 1))); rw [show (a.heap.take (a.heap.length - 1)).set (atA a h) (hp a.heap (a.heap.length - 1)) = (remS a h).1 from congrArg Prod.fst es]; exact remS_time ok hl hne)
      (by show (a.heap.take _).length ≤ _; simp; omega)
    refine hset.mono fun v H26 ⟨hv, m26, c26⟩ => ⟨hv, s1, s2, s3, ⟨b.a, a.heap.length - 1, b.c⟩, c, by unfold evV; rw [m2], ?_⟩
    rw [removedA, if_neg hne]
    have m26 : MyA H H26 ⟨b.a, a.heap.length - 1, b.c⟩ c (moveA (remS a h) (atA a h)) := by rw [← es]; exact m26
    exact MyA.new (H9 := H) (nt.up m.le) m26 (c24.trans c26) sb' sc
  · have hge : ¬ (atA a h : Int) < ((a.heap.length - 1 : Nat) : Int) := by simpa using hge
    refine ⟨s1, s2, s3, ⟨b.a, a.heap.length - 1, b.c⟩, c, by unfold evV; rw [m2], ?_⟩
    rw [removedA, if_pos (by omega)]
    exact MyA.new (H9 := H) (nt.up m.le) m24 c24 sb' sc

theorem refRemoved {H : Hp} {u1 u2 u3 u4 u5 : Slc} {a : Ag} {h : Int × Int} (r : RdA H u1 u2 u3 u4 u5 a) (ok : okA a) (hl : a.tb.live h.1 h.2 = true) :
    Go.Eng.Fn Try.prog F.pelotonref07_Removed #[agV u1 u2 u3 u4 u5, .agg #[.int .i64 h.1, .int .i64 h.2]] H fun v H' => ∃ v1 v2 v3 v4 v5 : Slc,
      v = agV v1 v2 v3 v4 v5 ∧ NewA H H' v1 v2 v3 v4 v5 (removedA a h) := by
  have f := okA.fitG ok
  have fh := f.hl; have fw := f.wl
  obtain ⟨m1, m2, m3⟩ := find_mem ok hl
  obtain ⟨l1, l2, l3, l4⟩ := live_iff.1 hl
  have hwl := ok.wl
  refine pelotonref07_Removed_vc ((refATwin r f).mono fun v H2 ⟨t1, t2, t3, b, c, hv, n⟩ => ⟨t1, t2, t3, b, c, hv, ?_⟩)
  have m := n.my
  have lb : b.n = a.heap.length := m.heap.rdE.len
  have cb := m.heap.rdE.cap
  have en : (b.n : Int) - 1 = ((a.heap.length - 1 : Nat) : Int) := by omega
  rw [en, slcCut, Int.toNat_natCast]
  refine m.wh.rdI.ldI l1 (by show _ < (a.wh.length : Int); omega) ?_
  rw [show (a.heap, a.wh).2.getD h.1.toNat 0 = (atA a h : Int) from atA_int ok hl]
  refine ⟨by unfold inI; omega, fun hb => ?_, fun hb => ?_⟩
  · have hb : (atA a h : Int) ≠ ((a.heap.length - 1 : Nat) : Int) := by simpa using hb
    have hne : atA a h ≠ a.heap.length - 1 := by omega
    obtain ⟨p1, p2, p3, p4⟩ := rem_parts ok hl hne
    have hsw : ((swapE (a.heap, a.wh) (atA a h) (a.heap.length - 1)).1.take (a.heap.length - 1), (swapE (a.heap, a.wh) (atA a h) (a.heap.length - 1)).2.set h.1.toNat (-1)) = remS a h := by
      unfold swapE remS
      show (((a.heap.set (atA a h) (hp a.heap (a.heap.length - 1))).set (a.heap.length - 1) (hp a.heap (atA a h))).take _, ((a.wh.set (hp a.heap (a.heap.length - 1)).h.1.toNat _).set (hp a.heap (atA a h)).h.1.toNat _).set _ _) = _
      rw [m2, List.set_set, List.take_set_of_le (Nat.le_refl _)]
    refine (refSwap m ok.pl m3 (by show a.heap.length - 1 < a.heap.length; omega)).mono fun v H10 ⟨hv, m10, c10⟩ => ⟨hv, ⟨by omega, by omega, by omega, by omega⟩, ?_⟩
    have sl := swapE_len (a.heap, a.wh) (atA a h) (a.heap.length - 1)
    have sl1 : (swapE (a.heap, a.wh) (atA a h) (a.heap.length - 1)).1.length = a.heap.length := sl.1
    have sl2 : (swapE (a.heap, a.wh) (atA a h) (a.heap.length - 1)).2.length = a.wh.length := sl.2
    have m10' := m10.cut (n := a.heap.length - 1) (by omega)
    refine ⟨m10.wh.rdI.inS l1 (by omega), m10'.put l1 (by show _ < ((swapE _ _ _).2.length : Int); omega) fun H11 m11 c11 => ?_⟩
    have m11 : MyA H H11 ⟨b.a, a.heap.length - 1, b.c⟩ c (remS a h) := by rw [← hsw]; exact m11
    have nt11 := NewT.chg2 (NewT.chg2 n.tb c10 n.s4 n.s5 n.heap.isNew n.wh.isNew) c11 (u := ⟨b.a, a.heap.length - 1, b.c⟩) ⟨fun p q hp hq => n.s4.1 p q hp hq, fun p q hp hq => n.s4.2.1 p q hp hq, fun p q hp hq => n.s4.2.2 p q hp hq⟩ n.s5 m11.heap.isNew m11.wh.isNew
    refine (refGiven nt11.rd ok.tb hl).mono fun v H13 ⟨s1, s2, s3, hv, nt⟩ => ⟨s1, s2, s3, hv, fun _ => ?_, fun hb' => by simp at hb'; omega⟩
    refine refMove (m11.up nt.le) p1 (remS_time ok hl hne) p4 (by have := (removed_perm0 ok hl hne).1; omega) fun H' m' c' => ⟨s1, s2, s3, _, c, rfl, ?_⟩
    rw [removedA, if_neg hne]
    exact MyA.new (H9 := H) (nt.low m11.le) m' c' (nt.sep m11.heap.isOld) (nt.sep m11.wh.isOld)
  · have hb : (atA a h : Int) = ((a.heap.length - 1 : Nat) : Int) := by simpa using hb
    have m0 := m.cut (n := a.heap.length - 1) (by show _ ≤ a.heap.length; omega)
    refine ⟨⟨by omega, by omega, by omega, by omega⟩, m.wh.rdI.inS l1 (by show _ < (a.wh.length : Int); omega), m0.put l1 (by show _ < (a.wh.length : Int); omega) fun H22 m22 c22 => ?_⟩
    have nt22 := NewT.chg2 n.tb c22 (u := ⟨b.a, a.heap.length - 1, b.c⟩) ⟨fun p q hp hq => n.s4.1 p q hp hq, fun p q hp hq => n.s4.2.1 p q hp hq, fun p q hp hq => n.s4.2.2 p q hp hq⟩ n.s5 m22.heap.isNew m22.wh.isNew
    refine (refGiven nt22.rd ok.tb hl).mono fun v H24 ⟨s1, s2, s3, hv, nt⟩ => ⟨s1, s2, s3, hv, fun hb' => by simp at hb'; omega, fun _ => ⟨s1, s2, s3, _, c, rfl, ?_⟩⟩
    rw [removedA, if_pos (by omega)]
    exact MyA.new (H9 := H) (nt.low m22.le) (m22.up nt.le) (fun _ _ _ _ => rfl) (nt.sep m22.heap.isOld) (nt.sep m22.wh.isOld)
end Go.Proofs.Ytmnbekffebdfmaa
