/- The engine, parts G5, G6, G7, G8, put together. Conditions: none. -/
import Derived.Test.YtkemdpobjaiolaaGreatP6
import Derived.Test.YtkemdpobjaiolaaGreatVgAgenda
import Derived.Test.YtkemdpobjaiolaaGreatFs
import Derived.Test.YtkemdpobjaiolaaGreatP4
import Derived.Test.YtkemdpobjaiolaaGreatVgStd
set_option linter.unusedVariables false
section
/- Agendas: pushing, removing, rekeying. Conditions: none. -/
set_option maxRecDepth 100000
open Go Go.Eng Go.Proofs
namespace Go.Proofs.YtkemdpobjaiolaaGreat

theorem _root_.Go.Eng.Chg.two {H H' : Hp} {u v : Slc} (c : Chg H H' u) : Chg2 H H' u v := fun b hb h1 _ => c b hb h1
theorem down_ord {f : Nat} {s : Hw} {i : Nat} (o : ordH s.1) : downA f s i = s :=
  downA_stop fun ⟨a, b⟩ => by
    obtain ⟨k1, k2, k3⟩ := kid_gt s.1 i
    have := o (kid s.1 i) (by omega) (k2 a)
    rw [k3] at this
    rw [this] at b; cases b
theorem fE_one (x : Ev) : ∀ v ∈ fE x, v.oneCell' = true := fun v hv => by simp [fE] at hv; rcases hv with rfl | rfl | rfl | rfl | rfl <;> rfl

theorem agendaPush1 {H : Hp} {b : Nat} {n : Int} {x : Ev} (h : H.at ((Addr.mk b 0 none).add 0) = some (.int .i64 n)) :
    QfV Tryz.prog (.func (.func F.agenda_Push_1) #[] #[.pointer (some ⟨b, 0, none⟩)]) [evV x] H (.bool (x.no == n)) := by
  refine ⟨F.agenda_Push_1, #[], _, rfl, agenda_Push_1_callable, ?_⟩
  exact agenda_Push_1_vc (a5 := ⟨b, 0, none⟩) ⟨_, h, rfl, Hp.le_refl _⟩

theorem max8 {a : Ag} {t : Int × Int} (h : ¬ (okA a ∧ okR t)) : (if chkR t > chkA a then chkR t else chkA a) = 8 := by
  by_cases o1 : okA a
  · have o2 : ¬ okR t := fun o2 => h ⟨o1, o2⟩
    rw [chkA_ok o1, chkR_bad o2]; try rfl
  · rw [chkA_bad o1]
    by_cases o2 : okR t
    · rw [chkR_ok o2]; try rfl
    · rw [chkR_bad o2]; try rfl

/-- What an own table and own slices come to, behind changes in the slices. -/
theorem MyA.new {H0 H9 H17 H : Hp} {s1 s2 s3 u4 u5 : Slc} {tb : Tb} {s : Hw} (nt : NewT H0 H17 s1 s2 s3 tb) (m : MyA H0 H u4 u5 s) (c : Chg2 H17 H u4 u5) (h4 : SepT s1 s2 s3 u4) (h5 : SepT s1 s2 s3 u5) : NewA H0 H s1 s2 s3 u4 u5 ⟨tb, s.1, s.2⟩ :=
  ⟨NewT.chg2 nt c h4 h5 m.heap.isNew m.wh.isNew, m.heap, m.wh, m.sep, h4, h5⟩

theorem agendaPush {H : Hp} {u1 u2 u3 u4 u5 : Slc} {a : Ag} {t : Int × Int} {n : Int} (r : RdA H u1 u2 u3 u4 u5 a) (f : fitG a) (ft : fitR t) :
    Go.Eng.Fn Tryz.prog F.agenda_Push #[agV u1 u2 u3 u4 u5, .agg #[.int .i64 t.1, .int .i64 t.2], .int .i64 n] H fun v H' => ∃ v1 v2 v3 v4 v5 : Slc,
      v = .tuple #[agV v1 v2 v3 v4 v5, .agg #[.int .i64 (pushA a t n).2.1.1, .int .i64 (pushA a t n).2.1.2], .int .i64 (pushA a t n).2.2] ∧ NewA H H' v1 v2 v3 v4 v5 (pushA a t n).1 := by
  have fh := f.hl; have fw := f.wl
  refine agenda_Push_vc fun b1 H2 hb1 hH2 => ?_
  have le2 : Hp.le H H2 := Hp.le_new (Hp.le_refl _) hb1 hH2
  have r2 := r.le le2
  have va := Var.new hH2
  have e1 := va.at
  refine ⟨_, agendaCheck r2 f, _, ratioCheck ft, fun hc => ?_, fun hc => ?_⟩
  · have hbad : ¬ (okA a ∧ okR t) := fun ⟨o1, o2⟩ => by rw [chkA_ok o1, chkR_ok o2] at hc; simp at hc
    rw [max8 hbad, pushA, if_neg hbad]
    exact ⟨zs, zs, zs, zs, zs, rfl, NewA.zero le2⟩
  have ok : okA a ∧ okR t := by
    by_cases h : okA a ∧ okR t
    · exact h
    · rw [max8 h] at hc; simp at hc
  rw [pushA, if_pos ok]
  refine ⟨_, e1, _, fun _ => e1, fun hb => ?_, fun hb => ?_⟩
  · rw [if_pos (by simpa using hb)]
    exact ⟨zs, zs, zs, zs, zs, rfl, NewA.zero le2⟩
  rw [if_neg (show ¬ (n < 0 ∨ 1000000 < n) by simpa using hb)]
  refine ⟨_, containsFunc_event r2.heap (by omega) (fun x => agendaPush1 e1), fun hb => ?_, fun hb => ?_⟩
  · rw [if_pos (show hasA a n = true from hb)]
    exact ⟨zs, zs, zs, zs, zs, rfl, NewA.zero le2⟩
  rw [if_neg (show ¬ hasA a n = true from by rw [show hasA a n = false from hb]; simp)]
  refine (slotTake r2.tb f.tb).mono fun v H9 ⟨s1, s2, s3, hv, nt⟩ => ⟨s1, s2, s3, _, _, _, hv, ?_⟩
  rw [takeM, if_pos ok.1.tb] at nt ⊢
  by_cases hct : a.tb.canTake = true
  · rw [if_pos hct] at nt ⊢
    rw [if_pos hct]
    refine ⟨fun he => by simp at he, fun _ => ?_⟩
    have le9 := Hp.le_trans le2 nt.le
    refine (agendaTwin (r.le le9) fh fw).mono fun v H17 ⟨b, c, hv, m⟩ => ⟨_, _, _, b, c, hv, n, ?_, fun b24 H25 hb24 hH25 => ?_⟩
    · exact (va.le (Hp.le_trans nt.le m.le)).at
    have le17 := Hp.le_trans le9 m.le
    have hmb := m.heap.low le9
    have hmc := m.wh.low le9
    have o := nt.old
    refine (append1 (k := 5) (f := fE) (bytes := 40) (x := (Ev.mk t n (nextH a))) (e := T.api_Event) (by kernel_rfl) (by decide) (fun _ => rfl) fE_one le17 hmb hb24 hH25 rfl (by show a.heap.length ≤ _; omega) (by omega)).mono fun v H27 ⟨w, hw, l27, mw, cw, ew⟩ => ⟨w, hw, ?_⟩
    have lw := mw.rdE.len
    have lw : w.n = a.heap.length + 1 := by rw [lw]; simp
    have mc := hmc.chg cw m.sep.symm
    have my : MyA H H27 w c (a.heap ++ [(Ev.mk t n (nextH a))], a.wh) := ⟨l27, mw, mc, m.sep.ext m.wh.isOld ew⟩
    have nt17 := (nt.low le2).up m.le
    have sb : SepT s1 s2 s3 b := ⟨Sep.of o.1 m.heap.isNew, Sep.of o.2.1 m.heap.isNew, Sep.of o.2.2 m.heap.isNew⟩
    have sc : SepT s1 s2 s3 c := ⟨Sep.of o.1 m.wh.isNew, Sep.of o.2.1 m.wh.isNew, Sep.of o.2.2 m.wh.isNew⟩
    have nt27 := NewT.chg2 nt17 (cw.two (v := c)) sb sc hmb.isNew hmc.isNew
    have sw : SepT s1 s2 s3 w := sb.ext (o.le m.le) ew
    have en : ((w.n : Int) - 1) = (a.heap.length : Nat) := by omega
    obtain ⟨p1, p2, p3, p4⟩ := push_parts (n := n) ok.1 ok.2 hct
    obtain ⟨hf, hu⟩ := canTake_iff.1 hct
    obtain ⟨tm, t0, t1⟩ := ok.1.tb.topR hf
    have hwl := ok.1.wl
    have es : ((a.heap ++ [(Ev.mk t n (nextH a))]).set a.heap.length (Ev.mk t n (nextH a)), a.wh.set (nextH a).1.toNat (a.heap.length : Nat)) = pushS a t n := by
      unfold pushS
      rw [List.set_append_right _ _ (Nat.le_refl _)]; simp [nextH]
    refine ⟨by unfold inI; omega, ?_⟩
    rw [en]
    have hset := agendaSettle (u1 := s1) (u2 := s2) (u3 := s3) (i := a.heap.length) (x := (Ev.mk t n (nextH a))) my (by simp) (by show topL a.tb.free < a.wh.length; omega) (by exact t0) (by show plA (_, _); rw [show (a.wh.set (nextH a).1.toNat (a.heap.length : Nat)) = a.wh.set (nextH a).1.toNat (a.heap.length : Nat) from rfl, es]; exact p1)
      (fun x hx => by
        rw [show ((a.heap ++ [(Ev.mk t n (nextH a))]).set a.heap.length (Ev.mk t n (nextH a))) = (pushS a t n).1 from congrArg Prod.fst es] at hx
        rcases List.mem_append.1 hx with hx | hx
        · exact (ok.1.each x hx).1
        · simp only [List.mem_singleton] at hx; subst hx; exact ok.2) (by have := ok.1.hl; have := ok.1.tb.top; simp; omega)
    refine hset.mono fun v H30 ⟨hv, m30, c30⟩ => ⟨hv, s1, s2, s3, w, c, rfl, ?_⟩
    have hk := pushed_kept (n := n) ok.1 ok.2 hct
    have em : moveA (pushS a t n) a.heap.length = (upA a.heap.length (pushS a t n) a.heap.length).1 := by
      unfold moveA; exact down_ord hk.2
    have m30 : MyA H H30 w c (upA a.heap.length (pushS a t n) a.heap.length).1 := by
      rw [← em, ← es]; exact m30
    exact MyA.new (H9 := H) nt27 m30 c30 sw sc
  · rw [if_neg hct] at nt ⊢
    rw [if_neg hct]
    exact ⟨fun _ => ⟨zs, zs, zs, zs, zs, rfl, NewA.zero (Hp.le_trans le2 nt.le)⟩, fun he => by simp at he⟩
end Go.Proofs.YtkemdpobjaiolaaGreat
end
section
/- Agendas: removing and rekeying. Conditions: none. -/
set_option maxRecDepth 100000
open Go Go.Eng Go.Proofs
namespace Go.Proofs.YtkemdpobjaiolaaGreat

theorem MyA.up {H0 H H' : Hp} {u4 u5 : Slc} {s : Hw} (m : MyA H0 H u4 u5 s) (hl : Hp.le H H') : MyA H0 H' u4 u5 s := ⟨Hp.le_trans m.le hl, m.heap.le hl, m.wh.le hl, m.sep⟩
theorem MyA.low {H0 H1 H : Hp} {u4 u5 : Slc} {s : Hw} (m : MyA H1 H u4 u5 s) (hl : Hp.le H0 H1) : MyA H0 H u4 u5 s := ⟨Hp.le_trans hl m.le, m.heap.low hl, m.wh.low hl, m.sep⟩
theorem MyA.cut {H0 H : Hp} {u4 u5 : Slc} {s : Hw} (m : MyA H0 H u4 u5 s) {n : Nat} (hn : n ≤ s.1.length) : MyA H0 H ⟨u4.a, n, u4.c⟩ u5 (s.1.take n, s.2) :=
  ⟨m.le, Mine.cut (k := 5) (f := fE) (fun _ => rfl) m.heap hn, m.wh, fun p q hp hq => m.sep p q hp hq⟩
theorem MyA.put {H0 H : Hp} {u4 u5 : Slc} {s : Hw} (m : MyA H0 H u4 u5 s) {i y : Int} (h0 : 0 ≤ i) (h1 : i < s.2.length) {Q : Hp → Prop}
    (q : ∀ H', MyA H0 H' u4 u5 (s.1, s.2.set i.toNat y) → Chg2 H H' u4 u5 → Q H') :
    H.canStore (eaddr u5.a 1 i) 0 [.int .i64 y] ∧ ∀ H', H' = H.store (eaddr u5.a 1 i) 0 [.int .i64 y] → Q H' :=
  Mine.setI m.wh h0 h1 y fun H' m' c' => q H' ⟨Hp.le_chg m.le c' m.wh.isNew, m.heap.chg c' m.sep, m', m.sep⟩ fun b hb _ h2 => c' b hb h2

theorem remS_time {a : Ag} {h : Int × Int} (ok : okA a) (hl : a.tb.live h.1 h.2 = true) (hne : atA a h ≠ a.heap.length - 1) : timeH (remS a h).1 := fun x hx => by
  have := (removed_perm0 ok hl hne).2.mem_iff.1 (List.mem_cons_of_mem _ hx)
  exact (ok.each x this).1
theorem rem_ne {a : Ag} {h : Int × Int} (ok : okA a) (hl : a.tb.live h.1 h.2 = true) (hne : atA a h ≠ a.heap.length - 1) : h.1.toNat ≠ (hp a.heap (a.heap.length - 1)).h.1.toNat := fun e => by
  obtain ⟨m1, m2, m3⟩ := find_mem ok hl
  have := (ok.pl (a.heap.length - 1) (by show a.heap.length - 1 < a.heap.length; omega)).2.2
  have this : a.wh.getD (hp a.heap (a.heap.length - 1)).h.1.toNat 0 = ((a.heap.length - 1 : Nat) : Int) := this
  rw [← e] at this
  apply hne; unfold atA; rw [this, Int.toNat_natCast]
theorem agendaRemove0 {H : Hp} {u1 u2 u3 u4 u5 : Slc} {a : Ag} {h : Int × Int} (r : RdA H u1 u2 u3 u4 u5 a) (ok : okA a) (hl : a.tb.live h.1 h.2 = true) :
    Go.Eng.Fn Tryz.prog F.agenda_remove #[agV u1 u2 u3 u4 u5, .int .i64 (atA a h : Int)] H fun v H' => ∃ v1 v2 v3 v4 v5 : Slc,
      v = .tuple #[agV v1 v2 v3 v4 v5, evV (hp a.heap (atA a h)), .int .i64 0] ∧ NewA H H' v1 v2 v3 v4 v5 (removedA a h) := by
  have f := okA.fitG ok
  have fh := f.hl; have fw := f.wl
  obtain ⟨m1, m2, m3⟩ := find_mem ok hl
  obtain ⟨l1, l2, l3, l4⟩ := live_iff.1 hl
  have hwl := ok.wl
  have g := Rd.gE r.heap (i := (atA a h : Int)) (by omega) (by omega)
  rw [Int.toNat_natCast] at g
  refine agenda_remove_vc ⟨r.heap.inS (by omega) (by omega), _, _, _, _, _, g, ?_⟩
  rw [m2]
  refine (slotGive r.tb f.tb).mono fun v H7 ⟨s1, s2, s3, hv, nt⟩ => ⟨s1, s2, s3, _, hv, ?_⟩
  rw [giveM, if_pos ok.tb, if_pos hl] at nt ⊢
  refine ⟨fun he => by simp at he, fun _ => ?_⟩
  refine (agendaTwin (r.le nt.le) fh fw).mono fun v H13 ⟨b, c, hv, m⟩ => ⟨_, _, _, b, c, hv, ?_⟩
  have lb : b.n = a.heap.length := m.heap.rdE.len
  have cb := m.heap.rdE.cap
  have gl := Rd.gE m.heap.rdE (i := ((a.heap.length - 1 : Nat) : Int)) (by omega) (by show _ < (a.heap.length : Int); omega)
  rw [Int.toNat_natCast] at gl
  have en : (b.n : Int) - 1 = ((a.heap.length - 1 : Nat) : Int) := by omega
  have o := nt.old
  have sb : SepT s1 s2 s3 b := ⟨Sep.of o.1 m.heap.isNew, Sep.of o.2.1 m.heap.isNew, Sep.of o.2.2 m.heap.isNew⟩
  have sc : SepT s1 s2 s3 c := ⟨Sep.of o.1 m.wh.isNew, Sep.of o.2.1 m.wh.isNew, Sep.of o.2.2 m.wh.isNew⟩
  have sb' : SepT s1 s2 s3 ⟨b.a, a.heap.length - 1, b.c⟩ := ⟨fun p q hp hq => sb.1 p q hp hq, fun p q hp hq => sb.2.1 p q hp hq, fun p q hp hq => sb.2.2 p q hp hq⟩
  rw [en, slcCut, Int.toNat_natCast]
  refine ⟨by unfold inI; omega, m.heap.rdE.inS (by omega) (by show _ < (a.heap.length : Int); omega), _, _, _, _, _, gl, ⟨by omega, by omega, by omega, by omega⟩, m.wh.rdI.inS l1 (by show _ < (a.wh.length : Int); omega), ?_⟩
  have m0 := (m.low nt.le).cut (n := a.heap.length - 1) (by show _ ≤ a.heap.length; omega)
  refine m0.put l1 (by show _ < (a.wh.length : Int); omega) fun H24 m24 c24 => ⟨fun hlt => ?_, fun hge => ?_⟩
  · have hlt : (atA a h : Int) < ((a.heap.length - 1 : Nat) : Int) := by simpa using hlt
    have hne : atA a h ≠ a.heap.length - 1 := by omega
    obtain ⟨p1, p2, p3, p4⟩ := rem_parts ok hl hne
    obtain ⟨q1, q2, q3⟩ := ok.pl (a.heap.length - 1) (by show a.heap.length - 1 < a.heap.length; omega)
    have es : ((a.heap.take (a.heap.length - 1)).set (atA a h) (hp a.heap (a.heap.length - 1)), (a.wh.set h.1.toNat (-1)).set (hp a.heap (a.heap.length - 1)).h.1.toNat (atA a h : Nat)) = remS a h := by
      unfold remS
      rw [List.take_set, List.set_comm _ _ (rem_ne ok hl hne)]
    have hset := agendaSettle (u1 := s1) (u2 := s2) (u3 := s3) (i := atA a h) (x := hp a.heap (a.heap.length - 1)) m24 (by show _ < (a.heap.take _).length; simp; omega) (by show _ < ((a.wh.set _ _).length : Int); rw [List.length_set]; exact q2) q1
      (by show plA ((a.heap.take (a.heap.length - 1)).set (atA a h) (hp a.heap (a.heap.length - 1)), (a.wh.set h.1.toNat (-1)).set (hp a.heap (a.heap.length - 1)).h.1.toNat (atA a h : Nat)); rw [es]; exact p1)
      (by show timeH ((a.heap.take (a.heap.length - 1)).set (atA a h) (hp a.heap (a.heap.length - 1))); rw [show (a.heap.take (a.heap.length - 1)).set (atA a h) (hp a.heap (a.heap.length - 1)) = (remS a h).1 from congrArg Prod.fst es]; exact remS_time ok hl hne)
      (by show (a.heap.take _).length ≤ _; simp; omega)
    refine hset.mono fun v H26 ⟨hv, m26, c26⟩ => ⟨hv, s1, s2, s3, ⟨b.a, a.heap.length - 1, b.c⟩, c, by unfold evV; rw [m2], ?_⟩
    rw [removedA, if_neg hne]
    have m26 : MyA H H26 ⟨b.a, a.heap.length - 1, b.c⟩ c (moveA (remS a h) (atA a h)) := by rw [← es]; exact m26
    exact MyA.new (H9 := H) (nt.up m.le) m26 (c24.trans c26) sb' sc
  · have hge : ¬ (atA a h : Int) < ((a.heap.length - 1 : Nat) : Int) := by simpa using hge
    refine ⟨s1, s2, s3, ⟨b.a, a.heap.length - 1, b.c⟩, c, by unfold evV; rw [m2], ?_⟩
    rw [removedA, if_pos (by omega)]
    exact MyA.new (H9 := H) (nt.up m.le) m24 c24 sb' sc

end Go.Proofs.YtkemdpobjaiolaaGreat
end
section
/- Agendas: the rest of the functions. Conditions: none. -/
set_option maxRecDepth 100000
open Go Go.Eng Go.Proofs
namespace Go.Proofs.YtkemdpobjaiolaaGreat

theorem agendaRemove {H : Hp} {u1 u2 u3 u4 u5 : Slc} {a : Ag} {h : Int × Int} (r : RdA H u1 u2 u3 u4 u5 a) (f : fitG a) :
    Go.Eng.Fn Tryz.prog F.agenda_Remove #[agV u1 u2 u3 u4 u5, .agg #[.int .i64 h.1, .int .i64 h.2]] H fun v H' => ∃ v1 v2 v3 v4 v5 : Slc,
      v = .tuple #[agV v1 v2 v3 v4 v5, evV (removeA a h).2.1, .int .i64 (removeA a h).2.2] ∧ NewA H H' v1 v2 v3 v4 v5 (removeA a h).1 := by
  refine agenda_Remove_vc ⟨_, _, agendaPlace r f, fun hc => ?_, fun hc => ?_⟩
  · have hk : (findA a h).2 ≠ 0 := by simpa using hc
    rw [removeA, if_neg hk]
    exact ⟨zs, zs, zs, zs, zs, rfl, NewA.zero (Hp.le_refl _)⟩
  · have hk : (findA a h).2 = 0 := by simpa using hc
    rw [removeA, if_pos hk, if_pos hk]
    have hh : okA a ∧ a.tb.live h.1 h.2 = true := by
      unfold findA at hk
      split at hk
      · rename_i ok
        split at hk
        · rename_i hl; exact ⟨ok, hl⟩
        · cases hk
      · cases hk
    refine (agendaRemove0 r hh.1 hh.2).mono fun v H4 ⟨v1, v2, v3, v4, v5, hv, n⟩ => ⟨v1, v2, v3, v4, v5, _, _, _, _, _, _, hv, v1, v2, v3, v4, v5, ?_, n⟩
    rw [findA, if_pos hh.1, if_pos hh.2]
/-- What Rekey gives: own lists, and the table that was, or nothing. -/
structure ReA (H H' : Hp) (u1 u2 u3 v1 v2 v3 v4 v5 : Slc) (b : Ag) : Prop where
  or : (v1 = u1 ∧ v2 = u2 ∧ v3 = u3) ∨ (v1 = zs ∧ v2 = zs ∧ v3 = zs)
  tb : RdT H' v1 v2 v3 b.tb
  my : MyA H H' v4 v5 (b.heap, b.wh)
theorem ReA.zero {H H' : Hp} {u1 u2 u3 : Slc} (h : Hp.le H H') : ReA H H' u1 u2 u3 zs zs zs zs zs .zero := ⟨.inr ⟨rfl, rfl, rfl⟩, (NewT.zero h).rd, (NewA.zero h).my⟩
theorem ReA.le {H H' : Hp} {u1 u2 u3 v1 v2 v3 v4 v5 : Slc} {b : Ag} (r : ReA H H' u1 u2 u3 v1 v2 v3 v4 v5 b) : Hp.le H H' := r.my.le
theorem ReA.rd {H H' : Hp} {u1 u2 u3 v1 v2 v3 v4 v5 : Slc} {b : Ag} (r : ReA H H' u1 u2 u3 v1 v2 v3 v4 v5 b) : RdA H' v1 v2 v3 v4 v5 b := ⟨r.tb, r.my.heap.rdE, r.my.wh.rdI⟩

theorem refASame {H : Hp} {u1 u2 u3 u4 u5 v1 v2 v3 v4 v5 : Slc} {a : Ag} (r : RdA H u1 u2 u3 u4 u5 a) (s : RdA H v1 v2 v3 v4 v5 a) (f : fitG a) :
    Qf Tryz.prog F.pelotonref07_Same #[agV u1 u2 u3 u4 u5, agV v1 v2 v3 v4 v5] H (.bool true) := by
  have fh := f.hl; have fw := f.wl
  have l4 := r.heap.len
  have k4 := s.heap.len
  refine pelotonref07_Same_vc ⟨_, same r.tb s.tb f.tb, _, fun _ => sameInts r.wh s.wh (by omega), fun hc => ?_, fun hc => ?_⟩
  · simp at hc; omega
  · refine upto (N := a.heap.length) (J := fun _ => True) (by omega) trivial fun n h0 h1 _ => ⟨fun hn => ?_, fun hn => ⟨rfl, Hp.le_refl _⟩⟩
    have hn : n < a.heap.length := by have : n < u4.n := by simpa using hn
                                      omega
    exact ⟨r.heap.inS h0 hn, _, _, _, _, _, Rd.gE r.heap h0 hn, s.heap.inS h0 hn, _, _, _, _, _, Rd.gE s.heap h0 hn, fun hb => by simp at hb, fun _ => upto.nx h0 hn (by omega) trivial⟩
end Go.Proofs.YtkemdpobjaiolaaGreat
end
section
/- Agendas: new ones. Conditions: none. -/
set_option maxRecDepth 100000
open Go Go.Eng Go.Proofs
namespace Go.Eng
/-- copy into a row: elements of one cell each. -/
theorem copyRow {P : Program} {t t2 ty e : TypeId} {x : TypeDesc} {cs : Array Bool} (ht : P.underlying t = some (.slice e)) (he : P.underlying e = some x) (h1 : P.cellsOf e = 1)
    {H : Hp} {b off n c : Nat} {cells : Array Value} {T : TypeId} (hb : H b = some (.cells cells T (0, 0))) {q : Addr} {m c' : Nat} {vs : List Value} (hl : vs.length = m.min n)
    (hvs : ∀ j v, vs[j]? = some v → H.at (q.add j) = some v) (hone : ∀ v ∈ vs, v.oneCell' = true) (hsz : off + vs.length ≤ cells.size) :
    OpSem P (bcall .copy #[t, t2] ty cs [.slice (some ⟨b, off, none⟩) n c, .slice (some q) m c']) H fun v H' => v = .int .i64 (vs.length : Int) ∧
      H' = H.put b (.cells (cells.toList.take off ++ vs ++ cells.toList.drop (off + vs.length)).toArray T (0, 0)) := by
  intro w hv
  have hld := run_loadCells_list (P := P) w q vs (fun j v h => hv.cell (hvs j v h))
  have hst := run_storeCells_at (P := P) b off T vs 0 cells w (hv b _ hb) (by omega) hone
  simp only [Nat.add_zero] at hst
  refine ⟨.int .i64 (vs.length : Int), w.setRow b (cells.toList.take off ++ vs ++ cells.toList.drop (off + vs.length)).toArray, _, .inl ?_, Tr.setRow hv hb _, rfl, rfl⟩
  have hcp : (Builtin.copy_ #[t, t2] ty #[.slice (some ⟨b, off, none⟩) n c, .slice (some q) m c']).run P w = .ok (.int .i64 (vs.length : Int)) (w.setRow b (cells.toList.take off ++ vs ++ cells.toList.drop (off + vs.length)).toArray) := by
    unfold Builtin.copy_
    simp only [List.getElem?_toArray, List.getElem?_cons_zero, List.getElem?_cons_succ]
    rw [Sem.run_bind, run_underlying ht, Result.andThen_ok]
    simp only []
    rw [Sem.run_bind, show (Builtin.lenOf (.slice (some q) m c')).run P w = .ok m w from rfl, Result.andThen_ok]
    rw [Sem.run_bind, run_sizeOf he, Result.andThen_ok, h1]
    rw [Sem.run_bind, show Builtin.firstCells 1 (m.min n) (.slice (some q) m c') = loadCells q (m.min n * 1) from rfl, Nat.mul_one, ← hl, hld, Result.andThen_ok]
    simp only []
    rw [Sem.run_bind]
    rw [hst, Result.andThen_ok]
    rfl
  simp [bcall, Go.builtin, hcp]
end Go.Eng
namespace Go.Proofs.YtkemdpobjaiolaaGreat

theorem bitsMul {H : Hp} {x y : Int} (hx : 0 ≤ x) (hx' : x < 18446744073709551616) (hy : 0 ≤ y) (hy' : y < 18446744073709551616) :
    Qf Tryz.prog F.math_bits_Mul #[.int .u64 x, .int .u64 y] H (.tuple #[.int .u64 (x * y / 18446744073709551616), .int .u64 (x * y % 18446744073709551616)]) :=
  math_bits_Mul_vc ⟨fun h => (by cases h), fun _ => ⟨_, _, mul64 hx hx' hy hy', rfl, Hp.le_refl _⟩⟩

def negs (N k : Nat) : List Value := List.replicate k (.int .i64 (-1)) ++ List.replicate (N - k) (.int .i64 0)
theorem negs_len {N k : Nat} (h : k ≤ N) : (negs N k).length = N := by simp [negs]; omega
theorem negs_step {N k l : Nat} (h : k + l ≤ N) : (negs N k).take k ++ List.replicate l (.int .i64 (-1)) ++ (negs N k).drop (k + l) = negs N (k + l) := by
  unfold negs
  rw [List.take_left' (by simp), List.drop_append, List.drop_eq_nil_of_le (by simp), List.drop_replicate, List.replicate_append_replicate, List.length_replicate, List.nil_append]
  congr 2
  omega

theorem repeatInt {H : Hp} {N b : Nat} (h1 : 1 ≤ N) (h2 : N ≤ 200) (hx : H.at ⟨b, 0, none⟩ = some (.int .i64 (-1))) :
    Go.Eng.Fn Tryz.prog F.slices_Repeat_int_int #[.slice (some ⟨b, 0, none⟩) 1 1, .int .i64 (N : Int)] H fun v H' => Hp.le H H' ∧ ∃ u : Slc, v = u.v ∧ Mine 1 fI T.int H H' u (List.replicate N (-1)) := by
  have e1 : wrapU (1 : Int) = 1 := by decide
  have eN : wrapU (N : Int) = N := by unfold wrapU; omega
  have ew : IntKind.i64.wrap (N : Int) = N := by rw [i64w]; omega
  refine slices_Repeat_int_int_vc (a0 := ⟨some ⟨b, 0, none⟩, 1, 1⟩) ⟨fun h => by simp at h; omega, fun _ => ⟨0, (N : Int), ?_, fun h => by simp at h; omega, fun _ => ?_⟩⟩
  · have := bitsMul (H := H) (x := wrapU (((1 : Nat) : Int))) (y := wrapU (N : Int)) (by decide) (by decide) (by rw [eN]; omega) (by rw [eN]; omega)
    rw [show wrapU (((1 : Nat) : Int)) = 1 from e1, eN, show (1 : Int) * N / 18446744073709551616 = 0 by omega, show (1 : Int) * N % 18446744073709551616 = N by omega] at this
    rw [show wrapU (((1 : Nat) : Int)) = 1 from e1, eN]
    exact this
  rw [ew, Int.toNat_natCast]
  refine ⟨⟨rfl, by omega, by omega⟩, fun b3 H4 hb3 hH4 => ?_⟩
  have hne : b3 ≠ b := fun e => by subst e; unfold Hp.at at hx; rw [hb3] at hx; cases hx
  have c0 : (List.replicate N [Value.int .i64 0]).flatten.toArray = (negs N 0).toArray := by simp [negs]
  have le4 : Hp.le H H4 := Hp.le_new (Hp.le_refl _) hb3 hH4
  rw [c0] at hH4
  have hb4 : H4 b3 = some (.cells (negs N 0).toArray 3 (0, 0)) := by rw [hH4]; exact Hp.put_same ..
  have st := copyRow (P := Tryz.prog) (t := 30) (t2 := 30) (ty := 3) (e := 3) (cs := #[false, false]) Tryz.underlying30 Tryz.underlying3 (by kernel_rfl) (H := H4) (off := 0) (n := N) (c := N) hb4 (q := ⟨b, 0, none⟩) (m := 1) (c' := 1) (vs := [.int .i64 (-1)]) (by simp [Nat.min_def]; omega)
    (fun j v hj => by
      have : j = 0 := by have := (List.getElem?_eq_some_iff.1 hj).1; simp at this; exact this
      subst this; simp at hj; subst hj; rw [add_zero']; exact Hp.at_le le4 hx) (fun v hv => by simp at hv; subst hv; rfl) (by simp [negs]; omega)
  refine st.mono fun v H6 ⟨hv, hH6⟩ => ⟨1, hv, ?_⟩
  have e6 : H6 = H.put b3 (.cells (negs N 1).toArray 3 (0, 0)) := by
    rw [hH6, hH4, Hp.put_put]
    have := negs_step (N := N) (k := 0) (l := 1) (by omega)
    rw [← this]; try rfl
  refine ⟨fun n H' => ∃ k : Nat, n = k ∧ 1 ≤ k ∧ k ≤ N ∧ H' = H.put b3 (.cells (negs N k).toArray 3 (0, 0)), fun n _ => (N - n).toNat, ⟨1, rfl, by omega, h1, e6⟩, fun n H11 ⟨k, hn, k1, k2, hH⟩ => ?_⟩
  subst hn
  refine ⟨fun hlt => ⟨⟨by omega, by omega, by omega, by omega⟩, ⟨by omega, by omega, by omega, by omega⟩, ?_⟩, fun hge => ?_⟩
  · have hlt : k < N := by have : (k : Int) < N := by simpa using hlt
                           omega
    have hb11 : H11 b3 = some (.cells (negs N k).toArray 3 (0, 0)) := by rw [hH]; exact Hp.put_same ..
    have hsub : subA (some ⟨b3, 0, none⟩) (Tryz.prog.cellsOf 3) (k : Int) (N : Int) = some ⟨b3, k, none⟩ := by
      unfold subA
      rw [if_neg (by omega), show Tryz.prog.cellsOf 3 = 1 by kernel_rfl]
      simp only [Option.map_some, Addr.add_lit, Int.toNat_natCast, Nat.zero_add, Nat.mul_one]
    rw [hsub, subA_zero]
    have st := copyRow (P := Tryz.prog) (t := 30) (t2 := 30) (ty := 3) (e := 3) (cs := #[false, false]) Tryz.underlying30 Tryz.underlying3 (by kernel_rfl) (H := H11) (off := k) (n := (N : Int).toNat - (k : Int).toNat) (c := (N : Int).toNat - (k : Int).toNat) hb11 (q := ⟨b3, 0, none⟩) (m := (k : Int).toNat - Int.toNat 0) (c' := (N : Int).toNat - Int.toNat 0) (vs := List.replicate (min k (N - k)) (.int .i64 (-1))) (by simp [Nat.min_def])
      (fun j v hj => by
        have hjl := (List.getElem?_eq_some_iff.1 hj).1
        rw [List.length_replicate] at hjl
        rw [List.getElem?_replicate, if_pos hjl] at hj
        cases hj
        rw [add_off, Cel.at hb11]
        rw [show (0 + j) = j from Nat.zero_add j]
        rw [List.getElem?_toArray]
        unfold negs
        rw [List.getElem?_append_left (by rw [List.length_replicate]; omega), List.getElem?_replicate, if_pos (by omega)]) (fun v hv => by rw [List.mem_replicate] at hv; rw [hv.2]; try rfl) (by simp [negs_len k2]; omega)
    refine st.mono fun v H13 ⟨hv, hH13⟩ => ⟨_, hv, ?_⟩
    rw [List.length_replicate] at hH13 ⊢
    refine ⟨by unfold inI; omega, ⟨k + min k (N - k), by omega, by omega, by omega, ?_⟩, by show ((N : Int) - ((k : Int) + (min k (N - k) : Nat))).toNat < ((N : Int) - (k : Int)).toNat; omega⟩
    rw [hH13, hH, Hp.put_put]
    have := negs_step (N := N) (k := k) (l := min k (N - k)) (by omega)
    rw [← this]
  · have hge : ¬ (k : Int) < N := by simpa using hge
    have : k = N := by omega
    subst this
    have le11 : Hp.le H H11 := Hp.le_new (Hp.le_refl _) hb3 hH
    refine ⟨le11, ⟨some ⟨b3, 0, none⟩, k, k⟩, rfl, ?_⟩
    have := made_mine (g := fun x => Value.int .i64 x) (e := 3) hfI (n := (k : Int)) (z := (-1 : Int)) hb3 hH (by simp [negs])
    rw [Int.toNat_natCast] at this
    exact this

theorem agendaNew {H : Hp} {n : Int} :
    Go.Eng.Fn Tryz.prog F.agenda_New #[.int .i64 n] H fun v H' => ∃ v1 v2 v3 v4 v5 : Slc, v = .tuple #[agV v1 v2 v3 v4 v5, .int .i64 (newA n).2] ∧ NewA H H' v1 v2 v3 v4 v5 (newA n).1 := by
  refine agenda_New_vc (slotNew.mono fun v H2 ⟨s1, s2, s3, hv, nt⟩ => ⟨s1, s2, s3, _, hv, ?_⟩)
  unfold newM at nt ⊢
  unfold newA
  by_cases h : n < 1 ∨ n > 200
  · rw [if_pos h] at nt ⊢
    rw [if_pos h]
    exact ⟨fun _ => ⟨zs, zs, zs, zs, zs, rfl, NewA.zero nt.le⟩, fun he => by simp at he⟩
  · rw [if_neg h] at nt ⊢
    rw [if_neg h]
    refine ⟨fun he => by simp at he, fun _ b7 H8 hb7 hH8 => ?_⟩
    have le8 : Hp.le H2 H8 := Hp.le_new (Hp.le_refl _) hb7 hH8
    have hx : H8.at ⟨b7, 0, none⟩ = some (.int .i64 (-1)) := by rw [hH8, Cel.at Cel.put]; try rfl
    have := repeatInt (N := n.toNat) (by omega) (by omega) hx
    rw [Int.toNat_of_nonneg (by omega)] at this
    refine this.mono fun v H10 ⟨l10, u, hv, m⟩ => ⟨l10, u, hv, s1, s2, s3, zs, u, rfl, ?_⟩
    have o := nt.old
    exact ⟨nt.up (Hp.le_trans le8 l10), .inl ⟨rfl, rfl⟩, m.low (Hp.le_trans nt.le le8), Sep.nil.symm, ⟨Sep.nil, Sep.nil, Sep.nil⟩, ⟨Sep.of (o.le le8).1 m.isNew, Sep.of (o.le le8).2.1 m.isNew, Sep.of (o.le le8).2.2 m.isNew⟩⟩

end Go.Proofs.YtkemdpobjaiolaaGreat
end
