/- Agendas: pushing, removing, rekeying. Conditions: none. -/
import Derived.Test.YtmnbekffebdfmaaG4
import Derived.Test.YtmnbekffebdfmaaVgAgenda
import Derived.Test.YtmnbekffebdfmaaFs
set_option linter.unusedVariables false
set_option maxRecDepth 100000
open Go Go.Eng Go.Proofs
namespace Go.Proofs.Ytmnbekffebdfmaa

theorem _root_.Go.Eng.Chg.two {H H' : Hp} {u v : Slc} (c : Chg H H' u) : Chg2 H H' u v := fun b hb h1 _ => c b hb h1
theorem down_ord {f : Nat} {s : Hw} {i : Nat} (o : ordH s.1) : downA f s i = s :=
  downA_stop fun ⟨a, b⟩ => by
    obtain ⟨k1, k2, k3⟩ := kid_gt s.1 i
    have := o (kid s.1 i) (by omega) (k2 a)
    rw [k3] at this
    rw [this] at b; cases b
theorem fE_one (x : Ev) : ∀ v ∈ fE x, v.oneCell' = true := fun v hv => by simp [fE] at hv; rcases hv with rfl | rfl | rfl | rfl | rfl <;> rfl

theorem agendaPush1 {H : Hp} {b : Nat} {n : Int} {x : Ev} (h : H.at ((Addr.mk b 0 none).add 0) = some (.int .i64 n)) :
    QfV Try.prog (.func (.func F.agenda_Push_1) #[] #[.pointer (some ⟨b, 0, none⟩)]) [evV x] H (.bool (x.no == n)) := by
  refine ⟨F.agenda_Push_1, #[], _, rfl, agenda_Push_1_callable, ?_⟩
  exact agenda_Push_1_vc (p1 := ⟨b, 0, none⟩) ⟨_, h, rfl, Hp.le_refl _⟩

theorem max8 {a : Ag} {t : Int × Int} (h : ¬ (okA a ∧ okR t)) : (if chkR t > chkA a then chkR t else chkA a) = 8 := by
  by_cases o1 : okA a
  · have o2 : ¬ okR t := fun o2 => h ⟨o1, o2⟩
    rw [chkA_ok o1, chkR_bad o2]; rfl
  · rw [chkA_bad o1]
    by_cases o2 : okR t
    · rw [chkR_ok o2]; rfl
    · rw [chkR_bad o2]; rfl

/-- What an own table and own slices come to, behind changes in the slices. -/
theorem MyA.new {H0 H9 H17 H : Hp} {s1 s2 s3 u4 u5 : Slc} {tb : Tb} {s : Hw} (nt : NewT H0 H17 s1 s2 s3 tb) (m : MyA H0 H u4 u5 s) (c : Chg2 H17 H u4 u5) (h4 : SepT s1 s2 s3 u4) (h5 : SepT s1 s2 s3 u5) : NewA H0 H s1 s2 s3 u4 u5 ⟨tb, s.1, s.2⟩ :=
  ⟨NewT.chg2 nt c h4 h5 m.heap.isNew m.wh.isNew, m.heap, m.wh, m.sep, h4, h5⟩

theorem agendaPush {H : Hp} {u1 u2 u3 u4 u5 : Slc} {a : Ag} {t : Int × Int} {n : Int} (r : RdA H u1 u2 u3 u4 u5 a) (f : fitG a) (ft : fitR t) :
    Go.Eng.Fn Try.prog F.agenda_Push #[agV u1 u2 u3 u4 u5, .agg #[.int .i64 t.1, .int .i64 t.2], .int .i64 n] H fun v H' => ∃ v1 v2 v3 v4 v5 : Slc,
      v = .tuple #[agV v1 v2 v3 v4 v5, .agg #[.int .i64 (pushA a t n).2.1.1, .int .i64 (pushA a t n).2.1.2], .int .i64 (pushA a t n).2.2] ∧ NewA H H' v1 v2 v3 v4 v5 (pushA a t n).1 := by
  have fh := f.hl; have fw := f.wl
  refine agenda_Push_vc fun b1 H2 hb1 hH2 => ?_
  have le2 : Hp.le H H2 := Hp.le_new (Hp.le_refl _) hb1 hH2
  have r2 := r.le le2
  have va := Var.new hH2
  have e1 := va.at
  refine ⟨_, agendaCheck r2 f, _, ratioCheck ft, fun hc => ?_, fun hc => ?_⟩
  · have hbad : ¬ (okA a ∧ okR t) := fun ⟨o1, o2⟩ => by rw [chkA_ok o1, chkR_ok o2] at hc; simp at hc
    rw [max8 hbad, pushA, if_neg hbad]
    exact ⟨zs, zs, zs, zs, zs, rfl, NewA.zero le2⟩
  have ok : okA a ∧ okR t := by
    by_cases h : okA a ∧ okR t
    · exact h
    · rw [max8 h] at hc; simp at hc
  rw [pushA, if_pos ok]
  refine ⟨_, e1, _, fun _ => e1, fun hb => ?_, fun hb => ?_⟩
  · rw [if_pos (by simpa using hb)]
    exact ⟨zs, zs, zs, zs, zs, rfl, NewA.zero le2⟩
  rw [if_neg (show ¬ (n < 0 ∨ 1000000 < n) by simpa using hb)]
  refine ⟨_, containsFunc_event r2.heap (by omega) (fun x => agendaPush1 e1), fun hb => ?_, fun hb => ?_⟩
  · rw [if_pos (show hasA a n = true from hb)]
    exact ⟨zs, zs, zs, zs, zs, rfl, NewA.zero le2⟩
  rw [if_neg (show ¬ hasA a n = true from by rw [show hasA a n = false from hb]; simp)]
  refine (slotTake r2.tb f.tb).mono fun v H9 ⟨s1, s2, s3, hv, nt⟩ => ⟨s1, s2, s3, _, _, _, hv, ?_⟩
  rw [takeM, if_pos ok.1.tb] at nt ⊢
  by_cases hct : a.tb.canTake = true
  · rw [if_pos hct] at nt ⊢
    rw [if_pos hct]
    refine ⟨fun he => by simp at he, fun _ => ?_⟩
    have le9 := Hp.le_trans le2 nt.le
    refine (agendaTwin (r.le le9) fh fw).mono fun v H17 ⟨b, c, hv, m⟩ => ⟨_, _, _, b, c, hv, n, ?_, fun b24 H25 hb24 hH25 => ?_⟩
    · exact (va.le (Hp.le_trans nt.le m.le)).at
    have le17 := Hp.le_trans le9 m.le
    have hmb := m.heap.low le9
    have hmc := m.wh.low le9
    have o := nt.old
    refine (append1 (k := 5) (f := fE) (bytes := 40) (x := (Ev.mk t n (nextH a))) (e := T.api_Event) (by kernel_rfl) (by decide) (fun _ => rfl) fE_one le17 hmb hb24 hH25 rfl (by show a.heap.length ≤ _; omega) (by omega)).mono fun v H27 ⟨w, hw, l27, mw, cw, ew⟩ => ⟨w, hw, ?_⟩
    have lw := mw.rdE.len
    have lw : w.n = a.heap.length + 1 := by rw [lw]; simp
    have mc := hmc.chg cw m.sep.symm
    have my : MyA H H27 w c (a.heap ++ [(Ev.mk t n (nextH a))], a.wh) := ⟨l27, mw, mc, m.sep.ext m.wh.isOld ew⟩
    have nt17 := (nt.low le2).up m.le
    have sb : SepT s1 s2 s3 b := ⟨Sep.of o.1 m.heap.isNew, Sep.of o.2.1 m.heap.isNew, Sep.of o.2.2 m.heap.isNew⟩
    have sc : SepT s1 s2 s3 c := ⟨Sep.of o.1 m.wh.isNew, Sep.of o.2.1 m.wh.isNew, Sep.of o.2.2 m.wh.isNew⟩
    have nt27 := NewT.chg2 nt17 (cw.two (v := c)) sb sc hmb.isNew hmc.isNew
    have sw : SepT s1 s2 s3 w := sb.ext (o.le m.le) ew
    have en : ((w.n : Int) - 1) = (a.heap.length : Nat) := by omega
    obtain ⟨p1, p2, p3, p4⟩ := push_parts (n := n) ok.1 ok.2 hct
    obtain ⟨hf, hu⟩ := canTake_iff.1 hct
    obtain ⟨tm, t0, t1⟩ := ok.1.tb.topR hf
    have hwl := ok.1.wl
    have es : ((a.heap ++ [(Ev.mk t n (nextH a))]).set a.heap.length (Ev.mk t n (nextH a)), a.wh.set (nextH a).1.toNat (a.heap.length : Nat)) = pushS a t n := by
      unfold pushS
      rw [List.set_append_right _ _ (Nat.le_refl _)]; simp [nextH]
    refine ⟨by unfold inI; omega, ?_⟩
    rw [en]
    have hset := agendaSettle (u1 := s1) (u2 := s2) (u3 := s3) (i := a.heap.length) (x := (Ev.mk t n (nextH a))) my (by simp) (by show topL a.tb.free < a.wh.length; omega) (by exact t0) (by show plA (_, _); rw [show (a.wh.set (nextH a).1.toNat (a.heap.length : Nat)) = a.wh.set (nextH a).1.toNat (a.heap.length : Nat) from rfl, es]; exact p1)
      (fun x hx => by
        rw [show ((a.heap ++ [(Ev.mk t n (nextH a))]).set a.heap.length (Ev.mk t n (nextH a))) = (pushS a t n).1 from congrArg Prod.fst es] at hx
        rcases List.mem_append.1 hx with hx | hx
        · exact (ok.1.each x hx).1
        · simp only [List.mem_singleton] at hx; subst hx; exact ok.2) (by have := ok.1.hl; have := ok.1.tb.top; simp; omega)
    refine hset.mono fun v H30 ⟨hv, m30, c30⟩ => ⟨hv, s1, s2, s3, w, c, rfl, ?_⟩
    have hk := pushed_kept (n := n) ok.1 ok.2 hct
    have em : moveA (pushS a t n) a.heap.length = (upA a.heap.length (pushS a t n) a.heap.length).1 := by
      unfold moveA; exact down_ord hk.2
    have m30 : MyA H H30 w c (upA a.heap.length (pushS a t n) a.heap.length).1 := by
      rw [← em, ← es]; exact m30
    exact MyA.new (H9 := H) nt27 m30 c30 sw sc
  · rw [if_neg hct] at nt ⊢
    rw [if_neg hct]
    exact ⟨fun _ => ⟨zs, zs, zs, zs, zs, rfl, NewA.zero (Hp.le_trans le2 nt.le)⟩, fun he => by simp at he⟩
end Go.Proofs.Ytmnbekffebdfmaa
