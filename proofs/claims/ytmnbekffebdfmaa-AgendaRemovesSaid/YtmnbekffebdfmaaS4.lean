/- The laws SlotFinds, SlotBack, SlotFull. Conditions: none. -/
import Derived.Test.YtmnbekffebdfmaaS3
import Derived.Test.YtmnbekffebdfmaaE4
import Derived.Test.YtmnbekffebdfmaaVgH06
import Derived.Test.YtmnbekffebdfmaaVgLSlotBack
import Derived.Test.YtmnbekffebdfmaaVgLSlotFinds
import Derived.Test.YtmnbekffebdfmaaVgLSlotFull
import Derived.Test.YtmnbekffebdfmaaFs
set_option linter.unusedVariables false
open Go Go.Eng Go.Proofs
namespace Go.Proofs.Ytmnbekffebdfmaa

theorem lawHasOk {H : Hp} {u1 u2 u3 : Slc} {t : Tb} {i u : Int} {want : Bool} (h : RdT H u1 u2 u3 t) (ok : okT t) (hw : t.live i u = want) :
    Qf Try.prog F.pelotonlaw06_has #[.agg #[u1.v, u2.v, u3.v], .agg #[.int .i64 i, .int .i64 u], .bool want] H (.bool true) := by
  have := lawHas (i := i) (u := u) (want := want) h ok.small
  rw [hasM_ok ok, hw] at this
  simpa using this

theorem agrees {H : Hp} {u1 u2 u3 ua ul : Slc} {t : Tb} {hs : List (Int × Int)} {ls : List Bool} {n used k : Int} (h : RdT H u1 u2 u3 t) (ha : Rd 2 fH H ua hs) (hl : RdB H ul ls) (f : FinT n t hs ls used k) (hk : k ≤ 1000000) :
    Qf Try.prog F.pelotonlaw06_agrees #[.agg #[u1.v, u2.v, u3.v], ua.v, ul.v] H (.bool true) := by
  have l1 := ha.len
  have l2 := hl.len
  have l3 := f.ll
  have l4 := f.lk
  refine pelotonlaw06_agrees_vc (upto (N := hs.length) (J := fun _ => True) (by omega) trivial fun i i0 i1 _ => ⟨fun hi => ?_, fun hi => ⟨rfl, Hp.le_refl _⟩⟩)
  have hi : i < hs.length := by have : i < ua.n := by simpa using hi
                                omega
  have gi := getX (d := ((0 : Int), (0 : Int))) i0 hi
  generalize hx : hs.getD i.toNat (0, 0) = x at gi
  obtain ⟨k1, k2, k3, k4⟩ := f.each _ _ gi
  have gH := ha.gH i0 hi
  rw [hx] at gH
  refine ⟨ha.inS i0 hi, _, _, gH, hl.ldB i0 (by omega) ⟨_, lawHasOk h f.ok k4.symm, fun hb => (by cases hb), fun _ => ?_⟩⟩
  refine upto (N := i) (J := fun _ => True) i0 trivial fun j j0 j1 _ => ⟨fun hj => ?_, fun hj => upto.nx i0 hi (by omega) trivial⟩
  have hj : j < i := by simpa using hj
  have gj := getX (d := ((0 : Int), (0 : Int))) j0 (by omega : j < hs.length)
  generalize hy : hs.getD j.toNat (0, 0) = y at gj
  have gH2 := ha.gH j0 (by omega)
  rw [hy] at gH2
  obtain ⟨a1, a2⟩ := f.apart gi gj (by omega)
  have in1 := ha.inS i0 hi
  have in2 := ha.inS j0 (by omega : j < hs.length)
  refine ⟨in2, _, _, gH2, in1, _, _, gH, hl.ldcB (fun _ => ⟨i0, by omega⟩) (hl.ldcB (fun _ => ⟨j0, by omega⟩) ⟨fun _ => in2, _, fun _ => gH2.1, fun _ => in1, _, fun _ => gH.1, fun hb => ?_, fun _ => upto.nx j0 hj (by omega) trivial⟩)⟩
  exfalso
  simp only [Bool.or_eq_true, Bool.and_eq_true, beq_iff_eq] at hb
  rcases hb with ⟨e1, e2⟩ | ⟨⟨e1, e2⟩, e3⟩
  · exact a1 (Prod.ext e1.symm e2.symm)
  · exact a2 ⟨e1, e2, e3⟩

/-- What holds in the loop of SlotFinds. -/
structure FI (n : Int) (H H' : Hp) (ua ul a b c : Slc) (used k : Int) (t : Tb) (hs : List (Int × Int)) (ls : List Bool) : Prop where
  le : Hp.le H H'
  rd : RdT H' a b c t
  old : OldT H' a b c
  all : Mine 2 fH 31 H H' ua hs
  live : Mine 1 fB 4 H H' ul ls
  sep : Sep ua ul
  sa : SepT a b c ua
  sl : SepT a b c ul
  fin : FinT n t hs ls used k

theorem slotFinds {H : Hp} {n : Int} {ul : Slc} {l : List Int} (h : RdI H ul l) (hl : l.length ≤ 9223372036854775807) :
    Qf Try.prog F.pelotonlaw06_SlotFinds #[.int .i64 n, ul.v] H (.bool true) := by
  have ll := h.len
  refine pelotonlaw06_SlotFinds_vc ⟨fun _ => ⟨_, lawAlive, rfl, Hp.le_refl _⟩, fun hc => ?_⟩
  simp only [Bool.or_eq_false_iff, decide_eq_false_iff_not] at hc
  obtain ⟨⟨c1, c2⟩, c3⟩ := hc
  obtain ⟨N, rfl⟩ : ∃ N : Nat, n = N := ⟨n.toNat, by omega⟩
  refine slotNew.mono fun v H3 ⟨a, b, c, hv, nt⟩ => ⟨a, b, c, _, hv, ?_⟩
  have hm : newM (N : Int) = (beginT N, 0) := by unfold newM; rw [if_neg (by omega), Int.toNat_natCast]
  rw [hm] at nt ⊢
  refine ⟨fun hb => (by cases hb), fun _ => ?_⟩
  refine ⟨fun ua ul' used k a b c H' => 0 ≤ k ∧ k ≤ l.length ∧ ∃ t hs ls, FI N H H' ua ul' a b c used k t hs ls, fun _ _ _ k _ _ _ _ => (l.length - k).toNat,
    ⟨by omega, by omega, _, [], [], nt.le, nt.rd, nt.old, .inl ⟨rfl, rfl⟩, .inl ⟨rfl, rfl⟩, Sep.nil, ⟨Sep.nil, Sep.nil, Sep.nil⟩, ⟨Sep.nil, Sep.nil, Sep.nil⟩, FinT.start (by omega) (by omega)⟩, ?_⟩
  intro ua ul' used k a b c H' ⟨k0, k1, t, hs, ls, f⟩
  have h' := h.le f.le
  have ok := f.fin.ok
  have top := ok.top
  have fl := ok.fl
  have fln := f.fin.len
  have fu := f.fin.used
  have flk := f.fin.lk
  have fll := f.fin.ll
  have rm : Qf Try.prog F.slot_Room #[.agg #[a.v, b.v, c.v]] H' (.tuple #[.int .i64 t.free.length, .int .i64 0]) := by
    have := slotRoom f.rd ok.small; rwa [roomM_ok ok] at this
  have e0 : (t.free.length : Int) = N - used := by omega
  rw [e0] at rm
  refine ⟨fun hk => ?_, fun _ => ⟨_, lawAlive, rfl, f.le⟩⟩
  have hk : k < l.length := by have : k < ul.n := by simpa using hk
                               omega
  have hus : 0 ≤ used ∧ used ≤ N := by omega
  have i1 : inI ((N : Int) - used) := by unfold inI; omega
  have i2 : inI (k + 1) := by unfold inI; omega
  have i3 : inI (used + 1) := by unfold inI; omega
  have i4 : inI (used - 1) := by unfold inI; omega
  have me : (l.length - (k + 1)).toNat < ((l.length : Int) - k).toNat := by omega
  refine h'.ldI k0 hk ⟨fun hneg => ?_, fun hneg => h'.ldI k0 hk ⟨fun hin => h'.ldI k0 hk ?_, fun hout => ?_⟩⟩
  · -- a slot is taken
    refine (slotTake f.rd ok.small).mono fun v H20 ⟨a', b', c', hv, nt'⟩ => ⟨a', b', c', _, _, _, hv, ?_⟩
    have hcan := f.fin.can (by omega)
    cases hct : t.canTake with
    | false =>
      rw [takeM_no ok hct] at nt' ⊢
      have hlt : ¬ used < N := fun h => by rw [hcan.2 h] at hct; cases hct
      refine ⟨fun hb => ?_, fun _ => ⟨fun hb => (by cases hb), fun _ => ?_⟩⟩
      · exfalso; simp at hb; omega
      have rd := f.rd.le nt'.le
      have hl20 : Hp.le H H20 := Hp.le_trans f.le nt'.le
      refine ⟨_, _, rm.up nt'.le, fun _ => i1, _, fun _ => agrees rd (f.all.rdH.le nt'.le) (f.live.rdB.le nt'.le) f.fin (by omega), fun hb => ?_, fun _ => ⟨i2, ⟨by omega, by omega, t, hs, ls, hl20, rd, f.old.le nt'.le, f.all.le nt'.le, f.live.le nt'.le, f.sep, f.sa, f.sl, f.fin.skip⟩, me⟩⟩
      exfalso; simp at hb
    | true =>
      rw [takeM_ok ok hct] at nt' ⊢
      have hlt : used < N := hcan.1 hct
      refine ⟨fun hb => ?_, fun _ => ⟨fun _ => ⟨i3, fun b27 H28 hb27 hH28 => ?_⟩, fun hb => (by simp at hb)⟩⟩
      · exfalso; simp at hb; omega
      have hl20 : Hp.le H H20 := Hp.le_trans f.le nt'.le
      refine (append1 (k := 2) (f := fH) (e := 31) (bytes := 16) (x := (topL t.free, t.uses.getD (topL t.free).toNat 0 + 1)) (by kernel_rfl) (by decide) (fun _ => rfl) (fun x v hv => by
        simp [fH] at hv; rcases hv with rfl | rfl <;> rfl) hl20 (f.all.le nt'.le) hb27 hH28 rfl (by omega) (by omega)).mono fun v H30 ⟨ua', hv, g1, g2, g3, g4⟩ => ⟨ua', hv, fun b32 H33 hb32 hH33 => ?_⟩
      have s1 : SepT a' b' c' ua := nt'.sep f.all.isOld
      have s2 : SepT a' b' c' ul' := nt'.sep f.live.isOld
      have rd1 := nt'.rd.chg g3 s1
      have old1 := nt'.old.chg g3 s1
      have s1' := s1.ext nt'.old g4
      have lv1 := (f.live.le nt'.le).chg g3 f.sep.symm
      have sp1 : Sep ua' ul' := f.sep.ext (f.live.le nt'.le).isOld g4
      refine (append1 (k := 1) (f := fB) (e := 4) (bytes := 1) (x := true) (by kernel_rfl) (by decide) (fun _ => rfl) (fun x v hv => by simp [fB] at hv; subst hv; rfl) g1 lv1 hb32 hH33 rfl (by omega) (by omega)).mono
        fun v H35 ⟨ul2, hv, j1, j2, j3, j4⟩ => ⟨ul2, hv, ?_⟩
      have rd2 := rd1.chg j3 s2
      have old2 := old1.chg j3 s2
      have s2' := s2.ext old1 j4
      have al2 := g2.chg j3 sp1
      have sp2 : Sep ua' ul2 := (sp1.symm.ext g2.isOld j4).symm
      have fin2 := f.fin.take hct
      have rm2 : Qf Try.prog F.slot_Room #[.agg #[a'.v, b'.v, c'.v]] H35 (.tuple #[.int .i64 (N - (used + 1)), .int .i64 0]) := by
        have := slotRoom rd2 fin2.ok.small
        rw [roomM_ok fin2.ok] at this
        have e : (t.taken.free.length : Int) = N - (used + 1) := by have := fin2.used; omega
        rwa [e] at this
      refine ⟨_, _, rm2, fun _ => by unfold inI; omega, _, fun _ => agrees rd2 al2.rdH j2.rdB fin2 (by omega), fun hb => ?_, fun _ => ⟨i2, ⟨by omega, by omega, _, _, _, j1, rd2, old2, al2, j2, sp2, s1', s2', fin2⟩, me⟩⟩
      exfalso; simp at hb
  · -- a handle is given back
    have hneg : ¬ l.getD k.toNat 0 < 0 := by simpa [-List.getD_eq_getElem?_getD] using hneg
    have hla := f.all.rdH.len
    have hin : l.getD k.toNat 0 < hs.length := by have : l.getD k.toNat 0 < ua.n := by simpa [-List.getD_eq_getElem?_getD] using hin
                                                  omega
    have gj := getX (d := ((0 : Int), (0 : Int))) (by omega : 0 ≤ l.getD k.toNat 0) hin
    have gH := f.all.rdH.gH (by omega : 0 ≤ l.getD k.toNat 0) hin
    generalize hx : hs.getD (l.getD k.toNat 0).toNat (0, 0) = x at gj gH
    obtain ⟨q1, q2, q3, q4⟩ := f.fin.each _ _ gj
    refine ⟨f.all.rdH.inS (by omega) hin, _, _, gH, ?_⟩
    refine (slotGive f.rd ok.small).mono fun v H48 ⟨a', b', c', hv, nt'⟩ => ⟨nt'.le, a', b', c', _, hv, (h'.le nt'.le).ldI k0 hk ((f.live.rdB.le nt'.le).ldB (by omega) (by omega) ?_)⟩
    rw [q4]
    cases hlv : t.live x.1 x.2 with
    | false =>
      rw [giveM_no ok hlv] at nt' ⊢
      refine ⟨fun hb => (by simp at hb), fun _ => ⟨fun hb => (by cases hb), fun _ => ?_⟩⟩
      have rd := f.rd.le nt'.le
      have hl20 : Hp.le H H48 := Hp.le_trans f.le nt'.le
      refine ⟨_, _, rm.up nt'.le, fun _ => i1, _, fun _ => agrees rd (f.all.rdH.le nt'.le) (f.live.rdB.le nt'.le) f.fin (by omega), fun hb => ?_, fun _ => ⟨i2, ⟨by omega, by omega, t, hs, ls, hl20, rd, f.old.le nt'.le, f.all.le nt'.le, f.live.le nt'.le, f.sep, f.sa, f.sl, f.fin.skip⟩, me⟩⟩
      exfalso; simp at hb
    | true =>
      rw [giveM_ok ok hlv] at nt' ⊢
      refine ⟨fun hb => (by simp at hb), fun _ => ⟨fun _ => (h'.le nt'.le).ldI k0 hk ⟨i4, (f.live.rdB.le nt'.le).inS (by omega) (by omega), (f.live.le nt'.le).setB (by omega) (by omega) false fun H56 m ch => ?_⟩, fun hb => (by simp at hb)⟩⟩
      have s1 : SepT a' b' c' ua := nt'.sep f.all.isOld
      have s2 : SepT a' b' c' ul' := nt'.sep f.live.isOld
      have rd2 := nt'.rd.chg ch s2
      have old2 := nt'.old.chg ch s2
      have al2 := (f.all.le nt'.le).chg ch f.sep
      have fin2 := f.fin.give gj hlv
      have le2 : Hp.le H H56 := Hp.le_chg (Hp.le_trans f.le nt'.le) ch m.isNew
      have rm2 : Qf Try.prog F.slot_Room #[.agg #[a'.v, b'.v, c'.v]] H56 (.tuple #[.int .i64 (N - (used - 1)), .int .i64 0]) := by
        have := slotRoom rd2 fin2.ok.small
        rw [roomM_ok fin2.ok] at this
        have e : ((t.given x.1).free.length : Int) = N - (used - 1) := by have := fin2.used; omega
        rwa [e] at this
      refine ⟨_, _, rm2, fun _ => by unfold inI; omega, _, fun _ => agrees rd2 al2.rdH m.rdB fin2 (by omega), fun hb => ?_, fun _ => ⟨i2, ⟨by omega, by omega, _, _, _, le2, rd2, old2, al2, m, f.sep, s1, s2, fin2⟩, me⟩⟩
      exfalso; simp at hb
  · -- nothing is done
    refine ⟨_, _, rm, fun _ => i1, _, fun _ => agrees f.rd f.all.rdH f.live.rdB f.fin (by omega), fun hb => ?_, fun _ => ⟨i2, ⟨by omega, by omega, t, hs, ls, f.le, f.rd, f.old, f.all, f.live, f.sep, f.sa, f.sl, f.fin.skip⟩, me⟩⟩
    exfalso; simp at hb

theorem slotBack {H : Hp} {u1 u2 u3 : Slc} {t : Tb} {i u j w : Int} (h : RdT H u1 u2 u3 t) (hu : inI u) :
    Qf Try.prog F.pelotonlaw06_SlotBack #[.agg #[u1.v, u2.v, u3.v], .agg #[.int .i64 i, .int .i64 u], .agg #[.int .i64 j, .int .i64 w]] H (.bool true) := by
  refine pelotonlaw06_SlotBack_vc ⟨_, refGreat h, _, fun hg => rcheck h ?_, fun _ => ⟨_, lawAlive, rfl, Hp.le_refl _⟩, fun hc => ?_⟩
  · simp at hg; unfold Tb.small; omega
  simp only [Bool.or_eq_false_iff] at hc
  have ok : okT t := chk_zero.1 (by simpa using hc.2)
  have hs := ok.small
  have hlen := ok.len
  refine ⟨_, _, slotHas h hs, _, _, slotHas h hs, (slotGive h hs).mono fun v H9 ⟨a, b, c, hv, nt⟩ => ⟨a, b, c, _, hv, ?_⟩⟩
  rw [hasM_ok ok, hasM_ok ok]
  cases hl : t.live i u with
  | false =>
    rw [giveM_no ok hl] at nt ⊢
    exact ⟨fun hb => (by simp at hb), fun _ => ⟨fun _ => ⟨_, fun _ => lawAlive, rfl, nt.le⟩, fun hb => (by simp at hb)⟩⟩
  | true =>
    rw [giveM_ok ok hl] at nt ⊢
    obtain ⟨r1, r2, hd, huse⟩ := live_iff.1 hl
    have okg := ok.given hl
    have hbd := ok.each i.toNat (by omega)
    refine ⟨fun hb => (by simp at hb), fun _ => ⟨fun hb => (by simp at hb), fun _ => ⟨_, _, slotRoom (h.le nt.le) hs, _, _, slotRoom nt.rd okg.small, (slotTake nt.rd okg.small).mono fun v H20 ⟨a', b', c', hv, nt'⟩ => ⟨a', b', c', _, _, _, hv, ?_⟩⟩⟩⟩
    rw [roomM_ok ok, roomM_ok okg]
    have hfl := ok.fl
    have htop := ok.top
    have hw : (t.given i).live j w = (t.live j w && !(j == i && w == u)) := by
      rw [live_given ok r1 r2, Bool.eq_iff_iff]
      simp only [Bool.and_eq_true, Bool.not_eq_true', beq_eq_false_iff_ne, Bool.and_eq_false_imp, beq_iff_eq]
      refine ⟨fun ⟨x, y⟩ => ⟨x, fun e => absurd e y⟩, fun ⟨x, y⟩ => ⟨x, fun e => ?_⟩⟩
      have := y e
      obtain ⟨_, _, _, hx⟩ := live_iff.1 x
      subst e
      exact this (by rw [← hx, huse])
    have e1 : ((t.given i).free.length : Int) = t.free.length + 1 := by simp [Tb.given]
    rw [e1]
    have htl : topL (t.given i).free = i := by simp [Tb.given, topL]
    have hgu : (t.given i).uses.getD i.toNat 0 = u := huse
    refine ⟨fun _ => by unfold inI; omega, _, fun _ => lawHasOk (nt.rd.le nt'.le) okg hw, fun hb => (by simp at hb), fun _ => ?_⟩
    cases hct : (t.given i).canTake with
    | false =>
      rw [takeM_no okg hct] at nt' ⊢
      have hmax : u = 1000000 := by
        have hn : ¬ (0 < (t.given i).free.length ∧ (t.given i).uses.getD (topL (t.given i).free).toNat 0 < 1000000) := fun hx => by rw [canTake_iff.2 hx] at hct; cases hct
        rw [htl, hgu] at hn
        omega
      subst hmax
      exact ⟨fun _ => ⟨_, fun _ => lawAlive, rfl, Hp.le_trans nt.le nt'.le⟩, fun hb => (by simp at hb)⟩
    | true =>
      have okt := okg.taken hct
      have hlt := (canTake_iff.1 hct)
      rw [takeM_ok okg hct] at nt' ⊢
      rw [htl, hgu] at hlt ⊢
      refine ⟨fun hb => (by simp at hb), fun _ => ⟨by unfold inI; omega, _, fun _ => lawHasOk nt'.rd okt ?_, _, fun _ => lawHasOk nt'.rd okt ?_, _, fun hne => lawHasOk nt'.rd okt ?_, _, fun _ => lawAlive, by simp, Hp.le_trans nt.le nt'.le⟩⟩
      · rw [live_taken okg hlt.1, htl, if_pos rfl, hgu]; simp
      · rw [live_taken okg hlt.1, htl, if_pos rfl, hgu, beq_eq_false_iff_ne]; omega
      · rw [live_taken okg hlt.1, htl, hgu, hw]
        simp only [Bool.and_eq_true, Bool.not_eq_true', beq_iff_eq, true_and, Bool.and_eq_false_imp, beq_eq_false_iff_ne] at hne
        by_cases e : j = i
        · rw [if_pos e]
          have h1 : (u + 1 == w) = false := by rw [beq_eq_false_iff_ne]; intro x; exact hne e (by rw [x])
          rw [h1]
          symm
          rw [Bool.and_eq_false_imp]
          intro hx
          obtain ⟨_, _, _, hy⟩ := live_iff.1 hx
          subst e
          simp; omega
        · rw [if_neg e]

theorem slotFull {H : Hp} {u1 u2 u3 : Slc} {t : Tb} (h : RdT H u1 u2 u3 t) :
    Qf Try.prog F.pelotonlaw06_SlotFull #[.agg #[u1.v, u2.v, u3.v]] H (.bool true) := by
  have hl1 := h.uses.len
  refine pelotonlaw06_SlotFull_vc ⟨_, fun _ => refGreat h, _, fun hg => rcheck h ?_, fun _ => ⟨_, lawAlive, rfl, Hp.le_refl _⟩, fun hc => ?_⟩
  · simp at hg; unfold Tb.small; omega
  simp only [Bool.or_eq_false_iff] at hc
  have ok : okT t := chk_zero.1 (by simpa using hc.2)
  have hs := ok.small
  refine ⟨_, _, slotRoom h hs, ?_⟩
  rw [roomM_ok ok]
  refine ⟨fun hb => (by simp at hb), fun _ => ?_⟩
  have hfl := ok.fl
  have htop := ok.top
  refine ⟨fun u8 k a b c H' => 0 ≤ k ∧ k ≤ t.free.length ∧ Hp.le H H' ∧ RdT H' a b c (tk t k.toNat) ∧ (∀ j, j ≤ k.toNat → okT (tk t j)) ∧ ((RdT H a b c (tk t k.toNat)) ∨ (OldT H' a b c ∧ SepT a b c u8)) ∧
      ∃ hs : List (Int × Int), Mine 2 fH 31 H H' u8 hs ∧ hs.length = k ∧ ∀ j : Nat, j < k → hs[j]? = some (tkH t j), fun _ k _ _ _ _ => (t.free.length - k).toNat,
    ⟨by omega, by omega, Hp.le_refl _, h, fun j hj => (by have e0 : j = 0 := (by simpa using hj); rw [e0]; exact ok), .inl h, [], .inl ⟨rfl, rfl⟩, rfl, fun j hj => by omega⟩,
    fun u8 k a b c H' ⟨k0, k1, le, rd, oks, st, hs, m8, hl, hh⟩ => ⟨fun hk => ?_, fun hk => ?_⟩⟩
  · have hk : k < t.free.length := by simpa using hk
    have okk := oks k.toNat (Nat.le_refl _)
    refine (slotTake rd okk.small).mono fun v H15 ⟨a', b', c', hv, nt⟩ => ⟨a', b', c', _, _, _, hv, ?_⟩
    cases hct : (tk t k.toNat).canTake with
    | false =>
      rw [takeM_no okk hct] at nt ⊢
      have ro := refOpen (rd.le nt.le) okk
      rw [hct] at ro
      refine ⟨fun _ => ⟨_, fun _ => rcheck (rd.le nt.le) okk.small, _, fun _ => ro, _, fun _ => lawAlive, ?_, Hp.le_trans le nt.le⟩, fun hb => (by simp at hb)⟩
      rw [chk_ok okk]; rfl
    | true =>
      rw [takeM_ok okk hct] at nt ⊢
      refine ⟨fun hb => (by simp at hb), fun _ b25 H26 hb25 hH26 => ?_⟩
      refine (append1 (k := 2) (f := fH) (e := 31) (bytes := 16) (x := tkH t k.toNat) (by kernel_rfl) (by decide) (fun _ => rfl) (fun x v hv => by
        simp [fH] at hv; rcases hv with rfl | rfl <;> rfl) (Hp.le_trans le nt.le) (m8.le nt.le) hb25 hH26 rfl (by omega) (by omega)).mono fun v H28 ⟨u8', hv, g1, g2, g3, g4⟩ => ⟨u8', hv, by unfold inI; omega, ?_, ?_⟩
      · have s1 : SepT a' b' c' u8 := nt.sep m8.isOld
        have e1 : (k + 1).toNat = k.toNat + 1 := by omega
        simp only [e1]
        refine ⟨by omega, by omega, g1, nt.rd.chg g3 s1, fun j hj => ?_, .inr ⟨nt.old.chg g3 s1, s1.ext nt.old g4⟩, _, g2, by simp; omega, fun j hj => ?_⟩
        · rcases Nat.lt_or_ge j (k.toNat + 1) with hlt | hge
          · exact oks j (by omega)
          · have : j = k.toNat + 1 := by omega
            subst this; exact okk.taken hct
        · rw [List.getElem?_append]
          split
          · exact hh j (by omega)
          · have : j = hs.length := by omega
            subst this
            have : hs.length = k.toNat := by omega
            rw [this]; simp
      · show ((t.free.length : Int) - (k + 1)).toNat < ((t.free.length : Int) - k).toNat
        omega
  · have hk : k = t.free.length := by have : ¬ k < t.free.length := by simpa using hk
                                      omega
    subst hk
    rw [Int.toNat_natCast] at rd oks st
    have okm := oks t.free.length (Nat.le_refl _)
    have hfe : (tk t t.free.length).free.length = 0 := by rw [tk_free]; omega
    have hct : (tk t t.free.length).canTake = false := by
      cases hx : (tk t t.free.length).canTake with
      | false => rfl
      | true => have := (canTake_iff.1 hx).1; omega
    refine (slotTake rd okm.small).mono fun v H31 ⟨a', b', c', hv, nt⟩ => ⟨a', b', c', _, _, _, hv, _, _, slotRoom (rd.le nt.le) okm.small, ?_⟩
    rw [takeM_no okm hct, roomM_ok okm, hfe]
    have l8 := m8.rdH.len
    refine ⟨fun hb => (by simp at hb), fun _ => ⟨by unfold inI; omega, ?_⟩⟩
    refine ⟨fun k a b c H' => -1 ≤ k ∧ k < t.free.length ∧ Hp.le H31 H' ∧ RdT H' a b c (back t t.free.length (k + 1).toNat) ∧ okT (back t t.free.length (k + 1).toNat), fun k _ _ _ _ => (k + 1).toNat,
      ⟨by omega, by omega, Hp.le_refl _, ?_, ?_⟩, fun k a b c H' ⟨k0, k1, le', rd', ok'⟩ => ⟨fun hk => ?_, fun hk => ?_⟩⟩
    · have e : ((u8.n : Int) - 1 + 1).toNat = t.free.length := by omega
      rw [e]; exact rd.le nt.le
    · have e : ((u8.n : Int) - 1 + 1).toNat = t.free.length := by omega
      rw [e]; exact okm
    · have hk : k ≥ 0 := by simpa using hk
      have e1 : (k + 1).toNat = k.toNat + 1 := by omega
      have e2 : (k - 1 + 1).toNat = k.toNat := by omega
      rw [e1] at rd' ok'
      have hg := hh k.toNat (by omega)
      have hgH := ((m8.rdH.le nt.le).le le').gH (by omega) (by omega : k < hs.length)
      have hgd : hs.getD k.toNat (0, 0) = tkH t k.toNat := by rw [List.getD_eq_getElem?_getD, hg]; rfl
      rw [hgd] at hgH
      obtain ⟨b1, b2⟩ := back_step oks (Nat.le_refl _) (by omega : k.toNat < t.free.length) ok'
      refine ⟨m8.rdH.inS (by omega) (by omega), _, _, hgH, (slotGive rd' ok'.small).mono fun v H50 ⟨x, y, z, hv, nt'⟩ => ⟨nt'.le, x, y, z, _, hv, ?_⟩⟩
      rw [b1] at nt' ⊢
      refine ⟨fun hb => (by simp at hb), fun _ => ⟨by unfold inI; omega, ⟨by omega, by omega, Hp.le_trans le' nt'.le, by rw [e2]; exact nt'.rd, by rw [e2]; exact b2⟩, ?_⟩⟩
      show (k - 1 + 1).toNat < (k + 1).toNat
      omega
    · have hk : k = -1 := by have : ¬ k ≥ 0 := by simpa using hk
                             omega
      subst hk
      have leA := Hp.le_trans le (Hp.le_trans nt.le le')
      have hh' := h.le leA
      refine ⟨_, sameInts rd'.free hh'.free (by have := ok'.fl; have := ok'.top; omega), _, fun _ => sameBools rd'.used hh'.used (by have := ok'.len; have := ok'.top; omega), _, fun _ => lawAlive, ?_, leA⟩
      simp [back, tk]
end Go.Proofs.Ytmnbekffebdfmaa
