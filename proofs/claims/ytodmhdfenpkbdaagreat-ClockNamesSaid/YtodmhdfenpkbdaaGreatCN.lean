/- The law ClockNames. Conditions: none. -/
import Derived.Test.YtodmhdfenpkbdaaGreatLK
import Derived.Test.YtodmhdfenpkbdaaGreatVgClock
import Derived.Test.YtodmhdfenpkbdaaGreatVgLClockNames
import Derived.Test.YtodmhdfenpkbdaaGreatFs
set_option linter.unusedVariables false
set_option maxRecDepth 100000
open Go Go.Eng Go.Proofs
namespace Go.Proofs.YtodmhdfenpkbdaaGreat

theorem fit0 : fitR (0, 0) := ⟨by show inI 0; unfold inI; omega, by show inI 0; unfold inI; omega⟩
def z65 : List Pt := List.replicate 65 (0, 0, 0)
theorem rd65 {H H' : Hp} {b : Nat} (h : H' = H.put b (.cells #[Value.int .i64 0, Value.int .i64 0, Value.int .i64 0, Value.int .i64 0, Value.int .i64 0, Value.int .i64 0, Value.int .i64 0, Value.int .i64 0, Value.int .i64 0, Value.int .i64 0, Value.int .i64 0, Value.int .i64 0, Value.int .i64 0, Value.int .i64 0, Value.int .i64 0, Value.int .i64 0, Value.int .i64 0, Value.int .i64 0, Value.int .i64 0, Value.int .i64 0, Value.int .i64 0, Value.int .i64 0, Value.int .i64 0, Value.int .i64 0, Value.int .i64 0, Value.int .i64 0, Value.int .i64 0, Value.int .i64 0, Value.int .i64 0, Value.int .i64 0, Value.int .i64 0, Value.int .i64 0, Value.int .i64 0, Value.int .i64 0, Value.int .i64 0, Value.int .i64 0, Value.int .i64 0, Value.int .i64 0, Value.int .i64 0, Value.int .i64 0, Value.int .i64 0, Value.int .i64 0, Value.int .i64 0, Value.int .i64 0, Value.int .i64 0, Value.int .i64 0, Value.int .i64 0, Value.int .i64 0, Value.int .i64 0, Value.int .i64 0, Value.int .i64 0, Value.int .i64 0, Value.int .i64 0, Value.int .i64 0, Value.int .i64 0, Value.int .i64 0, Value.int .i64 0, Value.int .i64 0, Value.int .i64 0, Value.int .i64 0, Value.int .i64 0, Value.int .i64 0, Value.int .i64 0, Value.int .i64 0, Value.int .i64 0, Value.int .i64 0, Value.int .i64 0, Value.int .i64 0, Value.int .i64 0, Value.int .i64 0, Value.int .i64 0, Value.int .i64 0, Value.int .i64 0, Value.int .i64 0, Value.int .i64 0, Value.int .i64 0, Value.int .i64 0, Value.int .i64 0, Value.int .i64 0, Value.int .i64 0, Value.int .i64 0, Value.int .i64 0, Value.int .i64 0, Value.int .i64 0, Value.int .i64 0, Value.int .i64 0, Value.int .i64 0, Value.int .i64 0, Value.int .i64 0, Value.int .i64 0, Value.int .i64 0, Value.int .i64 0, Value.int .i64 0, Value.int .i64 0, Value.int .i64 0, Value.int .i64 0, Value.int .i64 0, Value.int .i64 0, Value.int .i64 0, Value.int .i64 0, Value.int .i64 0, Value.int .i64 0, Value.int .i64 0, Value.int .i64 0, Value.int .i64 0, Value.int .i64 0, Value.int .i64 0, Value.int .i64 0, Value.int .i64 0, Value.int .i64 0, Value.int .i64 0, Value.int .i64 0, Value.int .i64 0, Value.int .i64 0, Value.int .i64 0, Value.int .i64 0, Value.int .i64 0, Value.int .i64 0, Value.int .i64 0, Value.int .i64 0, Value.int .i64 0, Value.int .i64 0, Value.int .i64 0, Value.int .i64 0, Value.int .i64 0, Value.int .i64 0, Value.int .i64 0, Value.int .i64 0, Value.int .i64 0, Value.int .i64 0, Value.int .i64 0, Value.int .i64 0, Value.int .i64 0, Value.int .i64 0, Value.int .i64 0, Value.int .i64 0, Value.int .i64 0, Value.int .i64 0, Value.int .i64 0, Value.int .i64 0, Value.int .i64 0, Value.int .i64 0, Value.int .i64 0, Value.int .i64 0, Value.int .i64 0, Value.int .i64 0, Value.int .i64 0, Value.int .i64 0, Value.int .i64 0, Value.int .i64 0, Value.int .i64 0, Value.int .i64 0, Value.int .i64 0, Value.int .i64 0, Value.int .i64 0, Value.int .i64 0, Value.int .i64 0, Value.int .i64 0, Value.int .i64 0, Value.int .i64 0, Value.int .i64 0, Value.int .i64 0, Value.int .i64 0, Value.int .i64 0, Value.int .i64 0, Value.int .i64 0, Value.int .i64 0, Value.int .i64 0, Value.int .i64 0, Value.int .i64 0, Value.int .i64 0, Value.int .i64 0, Value.int .i64 0, Value.int .i64 0, Value.int .i64 0, Value.int .i64 0, Value.int .i64 0, Value.int .i64 0, Value.int .i64 0, Value.int .i64 0, Value.int .i64 0, Value.int .i64 0, Value.int .i64 0, Value.int .i64 0, Value.int .i64 0, Value.int .i64 0, Value.int .i64 0, Value.int .i64 0, Value.int .i64 0, Value.int .i64 0, Value.int .i64 0, Value.int .i64 0, Value.int .i64 0, Value.int .i64 0, Value.int .i64 0] 97)) : Rd 3 fD H' ⟨some ⟨b, 0, none⟩, 65, 65⟩ z65 := rdPts h rfl rfl

/-- Nothing goes with a clock that is not valid. -/
theorem badClock {K : Hp} {w : Cu} {x : Ck} {C bad : Hp → Prop} (r : RdK K w x) (f : fitK x) (hb : ¬ okK x) (hC : ∀ K', Hp.le K K' → C K') :
    (Go.Eng.Fn Tryz.prog F.clock_Certify #[(ckV w x), (sI2 0 0)] K fun (v72 : Value) (H73 : Hp) => ∃ n74 n75 : Int, ∃ u76 : Slc, ∃ n77 : Int, ∃ u78 u79 u80 u81 u82 u83 u84 : Slc, ∃ n85 n86 : Int, v72 = Value.tuple #[(vCk n74 n75 u76 n77 u78 u79 u80 u81 u82 u83 u84), Value.int .i64 n85, Value.int .i64 n86] ∧ Go.Eng.Fn Tryz.prog F.clock_Retire #[(ckV w x), Value.int .i64 9] H73 fun (v87 : Value) (H88 : Hp) => ∃ n89 n90 : Int, ∃ u91 : Slc, ∃ n92 : Int, ∃ u93 u94 u95 u96 u97 u98 u99 : Slc, ∃ n100 : Int, v87 = Value.tuple #[(vCk n89 n90 u91 n92 u93 u94 u95 u96 u97 u98 u99), Value.int .i64 n100] ∧ ∃ n101 n102 n103 n104 n105 n106 : Int, Qf Tryz.prog F.clock_Next #[(ckV w x)] H88 (Value.tuple #[(vEv n101 n102 n103 n104 n105), Value.int .i64 n106]) ∧ Go.Eng.Fn Tryz.prog F.clock_Fail #[(ckV w x), (sI2 0 0)] H88 fun (v107 : Value) (H108 : Hp) => ∃ n109 n110 : Int, ∃ u111 : Slc, ∃ n112 : Int, ∃ u113 u114 u115 u116 u117 : Slc, ∃ u118 : Slc, ∃ u119 : Slc, ∃ n120 n121 n122 n123 n124 n125 n126 n127 : Int, v107 = Value.tuple #[(vCk n109 n110 u111 n112 u113 u114 u115 u116 u117 u118 u119), (vEv n120 n121 n122 n123 n124), (sI2 n125 n126), Value.int .i64 n127] ∧ ∃ n128 n129 : Int, Qf Tryz.prog F.pelotonlaw09_at #[Value.int .i64 0] H108 (sI2 n128 n129) ∧ Go.Eng.Fn Tryz.prog F.clock_Move #[(ckV w x), (sI2 n128 n129)] H108 fun (v130 : Value) (H131 : Hp) => H108.le H131 ∧ ∃ n132 n133 : Int, ∃ u134 : Slc, ∃ n135 : Int, ∃ u136 u137 u138 u139 u140 u141 u142 : Slc, ∃ n143 : Int, v130 = Value.tuple #[(vCk n132 n133 u134 n135 u136 u137 u138 u139 u140 u141 u142), Value.int .i64 n143] ∧ okMk 65 65 24 ∧ ∀ (b144 : Nat) (H145 : Hp), H131 b144 = none → H145 = H131.put b144 (Obj.cells #[Value.int .i64 0, Value.int .i64 0, Value.int .i64 0, Value.int .i64 0, Value.int .i64 0, Value.int .i64 0, Value.int .i64 0, Value.int .i64 0, Value.int .i64 0, Value.int .i64 0, Value.int .i64 0, Value.int .i64 0, Value.int .i64 0, Value.int .i64 0, Value.int .i64 0, Value.int .i64 0, Value.int .i64 0, Value.int .i64 0, Value.int .i64 0, Value.int .i64 0, Value.int .i64 0, Value.int .i64 0, Value.int .i64 0, Value.int .i64 0, Value.int .i64 0, Value.int .i64 0, Value.int .i64 0, Value.int .i64 0, Value.int .i64 0, Value.int .i64 0, Value.int .i64 0, Value.int .i64 0, Value.int .i64 0, Value.int .i64 0, Value.int .i64 0, Value.int .i64 0, Value.int .i64 0, Value.int .i64 0, Value.int .i64 0, Value.int .i64 0, Value.int .i64 0, Value.int .i64 0, Value.int .i64 0, Value.int .i64 0, Value.int .i64 0, Value.int .i64 0, Value.int .i64 0, Value.int .i64 0, Value.int .i64 0, Value.int .i64 0, Value.int .i64 0, Value.int .i64 0, Value.int .i64 0, Value.int .i64 0, Value.int .i64 0, Value.int .i64 0, Value.int .i64 0, Value.int .i64 0, Value.int .i64 0, Value.int .i64 0, Value.int .i64 0, Value.int .i64 0, Value.int .i64 0, Value.int .i64 0, Value.int .i64 0, Value.int .i64 0, Value.int .i64 0, Value.int .i64 0, Value.int .i64 0, Value.int .i64 0, Value.int .i64 0, Value.int .i64 0, Value.int .i64 0, Value.int .i64 0, Value.int .i64 0, Value.int .i64 0, Value.int .i64 0, Value.int .i64 0, Value.int .i64 0, Value.int .i64 0, Value.int .i64 0, Value.int .i64 0, Value.int .i64 0, Value.int .i64 0, Value.int .i64 0, Value.int .i64 0, Value.int .i64 0, Value.int .i64 0, Value.int .i64 0, Value.int .i64 0, Value.int .i64 0, Value.int .i64 0, Value.int .i64 0, Value.int .i64 0, Value.int .i64 0, Value.int .i64 0, Value.int .i64 0, Value.int .i64 0, Value.int .i64 0, Value.int .i64 0, Value.int .i64 0, Value.int .i64 0, Value.int .i64 0, Value.int .i64 0, Value.int .i64 0, Value.int .i64 0, Value.int .i64 0, Value.int .i64 0, Value.int .i64 0, Value.int .i64 0, Value.int .i64 0, Value.int .i64 0, Value.int .i64 0, Value.int .i64 0, Value.int .i64 0, Value.int .i64 0, Value.int .i64 0, Value.int .i64 0, Value.int .i64 0, Value.int .i64 0, Value.int .i64 0, Value.int .i64 0, Value.int .i64 0, Value.int .i64 0, Value.int .i64 0, Value.int .i64 0, Value.int .i64 0, Value.int .i64 0, Value.int .i64 0, Value.int .i64 0, Value.int .i64 0, Value.int .i64 0, Value.int .i64 0, Value.int .i64 0, Value.int .i64 0, Value.int .i64 0, Value.int .i64 0, Value.int .i64 0, Value.int .i64 0, Value.int .i64 0, Value.int .i64 0, Value.int .i64 0, Value.int .i64 0, Value.int .i64 0, Value.int .i64 0, Value.int .i64 0, Value.int .i64 0, Value.int .i64 0, Value.int .i64 0, Value.int .i64 0, Value.int .i64 0, Value.int .i64 0, Value.int .i64 0, Value.int .i64 0, Value.int .i64 0, Value.int .i64 0, Value.int .i64 0, Value.int .i64 0, Value.int .i64 0, Value.int .i64 0, Value.int .i64 0, Value.int .i64 0, Value.int .i64 0, Value.int .i64 0, Value.int .i64 0, Value.int .i64 0, Value.int .i64 0, Value.int .i64 0, Value.int .i64 0, Value.int .i64 0, Value.int .i64 0, Value.int .i64 0, Value.int .i64 0, Value.int .i64 0, Value.int .i64 0, Value.int .i64 0, Value.int .i64 0, Value.int .i64 0, Value.int .i64 0, Value.int .i64 0, Value.int .i64 0, Value.int .i64 0, Value.int .i64 0, Value.int .i64 0, Value.int .i64 0, Value.int .i64 0, Value.int .i64 0, Value.int .i64 0, Value.int .i64 0, Value.int .i64 0, Value.int .i64 0, Value.int .i64 0, Value.int .i64 0, Value.int .i64 0, Value.int .i64 0] 97) → Go.Eng.Fn Tryz.prog F.clock_Alter #[(ckV w x), Value.agg #[Value.slice (some (Addr.mk b144 0 none)) (Int.toNat 65) (Int.toNat 65)]] H145 fun (v146 : Value) (H147 : Hp) => H145.le H147 ∧ ∃ n148 n149 : Int, ∃ u150 : Slc, ∃ n151 : Int, ∃ u152 u153 u154 u155 u156 u157 u158 : Slc, ∃ n159 : Int, v146 = Value.tuple #[(vCk n148 n149 u150 n151 u152 u153 u154 u155 u156 u157 u158), Value.int .i64 n159] ∧ ∃ n160 : Int, Qf Tryz.prog F.clock_Check #[(ckV w x)] H147 (Value.int .i64 n160) ∧ ((n160 != 8 || n86 != 8 || n100 != 8 || n106 != 8 || n127 != 8 || n143 != 8 || n159 != 8) = true → bad H147) ∧ ((n160 != 8 || n86 != 8 || n100 != 8 || n106 != 8 || n127 != 8 || n143 != 8 || n159 != 8) = false → C H147)) := by
  have e1 : certifyK x (0, 0) = (.zero, 0, 8) := by unfold certifyK; rw [if_neg fun h => hb h.1]
  have e2 : retireK x 9 = (.zero, 8) := by unfold retireK; rw [if_neg hb]
  have e3 : nextK x = (e0, 8) := by unfold nextK; rw [if_neg hb]
  have eu : ∀ t, untilK x t = 8 := fun t => by unfold untilK; rw [if_neg fun h => hb h.1]
  have e4 : failK x (0, 0) = (.zero, e0, (0, 0), 8) := by unfold failK; rw [eu, if_neg (by decide)]
  have e5 : moveK x (0, 1) = (.zero, 8) := by unfold moveK; rw [eu, if_neg (by decide)]
  have e6 : ∀ g, alterK x g = (.zero, 8) := fun g => by unfold alterK; rw [if_neg hb]
  refine (clockCertify (x := (0, 0)) r f).mono fun v K1 ⟨a, hv, l1, _⟩ => ⟨_, _, a.f, _, a.cl, a.u1, a.u2, a.u3, a.u4, a.u5, a.d, _, _, hv, ?_⟩
  refine (clockRetire (n := 9) (r.le l1) f).mono fun v K2 ⟨a, hv, l2, _⟩ => ⟨_, _, a.f, _, a.cl, a.u1, a.u2, a.u3, a.u4, a.u5, a.d, _, hv, ?_⟩
  have m2 := Hp.le_trans l1 l2
  refine ⟨_, _, _, _, _, _, clockNext (r.le m2) f, ?_⟩
  refine (clockFail (t := (0, 0)) (r.le m2) f fit0).mono fun v K3 ⟨a, hv, l3, _⟩ => ⟨_, _, a.f, _, a.cl, a.u1, a.u2, a.u3, a.u4, a.u5, a.d, _, _, _, _, _, _, _, _, hv, _, _, law9at, ?_⟩
  have m3 := Hp.le_trans m2 l3
  refine (clockMove (t := (0, 1)) (r.le m3) f (fit41 0 (by unfold inI; omega))).mono fun v K4 ⟨a, hv, l4, _⟩ => ⟨l4, _, _, a.f, _, a.cl, a.u1, a.u2, a.u3, a.u4, a.u5, a.d, _, hv, ⟨rfl, by omega, by omega⟩, fun b K5 hb5 hK5 => ?_⟩
  have m4 := Hp.le_trans m3 l4
  have m5 := Hp.le_trans m4 (Hp.le_new (Hp.le_refl _) hb5 hK5)
  refine (clockAlter (r.le m5) f (rd65 hK5)).mono fun v K6 ⟨a, hv, l6, _⟩ => ⟨l6, _, _, a.f, _, a.cl, a.u1, a.u2, a.u3, a.u4, a.u5, a.d, _, hv, ?_⟩
  have m6 := Hp.le_trans m5 l6
  refine ⟨_, clockCheck (r.le m6) f, fun hh => ?_, fun _ => hC K6 m6⟩
  rw [e1, e2, e3, e4, e5, e6, chkK_bad hb] at hh
  simp at hh

/-- The clock's copy, and what does not lie in one block. -/
theorem refKTwinS {H : Hp} {u : Cu} {c : Ck} (r : RdK H u c) (fk : fitK c) :
    Go.Eng.Fn Tryz.prog F.pelotonref09_Twin #[ckV u c] H fun v H' => ∃ w : Cu, v = ckV w c ∧ NewK H H' w c ∧
      (Sep w.cl w.f ∧ SepT w.u1 w.u2 w.u3 w.f ∧ Sep w.u4 w.f ∧ Sep w.u5 w.f ∧ Sep w.d w.f) ∧ (Sep w.cl w.d ∧ SepT w.u1 w.u2 w.u3 w.d ∧ Sep w.u4 w.d ∧ Sep w.u5 w.d ∧ Sep w.f w.d) := by
  have f1 := fk.f; have f2 := fk.ct; have f3 := fk.due
  refine pelotonref09_Twin_vc ((refFTwin r.f (by omega)).mono fun v H2 ⟨w1, hv, l2, m1⟩ => ⟨l2, w1, hv, ?_⟩)
  refine (rTwinC (c := c.ct) (r.cl.le l2) (by omega)).mono fun v H5 ⟨w2, hv, n2⟩ => ⟨n2.le, _, w2, hv, ?_⟩
  refine (refATwin ((r.ag.le l2).le n2.le) fk.ag).mono fun v H9 ⟨v1, v2, v3, v4, v5, hv, n3⟩ => ⟨n3.le, v1, v2, v3, v4, v5, hv, fun b H16 hb hH => ?_⟩
  refine (copy_ok (k := 3) (f := fD) (bytes := 24) (e := T.api_Due) (by kernel_rfl) (by decide) (fun _ => rfl) (fun x v hv => by simp [fD] at hv; rcases hv with rfl | rfl | rfl <;> rfl) hb hH (((r.due.le l2).le n2.le).le n3.le) (by omega) (by omega)).mono
    fun v H18 ⟨w3, hv, l18, m3⟩ => ⟨w3, hv, ⟨w1, w2, v1, v2, v3, v4, v5, w3⟩, rfl, ?_⟩
  have o1 := m1.isOld
  have o1' := o1.le n2.le
  have w3n := m3.isNew
  refine ⟨⟨((m1.le n2.le).le n3.le).le l18, ((n2.list.low l2).le n3.le).le l18, ((n3.low n2.le).low l2).up l18, ((m3.low n3.le).low n2.le).low l2, Sep.of ((m1.isOld.le n2.le).le n3.le) m3.isNew⟩,
    ⟨(Sep.of o1 n2.list.isNew).symm, ⟨(Sep.of o1' n3.tb.uses.isNew).symm, (Sep.of o1' n3.tb.used.isNew).symm, (Sep.of o1' n3.tb.free.isNew).symm⟩, (Sep.of o1' n3.heap.isNew).symm, (Sep.of o1' n3.wh.isNew).symm, (Sep.of (o1'.le n3.le) w3n).symm⟩,
    ⟨Sep.of (n2.list.isOld.le n3.le) w3n, ⟨Sep.of n3.tb.uses.isOld w3n, Sep.of n3.tb.used.isOld w3n, Sep.of n3.tb.free.isOld w3n⟩, Sep.of n3.heap.isOld w3n, Sep.of n3.wh.isOld w3n, Sep.of (o1'.le n3.le) w3n⟩⟩
theorem NewA.rdChg {H0 H H' : Hp} {u1 u2 u3 u4 u5 s : Slc} {a : Ag} (h : NewA H0 H u1 u2 u3 u4 u5 a) (ck : Chg H H' s) (st : SepT u1 u2 u3 s) (s4 : Sep u4 s) (s5 : Sep u5 s) : RdA H' u1 u2 u3 u4 u5 a :=
  ⟨⟨(h.tb.uses.chg ck st.1).rdI, (h.tb.used.chg ck st.2.1).rdB, (h.tb.free.chg ck st.2.2).rdI⟩, (h.heap.chg ck s4).rdE, (h.wh.chg ck s5).rdI⟩

/-- What is asked of the chapter's clock. -/
structure ExK (c : Ck) : Prop where
  ok : chkK c = 0
  d1 : c.due.length = 1
  fl : c.f.length = 3
  b0 : chkK { c with now := (c.now.1, 0) } = 8
  b1 : chkK { c with now := (3, 1) } = 8
  b2 : chkK { c with f := c.f.drop 1 } = 8
  b3 : chkK { c with due := [] } = 8
  b4 : chkK { c with due := c.due.set 0 (1, (c.due.getD 0 (0, 0, 0)).2) } = 8
  b5 : chkK { c with ag := beginA 200 } = 8
  b6 : chkK { c with f := c.f.set 0 ((c.f.getD 0 (0, 0, 0)).1, (c.f.getD 0 (0, 0, 0)).2.1, 1) } = 8
  c1 : (certifyK c (9, 9)).2.2 = 8
  c2 : (certifyK c (9, 1)).2.2 = 6
  c3 : (certifyK c (1, 2)).2.2 = 14
  c4 : (certifyK c (2, 1)).2 = (2, 0)
  c5 : (nextK (certifyK c (2, 1)).1).1.at_ = (1, 1) ∧ (nextK (certifyK c (2, 1)).1).1.no = 2 ∧ (nextK (certifyK c (2, 1)).1).2 = 0
  c6 : (retireK c 2).2 = 6
  c7 : (moveK c (0, 1)).2 = 44
  c8 : (moveK c (2, 2)).2 = 8
  c9 : (failK c (0, 1)).2.2.2 = 44
  c10 : (failK c (0, 0)).2.2.2 = 8
  n1 : (alterK c [(1, 0, 0), (2, 0, 0)]).2 = 6
  n2 : (alterK c [(2, 0, 0), (1, 0, 0)]).2 = 32
  m1 : moveK c (1, 1) = (c, 0)
def exM : Ck × Bool := certM (gF 0) (1, 1) [(1, 2), (5, 1)]
theorem exK : ExK exM.1 :=
  ⟨by kernel_rfl, by kernel_rfl, by kernel_rfl, by kernel_rfl, by kernel_rfl, by kernel_rfl, by kernel_rfl, by kernel_rfl, by kernel_rfl, by kernel_rfl, by kernel_rfl, by kernel_rfl, by kernel_rfl, by kernel_rfl, ⟨by kernel_rfl, by kernel_rfl, by kernel_rfl⟩, by kernel_rfl, by kernel_rfl, by kernel_rfl, by kernel_rfl, by kernel_rfl, by kernel_rfl, by kernel_rfl, by kernel_rfl⟩
theorem exTrue : exM.2 = true := by kernel_rfl
theorem ex65 : (newK z65 (0, 0)).2 = 4 := by kernel_rfl
theorem ex00 : (newK (gF 0) (0, 0)).2 = 8 := by kernel_rfl
theorem ex11 : (newK (gF 0) (1, 1)).2 = 0 := by kernel_rfl
theorem ex42 : (nextK (newK (gF 0) (1, 1)).1).2 = 42 := by kernel_rfl
theorem notK {c : Ck} (h : chkK c = 8) : ¬ okK c := fun ok => by rw [chkK_ok ok] at h; cases h
theorem e97 : Tryz.prog.cellsOf 97 = 3 := by kernel_rfl

set_option maxHeartbeats 4000000 in
theorem clockNames {H : Hp} : Qf Tryz.prog F.pelotonlaw09_ClockNames #[] H (.bool true) := by
  refine pelotonlaw09_ClockNames_vc ⟨⟨rfl, by omega, by omega⟩, fun b1 H2 hb1 hH2 => ?_⟩
  have l2 : Hp.le H H2 := Hp.le_new (Hp.le_refl _) hb1 hH2
  refine (clockNew (rd65 hH2) fit0).mono fun v H4 ⟨a, hv, l4, _⟩ => ⟨_, _, a.f, _, a.cl, a.u1, a.u2, a.u3, a.u4, a.u5, a.d, _, hv, ?_⟩
  refine law9given.mono fun v H18 ⟨g1, hv, l18, rg1⟩ => ⟨g1, hv, ?_⟩
  refine (clockNew rg1 fit0).mono fun v H21 ⟨a, hv, l21, _⟩ => ⟨_, _, a.f, _, a.cl, a.u1, a.u2, a.u3, a.u4, a.u5, a.d, _, hv, ?_⟩
  refine law9given.mono fun v H35 ⟨g2, hv, l35, rg2⟩ => ⟨g2, hv, _, _, law9at, fun b39 H40 hb39 hH40 => ?_⟩
  have l40 : Hp.le H35 H40 := Hp.le_new (Hp.le_refl _) hb39 hH40
  have rl : Rd 2 fH H40 ⟨some ⟨b39, 0, none⟩, 2, 2⟩ [(1, 2), (5, 1)] := rdConst (k := 2) (f := fH) (fun _ => rfl) hH40 rfl rfl
  refine (law9certified (rg2.le l40) (fit41 1 (by unfold inI; omega)) rl (by simp)).mono fun v H42 ⟨u, hv, l42, r, fk⟩ => ⟨_, _, u.f, _, u.cl, u.u1, u.u2, u.u3, u.u4, u.u5, u.d, _, hv, ?_⟩
  have m42 : Hp.le H H42 := Hp.le_trans l2 (Hp.le_trans l4 (Hp.le_trans l18 (Hp.le_trans l21 (Hp.le_trans l35 (Hp.le_trans l40 l42)))))
  have ex := exK
  have et := exTrue
  unfold exM at ex et
  rw [ex65, ex00, et]
  generalize (certM (gF 0) (1, 1) [(1, 2), (5, 1)]).1 = c at ex r fk ⊢
  clear et hv
  have ok : okK c := chkK_zero.1 ex.ok
  have ld := r.due.len
  have d1 := ex.d1
  have fl := ex.fl
  refine ⟨fun hh => ?_, fun _ => ?_⟩
  · exfalso
    rw [ld, d1] at hh
    simp at hh
  refine ⟨fun n H' => 0 ≤ n ∧ n ≤ 7 ∧ Hp.le H42 H', fun n _ => (7 - n).toNat, ⟨Int.le_refl _, by omega, Hp.le_refl _⟩, fun n H58 ⟨n0, n1, l58⟩ => ⟨fun hn => ?_, fun _ => ?_⟩⟩
  · have hn : n < 7 := by simpa using hn
    have fin : ∀ K, Hp.le H58 K → inI (n + 1) ∧ (0 ≤ n + 1 ∧ n + 1 ≤ 7 ∧ Hp.le H42 K) ∧ (7 - (n + 1)).toNat < (7 - n).toNat := fun K hK => ⟨by unfold inI; omega, ⟨by omega, by omega, Hp.le_trans l58 hK⟩, by omega⟩
    refine (refKTwinS (r.le l58) fk).mono fun v H60 ⟨w, hv, nk, sF, sD⟩ => ⟨_, _, w.f, _, w.cl, w.u1, w.u2, w.u3, w.u4, w.u5, w.d, hv, ?_⟩
    have rw0 := nk.rd
    have l60 := nk.le
    have fd := rw0.f.len
    have fc := rw0.f.cap
    have dl := rw0.due.len
    refine ⟨fun _ => ?_, fun c0 => ⟨fun _ => ?_, fun c1 => ⟨fun _ => ?_, fun c2 => ⟨fun _ => ?_, fun c3 => ⟨fun _ => ?_, fun c4 => ⟨fun _ => ?_, fun c5 => ⟨fun _ => ?_, fun c6 => ?_⟩⟩⟩⟩⟩⟩⟩
    · exact badClock (w := w) (x := { c with now := (c.now.1, 0) }) ⟨rw0.f, rw0.cl, rw0.ag, rw0.due⟩ ⟨⟨fk.now.1, fit0.1⟩, fk.f, fk.ct, fk.ag, fk.due⟩ (notK ex.b0) fun K' hK => fin K' (Hp.le_trans l60 hK)
    · exact ⟨_, _, law9at, badClock (w := w) (x := { c with now := (3, 1) }) ⟨rw0.f, rw0.cl, rw0.ag, rw0.due⟩ ⟨fit41 3 (by unfold inI; omega), fk.f, fk.ct, fk.ag, fk.due⟩ (notK ex.b1) fun K' hK => fin K' (Hp.le_trans l60 hK)⟩
    · refine ⟨⟨by omega, by omega, by omega, by omega⟩, ?_⟩
      rw [e97]
      have q := Rd.sub (l := 1) (hi := w.f.n) (m := w.f.c) rw0.f (by omega) (by omega) (by omega) (by omega)
      rw [show ((w.f.n : Int)).toNat = c.f.length by omega, List.take_length] at q
      rw [show ((w.f.n : Int)).toNat = c.f.length by omega]
      exact badClock (w := ⟨⟨subA w.f.a 3 1 w.f.c, c.f.length - Int.toNat 1, (w.f.c : Int).toNat - Int.toNat 1⟩, w.cl, w.u1, w.u2, w.u3, w.u4, w.u5, w.d⟩) (x := { c with f := c.f.drop 1 }) ⟨q, rw0.cl, rw0.ag, rw0.due⟩ ⟨fk.now, by show (c.f.drop 1).length ≤ _; rw [List.length_drop]; omega, fk.ct, fk.ag, fk.due⟩ (notK ex.b2) fun K' hK => fin K' (Hp.le_trans l60 hK)
    · exact badClock (w := ⟨w.f, w.cl, w.u1, w.u2, w.u3, w.u4, w.u5, zs⟩) (x := { c with due := [] }) ⟨rw0.f, rw0.cl, rw0.ag, (Rd.nil : Rd 3 fD H60 ⟨none, 0, 0⟩ [])⟩ ⟨fk.now, fk.f, fk.ct, fk.ag, by simp⟩ (notK ex.b3) fun K' hK => fin K' (Hp.le_trans l60 hK)
    · refine ⟨rw0.due.inS (by omega) (by omega), ?_⟩
      refine Mine.setE (k := 3) (f := fD) (i := 0) (x := c.due.getD 0 (0, 0, 0)) (y := (1, (c.due.getD 0 (0, 0, 0)).2)) (vs := [.int .i64 1]) (fun _ => rfl) nk.due (by omega) (getX (i := 0) (by omega) (by omega)) rfl (by simp) fun K mk ck => ?_
      refine badClock (w := w) (x := { c with due := c.due.set 0 (1, (c.due.getD 0 (0, 0, 0)).2) }) ⟨(nk.f.chg ck sD.2.2.2.2).rdD, (nk.cl.chg ck sD.1).rdD, nk.ag.rdChg ck sD.2.1 sD.2.2.1 sD.2.2.2.1, mk.rdD⟩ ⟨fk.now, fk.f, fk.ct, fk.ag, by show (c.due.set _ _).length ≤ _; rw [List.length_set]; exact fk.due⟩ (notK ex.b4) fun K' hK => fin K' (Hp.le_trans (Hp.le_chg l60 ck nk.due.isNew) hK)
    · refine (refABegin (N := 200) (by omega) (by omega)).mono fun v K1 ⟨v1, v2, v3, v4, v5, hv, na⟩ => ⟨v1, v2, v3, v4, v5, hv, ?_⟩
      have r1 := rw0.le na.le
      exact badClock (w := ⟨w.f, w.cl, v1, v2, v3, v4, v5, w.d⟩) (x := { c with ag := beginA 200 }) ⟨r1.f, r1.cl, na.rd, r1.due⟩ ⟨fk.now, fk.f, fk.ct, okA.fitG (okA.begin (by omega) (by omega)), fk.due⟩ (notK ex.b5) fun K' hK => fin K' (Hp.le_trans (Hp.le_trans l60 na.le) hK)
    · refine ⟨rw0.f.inS (by omega) (by omega), ?_⟩
      refine Mine.setP (k := 3) (f := fD) (i := 0) (j := 2) (x := c.f.getD 0 (0, 0, 0)) (y := ((c.f.getD 0 (0, 0, 0)).1, (c.f.getD 0 (0, 0, 0)).2.1, 1)) (vs := [.int .i64 1]) (fun _ => rfl) nk.f (by omega) (getX (i := 0) (by omega) (by omega)) rfl (by simp) fun K mk ck => ?_
      refine badClock (w := w) (x := { c with f := c.f.set 0 ((c.f.getD 0 (0, 0, 0)).1, (c.f.getD 0 (0, 0, 0)).2.1, 1) }) ⟨mk.rdD, (nk.cl.chg ck sF.1).rdD, nk.ag.rdChg ck sF.2.1 sF.2.2.1 sF.2.2.2.1, (nk.due.chg ck sF.2.2.2.2).rdD⟩ ⟨fk.now, by show (c.f.set _ _).length ≤ _; rw [List.length_set]; exact fk.f, fk.ct, fk.ag, fk.due⟩ (notK ex.b6) fun K' hK => fin K' (Hp.le_trans (Hp.le_chg l60 ck nk.f.isNew) hK)
    · exfalso; simp at c0 c1 c2 c3 c4 c5 c6; omega
  · have r0 := r.le l58
    clear r ld
    refine (clockCertify (x := (9, 9)) r0 fk).mono fun v K1 ⟨a, hv, l1, _⟩ => ⟨_, _, a.f, _, a.cl, a.u1, a.u2, a.u3, a.u4, a.u5, a.d, _, _, hv, ?_⟩
    refine (clockCertify (x := (9, 1)) (r0.le l1) fk).mono fun v K2 ⟨a, hv, l2', _⟩ => ⟨_, _, a.f, _, a.cl, a.u1, a.u2, a.u3, a.u4, a.u5, a.d, _, _, hv, ?_⟩
    have k2 := Hp.le_trans l1 l2'
    refine (clockCertify (x := (1, 2)) (r0.le k2) fk).mono fun v K3 ⟨a, hv, l3, _⟩ => ⟨_, _, a.f, _, a.cl, a.u1, a.u2, a.u3, a.u4, a.u5, a.d, _, _, hv, ?_⟩
    have k3 := Hp.le_trans k2 l3
    refine (clockCertify (x := (2, 1)) (r0.le k3) fk).mono fun v K4 ⟨a, hv, l4', ra⟩ => ⟨_, _, a.f, _, a.cl, a.u1, a.u2, a.u3, a.u4, a.u5, a.d, _, _, hv, ?_⟩
    have k4 := Hp.le_trans k3 l4'
    refine ⟨_, _, _, _, _, _, clockNext ra (certifyK_fit c (2, 1)), ?_⟩
    refine (clockRetire (n := 2) (r0.le k4) fk).mono fun v K5 ⟨a, hv, l5, _⟩ => ⟨_, _, a.f, _, a.cl, a.u1, a.u2, a.u3, a.u4, a.u5, a.d, _, hv, _, _, law9at, ?_⟩
    have k5 := Hp.le_trans k4 l5
    refine (clockMove (t := (0, 1)) (r0.le k5) fk (fit41 0 (by unfold inI; omega))).mono fun v K6 ⟨a, hv, l6, _⟩ => ⟨l6, _, _, a.f, _, a.cl, a.u1, a.u2, a.u3, a.u4, a.u5, a.d, _, hv, ?_⟩
    have k6 := Hp.le_trans k5 l6
    refine (clockMove (t := (2, 2)) (r0.le k6) fk ⟨by show inI 2; unfold inI; omega, by show inI 2; unfold inI; omega⟩).mono fun v K7 ⟨a, hv, l7, _⟩ => ⟨_, _, a.f, _, a.cl, a.u1, a.u2, a.u3, a.u4, a.u5, a.d, _, hv, _, _, law9at, ?_⟩
    have k7 := Hp.le_trans k6 l7
    refine (clockFail (t := (0, 1)) (r0.le k7) fk (fit41 0 (by unfold inI; omega))).mono fun v K8 ⟨a, hv, l8, _⟩ => ⟨l8, _, _, a.f, _, a.cl, a.u1, a.u2, a.u3, a.u4, a.u5, a.d, _, _, _, _, _, _, _, _, hv, ?_⟩
    have k8 := Hp.le_trans k7 l8
    refine (clockFail (t := (0, 0)) (r0.le k8) fk fit0).mono fun v K9 ⟨a, hv, l9, _⟩ => ⟨_, _, a.f, _, a.cl, a.u1, a.u2, a.u3, a.u4, a.u5, a.d, _, _, _, _, _, _, _, _, hv, ?_⟩
    have k9 := Hp.le_trans k8 l9
    refine law9given.mono fun v K10 ⟨g3, hv, l10, rg3⟩ => ⟨g3, hv, _, _, law9at, ?_⟩
    have k10 := Hp.le_trans k9 l10
    refine (clockNew rg3 (fit41 1 (by unfold inI; omega))).mono fun v K11 ⟨a, hv, l11, ra⟩ => ⟨_, _, a.f, _, a.cl, a.u1, a.u2, a.u3, a.u4, a.u5, a.d, _, hv, ?_⟩
    have k11 := Hp.le_trans k10 l11
    refine ⟨_, _, _, _, _, _, clockNext ra (newK_fit _ _), fun b12 K12 hb12 hK12 => ?_⟩
    have l12 := Hp.le_new (Hp.le_refl _) hb12 hK12
    have k12 := Hp.le_trans k11 l12
    have ry : Rd 3 fD K12 ⟨some ⟨b12, 0, none⟩, 2, 2⟩ [(1, 0, 0), (2, 0, 0)] := rdPts hK12 rfl rfl
    refine (clockAlter (r0.le k12) fk ry).mono fun v K13 ⟨a, hv, l13, _⟩ => ⟨_, _, a.f, _, a.cl, a.u1, a.u2, a.u3, a.u4, a.u5, a.d, _, hv, fun b14 K14 hb14 hK14 => ?_⟩
    have k13 := Hp.le_trans k12 l13
    have l14 := Hp.le_new (Hp.le_refl _) hb14 hK14
    have k14 := Hp.le_trans k13 l14
    have rz : Rd 3 fD K14 ⟨some ⟨b14, 0, none⟩, 2, 2⟩ [(2, 0, 0), (1, 0, 0)] := rdPts hK14 rfl rfl
    refine (clockAlter (r0.le k14) fk rz).mono fun v K15 ⟨a, hv, l15, _⟩ => ⟨_, _, a.f, _, a.cl, a.u1, a.u2, a.u3, a.u4, a.u5, a.d, _, hv, _, _, law9at, ?_⟩
    have k15 := Hp.le_trans k14 l15
    refine (clockMove (t := (1, 1)) (r0.le k15) fk (fit41 1 (by unfold inI; omega))).mono fun v K16 ⟨a, hv, l16, ra⟩ => ⟨l16, _, _, a.f, _, a.cl, a.u1, a.u2, a.u3, a.u4, a.u5, a.d, _, hv, ?_⟩
    have k16 := Hp.le_trans k15 l16
    rw [ex.m1] at ra ⊢
    refine ⟨_, _, fun _ => law9at, _, fun _ => refKSame ra (r0.le k16) fk, _, fun _ => law9alive, ?_, Hp.le_trans (Hp.le_trans m42 l58) k16⟩
    rw [ex.c1, ex.c2, ex.c3, ex.c4, ex.c5.1, ex.c5.2.1, ex.c5.2.2, ex.c6, ex.c7, ex.c8, ex.c9, ex.c10, ex.n1, ex.n2, ex11, ex42]
    rfl
end Go.Proofs.YtodmhdfenpkbdaaGreat
