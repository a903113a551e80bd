/- The law AgendaNames. Conditions: none. -/
import Derived.Test.YtmnbekffebdfmaaGA
import Derived.Test.YtmnbekffebdfmaaVgLAgendaNames
import Derived.Test.YtmnbekffebdfmaaFs
set_option linter.unusedVariables false
set_option maxRecDepth 100000
open Go Go.Eng Go.Proofs
namespace Go.Proofs.Ytmnbekffebdfmaa

theorem fit00 : fitR (0, 0) := ⟨by show inI 0; unfold inI; omega, by show inI 0; unfold inI; omega⟩

/-- Nothing goes with an agenda that is not valid. -/
theorem badPart {K : Hp} {w1 w2 w3 w4 w5 : Slc} {x : Ag} {h : Int × Int} {C bad : Hp → Prop} (r : RdA K w1 w2 w3 w4 w5 x) (f : fitG x) (hb : ¬ okA x) (hC : ∀ K', Hp.le K K' → C K') :
    (Go.Eng.Fn Try.prog F.agenda_Push #[Value.agg #[w1.v, w2.v, w3.v, w4.v, w5.v], Value.agg #[Value.int IntKind.i64 0, Value.int IntKind.i64 0], Value.int IntKind.i64 (-1)] K fun (v69 : Go.Value) (H70 : Hp) => ∃ (u71 : Slc), ∃ (u72 : Slc), ∃ (u73 : Slc), ∃ (u74 : Slc), ∃ (u75 : Slc), ∃ (n76 : Int), ∃ (n77 : Int), ∃ (n78 : Int), v69 = Value.tuple #[Value.agg #[u71.v, u72.v, u73.v, u74.v, u75.v], Value.agg #[Value.int IntKind.i64 n76, Value.int IntKind.i64 n77], Value.int IntKind.i64 n78] ∧ ∃ (n79 : Int), ∃ (n80 : Int), ∃ (n81 : Int), ∃ (n82 : Int), ∃ (n83 : Int), ∃ (n84 : Int), Qf Try.prog F.agenda_Top #[Value.agg #[w1.v, w2.v, w3.v, w4.v, w5.v]] H70 (Value.tuple #[Value.agg #[Value.int IntKind.i64 n79, Value.int IntKind.i64 n80, Value.int IntKind.i64 n81, Value.int IntKind.i64 n82, Value.int IntKind.i64 n83], Value.int IntKind.i64 n84]) ∧ Go.Eng.Fn Try.prog F.agenda_Pop #[Value.agg #[w1.v, w2.v, w3.v, w4.v, w5.v]] H70 fun (v85 : Go.Value) (H86 : Hp) => ∃ (u87 : Slc), ∃ (u88 : Slc), ∃ (u89 : Slc), ∃ (u90 : Slc), ∃ (u91 : Slc), ∃ (n92 : Int), ∃ (n93 : Int), ∃ (n94 : Int), ∃ (n95 : Int), ∃ (n96 : Int), ∃ (n97 : Int), v85 = Value.tuple #[Value.agg #[u87.v, u88.v, u89.v, u90.v, u91.v], Value.agg #[Value.int IntKind.i64 n92, Value.int IntKind.i64 n93, Value.int IntKind.i64 n94, Value.int IntKind.i64 n95, Value.int IntKind.i64 n96], Value.int IntKind.i64 n97] ∧ Go.Eng.Fn Try.prog F.agenda_Remove #[Value.agg #[w1.v, w2.v, w3.v, w4.v, w5.v], Value.agg #[Value.int IntKind.i64 h.1, Value.int IntKind.i64 h.2]] H86 fun (v98 : Go.Value) (H99 : Hp) => ∃ (u100 : Slc), ∃ (u101 : Slc), ∃ (u102 : Slc), ∃ (u103 : Slc), ∃ (u104 : Slc), ∃ (n105 : Int), ∃ (n106 : Int), ∃ (n107 : Int), ∃ (n108 : Int), ∃ (n109 : Int), ∃ (n110 : Int), v98 = Value.tuple #[Value.agg #[u100.v, u101.v, u102.v, u103.v, u104.v], Value.agg #[Value.int IntKind.i64 n105, Value.int IntKind.i64 n106, Value.int IntKind.i64 n107, Value.int IntKind.i64 n108, Value.int IntKind.i64 n109], Value.int IntKind.i64 n110] ∧ Go.Eng.Fn Try.prog F.agenda_Rekey #[Value.agg #[w1.v, w2.v, w3.v, w4.v, w5.v], Value.agg #[Value.int IntKind.i64 h.1, Value.int IntKind.i64 h.2], Value.agg #[Value.int IntKind.i64 0, Value.int IntKind.i64 0]] H99 fun (v111 : Go.Value) (H112 : Hp) => ∃ (u113 : Slc), ∃ (u114 : Slc), ∃ (u115 : Slc), ∃ (u116 : Slc), ∃ (u117 : Slc), ∃ (n118 : Int), v111 = Value.tuple #[Value.agg #[u113.v, u114.v, u115.v, u116.v, u117.v], Value.int IntKind.i64 n118] ∧ ∃ (n119 : Int), ∃ (n120 : Int), ∃ (n121 : Int), ∃ (n122 : Int), ∃ (n123 : Int), ∃ (n124 : Int), Qf Try.prog F.agenda_Find #[Value.agg #[w1.v, w2.v, w3.v, w4.v, w5.v], Value.agg #[Value.int IntKind.i64 0, Value.int IntKind.i64 0]] H112 (Value.tuple #[Value.agg #[Value.int IntKind.i64 n119, Value.int IntKind.i64 n120, Value.int IntKind.i64 n121, Value.int IntKind.i64 n122, Value.int IntKind.i64 n123], Value.int IntKind.i64 n124]) ∧ ∃ (n125 : Int), Qf Try.prog F.agenda_Check #[Value.agg #[w1.v, w2.v, w3.v, w4.v, w5.v]] H112 (Value.int IntKind.i64 n125) ∧ ((n125 != 8 || n78 != 8 || n84 != 8 || n97 != 8 || n110 != 8 || n118 != 8 || n124 != 8) = true → bad H112) ∧ ((n125 != 8 || n78 != 8 || n84 != 8 || n97 != 8 || n110 != 8 || n118 != 8 || n124 != 8) = false → C H112)) := by
  have ep : pushA x (0, 0) (-1) = (.zero, (0, 0), 8) := by unfold pushA; rw [if_neg fun h => hb h.1]
  have et : topA x = (e0, 8) := by unfold topA; rw [if_neg hb]
  have eo : popA x = (.zero, e0, 8) := by unfold popA; rw [et]; rfl
  have ef : ∀ h, findA x h = (e0, 8) := fun h => by unfold findA; rw [if_neg hb]
  have em : removeA x h = (.zero, e0, 8) := by unfold removeA; rw [ef h]; rfl
  have ek : rekeyA x h (0, 0) = (.zero, 8) := by unfold rekeyA; rw [if_neg fun h => hb h.1]
  refine (agendaPush (t := (0, 0)) (n := -1) r f fit00).mono fun v K1 ⟨a1, a2, a3, a4, a5, hv, n1⟩ => ⟨a1, a2, a3, a4, a5, _, _, _, hv, ?_⟩
  have l1 := n1.le
  refine ⟨_, _, _, _, _, _, agendaTop (r.le l1) f, (agendaPop (r.le l1) f).mono fun v K2 ⟨b1, b2, b3, b4, b5, hv, n2⟩ => ⟨b1, b2, b3, b4, b5, _, _, _, _, _, _, hv, ?_⟩⟩
  have l2 := Hp.le_trans l1 n2.le
  refine (agendaRemove (h := h) (r.le l2) f).mono fun v K3 ⟨c1, c2, c3, c4, c5, hv, n3⟩ => ⟨c1, c2, c3, c4, c5, _, _, _, _, _, _, hv, ?_⟩
  have l3 := Hp.le_trans l2 n3.le
  refine (agendaRekey (h := h) (t := (0, 0)) (r.le l3) f fit00).mono fun v K4 ⟨d1, d2, d3, d4, d5, hv, n4⟩ => ⟨d1, d2, d3, d4, d5, _, hv, ?_⟩
  have l4 := Hp.le_trans l3 n4.le
  refine ⟨_, _, _, _, _, _, agendaFind (h := (0, 0)) (r.le l4) f, _, agendaCheck (r.le l4) f, fun hh => ?_, fun _ => hC K4 l4⟩
  rw [ep, et, eo, em, ek, ef, chkA_bad hb] at hh
  simp at hh

def exA : Ag := pushedA (beginA 2) (1, 1) 0
def exB : Ag := pushedA exA (2, 1) 1000000
def exh : Int × Int := nextH (beginA 2)
def exk : Int × Int := nextH exA
def exG : Ag := removedA exB exh
theorem exP1 : pushA (beginA 2) (1, 1) 0 = (exA, exh, 0) := by kernel_rfl
theorem exP2 : pushA exA (2, 1) 1000000 = (exB, exk, 0) := by kernel_rfl
theorem exAok : okA exA := chkA_zero.1 (by kernel_rfl)
theorem exBok : okA exB := chkA_zero.1 (by kernel_rfl)
theorem exGok : okA exG := chkA_zero.1 (by kernel_rfl)
theorem ok200 : okA (beginA 200) := okA.begin (by omega) (by omega)
theorem top200 : topA (beginA 200) = (e0, 42) := by unfold topA; rw [if_pos ok200]; rfl
theorem pop200 : popA (beginA 200) = (.zero, e0, 42) := by unfold popA; rw [top200]; rfl
theorem exR1 : removeA exB exh = (exG, hp exB.heap 0, 0) := by kernel_rfl

theorem not_ok {a : Ag} (h : chkA a = 8) : ¬ okA a := fun ok => by rw [chkA_ok ok] at h; cases h
theorem exLen : exB.heap.length = 2 ∧ exB.wh.length = 2 ∧ exB.tb.used.length = 2 := ⟨by kernel_rfl, by kernel_rfl, by kernel_rfl⟩
theorem fit_heap {s : List Ev} (h1 : s.length ≤ 1000000) (h2 : ∀ x ∈ s, fitR x.at_) : fitG ⟨exB.tb, s, exB.wh⟩ := by
  have f := okA.fitG exBok
  exact ⟨f.tb, h1, f.wl, h2⟩
theorem fit_set {i : Nat} {x : Ev} (hx : fitR x.at_) : fitG ⟨exB.tb, exB.heap.set i x, exB.wh⟩ := by
  have f := okA.fitG exBok
  refine fit_heap (by rw [List.length_set]; exact f.hl) fun y hy => ?_
  rcases List.mem_or_eq_of_mem_set hy with hy | rfl
  · exact f.fit y hy
  · exact hx
theorem exFit (i : Nat) (hi : i < 2) : fitR (hp exB.heap i).at_ := (okA.fitG exBok).fit _ (hp_mem (by rw [exLen.1]; exact hi))

theorem agendaNames {H : Hp} : Qf Try.prog F.pelotonlaw07_AgendaNames #[] H (.bool true) := by
  refine pelotonlaw07_AgendaNames_vc (agendaNew.mono fun v H2 ⟨a1, a2, a3, a4, a5, hv, na⟩ => ⟨a1, a2, a3, a4, a5, _, hv, ?_⟩)
  refine agendaNew.mono fun v H10 ⟨b1, b2, b3, b4, b5, hv, nb⟩ => ⟨b1, b2, b3, b4, b5, _, hv, ?_⟩
  refine agendaNew.mono fun v H18 ⟨c1, c2, c3, c4, c5, hv, nc⟩ => ⟨c1, c2, c3, c4, c5, _, hv, ?_⟩
  rw [show (newA 200).1 = beginA 200 from rfl] at nc
  refine (refABegin (N := 2) (by omega) (by omega)).mono fun v H26 ⟨d1, d2, d3, d4, d5, hv, nd⟩ => ⟨d1, d2, d3, d4, d5, hv, ?_⟩
  refine ⟨_, _, lawAt, ?_⟩
  refine (agendaPush (t := (1, 1)) (n := 0) nd.rd (okA.fitG (okA.begin (by omega) (by omega))) ⟨by show inI 1; unfold inI; omega, by show inI 1; unfold inI; omega⟩).mono fun v H35 ⟨e1, e2, e3, e4, e5, hv, ne⟩ => ⟨e1, e2, e3, e4, e5, _, _, _, hv, ?_⟩
  rw [exP1] at ne ⊢
  refine ⟨_, _, lawAt, ?_⟩
  refine (agendaPush (a := exA) (t := (2, 1)) (n := 1000000) ne.rd (okA.fitG exAok) ⟨by show inI 2; unfold inI; omega, by show inI 1; unfold inI; omega⟩).mono fun v H47 ⟨f1, f2, f3, f4, f5, hv, nf⟩ => ⟨nf.le, f1, f2, f3, f4, f5, _, _, _, hv, ?_⟩
  rw [exP2] at nf ⊢
  have rf : RdA H47 f1 f2 f3 f4 f5 exB := nf.rd
  have rc : RdA H47 c1 c2 c3 c4 c5 (beginA 200) := nc.rd.le (Hp.le_trans nd.le (Hp.le_trans ne.le nf.le))
  have le47 : Hp.le H H47 := Hp.le_trans (Hp.le_trans na.le nb.le) (Hp.le_trans (Hp.le_trans nc.le nd.le) (Hp.le_trans ne.le nf.le))
  have fB := okA.fitG exBok
  have l4 := rf.heap.len
  rw [exLen.1] at l4
  refine ⟨_, fun _ => refACheck rf fB, fun hh => ?_, fun _ => ?_⟩
  · exfalso
    rw [chkA_ok exBok, l4] at hh
    simp [newA] at hh
  refine ⟨fun n H' => 0 ≤ n ∧ n ≤ 8 ∧ Hp.le H47 H', fun n _ => (8 - n).toNat, ⟨Int.le_refl _, by omega, Hp.le_refl _⟩, fun n H60 ⟨n0, n1, l60⟩ => ⟨fun hn => ?_, fun _ => ?_⟩⟩
  · have hn : n < 8 := by simpa using hn
    have fin : ∀ K, Hp.le H60 K → inI (n + 1) ∧ (0 ≤ n + 1 ∧ n + 1 ≤ 8 ∧ Hp.le H47 K) ∧ (8 - (n + 1)).toNat < (8 - n).toNat := fun K hK => ⟨by unfold inI; omega, ⟨by omega, by omega, Hp.le_trans l60 hK⟩, by omega⟩
    refine (refATwin (rf.le l60) fB).mono fun v H62 ⟨w1, w2, w3, w4, w5, hv, nw⟩ => ⟨w1, w2, w3, w4, w5, hv, ?_⟩
    have mw := nw.my
    have h2 : (exB.heap, exB.wh).1.length = 2 := exLen.1
    -- a change in the events
    have ev : ∀ {i : Int} {j : Nat} {vs : List Value} {y : Ev}, 0 ≤ i → i < 2 → fE y = (fE (hp exB.heap i.toNat)).take j ++ vs ++ (fE (hp exB.heap i.toNat)).drop (j + vs.length) → j + vs.length ≤ 5 → fitR y.at_ → chkA ⟨exB.tb, exB.heap.set i.toNat y, exB.wh⟩ = 8 →
        inSl w4.a w4.n i ∧ H62.canStore ((eaddr w4.a 5 i).add j) 0 vs ∧ ∀ K, K = H62.store ((eaddr w4.a 5 i).add j) 0 vs → RdA K w1 w2 w3 w4 w5 ⟨exB.tb, exB.heap.set i.toNat y, exB.wh⟩ ∧ fitG ⟨exB.tb, exB.heap.set i.toNat y, exB.wh⟩ ∧ ¬ okA ⟨exB.tb, exB.heap.set i.toNat y, exB.wh⟩ ∧ Hp.le H60 K := fun {i j vs y} i0 i1 hy hj hf hc => by
      refine ⟨mw.heap.rdE.inS i0 (by rw [h2]; exact i1), ?_⟩
      refine Mine.setP (k := 5) (f := fE) (x := hp exB.heap i.toNat) (fun _ => rfl) mw.heap i0 (hp_get (by show i.toNat < exB.heap.length; rw [exLen.1]; omega)) hy hj fun K mk ck => ⟨?_, fit_set hf, not_ok hc, Hp.le_chg mw.le ck mw.heap.isNew⟩
      have m' : MyA H60 K w4 w5 (exB.heap.set i.toNat y, exB.wh) := ⟨Hp.le_chg mw.le ck mw.heap.isNew, mk, mw.wh.chg ck mw.sep.symm, mw.sep⟩
      exact (MyA.new (H9 := H) nw.tb m' (ck.two (v := w5)) nw.s4 nw.s5).rd
    have d0 : ∀ z ∈ [(0 : Int), 1, 2, 3, 1000001, 1000000], inI z := fun z hz => by simp at hz; unfold inI; omega
    refine ⟨fun _ => ⟨mw.wh.rdI.inS (by omega) (by show (0 : Int) < (exB.wh.length : Int); rw [exLen.2.1]; omega), ?_⟩, fun c0 => ⟨fun _ => ⟨?_, ?_⟩, fun c1 => ⟨fun _ => ?_, fun c2 => ⟨fun _ => ?_, fun c3 => ⟨fun _ => ?_, fun c4 => ⟨fun _ => ?_, fun c5 => ⟨fun _ => ?_, fun c6 => ⟨fun _ => ?_, fun c7 => ?_⟩⟩⟩⟩⟩⟩⟩⟩
    · refine mw.put (y := 1) (i := 0) (by omega) (by show (0 : Int) < (exB.wh.length : Int); rw [exLen.2.1]; omega) fun K mk ck => ?_
      exact badPart (x := ⟨exB.tb, exB.heap, exB.wh.set 0 1⟩) (MyA.new (H9 := H) nw.tb mk ck nw.s4 nw.s5).rd ⟨fB.tb, fB.hl, by rw [List.length_set]; exact fB.wl, fB.fit⟩ (not_ok (by kernel_rfl)) fun K' hK => fin K' (Hp.le_trans mk.le hK)
    · have := mw.wh.rdI.len; have := mw.wh.rdI.cap
      have q : (exB.heap, exB.wh).2.length = 2 := exLen.2.1
      exact ⟨by omega, by omega, by omega, by omega⟩
    · rw [show Value.slice (subA w5.a (Try.prog.cellsOf 3) 0 (w5.c : Int)) (Int.toNat 1 - Int.toNat 0) ((w5.c : Int).toNat - Int.toNat 0) = (⟨w5.a, 1, w5.c⟩ : Slc).v from slcCut (m := 1)]
      have q : exB.wh.length = 2 := exLen.2.1
      have rw' := mw.wh.rdI.cap
      have rl' := mw.wh.rdI.len
      have q' : (exB.heap, exB.wh).2.length = 2 := q
      exact badPart (x := ⟨exB.tb, exB.heap, exB.wh.take 1⟩) ⟨nw.rd.tb, nw.rd.heap, Rd.cut nw.rd.wh (by omega) (by omega)⟩ ⟨fB.tb, fB.hl, by rw [List.length_take]; omega, fB.fit⟩ (not_ok (by kernel_rfl)) fun K' hK => fin K' (Hp.le_trans nw.le hK)
    · refine ⟨_, _, lawAt, ?_⟩
      obtain ⟨s1, s2, s3⟩ := ev (i := 1) (j := 0) (vs := [.int .i64 0, .int .i64 1]) (y := { hp exB.heap 1 with at_ := (0, 1) }) (by omega) (by omega) (by simp [fE]) (by simp) ⟨d0 0 (by simp), d0 1 (by simp)⟩ (by kernel_rfl)
      rw [add_zero'] at s2 s3
      exact ⟨s1, s2, fun K hK => badPart (s3 K hK).1 (s3 K hK).2.1 (s3 K hK).2.2.1 fun K' h' => fin K' (Hp.le_trans (s3 K hK).2.2.2 h')⟩
    · obtain ⟨s1, s2, s3⟩ := ev (i := 1) (j := 2) (vs := [.int .i64 0]) (y := { hp exB.heap 1 with no := 0 }) (by omega) (by omega) (by simp [fE]) (by simp) (exFit 1 (by omega)) (by kernel_rfl)
      exact ⟨s1, s2, fun K hK => badPart (s3 K hK).1 (s3 K hK).2.1 (s3 K hK).2.2.1 fun K' h' => fin K' (Hp.le_trans (s3 K hK).2.2.2 h')⟩
    · obtain ⟨s1, s2, s3⟩ := ev (i := 0) (j := 4) (vs := [.int .i64 2]) (y := { hp exB.heap 0 with h := ((hp exB.heap 0).h.1, 2) }) (by omega) (by omega) (by simp [fE]) (by simp) (exFit 0 (by omega)) (by kernel_rfl)
      rw [show ((eaddr w4.a 5 0).add 3).add 1 = (eaddr w4.a 5 0).add 4 from add_add ..]
      exact ⟨s1, s2, fun K hK => badPart (s3 K hK).1 (s3 K hK).2.1 (s3 K hK).2.2.1 fun K' h' => fin K' (Hp.le_trans (s3 K hK).2.2.2 h')⟩
    · obtain ⟨s1, s2, s3⟩ := ev (i := 0) (j := 1) (vs := [.int .i64 0]) (y := { hp exB.heap 0 with at_ := ((hp exB.heap 0).at_.1, 0) }) (by omega) (by omega) (by simp [fE]) (by simp) ⟨(exFit 0 (by omega)).1, d0 0 (by simp)⟩ (by kernel_rfl)
      exact ⟨s1, s2, fun K hK => badPart (s3 K hK).1 (s3 K hK).2.1 (s3 K hK).2.2.1 fun K' h' => fin K' (Hp.le_trans (s3 K hK).2.2.2 h')⟩
    · obtain ⟨s1, s2, s3⟩ := ev (i := 1) (j := 2) (vs := [.int .i64 1000001]) (y := { hp exB.heap 1 with no := 1000001 }) (by omega) (by omega) (by simp [fE]) (by simp) (exFit 1 (by omega)) (by kernel_rfl)
      exact ⟨s1, s2, fun K hK => badPart (s3 K hK).1 (s3 K hK).2.1 (s3 K hK).2.2.1 fun K' h' => fin K' (Hp.le_trans (s3 K hK).2.2.2 h')⟩
    · have q : exB.tb.used.length = 2 := exLen.2.2
      refine ⟨nw.rd.tb.used.inS (by omega) (by omega), Mine.setB nw.tb.used (i := 0) (by omega) (by omega) false fun K mk ck => ?_⟩
      have r : RdA K w1 w2 w3 w4 w5 ⟨⟨exB.tb.uses, exB.tb.used.set 0 false, exB.tb.free⟩, exB.heap, exB.wh⟩ :=
        ⟨⟨(nw.tb.uses.chg ck nw.tb.s12).rdI, mk.rdB, (nw.tb.free.chg ck nw.tb.s23.symm).rdI⟩, (nw.heap.chg ck nw.s4.2.1.symm).rdE, (nw.wh.chg ck nw.s5.2.1.symm).rdI⟩
      exact badPart r ⟨⟨fB.tb.1, by rw [List.length_set]; exact fB.tb.2.1, fB.tb.2.2⟩, fB.hl, fB.wl, fB.fit⟩ (not_ok (by kernel_rfl)) fun K' hK => fin K' (Hp.le_trans (Hp.le_chg nw.le ck nw.tb.used.isNew) hK)
    · exfalso; simp at c0 c1 c2 c3 c4 c5 c6 c7; omega
  · have rB := rf.le l60
    have rN := rc.le l60
    have fN := okA.fitG ok200
    have fG' := okA.fitG exGok
    have d0 : ∀ z ∈ [(0 : Int), 1, 2, 3], inI z := fun z hz => by simp at hz; unfold inI; omega
    refine (agendaPush (t := (2, 2)) (n := -1) rB fB ⟨d0 2 (by simp), d0 2 (by simp)⟩).mono fun v K1 ⟨g1, g2, g3, g4, g5, hv, n1⟩ => ⟨g1, g2, g3, g4, g5, _, _, _, hv, _, _, lawAt, ?_⟩
    have k1 := n1.le
    refine (agendaPush (t := (3, 1)) (n := -1) (rB.le k1) fB ⟨d0 3 (by simp), d0 1 (by simp)⟩).mono fun v K2 ⟨g1, g2, g3, g4, g5, hv, n2⟩ => ⟨n2.le, g1, g2, g3, g4, g5, _, _, _, hv, _, _, lawAt, ?_⟩
    have k2 := Hp.le_trans k1 n2.le
    refine (agendaPush (t := (3, 1)) (n := 1000001) (rB.le k2) fB ⟨d0 3 (by simp), d0 1 (by simp)⟩).mono fun v K3 ⟨g1, g2, g3, g4, g5, hv, n3⟩ => ⟨n3.le, g1, g2, g3, g4, g5, _, _, _, hv, _, _, lawAt, ?_⟩
    have k3 := Hp.le_trans k2 n3.le
    refine (agendaPush (t := (3, 1)) (n := 0) (rB.le k3) fB ⟨d0 3 (by simp), d0 1 (by simp)⟩).mono fun v K4 ⟨g1, g2, g3, g4, g5, hv, n4⟩ => ⟨n4.le, g1, g2, g3, g4, g5, _, _, _, hv, _, _, lawAt, ?_⟩
    have k4 := Hp.le_trans k3 n4.le
    refine (agendaPush (t := (3, 1)) (n := 7) (rB.le k4) fB ⟨d0 3 (by simp), d0 1 (by simp)⟩).mono fun v K5 ⟨g1, g2, g3, g4, g5, hv, n5⟩ => ⟨n5.le, g1, g2, g3, g4, g5, _, _, _, hv, _, _, _, _, _, _, agendaTop (rN.le (Hp.le_trans k4 n5.le)) fN, ?_⟩
    have k5 := Hp.le_trans k4 n5.le
    refine (agendaPop (rN.le k5) fN).mono fun v K6 ⟨g1, g2, g3, g4, g5, hv, n6⟩ => ⟨g1, g2, g3, g4, g5, _, _, _, _, _, _, hv, ?_⟩
    have k6 := Hp.le_trans k5 n6.le
    refine (agendaRemove (h := exh) (rB.le k6) fB).mono fun v K7 ⟨y1, y2, y3, y4, y5, hv, n7⟩ => ⟨y1, y2, y3, y4, y5, _, _, _, _, _, _, hv, ?_⟩
    have k7 := Hp.le_trans k6 n7.le
    rw [exR1] at n7
    have rG : RdA K7 y1 y2 y3 y4 y5 exG := n7.rd
    refine (agendaRemove (h := exh) rG fG').mono fun v K8 ⟨g1, g2, g3, g4, g5, hv, n8⟩ => ⟨g1, g2, g3, g4, g5, _, _, _, _, _, _, hv, ?_⟩
    refine ⟨_, _, _, _, _, _, agendaFind (h := exh) (rG.le n8.le) fG', _, _, lawAt, ?_⟩
    refine (agendaRekey (h := exh) (t := (1, 1)) (rG.le n8.le) fG' ⟨d0 1 (by simp), d0 1 (by simp)⟩).mono fun v K9 ⟨g1, g2, g3, g4, g5, hv, n9⟩ => ⟨n9.le, g1, g2, g3, g4, g5, _, hv, ?_⟩
    have k9 := Hp.le_trans n8.le n9.le
    refine (agendaRekey (h := exh) (t := (0, 0)) (rG.le k9) fG' fit00).mono fun v K10 ⟨g1, g2, g3, g4, g5, hv, n10⟩ => ⟨g1, g2, g3, g4, g5, _, hv, ?_⟩
    have k10 := Hp.le_trans k9 n10.le
    refine ⟨_, _, _, _, _, _, agendaTop (rG.le k10) fG', _, fun _ => lawAlive7, ?_, Hp.le_trans (Hp.le_trans le47 l60) (Hp.le_trans k7 k10)⟩
    rw [top200, pop200]
    kernel_rfl
end Go.Proofs.Ytmnbekffebdfmaa
