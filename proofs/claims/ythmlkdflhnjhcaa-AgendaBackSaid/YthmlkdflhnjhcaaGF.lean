/- The law AgendaBack. Conditions: none. -/
import Derived.Test.YthmlkdflhnjhcaaGA
import Derived.Test.YthmlkdflhnjhcaaGE
import Derived.Test.YthmlkdflhnjhcaaVgH07
import Derived.Test.YthmlkdflhnjhcaaVgLAgendaBack
import Derived.Test.YthmlkdflhnjhcaaFs
set_option linter.unusedVariables false
set_option maxRecDepth 100000
open Go Go.Eng Go.Proofs
namespace Go.Proofs.Ythmlkdflhnjhcaa

theorem evEq {x y : Ev} : (x.at_.1 == y.at_.1 && x.at_.2 == y.at_.2 && x.no == y.no && x.h.1 == y.h.1 && x.h.2 == y.h.2) = true ↔ x = y := by
  obtain ⟨⟨a, b⟩, c, d, e⟩ := x
  obtain ⟨⟨a', b'⟩, c', d', e'⟩ := y
  simp
  constructor
  · rintro ⟨⟨⟨⟨rfl, rfl⟩, rfl⟩, rfl⟩, rfl⟩; exact ⟨⟨rfl, rfl⟩, rfl, rfl, rfl⟩
  · rintro ⟨⟨rfl, rfl⟩, rfl, rfl, rfl⟩; exact ⟨⟨⟨⟨rfl, rfl⟩, rfl⟩, rfl⟩, rfl⟩

theorem lawHeld {H : Hp} {u1 u2 u3 u4 u5 v1 v2 v3 v4 v5 : Slc} {a b : Ag} {x y : Int} (ra : RdA H u1 u2 u3 u4 u5 a) (rb : RdA H v1 v2 v3 v4 v5 b) (okb : okA b) (hl : a.heap.length ≤ 1000) (hh : ∀ z ∈ a.heap, z.h ≠ (x, y) → z ∈ b.heap) :
    Qf Try.prog F.pelotonlaw07_held #[agV u1 u2 u3 u4 u5, agV v1 v2 v3 v4 v5, .agg #[.int .i64 x, .int .i64 y]] H (.bool true) := by
  have lu := ra.heap.len
  refine pelotonlaw07_held_vc (upto (N := a.heap.length) (J := fun _ => True) (by omega) trivial fun n h0 h1 _ => ⟨fun hn => ?_, fun hn => ⟨rfl, Hp.le_refl _⟩⟩)
  have hn : n < a.heap.length := by have : n < u4.n := by simpa using hn
                                    omega
  have hm := hp_mem (h := a.heap) (i := n.toNat) (by omega)
  refine ⟨ra.heap.inS h0 hn, _, _, Rd.gEh ra.heap h0 hn, fun _ => upto.nx h0 hn (by omega) trivial, fun hb => ?_⟩
  have hne : (hp a.heap n.toNat).h ≠ (x, y) := fun e => by rw [e] at hb; simp at hb
  have fe := (find_eq okb (hh _ hm hne)).1
  refine ⟨ra.heap.inS h0 hn, _, _, Rd.gEh ra.heap h0 hn, _, _, _, _, _, _, agendaFind (h := (hp a.heap n.toNat).h) rb (okA.fitG okb), fun _ => ra.heap.inS h0 hn, _, _, _, _, _, fun _ => Rd.gE ra.heap h0 hn, fun hx => ?_, fun _ => upto.nx h0 hn (by omega) trivial⟩
  exfalso
  rw [fe] at hx
  simp at hx

theorem backPart {K : Hp} {u1 u2 u3 u4 u5 : Slc} {a : Ag} {t h : Int × Int} {post : Value → Hp → Prop} (r : RdA K u1 u2 u3 u4 u5 a) (ok : okA a) (g4 : a.heap.length ≤ 210) (ft : fitR t) (hC : ∀ K', Hp.le K K' → post (.bool true) K') :
    (∃ (n52 : Int), ∃ (n53 : Int), ∃ (n54 : Int), ∃ (n55 : Int), ∃ (n56 : Int), ∃ (n57 : Int), Qf Try.prog F.agenda_Find #[Value.agg #[u1.v, u2.v, u3.v, u4.v, u5.v], Value.agg #[Value.int IntKind.i64 h.1, Value.int IntKind.i64 h.2]] K (Value.tuple #[Value.agg #[Value.int IntKind.i64 n52, Value.int IntKind.i64 n53, Value.int IntKind.i64 n54, Value.int IntKind.i64 n55, Value.int IntKind.i64 n56], Value.int IntKind.i64 n57]) ∧ Go.Eng.Fn Try.prog F.agenda_Rekey #[Value.agg #[u1.v, u2.v, u3.v, u4.v, u5.v], Value.agg #[Value.int IntKind.i64 h.1, Value.int IntKind.i64 h.2], Value.agg #[Value.int IntKind.i64 t.1, Value.int IntKind.i64 t.2]] K fun (v58 : Go.Value) (H59 : Hp) => ∃ (u60 : Slc), ∃ (u61 : Slc), ∃ (u62 : Slc), ∃ (u63 : Slc), ∃ (u64 : Slc), ∃ (n65 : Int), v58 = Value.tuple #[Value.agg #[u60.v, u61.v, u62.v, u63.v, u64.v], Value.int IntKind.i64 n65] ∧ ((n65 != 0) = true → ∃ (n66 : Int), ((n65 == 8) = true → Qf Try.prog F.pelotonref01_Check #[Value.agg #[Value.int IntKind.i64 t.1, Value.int IntKind.i64 t.2]] H59 (Value.int IntKind.i64 n66)) ∧ ∃ (c67 : Bool), ((n65 == 8 && n66 != 0 || n65 == 6 && n57 == 6) = true → Qf Try.prog F.pelotonlaw07_alive #[] H59 (Value.bool c67)) ∧ post (Value.bool ((n65 == 8 && n66 != 0 || n65 == 6 && n57 == 6) && c67)) H59) ∧ ((n65 != 0) = false → ∃ (n68 : Int), ∃ (n69 : Int), ∃ (n70 : Int), ∃ (n71 : Int), ∃ (n72 : Int), ∃ (n73 : Int), Qf Try.prog F.agenda_Find #[Value.agg #[u60.v, u61.v, u62.v, u63.v, u64.v], Value.agg #[Value.int IntKind.i64 h.1, Value.int IntKind.i64 h.2]] H59 (Value.tuple #[Value.agg #[Value.int IntKind.i64 n68, Value.int IntKind.i64 n69, Value.int IntKind.i64 n70, Value.int IntKind.i64 n71, Value.int IntKind.i64 n72], Value.int IntKind.i64 n73]) ∧ ∃ (c74 : Bool), ((n57 == 0 && n73 == 0 && (n68 == t.1 && n69 == t.2 && n70 == n54 && n71 == h.1 && n72 == h.2) && (↑u63.n : Int) == (↑u4.n : Int)) = true → Qf Try.prog F.pelotonlaw07_held #[Value.agg #[u1.v, u2.v, u3.v, u4.v, u5.v], Value.agg #[u60.v, u61.v, u62.v, u63.v, u64.v], Value.agg #[Value.int IntKind.i64 h.1, Value.int IntKind.i64 h.2]] H59 (Value.bool c74)) ∧ ∃ (c75 : Bool), ((n57 == 0 && n73 == 0 && (n68 == t.1 && n69 == t.2 && n70 == n54 && n71 == h.1 && n72 == h.2) && (↑u63.n : Int) == (↑u4.n : Int) && c74) = true → Qf Try.prog F.pelotonlaw07_alive #[] H59 (Value.bool c75)) ∧ post (Value.bool (n57 == 0 && n73 == 0 && (n68 == t.1 && n69 == t.2 && n70 == n54 && n71 == h.1 && n72 == h.2) && (↑u63.n : Int) == (↑u4.n : Int) && c74 && c75)) H59)) := by
  have f := okA.fitG ok
  have l4 := r.heap.len
  refine ⟨_, _, _, _, _, _, agendaFind (h := h) r f, (agendaRekey (h := h) (t := t) r f ft).mono fun v K2 ⟨v1, v2, v3, v4, v5, hv, nk⟩ => ⟨v1, v2, v3, v4, v5, _, hv, fun hh => ?_, fun hh => ?_⟩⟩
  · have key : ((rekeyA a h t).2 == 8 && chkR t != 0 || (rekeyA a h t).2 == 6 && (findA a h).2 == 6) = true := by
      by_cases ht : okR t
      · by_cases hl : a.tb.live h.1 h.2 = true
        · exfalso
          unfold rekeyA at hh
          rw [if_pos ⟨ok, ht⟩, if_pos hl] at hh
          simp at hh
        · unfold rekeyA findA
          rw [if_pos ⟨ok, ht⟩, if_neg hl, if_pos ok, if_neg hl]; simp
      · unfold rekeyA
        rw [if_neg fun e => ht e.2, chkR_bad ht]; simp
    refine ⟨_, fun _ => refRCheck ft, _, fun _ => lawAlive7, ?_⟩
    rw [key]
    exact hC K2 nk.le
  · have hz : (rekeyA a h t).2 = 0 := by simpa using hh
    have hall : okR t ∧ a.tb.live h.1 h.2 = true := by
      unfold rekeyA at hz
      split at hz
      · rename_i h1
        split at hz
        · rename_i h2; exact ⟨h1.2, h2⟩
        · cases hz
      · cases hz
    obtain ⟨ht, hl⟩ := hall
    have er : rekeyA a h t = (rekeyedA a h t, 0) := by unfold rekeyA; rw [if_pos ⟨ok, ht⟩, if_pos hl]
    have ef : findA a h = (hp a.heap (atA a h), 0) := by unfold findA; rw [if_pos ok, if_pos hl]
    obtain ⟨b1, b2, b3, b4, b5⟩ := back_rekey ok hl ht
    rw [er] at nk
    have rd : RdA K2 v1 v2 v3 v4 v5 (rekeyedA a h t) := nk.rd
    have k4 := rd.heap.len
    have e4 : ((v4.n : Int) == u4.n) = true := by simp; omega
    refine ⟨_, _, _, _, _, _, agendaFind (h := h) rd (okA.fitG b2), _, fun _ => lawHeld (r.le nk.le) rd b2 (by omega) b5, _, fun _ => lawAlive7, ?_⟩
    rw [ef, b3, e4]
    have e5 : ((hp a.heap (atA a h)).h.1 == h.1 && (hp a.heap (atA a h)).h.2 == h.2) = true := by rw [b1]; simp
    have := hC K2 nk.le
    rw [Bool.and_eq_true] at e5
    simpa [e5.1, e5.2] using this

theorem agendaBack {H : Hp} {u1 u2 u3 u4 u5 : Slc} {a : Ag} {t h : Int × Int} {n : Int} (r : RdA H u1 u2 u3 u4 u5 a) (hf : ∀ x ∈ a.heap, fitR x.at_) (ft : fitR t) :
    Qf Try.prog F.pelotonlaw07_AgendaBack #[agV u1 u2 u3 u4 u5, .agg #[.int .i64 t.1, .int .i64 t.2], .int .i64 n, .agg #[.int .i64 h.1, .int .i64 h.2]] H (.bool true) := by
  refine pelotonlaw07_AgendaBack_vc ⟨_, lawFit r hf, fun _ => ⟨_, lawAlive7, rfl, Hp.le_refl _⟩, fun hc => ?_⟩
  have hc : (!(decide (a.tb.uses.length > 210) || decide (a.tb.used.length > 210) || decide (a.tb.free.length > 210) || decide (a.heap.length > 210) || decide (a.wh.length > 210)) && chkA a == 0) = true := by simpa using hc
  rw [Bool.and_eq_true] at hc
  obtain ⟨f, g4, g5⟩ := fit_of hf (by simpa using hc.1)
  have ok : okA a := chkA_zero.1 (by simpa using hc.2)
  have l4 := r.heap.len
  refine (agendaPush (n := n) r f ft).mono fun v H4 ⟨v1, v2, v3, v4, v5, hv, np⟩ => ⟨v1, v2, v3, v4, v5, _, _, _, hv, fun he => ?_, fun _ => ?_⟩
  · have hz : (pushA a t n).2.2 = 0 := by simpa using he
    obtain ⟨_, ht, n0, n1, hno, hct, ep⟩ := pushA_zero hz
    obtain ⟨okb, lb, mb, er, okc, pc⟩ := back_push ok ht n0 n1 hno hct
    rw [ep] at np ⊢
    have rb : RdA H4 v1 v2 v3 v4 v5 (pushedA a t n) := np.rd
    refine (agendaRemove (h := nextH a) rb (okA.fitG okb)).mono fun v H14 ⟨w1, w2, w3, w4, w5, hv, nr⟩ => ⟨w1, w2, w3, w4, w5, _, _, _, _, _, _, hv, ?_⟩
    rw [er] at nr ⊢
    have rc : RdA H14 w1 w2 w3 w4 w5 (removedA (pushedA a t n) (nextH a)) := nr.rd
    have k4 := rb.heap.len
    have j4 := rc.heap.len
    have pl := pc.length_eq
    have le14 := Hp.le_trans np.le nr.le
    have ra := r.le le14
    refine ⟨fun _ => by unfold inI; omega, _, fun _ => lawHeld ra rc okc (by omega) fun z hz _ => pc.mem_iff.2 hz, _, fun _ => lawHeld ra (rb.le nr.le) okb (by omega) fun z hz _ => mb z hz, fun hx => ?_, fun _ => ?_⟩
    · exfalso
      simp at hx
      omega
    · exact backPart (h := h) (post := fun v H' => v = .bool true ∧ Hp.le H H') ra ok g4 ft fun K' hK => ⟨rfl, Hp.le_trans le14 hK⟩
  · exact backPart (h := h) (post := fun v H' => v = .bool true ∧ Hp.le H H') (r.le np.le) ok g4 ft fun K' hK => ⟨rfl, Hp.le_trans np.le hK⟩
end Go.Proofs.Ythmlkdflhnjhcaa
