/- Agendas: filling and emptying; the chapter's example. Conditions: none. -/
import Derived.Test.YthmlkdflhnjhcaaG9
import Derived.Test.YthmlkdflhnjhcaaVgH07
import Derived.Test.YthmlkdflhnjhcaaFs
set_option linter.unusedVariables false
set_option maxRecDepth 100000
open Go Go.Eng Go.Proofs
namespace Go.Proofs.Ythmlkdflhnjhcaa

theorem rdInts7 {H H' : Hp} {b : Nat} {xs : List Int} {cs : Array Value} {n : Nat} {e : TypeId} (h : H' = H.put b (.cells cs e (0, 0))) (hc : cs = (xs.flatMap fI).toArray) (hn : n = xs.length) : RdI H' ⟨some ⟨b, 0, none⟩, n, n⟩ xs :=
  rdConst (k := 1) (f := fI) (fun _ => rfl) h hc hn

/-! ### Popping one after the other -/
def popL : Nat → Ag → List Ev
  | 0, _ => []
  | n + 1, a => hp a.heap 0 :: popL n (removedA a (hp a.heap 0).h)

theorem popL_ok : ∀ (n : Nat) (a : Ag), okA a → a.heap.length = n → (popL n a).Perm a.heap ∧ (popL n a).Pairwise fun x y => lessE x y = true
  | 0, a, ok, hn => by
    have : a.heap = [] := List.length_eq_zero_iff.1 hn
    rw [this]; exact ⟨List.Perm.refl _, List.Pairwise.nil⟩
  | n + 1, a, ok, hn => by
    obtain ⟨t1, t2⟩ := top_at ok (by omega)
    have r := ok.removed t2
    rw [t1] at r
    have hl := r.perm.length_eq
    rw [List.length_cons] at hl
    obtain ⟨p1, p2⟩ := popL_ok n _ r.ok (by omega)
    refine ⟨(List.Perm.cons _ p1).trans r.perm, List.Pairwise.cons (fun y hy => ?_) p2⟩
    exact top_less ok (by omega) y (p1.mem_iff.1 hy)
theorem popL_len {n : Nat} {a : Ag} (ok : okA a) (hn : a.heap.length = n) : (popL n a).length = n := by
  rw [(popL_ok n a ok hn).1.length_eq]; exact hn

theorem lawEmptied {H : Hp} {u1 u2 u3 u4 u5 : Slc} {a : Ag} (r : RdA H u1 u2 u3 u4 u5 a) (ok : okA a) (hl : a.heap.length ≤ 210) :
    Go.Eng.Fn Try.prog F.pelotonlaw07_emptied #[agV u1 u2 u3 u4 u5] H fun v H' => ∃ u : Slc, v = .tuple #[u.v, .bool true] ∧ Hp.le H H' ∧ Mine 5 fE T.api_Event H H' u (popL a.heap.length a) := by
  refine pelotonlaw07_emptied_vc ⟨fun u3' n w1 w2 w3 w4 w5 H' => ∃ (b : Ag) (d : List Ev), okA b ∧ RdA H' w1 w2 w3 w4 w5 b ∧ d ++ popL b.heap.length b = popL a.heap.length a ∧ n = d.length ∧ d.length + b.heap.length = a.heap.length ∧ Hp.le H H' ∧ Mine 5 fE T.api_Event H H' u3' d,
    fun _ n _ _ _ _ _ _ => (211 - n).toNat, ⟨a, [], ok, r, rfl, rfl, by simp, Hp.le_refl _, .inl ⟨rfl, rfl⟩⟩, fun u3' n w1 w2 w3 w4 w5 H' ⟨b, d, okb, rb, eb, hn, hb, l, m⟩ => ?_⟩
  subst hn
  refine ⟨fun _ => ?_, fun hge => by have : ¬ ((d.length : Int) ≤ 210) := (by simpa using hge); omega⟩
  refine (agendaPop rb (okA.fitG okb)).mono fun v H12 ⟨v1, v2, v3, v4, v5, hv, n⟩ => ⟨v1, v2, v3, v4, v5, _, _, _, _, _, _, hv, ?_⟩
  by_cases h0 : b.heap.length = 0
  · have ep : popA b = (.zero, e0, 42) := by
      unfold popA topA; rw [if_pos okb, if_pos h0]; rfl
    rw [ep]
    refine ⟨fun _ => ⟨u3', rfl, Hp.le_trans l n.le, ?_⟩, fun h => by simp at h⟩
    rw [h0] at eb
    rw [← eb, show popL 0 b = [] from rfl, List.append_nil]
    exact m.le n.le
  · have ep : popA b = (removedA b (hp b.heap 0).h, hp b.heap 0, 0) := by
      unfold popA topA; rw [if_pos okb, if_neg h0]; rfl
    rw [ep] at n ⊢
    refine ⟨fun h => by simp at h, fun _ b24 H25 hb24 hH25 => ?_⟩
    obtain ⟨t1, t2⟩ := top_at okb (by omega)
    have rm := okb.removed t2
    rw [t1] at rm
    have hl' := rm.perm.length_eq
    rw [List.length_cons] at hl'
    refine (append1 (k := 5) (f := fE) (bytes := 40) (x := hp b.heap 0) (e := T.api_Event) (by kernel_rfl) (by decide) (fun _ => rfl) fE_one (Hp.le_trans l n.le) (m.le n.le) hb24 hH25 rfl (by omega) (by omega)).mono fun v H27 ⟨w, hw, l27, mw, cw, _⟩ => ⟨w, hw, by unfold inI; omega, ⟨_, d ++ [hp b.heap 0], rm.ok, ?_, ?_, ?_, ?_, l27, mw⟩, ?_⟩
    · have o : New H w := mw.isNew
      have k := n.rd
      have s : ∀ {x : Slc}, New H' x → Sep x u3' := fun hx => (Sep.of m.isOld hx).symm
      exact ⟨⟨k.tb.uses.chg cw (s n.tb.uses.isNew), k.tb.used.chg cw (s n.tb.used.isNew), k.tb.free.chg cw (s n.tb.free.isNew)⟩, k.heap.chg cw (s n.heap.isNew), k.wh.chg cw (s n.wh.isNew)⟩
    · rw [← eb, show b.heap.length = (removedA b (hp b.heap 0).h).heap.length + 1 by omega, List.append_assoc]; rfl
    · simp
    · simp; omega
    · show (211 - ((d.length : Int) + 1)).toNat < (211 - (d.length : Int)).toNat; omega

/-! ### Filling -/
def fillA (l : List (Int × Int)) : Ag × List (Int × Int) := l.foldl (fun s t => (pushedA s.1 t s.2.length, s.2 ++ [nextH s.1])) (beginA 50, [])
theorem fillA_snoc (l : List (Int × Int)) (t : Int × Int) : fillA (l ++ [t]) = (pushedA (fillA l).1 t (fillA l).2.length, (fillA l).2 ++ [nextH (fillA l).1]) := by simp [fillA, List.foldl_append]

structure FillOk (l : List (Int × Int)) (a : Ag) (hs : List (Int × Int)) : Prop where
  ok : okA a
  n : hs.length = l.length
  len : a.heap.length = l.length
  cap : a.tb.uses.length = 50
  low : ∀ i : Nat, a.tb.uses.getD i 0 ≤ l.length
  mem : ∀ k : Nat, k < l.length → Ev.mk (l.getD k (0, 0)) k (hs.getD k (0, 0)) ∈ a.heap
  no : ∀ x ∈ a.heap, x.no < l.length

theorem getD_left {α : Type} {l m : List α} {d : α} {k : Nat} (h : k < l.length) : (l ++ m).getD k d = l.getD k d := by
  rw [List.getD_eq_getElem?_getD, List.getD_eq_getElem?_getD, List.getElem?_append_left h]
theorem getD_last {α : Type} {l : List α} {x d : α} : (l ++ [x]).getD l.length d = x := by
  rw [List.getD_eq_getElem?_getD]; simp

theorem FillOk.step {l : List (Int × Int)} {a : Ag} {hs : List (Int × Int)} (f : FillOk l a hs) {t : Int × Int} (ht : okR t) (hl : l.length < 50) :
    FillOk (l ++ [t]) (pushedA a t l.length) (hs ++ [nextH a]) ∧ pushA a t l.length = (pushedA a t l.length, nextH a, 0) := by
  have hfl : 0 < a.tb.free.length := by have := f.ok.hl; have := f.len; have := f.cap; omega
  have hct : a.tb.canTake = true := canTake_iff.2 ⟨hfl, by have := f.low (topL a.tb.free).toNat; omega⟩
  have hno : hasA a l.length = false := by
    unfold hasA; rw [List.any_eq_false]
    intro x hx e
    have := f.no x hx
    have : x.no = l.length := by simpa using e
    omega
  have pm := pushed_perm (n := (l.length : Int)) f.ok ht hct
  obtain ⟨tm, k0, k1⟩ := f.ok.tb.topR hfl
  refine ⟨⟨f.ok.pushed ht (by omega) (by omega) hno hct, by simp [f.n], by rw [pm.length_eq]; simp [f.len], ?_, fun i => ?_, fun k hk => ?_, fun x hx => ?_⟩, ?_⟩
  · show (a.tb.uses.set _ _).length = 50
    rw [List.length_set, f.cap]
  · show (a.tb.uses.set _ _).getD i 0 ≤ _
    rw [getD_setI (by omega)]
    have := f.low (topL a.tb.free).toNat
    have := f.low i
    simp only [List.length_append, List.length_singleton]
    split <;> omega
  · rw [List.length_append, List.length_singleton] at hk
    rw [pm.mem_iff]
    by_cases e : k = l.length
    · subst e
      rw [getD_last, ← f.n, getD_last, f.n]; exact List.mem_cons_self ..
    · rw [getD_left (by omega), getD_left (by rw [f.n]; omega)]
      exact List.mem_cons_of_mem _ (f.mem k (by omega))
  · rw [pm.mem_iff] at hx
    simp only [List.length_append, List.length_singleton]
    rcases List.mem_cons.1 hx with rfl | hx
    · show (l.length : Int) < _; omega
    · have := f.no x hx; omega
  · unfold pushA
    rw [if_pos ⟨f.ok, ht⟩, if_neg (by omega), if_neg (by rw [hno]; simp), if_pos hct]

theorem FillOk.start : FillOk [] (beginA 50) [] := by
  refine ⟨okA.begin (by omega) (by omega), rfl, rfl, by simp [beginA, beginT], fun i => ?_, fun k hk => by simp at hk, fun x hx => by simp [beginA] at hx⟩
  show (List.replicate 50 (0 : Int)).getD i 0 ≤ _
  rw [List.getD_eq_getElem?_getD, List.getElem?_replicate]
  split <;> simp
theorem fill_ok {l : List (Int × Int)} (hv : ∀ x ∈ l, okR x) (hl : l.length ≤ 50) : ∀ n : Nat, n ≤ l.length → FillOk (l.take n) (fillA (l.take n)).1 (fillA (l.take n)).2
  | 0, _ => by rw [List.take_zero]; exact FillOk.start
  | n + 1, hn => by
    have f := fill_ok hv hl n (by omega)
    have hg : l[n]? = some (l.getD n (0, 0)) := by simp [List.getD, show n < l.length by omega]
    rw [take_succ hg, fillA_snoc]
    have := (f.step (hv _ (List.mem_of_getElem? hg)) (by simp; omega)).1
    rw [f.n]; exact this

theorem lawFilled {H : Hp} {u : Slc} {l : List (Int × Int)} (r : Rd 2 fH H u l) (hv : ∀ x ∈ l, okR x) (hl : l.length ≤ 50) :
    Go.Eng.Fn Try.prog F.pelotonlaw07_filled #[u.v] H fun v H' => ∃ v1 v2 v3 v4 v5 w : Slc, v = .tuple #[agV v1 v2 v3 v4 v5, w.v, .bool true] ∧ Hp.le H H' ∧ RdA H' v1 v2 v3 v4 v5 (fillA l).1 ∧ Mine 2 fH T.api_Handle H H' w (fillA l).2 ∧ OldT H' v1 v2 v3 ∧ Old H' v4 ∧ Old H' v5 := by
  have lu := r.len
  refine pelotonlaw07_filled_vc (agendaNew.mono fun v H2 ⟨s1, s2, s3, s4, s5, hv', nn⟩ => ⟨s1, s2, s3, s4, s5, _, hv', fun h => by simp [newA] at h, fun _ => ?_⟩)
  rw [show (newA 50).1 = beginA 50 from rfl] at nn
  refine ⟨fun w n w1 w2 w3 w4 w5 H' => ∃ k : Nat, n = k ∧ k ≤ l.length ∧ Hp.le H H' ∧ RdA H' w1 w2 w3 w4 w5 (fillA (l.take k)).1 ∧ Mine 2 fH T.api_Handle H H' w (fillA (l.take k)).2 ∧ OldT H' w1 w2 w3 ∧ Old H' w4 ∧ Old H' w5, fun _ n _ _ _ _ _ _ => (l.length - n).toNat,
    ⟨0, rfl, by omega, nn.le, by rw [List.take_zero]; exact nn.rd, .inl ⟨rfl, rfl⟩, nn.tb.old, nn.heap.isOld, nn.wh.isOld⟩, fun w n w1 w2 w3 w4 w5 H18 ⟨k, hn, hk, le, ra, mw, oa⟩ => ?_⟩
  subst hn
  refine ⟨fun hlt => ?_, fun hge => ?_⟩
  · have hlt : k < l.length := by have : (k : Int) < u.n := by simpa using hlt
                                  omega
    have hg : l[k]? = some (l.getD k (0, 0)) := by simp [List.getD, hlt]
    have ht := hv _ (List.mem_of_getElem? hg)
    have f := fill_ok hv hl k hk
    have tl : (l.take k).length = k := by simp; omega
    obtain ⟨f1, f2⟩ := f.step ht (by omega)
    rw [tl] at f2
    have rg := (r.le le).gH (i := (k : Int)) (by omega) (by omega)
    rw [Int.toNat_natCast] at rg
    refine ⟨r.inS (by omega) (by omega), _, _, rg, ?_⟩
    refine (agendaPush ra (okA.fitG f.ok) ht.fit).mono fun v H22 ⟨v1, v2, v3, v4, v5, hv', nn⟩ => ⟨nn.le, v1, v2, v3, v4, v5, _, _, _, hv', ?_⟩
    rw [f2] at nn ⊢
    refine ⟨fun h => by simp at h, fun _ b31 H32 hb31 hH32 => ?_⟩
    refine (append1 (k := 2) (f := fH) (bytes := 16) (x := nextH (fillA (l.take k)).1) (e := T.api_Handle) (by kernel_rfl) (by decide) (fun _ => rfl) (fun x v hv => by simp [fH] at hv; rcases hv with rfl | rfl <;> rfl) (Hp.le_trans le nn.le) (mw.le nn.le) hb31 hH32 rfl (by rw [f.n]; simp; omega) (by omega)).mono fun v H34 ⟨w', hw, l34, mw', cw, _⟩ => ⟨w', hw, by unfold inI; omega, ⟨k + 1, by omega, by omega, l34, ?_, ?_, ?_⟩, ?_⟩
    · rw [take_succ hg, fillA_snoc, f.n, tl]
      have s : ∀ {x : Slc}, New H18 x → Sep x w := fun hx => (Sep.of mw.isOld hx).symm
      have q := nn.rd
      exact ⟨⟨q.tb.uses.chg cw (s nn.tb.uses.isNew), q.tb.used.chg cw (s nn.tb.used.isNew), q.tb.free.chg cw (s nn.tb.free.isNew)⟩, q.heap.chg cw (s nn.heap.isNew), q.wh.chg cw (s nn.wh.isNew)⟩
    · rw [take_succ hg, fillA_snoc]; exact mw'
    · have s : ∀ {x : Slc}, New H18 x → Sep x w := fun hx => (Sep.of mw.isOld hx).symm
      have o := nn.tb.old
      exact ⟨⟨o.1.chg cw (s nn.tb.uses.isNew), o.2.1.chg cw (s nn.tb.used.isNew), o.2.2.chg cw (s nn.tb.free.isNew)⟩, nn.heap.isOld.chg cw (s nn.heap.isNew), nn.wh.isOld.chg cw (s nn.wh.isNew)⟩
    · show ((l.length : Int) - ((k : Int) + 1)).toNat < ((l.length : Int) - (k : Int)).toNat; omega
  · have hge : ¬ (k : Int) < u.n := by simpa using hge
    have : k = l.length := by omega
    subst this
    rw [List.take_length] at ra mw
    exact ⟨w1, w2, w3, w4, w5, w, rfl, le, ra, mw, oa⟩

theorem lawPopped {H : Hp} {u w : Slc} {xs : List Ev} {ys : List Int} (r : Rd 5 fE H u xs) (s : RdI H w ys) (e : xs.map (·.no) = ys) (hl : xs.length ≤ 1000) : Qf Try.prog F.pelotonlaw07_popped #[u.v, w.v] H (.bool true) := by
  subst e
  have lu := r.len
  have lw := s.len
  rw [List.length_map] at lw
  refine pelotonlaw07_popped_vc ⟨fun h => by simp at h; omega, fun _ => ?_⟩
  refine upto (N := xs.length) (J := fun _ => True) (by omega) trivial fun n h0 h1 _ => ⟨fun hn => ?_, fun hn => ⟨rfl, Hp.le_refl _⟩⟩
  have hn : n < xs.length := by have : n < u.n := by simpa using hn
                                omega
  refine ⟨r.inS h0 hn, _, Rd.gEn r h0 hn, s.ldI h0 (by simpa using hn) ⟨fun h => ?_, fun _ => upto.nx h0 hn (by omega) trivial⟩⟩
  have : (xs.map (·.no)).getD n.toNat 0 = (hp xs n.toNat).no := by
    rw [List.getD_eq_getElem?_getD, List.getElem?_map, hp_get (by omega)]; rfl
  rw [this] at h; simp at h

theorem lawAt {H : Hp} {n : Int} : Qf Try.prog F.pelotonlaw07_at #[.int .i64 n] H (.agg #[.int .i64 n, .int .i64 1]) := pelotonlaw07_at_vc ⟨rfl, Hp.le_refl _⟩

def exL : List (Int × Int) := [(5, 1), (3, 1), (4, 1), (3, 1)]
theorem exL_ok : ∀ x ∈ exL, okR x := by decide
theorem exFill : FillOk exL (fillA exL).1 (fillA exL).2 := by
  have := fill_ok (l := exL) exL_ok (by decide) 4 (by decide)
  exact this
def exH : Int × Int := (fillA exL).2.getD 0 (0, 0)
theorem exLive : (fillA exL).1.tb.live exH.1 exH.2 = true := (exFill.ok.slot (exFill.mem 0 (by decide))).2.2.2.2
theorem ex72 : okR (7, 2) := by decide
theorem exPop1 : (popL 4 (fillA exL).1).map (·.no) = [1, 3, 2, 0] := by kernel_rfl
theorem exPop2 : (popL 4 (rekeyedA (fillA exL).1 exH (7, 2))).map (·.no) = [1, 3, 0, 2] := by kernel_rfl

theorem lawAlive7 {H : Hp} : Qf Try.prog F.pelotonlaw07_alive #[] H (.bool true) := by
  refine pelotonlaw07_alive_vc ⟨_, _, lawAt, _, _, lawAt, _, _, lawAt, _, _, lawAt, fun b9 H10 hb9 hH10 => ?_⟩
  have le10 : Hp.le H H10 := Hp.le_new (Hp.le_refl _) hb9 hH10
  have r : Rd 2 fH H10 ⟨some ⟨b9, 0, none⟩, 4, 4⟩ exL := rdConst (k := 2) (f := fH) (fun _ => rfl) hH10 rfl rfl
  have f := exFill
  have f4 : (fillA exL).1.heap.length = 4 := f.len
  refine (lawFilled (u := ⟨some ⟨b9, 0, none⟩, 4, 4⟩) r exL_ok (by decide)).mono fun v H12 ⟨v1, v2, v3, v4, v5, w, hv, l12, ra, mw, _⟩ => ⟨v1, v2, v3, v4, v5, w, _, hv, ?_⟩
  have lw : w.n = 4 := by rw [mw.rdH.len, f.n]; rfl
  refine ⟨fun h => by simp [lw] at h, fun _ => ?_⟩
  refine (lawEmptied ra f.ok (by omega)).mono fun v H21 ⟨e, hv, l21, me⟩ => ⟨e, _, hv, ?_⟩
  rw [f4] at me
  have g := (mw.rdH.le l21).gH (i := (0 : Int)) (by omega) (by rw [f.n]; decide)
  refine ⟨mw.rdH.inS (by omega) (by rw [f.n]; decide), _, _, g, ?_⟩
  have er : rekeyA (fillA exL).1 exH (7, 2) = (rekeyedA (fillA exL).1 exH (7, 2), 0) := by
    unfold rekeyA; rw [if_pos ⟨f.ok, ex72⟩, if_pos exLive]
  have ok2 := f.ok.rekeyed exLive ex72
  have k4 : (rekeyedA (fillA exL).1 exH (7, 2)).heap.length = 4 := by have := ok2.perm.length_eq; simp at this; omega
  refine (agendaRekey (h := exH) (t := (7, 2)) (ra.le l21) (okA.fitG f.ok) ex72.fit).mono fun v H27 ⟨k1, k2, k3, k5, k6, hv, nk⟩ => ⟨nk.le, k1, k2, k3, k5, k6, _, hv, ?_⟩
  rw [er] at nk ⊢
  refine (lawEmptied (a := rekeyedA (fillA exL).1 exH (7, 2)) nk.rd ok2.ok (by omega)).mono fun v H35 ⟨e2, hv, l35, me2⟩ => ⟨e2, _, hv, ?_⟩
  rw [k4] at me2
  refine ⟨fun _ b38 H39 hb38 hH39 => ?_, fun h => by simp at h⟩
  have le39 : Hp.le H35 H39 := Hp.le_new (Hp.le_refl _) hb38 hH39
  refine ⟨_, fun _ => lawPopped (w := ⟨some ⟨b38, 0, none⟩, 4, 4⟩) ((me.rdE.le nk.le).le (Hp.le_trans l35 le39)) (rdInts7 (xs := [1, 3, 2, 0]) hH39 rfl rfl) exPop1 (by rw [popL_len f.ok f4]; omega), fun _ b41 H42 hb41 hH42 => ?_, fun h => by simp at h⟩
  have le42 : Hp.le H39 H42 := Hp.le_new (Hp.le_refl _) hb41 hH42
  refine ⟨_, fun _ => lawPopped (w := ⟨some ⟨b41, 0, none⟩, 4, 4⟩) (me2.rdE.le (Hp.le_trans le39 le42)) (rdInts7 (xs := [1, 3, 0, 2]) hH42 rfl rfl) exPop2 (by rw [popL_len ok2.ok k4]; omega), rfl, ?_⟩
  exact Hp.le_trans (Hp.le_trans (Hp.le_trans le10 l12) (Hp.le_trans l21 nk.le)) (Hp.le_trans l35 (Hp.le_trans le39 le42))

theorem lawFit {H : Hp} {u1 u2 u3 u4 u5 : Slc} {a : Ag} (r : RdA H u1 u2 u3 u4 u5 a) (hf : ∀ x ∈ a.heap, fitR x.at_) :
    Qf Try.prog F.pelotonlaw07_fit #[agV u1 u2 u3 u4 u5] H (.bool (!(decide (a.tb.uses.length > 210) || decide (a.tb.used.length > 210) || decide (a.tb.free.length > 210) || decide (a.heap.length > 210) || decide (a.wh.length > 210)) && chkA a == 0)) :=
  pelotonlaw07_fit_vc ⟨_, refAGreat r, _, fun hg => refACheck r (fit_of hf (by simpa using hg)).1, rfl, Hp.le_refl _⟩
end Go.Proofs.Ythmlkdflhnjhcaa
