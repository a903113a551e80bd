/- Altering and certifying anew, in plain words. Conditions: none. -/
import Derived.Test.YtodmhdfenpkbdaaGreatPL6
set_option linter.unusedVariables false
set_option maxRecDepth 100000
open Go Go.Eng Go.Proofs
namespace Go.Proofs.YtodmhdfenpkbdaaGreat

theorem dueF_count (f : List Pt) (t : Int × Int) : ∀ l m : List (Int × Int × Int), l.map (·.2) = m.map (·.2) → (dueF f t l).length = (dueF f t m).length
  | [], [], _ => rfl
  | [], _ :: _, h => by cases h
  | _ :: _, [], h => by cases h
  | a :: l, b :: m, h => by
    simp only [List.map_cons, List.cons.injEq] at h
    have ih := dueF_count f t l m h.2
    rw [dueF_cons, dueF_cons, List.length_append, List.length_append, ih, h.1]
    cases whenM f b.2 t <;> rfl
theorem okK.dueLen {c : Ck} (ok : okK c) : c.due.length = (dueF c.f c.now c.ct.list).length := by
  obtain ⟨ps, e⟩ := ok.evs
  rw [e.due, e.at_]; simp
theorem okK.dueLe {c : Ck} (ok : okK c) : c.due.length ≤ c.ct.list.length := by
  rw [ok.dueLen]; exact List.length_filterMap_le _ _

/-- Certifying one after the other, so far. -/
structure CInv (f : List Pt) (t : Int × Int) (l : List (Int × Int)) (x : Ck) : Prop where
  ok : okK x
  f : x.f = f
  now : x.now = t
  next : x.ct.next = l.length
  cts : x.ct.list.map (·.2) = l
  low : ∀ i : Nat, x.ag.tb.uses.getD i 0 ≤ l.length

theorem CInv.start {f : List Pt} {t : Int × Int} (of : okF f) (ot : okR t) : CInv f t [] ⟨t, f, .zero, beginA 200, []⟩ := by
  refine ⟨⟨ot, of, (show okC Ct.zero by decide), rfl, okA.begin (by omega) (by omega), rfl, rfl, rfl⟩, rfl, rfl, rfl, rfl, fun i => ?_⟩
  show (List.replicate 200 (0 : Int)).getD i 0 ≤ _
  rw [List.getD_eq_getElem?_getD, List.getElem?_replicate]
  split <;> simp

theorem CInv.step {f : List Pt} {t : Int × Int} {l : List (Int × Int)} {x : Ck} (I : CInv f t l x) {y : Int × Int} (hv : validC y = true) (hn : y ∉ l) (h1 : 0 ≤ posF f y.1) (h2 : 0 ≤ posF f y.2) (hl : l.length < 200) :
    (certifyK x y).2.2 = 0 ∧ CInv f t (l ++ [y]) (certifyK x y).1 := by
  have ok := I.ok
  have lc : x.ct.list.length = l.length := by rw [← I.cts]; simp
  have h1' : 0 ≤ posF x.f y.1 := by rw [I.f]; exact h1
  have h2' : 0 ≤ posF x.f y.2 := by rw [I.f]; exact h2
  have hh : hasC x.ct y = false := by
    cases h : hasC x.ct y with
    | false => rfl
    | true =>
      obtain ⟨z, hz, e⟩ := List.any_eq_true.1 h
      rw [beq_iff_eq] at e
      exact absurd (by rw [← I.cts, ← e]; exact List.mem_map_of_mem hz) hn
  have ea : addC x.ct y = (⟨x.ct.next + 1, x.ct.list ++ [(x.ct.next, y)]⟩, x.ct.next, 0) := by
    have := I.next
    unfold addC
    rw [if_pos ⟨ok.ct, hv⟩, hh, if_neg (by simp), if_neg (by omega)]
  have hc : x.ag.tb.canTake = true := by
    have a1 := ok.ag.hl
    have a2 := ok.wl
    have a3 := ok.ag.wl
    have a4 := ok.hl
    have a5 := ok.dueLe
    exact canTake_iff.2 ⟨by omega, by have := I.low (topL x.ag.tb.free).toNat; omega⟩
  have ek : certifyK x y = addK x y := by
    unfold certifyK; rw [if_pos ⟨ok, hv⟩, if_neg (by omega)]
  rw [ek]
  have hk : (addK x y).2.2 = 0 := by
    unfold addK; rw [ea, if_pos rfl]
    cases whenM x.f y x.now with
    | none => rfl
    | some s => simp only; rw [if_pos hc]
  obtain ⟨o1, o2, o3, o4, o5⟩ := ok.add h1' h2' hk
  refine ⟨hk, o1, by rw [o4, I.f], by rw [o5, I.now], ?_, ?_, fun i => ?_⟩
  · rw [o3]; show x.ct.next + 1 = _; rw [I.next]; simp
  · rw [o3]; show (x.ct.list ++ [(x.ct.next, y)]).map (·.2) = _; rw [List.map_append, I.cts]; rfl
  · have li := I.low i
    rw [List.length_append, List.length_singleton]
    unfold addK; rw [ea, if_pos rfl]
    cases whenM x.f y x.now with
    | none => show x.ag.tb.uses.getD i 0 ≤ _; omega
    | some s =>
      simp only; rw [if_pos hc]
      show (x.ag.tb.uses.set _ _).getD i 0 ≤ _
      have hfl : 0 < x.ag.tb.free.length := (canTake_iff.1 hc).1
      obtain ⟨tm, k0, k1⟩ := ok.ag.tb.topR hfl
      rw [getD_setI (by omega)]
      have := I.low (topL x.ag.tb.free).toNat
      split <;> omega

theorem certL_inv {f : List Pt} {t : Int × Int} : ∀ {m l : List (Int × Int)} {x : Ck}, CInv f t l x → (l ++ m).Nodup → (∀ y ∈ m, validC y = true ∧ 0 ≤ posF f y.1 ∧ 0 ≤ posF f y.2) → (l ++ m).length ≤ 200 → CInv f t (l ++ m) (certL x m)
  | [], l, x, I, _, _, _ => by rw [List.append_nil]; exact I
  | y :: m, l, x, I, hn, hv, hl => by
    have e : l ++ y :: m = (l ++ [y]) ++ m := by simp
    obtain ⟨v1, v2, v3⟩ := hv y List.mem_cons_self
    have hy : y ∉ l := fun hm => (List.nodup_append.1 hn).2.2 y hm y List.mem_cons_self rfl
    obtain ⟨s1, s2⟩ := I.step v1 hy v2 v3 (by rw [List.length_append, List.length_cons] at hl; omega)
    have : certL x (y :: m) = certL (certifyK x y).1 m := by
      show certL (if (certifyK x y).2.2 = 0 then (certifyK x y).1 else x) m = _
      rw [if_pos s1]
    rw [this, e]
    exact certL_inv s2 (by rw [← e]; exact hn) (fun z hz => hv z (List.mem_cons_of_mem _ hz)) (by rw [← e]; exact hl)

/-- Altering leaves as many events as certifying anew. -/
theorem alter_anew {c : Ck} {f : List Pt} (ok : okK c) (hf : chkF f = 0) (h : (alterK c f).2 = 0) :
    okK (alterK c f).1 ∧ (alterK c f).1.ct = c.ct ∧ (alterK c f).1.f = f ∧ (certM f c.now (c.ct.list.map (·.2))).2 = true ∧ (alterK c f).1.due.length = (certM f c.now (c.ct.list.map (·.2))).1.due.length := by
  have of := chkF_zero.1 hf
  have kn : knownC c.ct f = true := by
    unfold alterK at h
    rw [if_pos ok, if_pos hf] at h
    split at h
    · assumption
    · cases h
  have ek : alterK c f = alteredK c f := by unfold alterK; rw [if_pos ok, if_pos hf, if_pos kn]
  rw [ek] at h ⊢
  have o1 := (ok.altered of kn).1 h
  have e3 : (alteredK c f).1.ct = c.ct ∧ (alteredK c f).1.f = f ∧ (alteredK c f).1.now = c.now := by
    unfold alteredK at h ⊢
    split at h
    · exact ⟨rfl, rfl, rfl⟩
    · cases h
  have nk : newK f c.now = (⟨c.now, f, .zero, beginA 200, []⟩, 0) := by
    unfold newK; rw [if_pos (timedF_zero.2 ⟨of, ok.now⟩)]
  have lc := ok.ct.len
  have I := certL_inv (CInv.start of ok.now) (m := c.ct.list.map (·.2)) (by rw [List.nil_append]; exact ok.ct.ok.dist) (fun y hy => by
    obtain ⟨z, hz, e⟩ := List.mem_map.1 hy
    subst e
    obtain ⟨k1, k2⟩ := knownC_at kn hz
    exact ⟨(ok.ct.ok.each z hz).1, k1, k2⟩) (by simp; omega)
  rw [List.nil_append] at I
  have em : certM f c.now (c.ct.list.map (·.2)) = (certL ⟨c.now, f, .zero, beginA 200, []⟩ (c.ct.list.map (·.2)), true) := by
    unfold certM; rw [nk, if_pos rfl, chkK_ok I.ok]; rfl
  rw [em]
  refine ⟨o1, e3.1, e3.2.1, rfl, ?_⟩
  rw [o1.dueLen, I.ok.dueLen, e3.1, e3.2.1, e3.2.2, I.f, I.now]
  exact dueF_count _ _ _ _ I.cts.symm

theorem alter_err {c : Ck} {f : List Pt} (ok : okK c) (hf : chkF f = 0) (h : (alterK c f).2 ≠ 0) : (alterK c f).2 = 18 ∨ (alterK c f).2 = 6 ∧ knownC c.ct f = false := by
  unfold alterK at h ⊢
  rw [if_pos ok, if_pos hf] at h ⊢
  by_cases kn : knownC c.ct f = true
  · rw [if_pos kn] at h ⊢
    left
    rw [(ok.altered (chkF_zero.1 hf) kn).2 h]
  · rw [if_neg kn]
    right; exact ⟨rfl, by simpa using kn⟩

theorem gone_len {c : Ck} (ok : okK c) {n : Int} (h : 0 ≤ atC c.ct n) :
    ((goneK c n).ct.list.length : Int) = c.ct.list.length - 1 ∧ (0 ≤ posD c n → ((goneK c n).due.length : Int) = c.due.length - 1) ∧ (posD c n < 0 → (goneK c n).due = c.due) := by
  refine ⟨?_, fun hp => ?_, fun hp => ?_⟩
  · have : (getC c.ct n).2 = 0 := by unfold getC; rw [if_pos ok.ct, if_neg (by omega)]
    rw [(goneK_ct c _).1]
    exact without_len this
  · obtain ⟨ps, e⟩ := ok.evs
    have e2 := (ok.gone n).2 ps e
    obtain ⟨x, hx, hn, _⟩ := e.pos.1 hp
    have hnd : (ps.map (·.no)).Nodup := (e.inc ok.ct).imp fun h => by omega
    have pm := (filter_nodup hnd hx).length_eq
    rw [e2.due, e.due]
    rw [hn] at pm
    simp only [List.length_map, List.length_cons] at pm ⊢
    omega
  · unfold goneK; rw [if_neg (by omega)]
end Go.Proofs.YtodmhdfenpkbdaaGreat
