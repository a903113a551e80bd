/- The engine, parts L1, L2, L3, put together. Conditions: none. -/
import Derived.Test.YtkemdpobjaiolaaGreatPK2
import Derived.Test.YtkemdpobjaiolaaGreatP5
import Derived.Test.YtkemdpobjaiolaaGreatP7
set_option linter.unusedVariables false
section
/- Clocks, in plain Lean: when a certificate fails. Conditions: none. -/
set_option maxRecDepth 100000
open Go Go.Eng Go.Proofs
namespace Go.Proofs.YtkemdpobjaiolaaGreat

/-- a is not later than b. -/
def leR (a b : Int × Int) : Prop := a.1 * b.2 ≤ b.1 * a.2
instance (a b : Int × Int) : Decidable (leR a b) := inferInstanceAs (Decidable (_ ≤ _))
theorem cmpR_le {a b : Int × Int} : cmpR a b ≤ 0 ↔ leR a b := by unfold cmpR leR cmpI; split <;> (try split) <;> omega
theorem cmpR_lt {a b : Int × Int} : cmpR a b < 0 ↔ ¬ leR b a := by unfold cmpR leR cmpI; split <;> (try split) <;> omega
theorem leR_refl (a : Int × Int) : leR a a := Int.le_refl _
theorem leR_total (a b : Int × Int) : leR a b ∨ leR b a := by unfold leR; omega
theorem leR_trans {a b c : Int × Int} (ha : okR a) (hb : okR b) (hc : okR c) (h : leR a b) (h' : leR b c) : leR a c := rat_le hb.d1 ha.d1 hc.d1 h h'

/-- Fractions in lowest terms that are as great as each other are the same. -/
theorem okR_eq {a b : Int × Int} (ha : okR a) (hb : okR b) (h : leR a b) (h' : leR b a) : a = b := by
  obtain ⟨n, d⟩ := a
  obtain ⟨m, e⟩ := b
  have e0 : n * e = m * d := by unfold leR at h h'; simp only at h h'; omega
  have d1 := ha.d1; have e1 := hb.d1
  simp only at d1 e1
  have g1 : Nat.gcd n.natAbs d.natAbs = 1 := ((okR_iff ha.fit).1 ha).2.2
  have g2 : Nat.gcd m.natAbs e.natAbs = 1 := ((okR_iff hb.fit).1 hb).2.2
  have ea : n.natAbs * e.natAbs = m.natAbs * d.natAbs := by rw [← Int.natAbs_mul, ← Int.natAbs_mul, e0]
  have x1 : d.natAbs ∣ e.natAbs := by
    have : d.natAbs ∣ n.natAbs * e.natAbs := ⟨m.natAbs, by rw [ea, Nat.mul_comm]⟩
    exact (Nat.Coprime.symm g1 : Nat.Coprime d.natAbs n.natAbs).dvd_of_dvd_mul_left this
  have x2 : e.natAbs ∣ d.natAbs := by
    have : e.natAbs ∣ m.natAbs * d.natAbs := ⟨n.natAbs, by rw [← ea, Nat.mul_comm]⟩
    exact (Nat.Coprime.symm g2 : Nat.Coprime e.natAbs m.natAbs).dvd_of_dvd_mul_left this
  have x3 := Nat.dvd_antisymm x1 x2
  have hd : d = e := by omega
  subst hd
  have : n = m := Int.eq_of_mul_eq_mul_right (by omega) e0
  rw [this]

/-- When a certificate of two points fails: high, low. -/
def failM (p q : Pt) (t : Int × Int) : Option (Int × Int) := if leads q p t = true then some t else if p.2.2 < q.2.2 then some (makeM (p.2.1 - q.2.1) (q.2.2 - p.2.2)).1 else none

theorem makeM_neg {n d : Int} (hd : d ≠ 0) : makeM n d = makeM (-n) (-d) := by
  unfold makeM
  have e1 : absI (-n) = absI n := by unfold absI; split <;> split <;> omega
  have e2 : absI (-d) = absI d := by unfold absI; split <;> split <;> omega
  have e3 : gcdA (-n) (-d) = gcdA n d := by unfold gcdA; rw [e1, e2]
  rw [if_neg hd, if_neg (by omega), e1, e2, e3]
  refine buildM_sign fun hne => ?_
  have hn : n ≠ 0 := fun e => hne (by subst e; simp [absI])
  by_cases a : n < 0 <;> by_cases b : d < 0
  · rw [decide_eq_true a, decide_eq_true b, decide_eq_false (show ¬ -n < 0 by omega), decide_eq_false (show ¬ -d < 0 by omega)]; rfl
  · rw [decide_eq_true a, decide_eq_false b, decide_eq_false (show ¬ -n < 0 by omega), decide_eq_true (show -d < 0 by omega)]; rfl
  · rw [decide_eq_false a, decide_eq_true b, decide_eq_true (show -n < 0 by omega), decide_eq_false (show ¬ -d < 0 by omega)]; rfl
  · rw [decide_eq_false a, decide_eq_false b, decide_eq_true (show -n < 0 by omega), decide_eq_true (show -d < 0 by omega)]; rfl

theorem _root_.Go.Eng.okP.b {p : Pt} (h : okP p) : -1048576 ≤ p.2.1 ∧ p.2.1 ≤ 1048576 ∧ -1048576 ≤ p.2.2 ∧ p.2.2 ≤ 1048576 := ⟨h.a0, h.a1, h.b0, h.b1⟩

/-- The meeting of two points of which the second one is faster. -/
theorem meet_parts {p q : Pt} (hp : okP p) (hq : okP q) (h : p.2.2 < q.2.2) : ∃ x y g : Int, 0 < g ∧ makeM (p.2.1 - q.2.1) (q.2.2 - p.2.2) = ((x, y), 0) ∧ x * g = p.2.1 - q.2.1 ∧ y * g = q.2.2 - p.2.2 ∧ okR (x, y) := by
  have hp := hp.b; have hq := hq.b
  obtain ⟨x, y, g, h1, h2, h3, h4, h5⟩ := makeNeg (A := p.2.1 - q.2.1) (B := p.2.2 - q.2.2) (by omega) (by omega) (by omega) (by omega)
  refine ⟨x, y, g, h1, ?_, h3, by omega, h5⟩
  rw [makeM_neg (by omega), ← h2]
  congr 1; omega

theorem farV_at {p q : Pt} {x y g : Int} (hx : x * g = p.2.1 - q.2.1) (hy : y * g = q.2.2 - p.2.2) (u : Int × Int) : farV p q u = (x * u.2 - u.1 * y) * g := by
  unfold farV
  have hB : p.2.2 - q.2.2 = -(y * g) := by omega
  rw [← hx, hB, Int.sub_mul, Int.neg_mul]
  have h1 : x * g * u.2 = x * u.2 * g := by rw [Int.mul_assoc, Int.mul_comm g, ← Int.mul_assoc]
  have h2 : y * g * u.1 = u.1 * y * g := by rw [Int.mul_comm, ← Int.mul_assoc]
  omega

theorem leads_far {p q : Pt} {t : Int × Int} : leads p q t = true ↔ 0 < farV p q t ∨ (farV p q t = 0 ∧ (q.2.2 < p.2.2 ∨ (p.2.2 = q.2.2 ∧ p.1 < q.1))) := by
  unfold leads
  split
  · rw [decide_eq_true_iff]; omega
  · split
    · rw [decide_eq_true_iff]; omega
    · rw [decide_eq_true_iff]; omega

/-- A failure time is a time, and is to come. -/
theorem fail_okR {p q : Pt} {t s : Int × Int} (hp : okP p) (hq : okP q) (ht : okR t) (h : failM p q t = some s) : okR s := by
  unfold failM at h
  split at h
  · cases h; exact ht
  · split at h
    · rename_i hb
      obtain ⟨x, y, g, h1, h2, h3, h4, h5⟩ := meet_parts hp hq hb
      rw [h2] at h; cases h; exact h5
    · cases h

theorem fail_le {p q : Pt} {t s : Int × Int} (hp : okP p) (hq : okP q) (hne : p.1 ≠ q.1) (h : failM p q t = some s) : leR t s := by
  unfold failM at h
  split at h
  · cases h; exact leR_refl _
  · rename_i hl
    split at h
    · rename_i hb
      obtain ⟨x, y, g, h1, h2, h3, h4, h5⟩ := meet_parts hp hq hb
      rw [h2] at h; cases h
      have hl' : leads p q t = true := by rw [leads_swap t (Ne.symm hne)]; simpa using hl
      rw [leads_far, farV_at h3 h4] at hl'
      unfold leR
      simp only
      have h0 : 0 ≤ (x * t.2 - t.1 * y) * g := by omega
      rcases Int.lt_or_le (x * t.2 - t.1 * y) 0 with hn | hn
      · have := Int.mul_neg_of_neg_of_pos hn h1; omega
      · omega
    · cases h

/-- It is the same from each time on that is not behind it. -/
theorem fail_stay {p q : Pt} {t s u : Int × Int} (hp : okP p) (hq : okP q) (hne : p.1 ≠ q.1) (ht : okR t) (hu : okR u) (h : failM p q t = some s) (h1 : leR t u) (h2 : leR u s) : failM p q u = some s := by
  have hs := fail_okR hp hq ht h
  unfold failM at h
  split at h
  · rename_i hl
    cases h
    have := okR_eq ht hu h1 h2
    subst this
    unfold failM; rw [if_pos hl]
  · rename_i hl
    split at h
    · rename_i hb
      obtain ⟨x, y, g, g1, g2, g3, g4, g5⟩ := meet_parts hp hq hb
      rw [g2] at h; cases h
      by_cases hq' : leR (x, y) u
      · have := okR_eq g5 hu hq' h2
        subst this
        have hf : farV q p (x, y) = 0 := by rw [farV_swap, farV_at g3 g4]; simp [Int.mul_comm]
        have : leads q p (x, y) = true := leads_far.2 (.inr ⟨hf, .inl hb⟩)
        unfold failM; rw [if_pos this]
      · have hf : 0 < farV p q u := by
          rw [farV_at g3 g4]
          unfold leR at hq'
          simp only at hq'
          exact Int.mul_pos (by omega) g1
        have : ¬ leads q p u = true := by
          rw [leads_swap u hne]
          rw [leads_far.2 (.inl hf)]; simp
        unfold failM; rw [if_neg this, if_pos hb, g2]
    · cases h

/-- Before it, the certificate holds; at it, it does not. -/
theorem fail_before {p q : Pt} {t s u : Int × Int} (hp : okP p) (hq : okP q) (hne : p.1 ≠ q.1) (ht : okR t) (h : failM p q t = some s) (h1 : leR t u) (h2 : ¬ leR s u) : leads p q u = true := by
  unfold failM at h
  split at h
  · cases h; exact absurd h1 h2
  · split at h
    · rename_i hb
      obtain ⟨x, y, g, g1, g2, g3, g4, g5⟩ := meet_parts hp hq hb
      rw [g2] at h; cases h
      refine leads_far.2 (.inl ?_)
      rw [farV_at g3 g4]
      unfold leR at h2
      simp only at h2
      exact Int.mul_pos (by omega) g1
    · cases h

/-- What never fails, holds at all times to come, and never fails from there on. -/
theorem fail_never {p q : Pt} {t u : Int × Int} (hne : p.1 ≠ q.1) (ht : okR t) (hu : okR u) (h : failM p q t = none) (h1 : leR t u) : leads p q u = true ∧ failM p q u = none := by
  unfold failM at h
  split at h
  · cases h
  · rename_i hl
    split at h
    · cases h
    · rename_i hb
      have hl' : leads p q t = true := by rw [leads_swap t (Ne.symm hne)]; simpa using hl
      have key : leads p q u = true := by
        rw [leads_far] at hl' ⊢
        have t2 := ht.d1; have u2 := hu.d1
        unfold leR at h1
        have e : farV p q u * t.2 = farV p q t * u.2 + (p.2.2 - q.2.2) * (u.1 * t.2 - t.1 * u.2) := by
          unfold farV
          rw [Int.add_mul, Int.add_mul, Int.mul_sub]
          have a1 : (p.2.1 - q.2.1) * u.2 * t.2 = (p.2.1 - q.2.1) * t.2 * u.2 := by rw [Int.mul_assoc, Int.mul_comm u.2, ← Int.mul_assoc]
          have a2 : (p.2.2 - q.2.2) * u.1 * t.2 = (p.2.2 - q.2.2) * (u.1 * t.2) := Int.mul_assoc ..
          have a3 : (p.2.2 - q.2.2) * t.1 * u.2 = (p.2.2 - q.2.2) * (t.1 * u.2) := Int.mul_assoc ..
          omega
        have hd : 0 ≤ (p.2.2 - q.2.2) * (u.1 * t.2 - t.1 * u.2) := Int.mul_nonneg (by omega) (by omega)
        have hft : 0 ≤ farV p q t := by omega
        have hfu : 0 ≤ farV p q t * u.2 := Int.mul_nonneg hft (by omega)
        by_cases z : 0 < farV p q u
        · exact .inl z
        · have hz : farV p q u * t.2 ≤ 0 := Int.mul_nonpos_of_nonpos_of_nonneg (by omega) (by omega)
          have hz' : farV p q t * u.2 = 0 := by omega
          have hft0 : farV p q t = 0 := by
            rcases Int.mul_eq_zero.1 hz' with h | h
            · exact h
            · omega
          have hu0 : farV p q u * t.2 = 0 := by omega
          have hfu0 : farV p q u = 0 := by
            rcases Int.mul_eq_zero.1 hu0 with h | h
            · exact h
            · omega
          exact .inr ⟨hfu0, by omega⟩
      refine ⟨key, ?_⟩
      unfold failM
      rw [if_neg (by rw [leads_swap u hne, key]; simp), if_neg hb]
end Go.Proofs.YtkemdpobjaiolaaGreat
end
section
/- Clocks, in plain Lean: which are valid, and what is done with them. Conditions: none. -/
set_option maxRecDepth 100000
open Go Go.Eng Go.Proofs
namespace Go.Proofs.YtkemdpobjaiolaaGreat

structure Ck where
  now : Int × Int
  f : List Pt
  ct : Ct
  ag : Ag
  due : List (Int × Int × Int)
deriving DecidableEq
def Ck.zero : Ck := ⟨(0, 0), [], .zero, .zero, []⟩

def whenM (f : List Pt) (x t : Int × Int) : Option (Int × Int) := failM (gP f (posF f x.2)) (gP f (posF f x.1)) t
def dueF (f : List Pt) (t : Int × Int) (l : List (Int × Int × Int)) : List (Int × Int × Int) := l.filterMap fun h => (whenM f h.2 t).map fun s => (h.1, s)
def fitD (h : List Ev) : List (Int × Int × Int) → List (Int × Int × Int) → Bool
  | [], [] => true
  | x :: l, d :: ds => decide (d.1 = x.1) && decide ((⟨x.2, x.1, d.2⟩ : Ev) ∈ h) && fitD h l ds
  | _, _ => false

structure okK (c : Ck) : Prop where
  now : okR c.now
  f : okF c.f
  ct : okC c.ct
  known : knownC c.ct c.f = true
  ag : okA c.ag
  wl : c.ag.wh.length = 200
  hl : c.ag.heap.length = c.due.length
  due : fitD c.ag.heap (dueF c.f c.now c.ct.list) c.due = true
instance (c : Ck) : Decidable (okK c) :=
  decidable_of_iff (okR c.now ∧ okF c.f ∧ okC c.ct ∧ knownC c.ct c.f = true ∧ okA c.ag ∧ c.ag.wh.length = 200 ∧ c.ag.heap.length = c.due.length ∧ fitD c.ag.heap (dueF c.f c.now c.ct.list) c.due = true)
    ⟨fun ⟨a, b, d, e, f, g, h, i⟩ => ⟨a, b, d, e, f, g, h, i⟩, fun ⟨a, b, d, e, f, g, h, i⟩ => ⟨a, b, d, e, f, g, h, i⟩⟩
def chkK (c : Ck) : Int := if okK c then 0 else 8
theorem chkK_ok {c : Ck} (h : okK c) : chkK c = 0 := by unfold chkK; rw [if_pos h]
theorem chkK_bad {c : Ck} (h : ¬ okK c) : chkK c = 8 := by unfold chkK; rw [if_neg h]
theorem chkK_zero {c : Ck} : chkK c = 0 ↔ okK c := by
  unfold chkK; split
  · simp [*]
  · simp [*]

def nt (e : Ev) : Int × Int × Int := (e.no, e.at_)
def nh (e : Ev) : Int × Int × Int := (e.no, e.h)

theorem fitD_out {h : List Ev} : ∀ {l ds : List (Int × Int × Int)}, fitD h l ds = true → ∃ ps : List Ev, l = ps.map nt ∧ ds = ps.map nh ∧ ∀ e ∈ ps, e ∈ h
  | [], [], _ => ⟨[], rfl, rfl, fun e he => by cases he⟩
  | [], _ :: _, h' => by cases h'
  | _ :: _, [], h' => by cases h'
  | x :: l, d :: ds, h' => by
    simp only [fitD, Bool.and_eq_true, decide_eq_true_eq] at h'
    obtain ⟨ps, e1, e2, e3⟩ := fitD_out h'.2
    refine ⟨⟨x.2, x.1, d.2⟩ :: ps, ?_, ?_, fun e he => ?_⟩
    · rw [e1]; rfl
    · rw [e2]
      show d :: _ = (x.1, d.2) :: _
      rw [← h'.1.1]
    · rcases List.mem_cons.1 he with rfl | he
      · exact h'.1.2
      · exact e3 e he
theorem fitD_in {h : List Ev} : ∀ {ps : List Ev}, (∀ e ∈ ps, e ∈ h) → fitD h (ps.map nt) (ps.map nh) = true
  | [], _ => rfl
  | e :: ps, he => by
    simp only [List.map_cons, fitD, nt, nh, decide_true, Bool.true_and, Bool.and_eq_true, decide_eq_true_eq]
    exact ⟨he _ (List.mem_cons_self), fitD_in fun x hx => he x (List.mem_cons_of_mem _ hx)⟩

theorem perm_of_sub {α : Type} [DecidableEq α] : ∀ {A B : List α}, A.Nodup → (∀ x ∈ A, x ∈ B) → B.length ≤ A.length → B.Perm A
  | [], B, _, _, hl => by
    have : B = [] := List.length_eq_zero_iff.1 (by simpa using hl)
    rw [this]
  | x :: A, B, hn, hs, hl => by
    have hx := hs x List.mem_cons_self
    have p := List.perm_cons_erase hx
    have hn' := List.nodup_cons.1 hn
    refine p.trans (List.Perm.cons _ (perm_of_sub hn'.2 (fun y hy => ?_) ?_))
    · have hne : y ≠ x := fun e => hn'.1 (by rw [← e]; exact hy)
      exact (List.mem_erase_of_ne hne).2 (hs y (List.mem_cons_of_mem _ hy))
    · rw [List.length_erase_of_mem hx]; simp at hl; omega

theorem dueF_nums (f : List Pt) (t : Int × Int) : ∀ l : List (Int × Int × Int), List.Sublist ((dueF f t l).map (·.1)) (l.map (·.1))
  | [] => List.Sublist.slnil
  | h :: l => by
    unfold dueF
    rw [List.filterMap_cons]
    cases whenM f h.2 t with
    | none => exact (dueF_nums f t l).cons _
    | some s => exact (dueF_nums f t l).cons_cons _

/-- The events of a valid clock: those of its certificates. -/
structure Evs (c : Ck) (ps : List Ev) : Prop where
  at_ : dueF c.f c.now c.ct.list = ps.map nt
  due : c.due = ps.map nh
  heap : c.ag.heap.Perm ps

theorem Evs.inc {c : Ck} {ps : List Ev} (e : Evs c ps) (ok : okC c.ct) : (ps.map (·.no)).Pairwise (· < ·) := by
  have h := (ok.ok.nums).sublist (dueF_nums c.f c.now c.ct.list)
  rw [e.at_, List.map_map] at h
  exact h
theorem okK.evs {c : Ck} (ok : okK c) : ∃ ps, Evs c ps := by
  obtain ⟨ps, e1, e2, e3⟩ := fitD_out ok.due
  have hs := (ok.ct.ok.nums).sublist (dueF_nums c.f c.now c.ct.list)
  rw [e1, List.map_map] at hs
  have hn : ps.Nodup := by
    have h2 : (ps.map (·.no)).Nodup := hs.imp fun h => by omega
    exact (List.pairwise_map.1 h2).imp fun h e => h (congrArg _ e)
  refine ⟨ps, e1, e2, perm_of_sub hn e3 ?_⟩
  rw [ok.hl, e2]; simp
theorem okK.of {c : Ck} {ps : List Ev} (n : okR c.now) (f : okF c.f) (ct : okC c.ct) (kn : knownC c.ct c.f = true) (ag : okA c.ag) (wl : c.ag.wh.length = 200) (e : Evs c ps) : okK c :=
  ⟨n, f, ct, kn, ag, wl, by rw [e.heap.length_eq, e.due]; simp, by rw [e.at_, e.due]; exact fitD_in fun x hx => e.heap.mem_iff.2 hx⟩

/-! ### What is done -/
def posD (c : Ck) (n : Int) : Int := idx (fun d : Int × Int × Int => d.1 == n) c.due
def addK (c : Ck) (x : Int × Int) : Ck × Int × Int :=
  if (addC c.ct x).2.2 = 0 then
    match whenM c.f x c.now with
    | none => ({ c with ct := (addC c.ct x).1 }, (addC c.ct x).2.1, 0)
    | some t => if c.ag.tb.canTake = true then ({ c with ct := (addC c.ct x).1, ag := pushedA c.ag t (addC c.ct x).2.1, due := c.due ++ [((addC c.ct x).2.1, nextH c.ag)] }, (addC c.ct x).2.1, 0) else (.zero, 0, 18)
  else (.zero, 0, (addC c.ct x).2.2)
def certifyK (c : Ck) (x : Int × Int) : Ck × Int × Int :=
  if okK c ∧ validC x = true then (if posF c.f x.1 < 0 ∨ posF c.f x.2 < 0 then (.zero, 0, 6) else addK c x) else (.zero, 0, 8)
def goneK (c : Ck) (n : Int) : Ck :=
  if 0 ≤ posD c n then { c with ct := withoutC c.ct n, ag := removedA c.ag (getD3 c.due (posD c n)).2, due := c.due.filter fun d => d.1 != n } else { c with ct := withoutC c.ct n }
def retireK (c : Ck) (n : Int) : Ck × Int := if okK c then (if atC c.ct n < 0 then (.zero, 6) else (goneK c n, 0)) else (.zero, 8)
def nextK (c : Ck) : Ev × Int := if okK c then (if c.ag.heap.length = 0 then (e0, 42) else (hp c.ag.heap 0, 0)) else (e0, 8)
def untilK (c : Ck) (t : Int × Int) : Int := if okK c ∧ okR t then (if cmpR t c.now < 0 then 44 else 0) else 8
def waitsK (c : Ck) (t : Int × Int) : Bool := decide (0 < c.ag.heap.length) && decide (cmpR (hp c.ag.heap 0).at_ t ≤ 0)
def failedK (c : Ck) : Ck := { goneK c (hp c.ag.heap 0).no with now := (hp c.ag.heap 0).at_ }
def failK (c : Ck) (t : Int × Int) : Ck × Ev × (Int × Int) × Int :=
  if untilK c t = 0 then (if waitsK c t = true then (failedK c, hp c.ag.heap 0, (getD3 c.ct.list (atC c.ct (hp c.ag.heap 0).no)).2, 0) else (.zero, e0, (0, 0), 6)) else (.zero, e0, (0, 0), untilK c t)
def moveK (c : Ck) (t : Int × Int) : Ck × Int := if untilK c t = 0 then (if waitsK c t = true then (.zero, 36) else ({ c with now := t }, 0)) else (.zero, untilK c t)
def newK (f : List Pt) (t : Int × Int) : Ck × Int := if timedF f t = 0 then (⟨t, f, .zero, beginA 200, []⟩, 0) else (.zero, timedF f t)

end Go.Proofs.YtkemdpobjaiolaaGreat
end
section
/- Clocks, in plain Lean: what is done leaves them valid. Conditions: none. -/
set_option maxRecDepth 100000
open Go Go.Eng Go.Proofs
namespace Go.Proofs.YtkemdpobjaiolaaGreat

theorem idx_in {α : Type} {p : α → Bool} {xs : List α} (h : 0 ≤ idx p xs) : ∃ x, xs[(idx p xs).toNat]? = some x ∧ p x = true ∧ x ∈ xs ∧ idx p xs < xs.length := by
  unfold idx at *
  split at h
  · rename_i ha
    have hl := List.findIdx_lt_length.2 (List.any_eq_true.1 ha)
    have e := List.getElem?_eq_getElem hl
    rw [if_pos ha, Int.toNat_natCast]
    exact ⟨_, e, List.findIdx_getElem, List.getElem_mem hl, by omega⟩
  · omega
theorem idx_out {α : Type} {p : α → Bool} {xs : List α} (h : idx p xs < 0) : ∀ x ∈ xs, p x = false := by
  intro x hx
  unfold idx at h
  split at h
  · omega
  · rename_i ha
    cases hp : p x with
    | false => rfl
    | true => exact absurd (List.any_eq_true.2 ⟨x, hx, hp⟩) ha

theorem filterMap_same {α β : Type} {f g : α → Option β} : ∀ {l : List α}, (∀ x ∈ l, f x = g x) → l.filterMap f = l.filterMap g
  | [], _ => rfl
  | x :: l, h => by
    rw [List.filterMap_cons, List.filterMap_cons, h x List.mem_cons_self, filterMap_same fun y hy => h y (List.mem_cons_of_mem _ hy)]

section
variable {c : Ck} {ps : List Ev} {n : Int}
theorem Evs.pos (e : Evs c ps) : (0 ≤ posD c n → ∃ x ∈ ps, x.no = n ∧ getD3 c.due (posD c n) = nh x ∧ posD c n < c.due.length) ∧ (posD c n < 0 → ∀ x ∈ ps, x.no ≠ n) := by
  constructor
  · intro h
    obtain ⟨d, h1, h2, h3, h4⟩ := idx_in h
    have hd : d ∈ ps.map nh := by rw [← e.due]; exact h3
    obtain ⟨x, hx, rfl⟩ := List.mem_map.1 hd
    refine ⟨x, hx, by simpa [nh] using h2, ?_, h4⟩
    unfold getD3 posD
    rw [List.getD, h1]; rfl
  · intro h x hx hn
    have := idx_out h (nh x) (by rw [e.due]; exact List.mem_map_of_mem hx)
    simp [nh, hn] at this

theorem filter_nodup {x : Ev} : ∀ {ps : List Ev}, (ps.map (·.no)).Nodup → x ∈ ps → ps.Perm (x :: ps.filter fun y => y.no != x.no)
  | y :: ps, hn, hx => by
    rw [List.map_cons, List.nodup_cons] at hn
    rcases List.mem_cons.1 hx with rfl | hx
    · rw [List.filter_cons_of_neg (by simp)]
      have : (ps.filter fun z => z.no != x.no) = ps := List.filter_eq_self.2 fun z hz => by
        rw [bne_iff_ne]; intro e; exact hn.1 (by rw [← e]; exact List.mem_map_of_mem hz)
      rw [this]
    · have hne : y.no ≠ x.no := fun e => hn.1 (by rw [e]; exact List.mem_map_of_mem hx)
      rw [List.filter_cons_of_pos (by simpa using hne)]
      exact (List.Perm.cons _ (filter_nodup hn.2 hx)).trans (List.Perm.swap _ _ _)
  | [], _, hx => by cases hx

theorem dueF_filter (f : List Pt) (t : Int × Int) (n : Int) : ∀ l : List (Int × Int × Int), dueF f t (l.filter fun h => h.1 != n) = (dueF f t l).filter fun h => h.1 != n
  | [] => rfl
  | h :: l => by
    have ih := dueF_filter f t n l
    unfold dueF at *
    by_cases e : h.1 = n
    · rw [List.filter_cons_of_neg (by simpa using e), ih, List.filterMap_cons]
      cases whenM f h.2 t with
      | none => rfl
      | some s => simp [e]
    · rw [List.filter_cons_of_pos (by simpa using e), List.filterMap_cons, List.filterMap_cons]
      cases whenM f h.2 t with
      | none => exact ih
      | some s => simp [e, ih]
theorem dueF_append (f : List Pt) (t : Int × Int) (l m : List (Int × Int × Int)) : dueF f t (l ++ m) = dueF f t l ++ dueF f t m := List.filterMap_append

theorem Evs.mem_heap (e : Evs c ps) {x : Ev} (hx : x ∈ ps) : x ∈ c.ag.heap := e.heap.mem_iff.2 hx
theorem okK.live (ok : okK c) {x : Ev} (hx : x ∈ c.ag.heap) : c.ag.tb.live x.h.1 x.h.2 = true := (ok.ag.slot hx).2.2.2.2

theorem removedA_wl {a : Ag} {x : Ev} (ok : okA a) (hx : x ∈ a.heap) : RemOk a (removedA a x.h) x ∧ (removedA a x.h).wh.length = a.wh.length := by
  have r := ok.removed (ok.slot hx).2.2.2.2
  rw [(find_eq ok hx).2] at r
  refine ⟨r, ?_⟩
  rw [r.ok.wl, r.tb, ok.wl]
  simp [Tb.given]

theorem okK.gone (ok : okK c) (n : Int) : okK (goneK c n) ∧ ∀ ps, Evs c ps → Evs (goneK c n) (ps.filter fun x => x.no != n) := by
  have kn : knownC (withoutC c.ct n) c.f = true := by
    unfold knownC withoutC
    exact List.all_eq_true.2 fun x hx => List.all_eq_true.1 ok.known x ((List.mem_filter.1 hx).1)
  have key : ∀ ps, Evs c ps → Evs (goneK c n) (ps.filter fun x => x.no != n) ∧ okA (goneK c n).ag ∧ (goneK c n).ag.wh.length = 200 := by
    intro ps e
    have hnd : (ps.map (·.no)).Nodup := (e.inc ok.ct).imp fun h => by omega
    have hat : dueF c.f c.now (withoutC c.ct n).list = (ps.filter fun x => x.no != n).map nt := by
      show dueF c.f c.now (c.ct.list.filter fun h => h.1 != n) = _
      rw [dueF_filter, e.at_, List.filter_map]; rfl
    unfold goneK
    by_cases h : 0 ≤ posD c n
    · rw [if_pos h]
      obtain ⟨x, hx, rfl, hg, hlt⟩ := e.pos.1 h
      have hxh := e.mem_heap hx
      have hh : (getD3 c.due (posD c x.no)).2 = x.h := by rw [hg]; rfl
      rw [hh]
      obtain ⟨r, hw⟩ := removedA_wl ok.ag hxh
      refine ⟨⟨hat, ?_, ?_⟩, r.ok, by rw [← ok.wl]; exact hw⟩
      · show c.due.filter _ = _
        rw [e.due, List.filter_map]; rfl
      · exact (r.perm.trans (e.heap.trans (filter_nodup hnd hx))).cons_inv
    · rw [if_neg h]
      have hno := e.pos.2 (by omega : posD c n < 0)
      have hf : (ps.filter fun x => x.no != n) = ps := List.filter_eq_self.2 fun x hx => by rw [bne_iff_ne]; exact hno x hx
      refine ⟨⟨hat, ?_, ?_⟩, ok.ag, ok.wl⟩
      · rw [hf]; exact e.due
      · rw [hf]; exact e.heap
  obtain ⟨ps, e⟩ := ok.evs
  obtain ⟨k1, k2, k3⟩ := key ps e
  refine ⟨okK.of (c := goneK c n) ?_ ?_ ?_ ?_ k2 k3 k1, fun ps e => (key ps e).1⟩
  · unfold goneK; split <;> exact ok.now
  · unfold goneK; split <;> exact ok.f
  · unfold goneK; split <;> exact okC_without ok.ct n
  · unfold goneK; split <;> exact kn

theorem goneK_ct (c : Ck) (n : Int) : (goneK c n).ct = withoutC c.ct n ∧ (goneK c n).f = c.f ∧ (goneK c n).now = c.now := by
  unfold goneK; split <;> exact ⟨rfl, rfl, rfl⟩

theorem okK.points (ok : okK c) {h : Int × Int × Int} (hm : h ∈ c.ct.list) : okP (gP c.f (posF c.f h.2.2)) ∧ okP (gP c.f (posF c.f h.2.1)) ∧ (gP c.f (posF c.f h.2.2)).1 ≠ (gP c.f (posF c.f h.2.1)).1 := by
  obtain ⟨k1, k2⟩ := knownC_at ok.known hm
  have v := (ok.ct.ok.each h hm).1
  unfold validC at v
  simp only [Bool.and_eq_true, bne_iff_ne] at v
  have p1 := posF_range k1; have p2 := posF_range k2
  exact ⟨ok.f.each _ (List.mem_of_getElem? p2.2.1), ok.f.each _ (List.mem_of_getElem? p1.2.1), by rw [p1.2.2, p2.2.2]; exact Ne.symm v.2⟩

theorem dueF_mem {f : List Pt} {t : Int × Int} {l : List (Int × Int × Int)} {x : Int × Int × Int} : x ∈ dueF f t l ↔ ∃ h ∈ l, x.1 = h.1 ∧ whenM f h.2 t = some x.2 := by
  unfold dueF
  rw [List.mem_filterMap]
  constructor
  · rintro ⟨h, hm, he⟩
    cases hw : whenM f h.2 t with
    | none => rw [hw] at he; cases he
    | some s => rw [hw] at he; cases he; exact ⟨h, hm, rfl, hw⟩
  · rintro ⟨h, hm, h1, h2⟩
    refine ⟨h, hm, ?_⟩
    rw [h2]
    show some (h.1, x.2) = some x
    rw [← h1]

/-- An event is that of a certificate. -/
theorem Evs.cert (e : Evs c ps) {x : Ev} (hx : x ∈ ps) : ∃ h ∈ c.ct.list, h.1 = x.no ∧ whenM c.f h.2 c.now = some x.at_ := by
  have : nt x ∈ dueF c.f c.now c.ct.list := by rw [e.at_]; exact List.mem_map_of_mem hx
  obtain ⟨h, hm, h1, h2⟩ := dueF_mem.1 this
  exact ⟨h, hm, h1.symm, h2⟩
theorem Evs.of_cert (e : Evs c ps) {h : Int × Int × Int} (hm : h ∈ c.ct.list) {s : Int × Int} (hw : whenM c.f h.2 c.now = some s) : ∃ x ∈ ps, x.no = h.1 ∧ x.at_ = s := by
  have : (h.1, s) ∈ ps.map nt := by rw [← e.at_]; exact dueF_mem.2 ⟨h, hm, rfl, hw⟩
  obtain ⟨x, hx, he⟩ := List.mem_map.1 this
  unfold nt at he
  exact ⟨x, hx, congrArg Prod.fst he, congrArg Prod.snd he⟩

/-- Going on to a time up to which nothing is due leaves all failure times. -/
theorem okK.stay (ok : okK c) (e : Evs c ps) {t : Int × Int} (ht : okR t) (h1 : leR c.now t) (h2 : ∀ x ∈ ps, leR t x.at_) : okK { c with now := t } ∧ Evs { c with now := t } ps := by
  have hd : dueF c.f t c.ct.list = dueF c.f c.now c.ct.list := by
    unfold dueF
    refine filterMap_same fun h hm => ?_
    obtain ⟨p1, p2, p3⟩ := ok.points hm
    cases hw : whenM c.f h.2 c.now with
    | none => unfold whenM at *; rw [(fail_never p3 ok.now ht hw h1).2]
    | some s =>
      obtain ⟨x, hx, _, hs⟩ := e.of_cert hm hw
      have := h2 x hx
      rw [hs] at this
      unfold whenM at *
      rw [fail_stay p1 p2 p3 ok.now ht hw h1 this]
  have e' : Evs { c with now := t } ps := ⟨by show dueF c.f t c.ct.list = _; rw [hd]; exact e.at_, e.due, e.heap⟩
  exact ⟨okK.of ht ok.f ok.ct ok.known ok.ag ok.wl e', e'⟩

theorem leR_of_less {x y : Ev} (h : lessE y x = false) : leR x.at_ y.at_ := by
  unfold leR
  rcases lessE_not.1 h with h | h
  · omega
  · omega
theorem okK.top (ok : okK c) {x : Ev} (hx : x ∈ c.ag.heap) : lessE x (hp c.ag.heap 0) = false := by
  obtain ⟨i, hi⟩ := List.mem_iff_getElem?.1 hx
  have hl : i < c.ag.heap.length := (List.getElem?_eq_some_iff.1 hi).1
  have e : hp c.ag.heap i = x := by unfold hp; rw [List.getD, hi]; rfl
  rw [← e]
  exact ordH.first ok.ag.ord ok.ag.posH i hl
theorem untilK_zero {t : Int × Int} : untilK c t = 0 ↔ okK c ∧ okR t ∧ leR c.now t := by
  unfold untilK
  split
  · rename_i h
    split
    · rename_i h2; rw [cmpR_lt] at h2
      constructor
      · intro e; cases e
      · intro e; exact absurd e.2.2 h2
    · rename_i h2; rw [cmpR_lt] at h2
      exact ⟨fun _ => ⟨h.1, h.2, by simpa using h2⟩, fun _ => rfl⟩
  · rename_i h
    constructor
    · intro e; cases e
    · intro e; exact absurd ⟨e.1, e.2.1⟩ h

theorem okK.move {t : Int × Int} (hu : untilK c t = 0) (hw : waitsK c t = false) (e : Evs c ps) : okK { c with now := t } ∧ Evs { c with now := t } ps := by
  obtain ⟨ok, ht, hl⟩ := untilK_zero.1 hu
  refine ok.stay e ht hl fun x hx => ?_
  have hxh := e.mem_heap hx
  have h0 : 0 < c.ag.heap.length := List.length_pos_of_mem hxh
  unfold waitsK at hw
  rw [decide_eq_true h0, Bool.true_and, decide_eq_false_iff_not, cmpR_le] at hw
  have a := leR_of_less (ok.top hxh)
  have o1 : okR (hp c.ag.heap 0).at_ := (ok.ag.each _ (hp_mem h0)).1
  exact leR_trans ht o1 (ok.ag.each _ hxh).1 ((leR_total _ _).resolve_left hw) a

theorem okK.failed (ok : okK c) (h0 : 0 < c.ag.heap.length) (e : Evs c ps) : okK (failedK c) ∧ Evs (failedK c) (ps.filter fun x => x.no != (hp c.ag.heap 0).no) ∧ leR c.now (hp c.ag.heap 0).at_ ∧ okR (hp c.ag.heap 0).at_ := by
  have hm := hp_mem h0
  have hp0 := e.heap.mem_iff.1 hm
  have o1 : okR (hp c.ag.heap 0).at_ := (ok.ag.each _ hm).1
  obtain ⟨h, hc, h1, h2⟩ := e.cert hp0
  obtain ⟨p1, p2, p3⟩ := ok.points hc
  have hle : leR c.now (hp c.ag.heap 0).at_ := fail_le p1 p2 p3 h2
  obtain ⟨g1, g2⟩ := ok.gone (hp c.ag.heap 0).no
  have ge := g2 ps e
  have gn := (goneK_ct c (hp c.ag.heap 0).no).2.2
  obtain ⟨s1, s2⟩ := g1.stay ge o1 (by rw [gn]; exact hle) fun x hx => leR_of_less (ok.top (e.mem_heap ((List.mem_filter.1 hx).1)))
  exact ⟨s1, s2, hle, o1⟩

theorem okK.add {x : Int × Int} (ok : okK c) (h1 : 0 ≤ posF c.f x.1) (h2 : 0 ≤ posF c.f x.2) (hk : (addK c x).2.2 = 0) :
    okK (addK c x).1 ∧ (addK c x).2.1 = c.ct.next ∧ (addK c x).1.ct = ⟨c.ct.next + 1, c.ct.list ++ [(c.ct.next, x)]⟩ ∧ (addK c x).1.f = c.f ∧ (addK c x).1.now = c.now := by
  unfold addK at *
  by_cases ha : (addC c.ct x).2.2 = 0
  · rw [if_pos ha] at hk ⊢
    obtain ⟨a1, a2, a3, a4, a5, a6⟩ := addC_facts ha
    have ct' := okC_add a1 a2 a3 a4 a5
    have kn : knownC ⟨c.ct.next + 1, c.ct.list ++ [(c.ct.next, x)]⟩ c.f = true := by
      unfold knownC
      rw [List.all_append, Bool.and_eq_true]
      refine ⟨ok.known, ?_⟩
      simp [h1, h2]
    rw [a6] at hk ⊢
    obtain ⟨ps, e⟩ := ok.evs
    cases hw : whenM c.f x c.now with
    | none =>
      rw [hw] at hk
      refine ⟨okK.of (ps := ps) ok.now ok.f ct' kn ok.ag ok.wl ⟨?_, e.due, e.heap⟩, rfl, rfl, rfl, rfl⟩
      show dueF c.f c.now (c.ct.list ++ [(c.ct.next, x)]) = _
      rw [dueF_append, e.at_]
      simp [dueF, hw]
    | some t =>
      rw [hw] at hk
      simp only at hk ⊢
      by_cases hc : c.ag.tb.canTake = true
      · rw [if_pos hc]
        have ht : okR t := by
          have p1 := posF_range h1; have p2 := posF_range h2
          exact fail_okR (ok.f.each _ (List.mem_of_getElem? p2.2.1)) (ok.f.each _ (List.mem_of_getElem? p1.2.1)) ok.now hw
        have hn : hasA c.ag c.ct.next = false := by
          unfold hasA
          rw [List.any_eq_false]
          intro y hy
          obtain ⟨h, hm, he, _⟩ := e.cert (e.heap.mem_iff.1 hy)
          have := (ok.ct.ok.each h hm).2.2
          simp; omega
        have ag' := ok.ag.pushed ht ok.ct.n0 ok.ct.n1 hn hc
        have pp := pushed_perm (n := c.ct.next) ok.ag ht hc
        have hwl : (pushedA c.ag t c.ct.next).wh.length = 200 := by
          rw [ag'.wl, ← ok.wl, ok.ag.wl]
          simp [pushedA, Tb.taken]
        refine ⟨okK.of (ps := ps ++ [⟨t, c.ct.next, nextH c.ag⟩]) ok.now ok.f ct' kn ag' hwl ⟨?_, ?_, ?_⟩, rfl, rfl, rfl, rfl⟩
        · show dueF c.f c.now (c.ct.list ++ [(c.ct.next, x)]) = _
          rw [dueF_append, e.at_, List.map_append]
          simp [dueF, hw, nt]
        · show c.due ++ _ = _
          rw [e.due, List.map_append]; rfl
        · show (pushedA c.ag t c.ct.next).heap.Perm _
          refine pp.trans ((List.Perm.cons _ e.heap).trans ?_)
          exact (List.perm_append_comm (l₁ := [(⟨t, c.ct.next, nextH c.ag⟩ : Ev)]) (l₂ := ps))
      · rw [if_neg hc] at hk; cases hk
  · rw [if_neg ha] at hk
    exact absurd hk ha
end
end Go.Proofs.YtkemdpobjaiolaaGreat
end
