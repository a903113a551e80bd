/- Reading, storing, loops: short forms. Conditions: none. -/
import Derived.Test.YtmnbekffebdfmaaTab
set_option linter.unusedVariables false
namespace Go.Eng

section
variable {α β : Type} {k k' : Nat} {f : α → List Value} {f' : β → List Value} {g : α → Value} {e e' : TypeId} {H H' H0 H1 : Hp} {b b' : Nat} {u v : Slc} {xs : List α} {ys : List β} {i : Int}

theorem Rd.ldI {xs : List Int} {Q : Int → Prop} (h : Rd 1 fI H u xs) (h0 : 0 ≤ i) (h1 : i < xs.length) (q : Q (xs.getD i.toNat 0)) :
    inSl u.a u.n i ∧ ∃ n, H.at (eaddr u.a 1 i) = some (.int .i64 n) ∧ Q n := ⟨h.inS h0 h1, _, h.gI h0 h1, q⟩
theorem Rd.ldB {xs : List Bool} {Q : Bool → Prop} (h : Rd 1 fB H u xs) (h0 : 0 ≤ i) (h1 : i < xs.length) (q : Q (xs.getD i.toNat false)) :
    inSl u.a u.n i ∧ ∃ n, H.at (eaddr u.a 1 i) = some (.bool n) ∧ Q n := ⟨h.inS h0 h1, _, h.gB h0 h1, q⟩
theorem Rd.ldcI {xs : List Int} {c : Bool} {Q : Int → Prop} (h : Rd 1 fI H u xs) (hc : c = true → 0 ≤ i ∧ i < xs.length) (q : Q (xs.getD i.toNat 0)) :
    (c = true → inSl u.a u.n i) ∧ ∃ n, (c = true → H.at (eaddr u.a 1 i) = some (.int .i64 n)) ∧ Q n :=
  ⟨fun x => h.inS (hc x).1 (hc x).2, _, fun x => h.gI (hc x).1 (hc x).2, q⟩
theorem Rd.ldcB {xs : List Bool} {c : Bool} {Q : Bool → Prop} (h : Rd 1 fB H u xs) (hc : c = true → 0 ≤ i ∧ i < xs.length) (q : Q (xs.getD i.toNat false)) :
    (c = true → inSl u.a u.n i) ∧ ∃ n, (c = true → H.at (eaddr u.a 1 i) = some (.bool n)) ∧ Q n :=
  ⟨fun x => h.inS (hc x).1 (hc x).2, _, fun x => h.gB (hc x).1 (hc x).2, q⟩

/-- The blocks of two slices are not the same. -/
def Sep (u v : Slc) : Prop := ∀ p q, u.a = some p → v.a = some q → p.block ≠ q.block
theorem Sep.symm (h : Sep u v) : Sep v u := fun p q hp hq e => h q p hq hp e.symm
/-- From H to H', at most the block of u has changed. -/
def Chg (H H' : Hp) (u : Slc) : Prop := ∀ b, H b ≠ none → (∀ p, u.a = some p → p.block ≠ b) → H' b = H b

theorem Own.chg (h : Own k f e H b u xs) (hc : Chg H H' v) (hs : Sep u v) : Own k f e H' b u xs := by
  obtain ⟨h1, h2, h3, cs, h4, h5⟩ := h
  exact ⟨h1, h2, h3, cs, by rw [hc b (by rw [h4]; simp) fun p hp e => hs _ p h3 hp e.symm]; exact h4, h5⟩
theorem Mine.chg (h : Mine k f e H0 H u xs) (hc : Chg H H' v) (hs : Sep u v) : Mine k f e H0 H' u xs := by
  rcases h with h | ⟨b, hb, h⟩
  · exact .inl h
  · exact .inr ⟨b, hb, h.chg hc hs⟩
theorem Hp.at_eq {a : Addr} (h : H' a.block = H a.block) : H'.at a = H.at a := by unfold Hp.at; rw [h]
theorem eaddr_block {a : Option Addr} {p : Addr} {s : Nat} {i : Int} {j : Nat} (h : a = some p) : ((eaddr a s i).add j).block = p.block := by
  subst h
  have ha : ∀ (q : Addr) (n : Nat), (q.add n).block = q.block := fun q n => by unfold Addr.add; split <;> rfl
  rw [ha]; exact ha _ _
theorem Rd.chg (h : Rd k f H u xs) (hc : Chg H H' v) (hs : Sep u v) : Rd k f H' u xs := by
  refine ⟨h.len, h.cap, h.isS, fun i x hx j w hw => ?_⟩
  have hi : u.a.isSome = true := h.isS fun e => by subst e; simp at hx
  cases ha : u.a with
  | none => simp [ha] at hi
  | some p =>
    have hcl := h.cell i x hx j w hw
    rw [ha] at hcl
    rw [Hp.at_eq (H := H)]
    · exact hcl
    · refine hc _ (fun hn => ?_) fun q hq e => hs p q ha hq (by rw [e]; exact (eaddr_block rfl).symm)
      unfold Hp.at at hcl; rw [hn] at hcl; cases hcl

/-- What is new behind H0 stands apart from what was read in it. -/
def Old (H : Hp) (u : Slc) : Prop := ∀ p, u.a = some p → H p.block ≠ none
def New (H : Hp) (u : Slc) : Prop := ∀ p, u.a = some p → H p.block = none
theorem Mine.isNew (h : Mine k f e H0 H u xs) : New H0 u := by
  rcases h with ⟨rfl, _⟩ | ⟨b, hb, h⟩
  · intro p hp; cases hp
  · intro p hp; rw [h.blk] at hp; cases hp; exact hb
theorem Mine.isOld (h : Mine k f e H0 H u xs) : Old H u := by
  rcases h with ⟨rfl, _⟩ | ⟨b, hb, h⟩
  · intro p hp; cases hp
  · intro p hp
    obtain ⟨cs, h4, _⟩ := h.cells
    rw [h.blk] at hp; cases hp; rw [h4]; simp
theorem Old.le (h : Old H u) (hl : Hp.le H H') : Old H' u := fun p hp => by
  cases hx : H p.block with
  | none => exact absurd hx (h p hp)
  | some o => rw [hl _ _ hx]; simp
theorem New.low (h : New H' u) (hl : Hp.le H H') : New H u := fun p hp => by
  cases hx : H p.block with
  | none => rfl
  | some o => have := h p hp; rw [hl _ _ hx] at this; cases this
theorem Sep.of (h : Old H u) (h' : New H v) : Sep u v := fun p q hp hq e => h p hp (by rw [e]; exact h' q hq)
theorem Sep.nil : Sep u ⟨none, 0, 0⟩ := fun p q _ hq => by cases hq

theorem Hp.le_chg (hl : Hp.le H0 H) (hc : Chg H H' u) (hn : New H0 u) : Hp.le H0 H' := fun b o hb => by
  rw [hc b (by rw [hl b o hb]; simp) fun p hp e => by have := hn p hp; rw [e, hb] at this; cases this]; exact hl b o hb

/-- A store into one's own slice. -/
theorem Mine.set (hf : ∀ x, f x = [g x]) (h : Mine 1 f e H0 H u xs) (h0 : 0 ≤ i) (h1 : i < xs.length) (y : α) :
    H.canStore (eaddr u.a 1 i) 0 [g y] ∧ Mine 1 f e H0 (H.store (eaddr u.a 1 i) 0 [g y]) u (xs.set i.toNat y) ∧ Chg H (H.store (eaddr u.a 1 i) 0 [g y]) u := by
  rcases h with ⟨_, rfl⟩ | ⟨b, hb, h⟩
  · simp at h1; omega
  · obtain ⟨o, ho, hw⟩ := h.store hf h0 h1 y
    refine ⟨h.can hf h0 h1 _, .inr ⟨b, hb, by rw [ho]; exact hw⟩, fun c _ hc => ?_⟩
    rw [ho, Hp.put_ne]
    intro ec; exact hc _ h.blk ec.symm

theorem Mine.setI {xs : List Int} (h : Mine 1 fI e H0 H u xs) (h0 : 0 ≤ i) (h1 : i < xs.length) (y : Int) {Q : Hp → Prop}
    (q : ∀ H', Mine 1 fI e H0 H' u (xs.set i.toNat y) → Chg H H' u → Q H') :
    H.canStore (eaddr u.a 1 i) 0 [.int .i64 y] ∧ ∀ H', H' = H.store (eaddr u.a 1 i) 0 [.int .i64 y] → Q H' := by
  obtain ⟨a, b, c⟩ := Mine.set (g := fun x => Value.int .i64 x) hfI h h0 h1 y
  exact ⟨a, fun H' hH => by subst hH; exact q _ b c⟩
theorem Mine.setB {xs : List Bool} (h : Mine 1 fB e H0 H u xs) (h0 : 0 ≤ i) (h1 : i < xs.length) (y : Bool) {Q : Hp → Prop}
    (q : ∀ H', Mine 1 fB e H0 H' u (xs.set i.toNat y) → Chg H H' u → Q H') :
    H.canStore (eaddr u.a 1 i) 0 [.bool y] ∧ ∀ H', H' = H.store (eaddr u.a 1 i) 0 [.bool y] → Q H' := by
  obtain ⟨a, b, c⟩ := Mine.set (g := fun x => Value.bool x) hfB h h0 h1 y
  exact ⟨a, fun H' hH => by subst hH; exact q _ b c⟩

theorem subA_zero {a : Option Addr} {s : Nat} {m : Int} : subA a s 0 m = a := by
  unfold subA
  split
  · rfl
  · cases a with
    | none => rfl
    | some a => simp [add_zero']

/-- The first elements of what is read. -/
theorem Rd.cut (h : Rd k f H u xs) {n c : Nat} (hn : n ≤ xs.length) (hc : n ≤ c) : Rd k f H ⟨u.a, n, c⟩ (xs.take n) := by
  refine ⟨by simp; omega, hc, fun hx => h.isS fun e => by subst e; simp at hx, fun i x hx j v hv => h.cell i x ?_ j v hv⟩
  rw [List.getElem?_take] at hx
  split at hx
  · exact hx
  · cases hx

theorem Own.cut (hk : ∀ x, (f x).length = k) (h : Own k f e H b u xs) {n : Nat} (hn : n ≤ xs.length) : Own k f e H b ⟨u.a, n, u.c⟩ (xs.take n) := by
  obtain ⟨h1, h2, h3, cs, h4, h5, h6⟩ := h
  refine ⟨by simp; omega, by show n ≤ u.c; omega, h3, cs, h4, h5, ?_⟩
  have e : (xs.take n).length = n := by simp; omega
  rw [e]
  have := congrArg (List.take (n * k)) h6
  rw [List.take_take, Nat.min_eq_left (Nat.mul_le_mul_right _ hn)] at this
  rw [this, ← List.take_append_drop n xs, List.flatMap_append, List.take_append_of_le_length (by rw [flatMap_len hk, e]; exact Nat.le_refl _), List.take_of_length_le (by rw [flatMap_len hk, e]; exact Nat.le_refl _), List.take_append_drop]

theorem Mine.cut (hk : ∀ x, (f x).length = k) (h : Mine k f e H0 H u xs) {n : Nat} (hn : n ≤ xs.length) : Mine k f e H0 H ⟨u.a, n, u.c⟩ (xs.take n) := by
  rcases h with ⟨rfl, rfl⟩ | ⟨b, hb, h⟩
  · have : n = 0 := by simpa using hn
    subst this; exact .inl ⟨rfl, rfl⟩
  · exact .inr ⟨b, hb, h.cut hk hn⟩
end

/-- A loop that counts up to N and leaves the view alone. -/
theorem upto {N : Int} {H : Hp} {J : Int → Prop} {B : (Int → Hp → Prop) → (Int → Hp → Nat) → Int → Hp → Prop} (h0 : 0 ≤ N) (j0 : J 0)
    (hb : ∀ n, 0 ≤ n → n ≤ N → J n → B (fun n H' => H' = H ∧ 0 ≤ n ∧ n ≤ N ∧ J n) (fun n _ => (N - n).toNat) n H) :
    ∃ (I : Int → Hp → Prop), ∃ (m : Int → Hp → Nat), I 0 H ∧ ∀ n H', I n H' → B I m n H' :=
  ⟨fun n H' => H' = H ∧ 0 ≤ n ∧ n ≤ N ∧ J n, fun n _ => (N - n).toNat, ⟨rfl, Int.le_refl _, h0, j0⟩, fun n H' ⟨e, a, b, c⟩ => by subst e; exact hb n a b c⟩
theorem upto.nx {N n : Int} {H : Hp} {Jn : Prop} (h0 : 0 ≤ n) (h1 : n < N) (hN : N ≤ 1000000000000) (j : Jn) :
    inI (n + 1) ∧ (H = H ∧ 0 ≤ n + 1 ∧ n + 1 ≤ N ∧ Jn) ∧ (N - (n + 1)).toNat < (N - n).toNat :=
  ⟨by unfold inI; omega, ⟨rfl, by omega, by omega, j⟩, by omega⟩

/-- A loop that counts up to N and changes the view. -/
theorem uptoH {N : Int} {H : Hp} {J : Int → Hp → Prop} {B : (Int → Hp → Prop) → (Int → Hp → Nat) → Int → Hp → Prop} (h0 : 0 ≤ N) (j0 : J 0 H)
    (hb : ∀ n H', 0 ≤ n → n ≤ N → J n H' → B (fun n H' => 0 ≤ n ∧ n ≤ N ∧ J n H') (fun n _ => (N - n).toNat) n H') :
    ∃ (I : Int → Hp → Prop), ∃ (m : Int → Hp → Nat), I 0 H ∧ ∀ n H', I n H' → B I m n H' :=
  ⟨fun n H' => 0 ≤ n ∧ n ≤ N ∧ J n H', fun n _ => (N - n).toNat, ⟨Int.le_refl _, h0, j0⟩, fun n H' ⟨a, b, c⟩ => hb n H' a b c⟩
theorem uptoH.nx {N n : Int} {Jn : Prop} (h0 : 0 ≤ n) (h1 : n < N) (hN : N ≤ 1000000000000) (j : Jn) :
    inI (n + 1) ∧ (0 ≤ n + 1 ∧ n + 1 ≤ N ∧ Jn) ∧ (N - (n + 1)).toNat < (N - n).toNat :=
  ⟨by unfold inI; omega, ⟨by omega, by omega, j⟩, by omega⟩

/-- The first place at which p holds, or -1. -/
def idx {α : Type} (p : α → Bool) (xs : List α) : Int := if xs.any p then (xs.findIdx p : Int) else -1
theorem idx_hit {α : Type} {p : α → Bool} {xs : List α} {i : Nat} {x : α} (hx : xs[i]? = some x) (hp : p x = true) (hj : ∀ y ∈ xs.take i, p y = false) : idx p xs = i := by
  have hlt : i < xs.length := (List.getElem?_eq_some_iff.1 hx).1
  have he : xs[i] = x := (List.getElem?_eq_some_iff.1 hx).2
  have ha : xs.any p = true := List.any_eq_true.2 ⟨x, List.mem_of_getElem? hx, hp⟩
  unfold idx
  rw [if_pos ha]
  congr 1
  rw [List.findIdx_eq hlt]
  refine ⟨by rw [he]; exact hp, fun j hji => hj _ ?_⟩
  rw [List.mem_take_iff_getElem]
  exact ⟨j, by omega, rfl⟩
theorem idx_miss {α : Type} {p : α → Bool} {xs : List α} (h : ∀ y ∈ xs, p y = false) : idx p xs = -1 := by
  unfold idx
  rw [if_neg]
  intro ha
  obtain ⟨x, hx, hp⟩ := List.any_eq_true.1 ha
  rw [h x hx] at hp; cases hp
theorem idx_ge {α : Type} {p : α → Bool} {xs : List α} : decide (idx p xs ≥ 0) = xs.any p := by
  unfold idx
  split
  · rename_i h; rw [h]; simp
  · rename_i h; simp at h; simp; intro x hx; exact h x hx

theorem FnV.mono {P : Program} {F : Value} {args : List Value} {H : Hp} {post post' : Value → Hp → Prop} (h : FnV P F args H post) (hp : ∀ v H', post v H' → post' v H') : FnV P F args H post' := by
  obtain ⟨f, a, c, h1, h2, h3⟩ := h
  exact ⟨f, a, c, h1, h2, h3.mono hp⟩

/-- A variable in a block of its own. -/
def Var (H : Hp) (b : Nat) (v : Value) (T : TypeId) : Prop := Cel H b #[v] T
section
variable {H H' H0 : Hp} {b b' : Nat} {v w : Value} {T : TypeId} {u : Slc}
theorem Var.new (h : H' = H.put b (.cells #[v] T (0, 0))) : Var H' b v T := by subst h; exact Cel.put
theorem Var.at (h : Var H b v T) : H.at ((Addr.mk b 0 none).add 0) = some v := by rw [add_zero']; rw [Cel.at h]; rfl
theorem Var.set (h : Var H b v T) (w : Value) {Q : Hp → Prop} (q : ∀ H', H' = H.put b (.cells #[w] T (0, 0)) → Q H') :
    H.canStore (Addr.mk b 0 none) 0 [w] ∧ ∀ H', H' = H.store (Addr.mk b 0 none) 0 [w] → Q H' := by
  refine ⟨Cel.can h (by simp) w, fun H' hH => q H' ?_⟩
  rw [hH, Cel.store h]; rfl
theorem Var.le (h : Var H b v T) (hl : Hp.le H H') : Var H' b v T := Cel.le h hl
theorem Var.chg (h : Var H b v T) (hc : Chg H H' u) (hn : ∀ p, u.a = some p → p.block ≠ b) : Var H' b v T := by
  unfold Var Cel at *; rw [hc b (by rw [h]; simp) hn]; exact h
theorem Hp.le_new (hl : Hp.le H0 H) (hb : H b = none) {o : Obj} (h : H' = H.put b o) : Hp.le H0 H' := by
  subst h
  exact Hp.le_trans hl (Hp.put_le _ _ hb)
end

/-- One element in a block of its own. -/
theorem rd1 {α : Type} {k : Nat} {f : α → List Value} {e : TypeId} {H H' : Hp} {b : Nat} {x : α} {cs : Array Value} (h : H' = H.put b (.cells cs e (0, 0))) (hc : cs = (f x).toArray) : Rd k f H' ⟨some ⟨b, 0, none⟩, 1, 1⟩ [x] := by
  subst h; subst hc
  refine ⟨rfl, Nat.le_refl _, fun _ => rfl, fun i y hy j v hv => ?_⟩
  have hi : i = 0 := by
    have := (List.getElem?_eq_some_iff.1 hy).1
    simpa using this
  subst hi
  simp at hy; subst hy
  simp only [eaddr, Int.toNat_natCast, Nat.zero_mul, add_zero', Addr.add_lit, Nat.zero_add]
  rw [Cel.at Cel.put]
  simpa using hv

/-- u' is u, or stands in a block that H had not. -/
def Ext (H : Hp) (u u' : Slc) : Prop := ∀ p, u'.a = some p → u.a = some p ∨ H p.block = none
theorem Sep.ext {H : Hp} {u u' v : Slc} (h : Sep u v) (hv : Old H v) (he : Ext H u u') : Sep u' v := fun p q hp hq e => by
  rcases he p hp with h' | h'
  · exact h p q h' hq e
  · exact hv q hq (by rw [← e]; exact h')

/-- One more element. -/
theorem append1 {α : Type} {k : Nat} {f : α → List Value} {P : Program} {t ty e bytes : Nat} {cs : Array Bool} (hS : sliceOk P t e k bytes = true) (hk0 : 0 < k) (hk : ∀ x, (f x).length = k) (h1c : ∀ x, ∀ v ∈ f x, v.oneCell' = true)
    {H0 H H5 : Hp} {u : Slc} {xs : List α} {b : Nat} {x : α} {cells : Array Value} (hl : Hp.le H0 H) (hu : Mine k f e H0 H u xs) (hb : H b = none) (hH : H5 = H.put b (.cells cells e (0, 0))) (hc : cells = (f x).toArray) (hlen : xs.length ≤ 100000000) (hby : bytes ≤ 1000000) :
    OpSem P (bcall .append #[t, t] ty cs [u.v, .slice (some ⟨b, 0, none⟩) 1 1]) H5 fun v H' => ∃ u' : Slc, v = u'.v ∧ Hp.le H0 H' ∧ Mine k f e H0 H' u' (xs ++ [x]) ∧ Chg H H' u ∧ Ext H u u' := by
  have hle : Hp.le H H5 := by subst hH; exact Hp.put_le _ _ hb
  have hby2 : (xs.length + 1) * bytes ≤ 140737488355328 := by
    calc (xs.length + 1) * bytes ≤ 100000001 * 1000000 := Nat.mul_le_mul (by omega) hby
      _ ≤ _ := by omega
  refine (append_mine (q := ⟨some ⟨b, 0, none⟩, 1, 1⟩) (ys := [x]) hS hk0 hk h1c (Hp.le_trans hl hle) (hu.le hle) (rd1 hH hc) (by simp) (by simpa using hby2) (by simp; omega)).mono fun v H' ⟨u', g1, g2, g3, g4, g5⟩ =>
    ⟨u', g1, g2, g3, fun c hc' hn => ?_, fun p hp => ?_⟩
  · obtain ⟨o, ho⟩ := Option.ne_none_iff_exists'.1 hc'
    rw [g4 c (by rw [hle c o ho]; simp) hn, hle c o ho, ho]
  · rcases g5 p hp with h | h
    · exact .inl h
    · right
      cases hx : H p.block with
      | none => rfl
      | some o => rw [hle _ _ hx] at h; cases h

theorem slcCut {s : Slc} {k : Nat} {m : Int} : Value.slice (subA s.a k 0 (s.c : Int)) (m.toNat - Int.toNat 0) ((s.c : Int).toNat - Int.toNat 0) = (⟨s.a, m.toNat, s.c⟩ : Slc).v := by
  simp [Slc.v, subA_zero]

theorem Mine.up {α : Type} {k : Nat} {f : α → List Value} {e : TypeId} {H H' H0 : Hp} {b : Nat} {o : Obj} {u : Slc} {xs : List α} (h : Mine k f e H0 H u xs) (hb : H b = none) (hH : H' = H.put b o) : Mine k f e H0 H' u xs := by
  subst hH; exact h.le (Hp.put_le _ _ hb)

/-- A fresh table. -/
structure NewT (H0 H : Hp) (u1 u2 u3 : Slc) (t : Tb) : Prop where
  le : Hp.le H0 H
  uses : Mine 1 fI 3 H0 H u1 t.uses
  used : Mine 1 fB 4 H0 H u2 t.used
  free : Mine 1 fI 3 H0 H u3 t.free
  s12 : Sep u1 u2
  s13 : Sep u1 u3
  s23 : Sep u2 u3

/-- The table (u1, u2, u3) reads t. -/
structure RdT (H : Hp) (u1 u2 u3 : Slc) (t : Tb) : Prop where
  uses : RdI H u1 t.uses
  used : RdB H u2 t.used
  free : RdI H u3 t.free
theorem RdT.le {H H' : Hp} {u1 u2 u3 : Slc} {t : Tb} (h : RdT H u1 u2 u3 t) (hl : Hp.le H H') : RdT H' u1 u2 u3 t := ⟨h.uses.le hl, h.used.le hl, h.free.le hl⟩
theorem NewT.rd {H H' : Hp} {a b c : Slc} {t : Tb} (h : NewT H H' a b c t) : RdT H' a b c t := ⟨h.uses.rdI, h.used.rdB, h.free.rdI⟩

def zs : Slc := ⟨none, 0, 0⟩
theorem NewT.zero {H H' : Hp} (h : Hp.le H H') : NewT H H' zs zs zs .zero := ⟨h, .inl ⟨rfl, rfl⟩, .inl ⟨rfl, rfl⟩, .inl ⟨rfl, rfl⟩, Sep.nil, Sep.nil, Sep.nil⟩
theorem NewT.up {H H' H'' : Hp} {a b c : Slc} {t : Tb} (h : NewT H H' a b c t) (hl : Hp.le H' H'') : NewT H H'' a b c t := ⟨Hp.le_trans h.le hl, h.uses.le hl, h.used.le hl, h.free.le hl, h.s12, h.s13, h.s23⟩
theorem NewT.low {H0 H H' : Hp} {a b c : Slc} {t : Tb} (h : NewT H H' a b c t) (hl : Hp.le H0 H) : NewT H0 H' a b c t := ⟨Hp.le_trans hl h.le, h.uses.low hl, h.used.low hl, h.free.low hl, h.s12, h.s13, h.s23⟩

end Go.Eng
