/- Tables of slots, in plain words. Conditions: none. -/
import Derived.Test.YtmnbekffebdfmaaUH
set_option linter.unusedVariables false
namespace Go.Eng

theorem nodup_le : ∀ (n : Nat) (l : List Int), l.Nodup → (∀ x ∈ l, 0 ≤ x ∧ x < n) → l.length ≤ n
  | 0, l, _, h => by
    cases l with
    | nil => simp
    | cons x l => have := h x (List.mem_cons_self ..); omega
  | n + 1, l, hd, h => by
    have h1 := nodup_le n (l.erase n) (hd.erase _) fun x hx => by
      have := (hd.mem_erase_iff).1 hx
      have h2 := h x this.2
      have h3 : x ≠ (n : Int) := this.1
      omega
    have := List.length_erase (a := (n : Int)) (l := l)
    split at this <;> omega

/-- What a table reads. -/
structure Tb where
  uses : List Int
  used : List Bool
  free : List Int
deriving DecidableEq

def Tb.zero : Tb := ⟨[], [], []⟩
def Tb.small (t : Tb) : Prop := t.uses.length ≤ 1000000 ∧ t.used.length ≤ 1000000 ∧ t.free.length ≤ 1000000

structure okT (t : Tb) : Prop where
  pos : 1 ≤ t.uses.length
  top : t.uses.length ≤ 200
  len : t.used.length = t.uses.length
  rng : ∀ x ∈ t.free, 0 ≤ x ∧ x < t.uses.length
  nod : t.free.Nodup
  each : ∀ i : Nat, i < t.uses.length → 0 ≤ t.uses.getD i 0 ∧ t.uses.getD i 0 ≤ 1000000 ∧ (t.used.getD i false = true ↔ (i : Int) ∉ t.free) ∧ (t.used.getD i false = true → 1 ≤ t.uses.getD i 0)

theorem okT.fl {t : Tb} (h : okT t) : t.free.length ≤ t.uses.length := nodup_le _ _ h.nod h.rng
theorem okT.small {t : Tb} (h : okT t) : t.small := by
  have := h.top; have := h.len; have := h.fl
  exact ⟨by omega, by omega, by omega⟩

instance (t : Tb) : Decidable (okT t) :=
  decidable_of_iff (1 ≤ t.uses.length ∧ t.uses.length ≤ 200 ∧ t.used.length = t.uses.length ∧ (∀ x ∈ t.free, 0 ≤ x ∧ x < t.uses.length) ∧ t.free.Nodup ∧
    ∀ i : Nat, i < t.uses.length → 0 ≤ t.uses.getD i 0 ∧ t.uses.getD i 0 ≤ 1000000 ∧ (t.used.getD i false = true ↔ (i : Int) ∉ t.free) ∧ (t.used.getD i false = true → 1 ≤ t.uses.getD i 0))
    ⟨fun ⟨a, b, c, d, e, f⟩ => ⟨a, b, c, d, e, f⟩, fun ⟨a, b, c, d, e, f⟩ => ⟨a, b, c, d, e, f⟩⟩

def chk (t : Tb) : Int := if okT t then 0 else 8

theorem chk_ok {t : Tb} (h : okT t) : chk t = 0 := by unfold chk; rw [if_pos h]
theorem chk_bad {t : Tb} (h : ¬ okT t) : chk t = 8 := by unfold chk; rw [if_neg h]
theorem chk_zero {t : Tb} : chk t = 0 ↔ okT t := by
  by_cases h : okT t
  · simp [chk_ok h, h]
  · simp [chk_bad h, h]

theorem take_succ {α : Type} {l : List α} {i : Nat} {x : α} (h : l[i]? = some x) : l.take (i + 1) = l.take i ++ [x] := by
  rw [List.take_add_one, h]; rfl

theorem getD_set {α : Type} {l : List α} {i j : Nat} {x d : α} (h : i < l.length) : (l.set i x).getD j d = if i = j then x else l.getD j d := by
  simp only [List.getD_eq_getElem?_getD, List.getElem?_set]
  by_cases e : i = j
  · subst e; simp [h]
  · simp [e]

/-- What is done with tables. -/
def beginT (n : Nat) : Tb := ⟨List.replicate n 0, List.replicate n false, (List.range n).map fun i : Nat => (n : Int) - 1 - (i : Int)⟩
def newM (n : Int) : Tb × Int := if n < 1 ∨ n > 200 then (.zero, 2) else (beginT n.toNat, 0)
def topL (xs : List Int) : Int := xs.getD (xs.length - 1) 0
def Tb.canTake (t : Tb) : Bool := decide (0 < t.free.length) && decide (t.uses.getD (topL t.free).toNat 0 < 1000000)
def Tb.taken (t : Tb) : Tb := ⟨t.uses.set (topL t.free).toNat (t.uses.getD (topL t.free).toNat 0 + 1), t.used.set (topL t.free).toNat true, t.free.dropLast⟩
def Tb.given (t : Tb) (i : Int) : Tb := ⟨t.uses, t.used.set i.toNat false, t.free ++ [i]⟩
def Tb.live (t : Tb) (i u : Int) : Bool := decide (0 ≤ i) && decide (i < t.uses.length) && t.used.getD i.toNat false && t.uses.getD i.toNat 0 == u
/-- Taking a slot: the table, the handle, an error. -/
def takeM (t : Tb) : Tb × Int × Int × Int :=
  if okT t then (if t.canTake then (t.taken, (topL t.free), t.uses.getD (topL t.free).toNat 0 + 1, 0) else (.zero, 0, 0, 18)) else (.zero, 0, 0, 8)
def giveM (t : Tb) (i u : Int) : Tb × Int :=
  if okT t then (if t.live i u then (t.given i, 0) else (.zero, 6)) else (.zero, 8)
def hasM (t : Tb) (i u : Int) : Bool × Int := if okT t then (t.live i u, 0) else (false, 8)
def roomM (t : Tb) : Int × Int := if okT t then (t.free.length, 0) else (0, 8)

theorem okT.topR {t : Tb} (h : okT t) (hf : 0 < t.free.length) : (topL t.free) ∈ t.free ∧ 0 ≤ (topL t.free) ∧ (topL t.free) < t.uses.length := by
  have hm : (topL t.free) ∈ t.free := by
    show topL t.free ∈ t.free
    unfold topL
    have : t.free.length - 1 < t.free.length := by omega
    rw [List.getD_eq_getElem?_getD, List.getElem?_eq_getElem this]
    exact List.getElem_mem this
  exact ⟨hm, h.rng _ hm⟩

end Go.Eng
