/- What taking and giving back does to tables, in plain words. Conditions: none. -/
import Derived.Test.YtmnbekffebdfmaaUJ
set_option linter.unusedVariables false
namespace Go.Eng

theorem free_split {l : List Int} (h : 0 < l.length) : l = l.dropLast ++ [topL l] := by
  have hne : l ≠ [] := fun e => by subst e; simp at h
  have h1 := List.dropLast_concat_getLast hne
  have h2 : topL l = l.getLast hne := by
    unfold topL
    rw [List.getLast_eq_getElem hne, List.getD_eq_getElem?_getD, List.getElem?_eq_getElem (by omega)]; rfl
  rw [h2]; exact h1.symm

theorem canTake_iff {t : Tb} : t.canTake = true ↔ 0 < t.free.length ∧ t.uses.getD (topL t.free).toNat 0 < 1000000 := by
  unfold Tb.canTake; simp only [Bool.and_eq_true, decide_eq_true_eq]

theorem live_iff {t : Tb} {i u : Int} : t.live i u = true ↔ 0 ≤ i ∧ i < t.uses.length ∧ t.used.getD i.toNat false = true ∧ t.uses.getD i.toNat 0 = u := by
  unfold Tb.live; simp only [Bool.and_eq_true, decide_eq_true_eq, beq_iff_eq, and_assoc]

theorem okT.topD {t : Tb} (ok : okT t) (h : 0 < t.free.length) : t.used.getD (topL t.free).toNat false = false := by
  obtain ⟨m, r1, r2⟩ := ok.topR h
  have := (ok.each (topL t.free).toNat (by omega)).2.2.1
  rw [Int.toNat_of_nonneg r1] at this
  cases hd : t.used.getD (topL t.free).toNat false with
  | false => rfl
  | true => exact absurd m (this.1 hd)

theorem okT.taken {t : Tb} (ok : okT t) (hc : t.canTake = true) : okT t.taken := by
  obtain ⟨hf, hu⟩ := canTake_iff.1 hc
  obtain ⟨m, r1, r2⟩ := ok.topR hf
  have hs := free_split hf
  have hnd := ok.nod
  rw [hs, List.nodup_append] at hnd
  have hnot : topL t.free ∉ t.free.dropLast := fun h => hnd.2.2 _ h _ (by simp) rfl
  refine ⟨by simpa [Tb.taken] using ok.pos, by simpa [Tb.taken] using ok.top, by simpa [Tb.taken] using ok.len, fun x hx => ?_, hnd.1, fun i hi => ?_⟩
  · have := ok.rng x (by rw [hs]; exact List.mem_append_left _ hx)
    simpa [Tb.taken] using this
  · have hi : i < t.uses.length := by simpa [Tb.taken] using hi
    have hl := ok.len
    obtain ⟨k1, k2, k3, k4⟩ := ok.each i hi
    simp only [Tb.taken]
    rw [getD_set (by omega), getD_set (by omega)]
    by_cases e : (topL t.free).toNat = i
    · rw [if_pos e, if_pos e]
      have e' : (i : Int) = topL t.free := by omega
      rw [e]
      rw [e] at hu
      refine ⟨by omega, by omega, ⟨fun _ => by rw [e']; exact hnot, fun _ => rfl⟩, fun _ => by omega⟩
    · rw [if_neg e, if_neg e]
      refine ⟨k1, k2, ?_, k4⟩
      rw [k3]
      have : (i : Int) ∈ t.free ↔ (i : Int) ∈ t.free.dropLast := by
        constructor
        · intro h
          rw [hs] at h
          rcases List.mem_append.1 h with h | h
          · exact h
          · simp only [List.mem_singleton] at h; omega
        · intro h; rw [hs]; exact List.mem_append_left _ h
      rw [this]

theorem okT.given {t : Tb} (ok : okT t) {i u : Int} (hl : t.live i u = true) : okT (t.given i) := by
  obtain ⟨r1, r2, hd, hu⟩ := live_iff.1 hl
  have hl := ok.len
  have hnot : i ∉ t.free := by
    have := (ok.each i.toNat (by omega)).2.2.1.1 hd
    rwa [Int.toNat_of_nonneg r1] at this
  refine ⟨ok.pos, ok.top, by simpa [Tb.given] using hl, fun x hx => ?_, ?_, fun k hk => ?_⟩
  · rcases List.mem_append.1 hx with h | h
    · exact ok.rng x h
    · simp only [List.mem_singleton] at h; subst h; exact ⟨r1, r2⟩
  · show (t.free ++ [i]).Nodup
    rw [List.nodup_append]
    exact ⟨ok.nod, by simp, fun a ha b hb e => by simp only [List.mem_singleton] at hb; subst hb; subst e; exact hnot ha⟩
  · obtain ⟨k1, k2, k3, k4⟩ := ok.each k hk
    simp only [Tb.given]
    rw [getD_set (by omega)]
    have hk : k < t.uses.length := hk
    refine ⟨k1, k2, ?_, ?_⟩
    · rw [List.mem_append, List.mem_singleton]
      by_cases e : i.toNat = k
      · rw [if_pos e]
        exact ⟨fun h => (by cases h), fun h => absurd (.inr (by omega)) h⟩
      · rw [if_neg e, k3]
        exact ⟨fun h h' => h'.elim h (by omega), fun h h' => h (.inl h')⟩
    · by_cases e : i.toNat = k
      · rw [if_pos e]; exact fun h => (by cases h)
      · rw [if_neg e]; exact k4

theorem live_given {t : Tb} (ok : okT t) {i : Int} (r1 : 0 ≤ i) (r2 : i < t.uses.length) (j u : Int) : (t.given i).live j u = (t.live j u && !(j == i)) := by
  rw [Bool.eq_iff_iff, Bool.and_eq_true, live_iff, live_iff]
  have hl := ok.len
  simp only [Tb.given, Bool.not_eq_true', beq_eq_false_iff_ne]
  constructor
  · intro ⟨h1, h2, h3, h4⟩
    rw [getD_set (by omega)] at h3
    split at h3
    · cases h3
    · exact ⟨⟨h1, h2, h3, h4⟩, by omega⟩
  · intro ⟨⟨h1, h2, h3, h4⟩, h5⟩
    refine ⟨h1, h2, ?_, h4⟩
    rw [getD_set (by omega), if_neg (by omega)]
    exact h3

theorem live_taken {t : Tb} (ok : okT t) (hf : 0 < t.free.length) (j u : Int) : t.taken.live j u = if j = topL t.free then (t.uses.getD (topL t.free).toNat 0 + 1 == u) else t.live j u := by
  obtain ⟨m, r1, r2⟩ := ok.topR hf
  have hl := ok.len
  rw [Bool.eq_iff_iff, live_iff]
  simp only [Tb.taken, List.length_set]
  by_cases e : j = topL t.free
  · subst e
    rw [if_pos rfl, beq_iff_eq, getD_set (by omega), getD_set (by omega), if_pos rfl, if_pos rfl]
    exact ⟨fun h => h.2.2.2, fun h => ⟨r1, r2, rfl, h⟩⟩
  · rw [if_neg e, live_iff]
    constructor
    · intro ⟨h1, h2, h3, h4⟩
      rw [getD_set (by omega), if_neg (by omega)] at h3 h4
      exact ⟨h1, h2, h3, h4⟩
    · intro ⟨h1, h2, h3, h4⟩
      rw [getD_set (by omega), getD_set (by omega), if_neg (by omega), if_neg (by omega)]
      exact ⟨h1, h2, h3, h4⟩

theorem okT.begin {n : Nat} (h1 : 1 ≤ n) (h2 : n ≤ 200) : okT (beginT n) := by
  have hmem : ∀ x : Int, x ∈ (beginT n).free ↔ 0 ≤ x ∧ x < n := fun x => by
    simp only [beginT, List.mem_map, List.mem_range]
    constructor
    · rintro ⟨i, hi, rfl⟩; omega
    · intro ⟨a, b⟩; exact ⟨n - 1 - x.toNat, by omega, by omega⟩
  refine ⟨by simpa [beginT] using h1, by simpa [beginT] using h2, by simp [beginT], fun x hx => ?_, ?_, fun i hi => ?_⟩
  · have := (hmem x).1 hx; simpa [beginT] using this
  · show ((List.range n).map fun i : Nat => (n : Int) - 1 - (i : Int)).Nodup
    rw [List.nodup_iff_pairwise_ne, List.pairwise_map]
    exact (List.nodup_iff_pairwise_ne.1 List.nodup_range).imp fun h e => h (by omega)
  · have hi : i < n := by simpa [beginT] using hi
    rw [hmem]
    have a1 : (beginT n).uses.getD i 0 = 0 := by simp [beginT, List.getD, hi]
    have a2 : (beginT n).used.getD i false = false := by simp [beginT, List.getD, hi]
    rw [a1, a2]
    exact ⟨by omega, by omega, ⟨fun h => (by cases h), fun h => absurd ⟨by omega, by omega⟩ h⟩, fun h => (by cases h)⟩

theorem hasM_ok {t : Tb} (ok : okT t) (i u : Int) : hasM t i u = (t.live i u, 0) := by rw [hasM, if_pos ok]
theorem roomM_ok {t : Tb} (ok : okT t) : roomM t = ((t.free.length : Int), 0) := by rw [roomM, if_pos ok]
theorem takeM_ok {t : Tb} (ok : okT t) (h : t.canTake = true) : takeM t = (t.taken, topL t.free, t.uses.getD (topL t.free).toNat 0 + 1, 0) := by rw [takeM, if_pos ok, h]; rfl
theorem takeM_no {t : Tb} (ok : okT t) (h : t.canTake = false) : takeM t = (.zero, 0, 0, 18) := by rw [takeM, if_pos ok, h]; rfl
theorem giveM_ok {t : Tb} (ok : okT t) {i u : Int} (h : t.live i u = true) : giveM t i u = (t.given i, 0) := by rw [giveM, if_pos ok, h]; rfl
theorem giveM_no {t : Tb} (ok : okT t) {i u : Int} (h : t.live i u = false) : giveM t i u = (.zero, 6) := by rw [giveM, if_pos ok, h]; rfl

/-- What holds while slots are taken and given back: hs are the handles that were taken, ls says which of them are live. -/
structure FinT (n : Int) (t : Tb) (hs : List (Int × Int)) (ls : List Bool) (used k : Int) : Prop where
  ok : okT t
  len : (t.uses.length : Int) = n
  used : used = n - t.free.length
  ll : ls.length = hs.length
  lk : (hs.length : Int) ≤ k
  use : ∀ i : Nat, t.uses.getD i 0 ≤ k
  each : ∀ (j : Nat) (h : Int × Int), hs[j]? = some h → 0 ≤ h.1 ∧ h.1 < n ∧ h.2 ≤ t.uses.getD h.1.toNat 0 ∧ ls.getD j false = t.live h.1 h.2
  dist : hs.Nodup

theorem FinT.start {N : Nat} (h1 : 1 ≤ N) (h2 : N ≤ 200) : FinT N (beginT N) [] [] 0 0 := by
  refine ⟨okT.begin h1 h2, by simp [beginT], by simp [beginT], rfl, by simp, fun i => ?_, fun j h hj => by simp at hj, List.nodup_nil⟩
  simp only [beginT, List.getD_eq_getElem?_getD]
  rw [List.getElem?_replicate]
  split <;> simp

theorem FinT.skip {n : Int} {t : Tb} {hs : List (Int × Int)} {ls : List Bool} {used k : Int} (h : FinT n t hs ls used k) : FinT n t hs ls used (k + 1) :=
  ⟨h.ok, h.len, h.used, h.ll, by have := h.lk; omega, fun i => by have := h.use i; omega, h.each, h.dist⟩

theorem FinT.can {n : Int} {t : Tb} {hs : List (Int × Int)} {ls : List Bool} {used k : Int} (h : FinT n t hs ls used k) (hk : k ≤ 60) : (t.canTake = true ↔ used < n) := by
  have := h.used
  rw [canTake_iff]
  have h2 := h.use (topL t.free).toNat
  omega

theorem FinT.take {n : Int} {t : Tb} {hs : List (Int × Int)} {ls : List Bool} {used k : Int} (h : FinT n t hs ls used k) (hc : t.canTake = true) :
    FinT n t.taken (hs ++ [(topL t.free, t.uses.getD (topL t.free).toNat 0 + 1)]) (ls ++ [true]) (used + 1) (k + 1) := by
  have hf := (canTake_iff.1 hc).1
  obtain ⟨m, r1, r2⟩ := h.ok.topR hf
  have hl := h.ok.len
  have hln := h.len
  refine ⟨h.ok.taken hc, by simpa [Tb.taken] using h.len, ?_, by simp [h.ll], by have := h.lk; simp; omega, fun i => ?_, fun j x hj => ?_, ?_⟩
  · have := h.used; simp [Tb.taken]; omega
  · simp only [Tb.taken]
    rw [getD_set (by omega)]
    split
    · have := h.use (topL t.free).toNat; omega
    · have := h.use i; omega
  · have hlt : j < (hs ++ [(topL t.free, t.uses.getD (topL t.free).toNat 0 + 1)]).length := (List.getElem?_eq_some_iff.1 hj).1
    rw [live_taken h.ok hf]
    rw [List.getElem?_append] at hj
    split at hj
    · rename_i hjl
      obtain ⟨k1, k2, k3, k4⟩ := h.each j x hj
      have e1 : (ls ++ [true]).getD j false = ls.getD j false := by
        rw [List.getD_eq_getElem?_getD, List.getD_eq_getElem?_getD, List.getElem?_append_left (by rw [h.ll]; exact hjl)]
      rw [e1, k4]
      have k3' : x.2 ≤ t.taken.uses.getD x.1.toNat 0 := by
        simp only [Tb.taken]
        rw [getD_set (by omega)]
        split
        · rename_i e; rw [e]; omega
        · exact k3
      refine ⟨k1, k2, k3', ?_⟩
      split
      · rename_i e
        rw [e] at k3
        have a : t.live x.1 x.2 = false := by
          cases hv : t.live x.1 x.2 with
          | false => rfl
          | true =>
            obtain ⟨_, _, hd, _⟩ := live_iff.1 hv
            rw [e, h.ok.topD hf] at hd; cases hd
        rw [a]
        symm
        rw [beq_eq_false_iff_ne]; omega
      · rfl
    · rename_i hjl
      have ej : j = hs.length := by simp at hlt; omega
      subst ej
      simp [-List.getD_eq_getElem?_getD] at hj
      subst hj
      have e1 : (ls ++ [true]).getD hs.length false = true := by
        rw [List.getD_eq_getElem?_getD, List.getElem?_append_right (by rw [h.ll]; exact Nat.le_refl _), h.ll]; simp
      rw [e1, if_pos rfl]
      refine ⟨r1, by omega, ?_, by simp⟩
      simp only [Tb.taken]
      rw [getD_set (by omega), if_pos rfl]; omega
  · rw [List.nodup_append]
    refine ⟨h.dist, by simp, fun a ha b hb e => ?_⟩
    simp only [List.mem_singleton] at hb
    subst hb; subst e
    obtain ⟨j, hj⟩ := List.mem_iff_getElem?.1 ha
    have := (h.each j _ hj).2.2.1
    simp only at this; omega

theorem FinT.give {n : Int} {t : Tb} {hs : List (Int × Int)} {ls : List Bool} {used k : Int} (h : FinT n t hs ls used k) {j : Nat} {x : Int × Int} (hj : hs[j]? = some x) (hv : t.live x.1 x.2 = true) :
    FinT n (t.given x.1) hs (ls.set j false) (used - 1) (k + 1) := by
  obtain ⟨r1, r2, hd, hu⟩ := live_iff.1 hv
  have hjl : j < hs.length := (List.getElem?_eq_some_iff.1 hj).1
  refine ⟨h.ok.given hv, h.len, ?_, by simp [h.ll], by have := h.lk; omega, fun i => by have := h.use i; simp only [Tb.given]; omega, fun i y hi => ?_, h.dist⟩
  · have := h.used; simp [Tb.given]; omega
  · obtain ⟨k1, k2, k3, k4⟩ := h.each i y hi
    refine ⟨k1, k2, k3, ?_⟩
    rw [getD_set (by rw [h.ll]; exact hjl), live_given h.ok r1 r2]
    by_cases e : j = i
    · subst e
      rw [hj] at hi; cases hi
      simp
    · rw [if_neg e, k4]
      cases hw : t.live y.1 y.2 with
      | false => rfl
      | true =>
        obtain ⟨_, _, _, hu'⟩ := live_iff.1 hw
        have : y.1 ≠ x.1 := fun e1 => by
          have e2 : y = x := Prod.ext e1 (by rw [← hu, ← hu', e1])
          subst e2
          exact e ((List.getElem?_inj hjl h.dist).1 (hj.trans hi.symm))
        simp [this]

/-- Two handles of the list are not the same, nor live with one index. -/
theorem FinT.apart {n : Int} {t : Tb} {hs : List (Int × Int)} {ls : List Bool} {used k : Int} (h : FinT n t hs ls used k) {i j : Nat} {x y : Int × Int} (hi : hs[i]? = some x) (hj : hs[j]? = some y) (hij : j < i) :
    x ≠ y ∧ ¬ (ls.getD i false = true ∧ ls.getD j false = true ∧ y.1 = x.1) := by
  have hne : x ≠ y := fun e => by
    subst e
    have := (List.getElem?_inj (List.getElem?_eq_some_iff.1 hi).1 h.dist).1 (hi.trans hj.symm)
    omega
  refine ⟨hne, fun ⟨a, b, c⟩ => hne ?_⟩
  rw [(h.each i x hi).2.2.2] at a
  rw [(h.each j y hj).2.2.2] at b
  obtain ⟨_, _, _, a'⟩ := live_iff.1 a
  obtain ⟨_, _, _, b'⟩ := live_iff.1 b
  exact Prod.ext c.symm (by rw [← a', ← b', c])

/-- The table after k slots were taken. -/
def tk (t : Tb) : Nat → Tb
  | 0 => t
  | k + 1 => (tk t k).taken
def tkH (t : Tb) (k : Nat) : Int × Int := (topL (tk t k).free, (tk t k).uses.getD (topL (tk t k).free).toNat 0 + 1)

theorem tk_free (t : Tb) (k : Nat) : (tk t k).free.length = t.free.length - k := by
  induction k with
  | zero => rfl
  | succ k ih => simp only [tk, Tb.taken, List.length_dropLast, ih]; omega
theorem tk_len (t : Tb) (k : Nat) : (tk t k).uses.length = t.uses.length ∧ (tk t k).used.length = t.used.length := by
  induction k with
  | zero => exact ⟨rfl, rfl⟩
  | succ k ih => simp only [tk, Tb.taken, List.length_set]; exact ih

theorem tk_keep {t : Tb} {i : Nat} {k m : Nat} (hok : ∀ j, j ≤ m → okT (tk t j)) (hm : m ≤ t.free.length) (hkm : k ≤ m) (hu : (tk t k).used.getD i false = true) :
    (tk t m).used.getD i false = true ∧ (tk t m).uses.getD i 0 = (tk t k).uses.getD i 0 := by
  induction m with
  | zero => have : k = 0 := by omega
            subst this; exact ⟨hu, rfl⟩
  | succ m ih =>
    by_cases e : k = m + 1
    · subst e; exact ⟨hu, rfl⟩
    · obtain ⟨a, b⟩ := ih (fun j hj => hok j (by omega)) (by omega) (by omega)
      have hf : 0 < (tk t m).free.length := by rw [tk_free]; omega
      have hd := (hok m (by omega)).topD hf
      obtain ⟨_, r1, r2⟩ := (hok m (by omega)).topR hf
      have hl := (hok m (by omega)).len
      have hne : (topL (tk t m).free).toNat ≠ i := fun e => by rw [e, a] at hd; cases hd
      simp only [tk, Tb.taken]
      rw [getD_set (by omega), getD_set (by omega), if_neg hne, if_neg hne]
      exact ⟨a, b⟩

theorem set_same {l : List Bool} {i : Nat} {x : Bool} (h : l.getD i x = x) : l.set i x = l := by
  apply List.ext_getElem?
  intro j
  rw [List.getElem?_set]
  by_cases e : i = j
  · subst e
    rw [if_pos rfl]
    split
    · rename_i hl
      rw [List.getD_eq_getElem?_getD, List.getElem?_eq_getElem hl] at h
      rw [List.getElem?_eq_getElem hl]; exact congrArg some h.symm
    · rename_i hl
      rw [List.getElem?_eq_none (by omega)]
  · rw [if_neg e]

/-- The table in which k slots are still taken, of m that were. -/
def back (t : Tb) (m k : Nat) : Tb := ⟨(tk t m).uses, (tk t k).used, (tk t k).free⟩

theorem back_step {t : Tb} {m k : Nat} (hok : ∀ j, j ≤ m → okT (tk t j)) (hm : m ≤ t.free.length) (hk : k < m) (okb : okT (back t m (k + 1))) :
    giveM (back t m (k + 1)) (tkH t k).1 (tkH t k).2 = (back t m k, 0) ∧ okT (back t m k) := by
  have hf : 0 < (tk t k).free.length := by rw [tk_free]; omega
  have okk := hok k (by omega)
  obtain ⟨_, r1, r2⟩ := okk.topR hf
  have hl := okk.len
  have hd := okk.topD hf
  have hu : (tk t (k + 1)).used.getD (topL (tk t k).free).toNat false = true := by
    simp only [tk, Tb.taken]
    rw [getD_set (by omega), if_pos rfl]
  obtain ⟨k1, k2⟩ := tk_keep hok hm (by omega : k + 1 ≤ m) hu
  have hv : (back t m (k + 1)).live (tkH t k).1 (tkH t k).2 = true := by
    rw [live_iff]
    refine ⟨r1, ?_, hu, ?_⟩
    · show _ < ((tk t m).uses.length : Int)
      rw [(tk_len t m).1, ← (tk_len t k).1]; exact r2
    · show (tk t m).uses.getD _ 0 = _
      rw [show (tkH t k).1 = topL (tk t k).free from rfl, k2]
      simp only [tk, Tb.taken, tkH]
      rw [getD_set (by omega), if_pos rfl]
  have e : (back t m (k + 1)).given (tkH t k).1 = back t m k := by
    simp only [Tb.given, back, tk, Tb.taken, tkH, List.set_set]
    rw [set_same hd, ← free_split hf]
  exact ⟨by rw [giveM_ok okb hv, e], by rw [← e]; exact okb.given hv⟩
end Go.Eng
