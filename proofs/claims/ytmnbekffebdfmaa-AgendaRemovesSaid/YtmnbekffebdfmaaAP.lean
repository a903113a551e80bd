/- Agendas: removing, rekeying, the order. Conditions: none. -/
import Derived.Test.YtmnbekffebdfmaaAN
set_option linter.unusedVariables false
namespace Go.Eng

theorem Kept.neg {s t : Hw} (k : Kept s t) (pl : plA s) {j : Nat} (h : s.2.getD j 0 = -1) : t.2.getD j 0 = -1 := by
  rw [k.same j fun x hx e => ?_, h]
  obtain ⟨p, hp'⟩ := List.mem_iff_getElem?.1 hx
  have hlt := (List.getElem?_eq_some_iff.1 hp').1
  have ep : hp s.1 p = x := by unfold hp; rw [List.getD_eq_getElem?_getD, hp']; rfl
  have := (pl p hlt).2.2
  rw [ep, e, h] at this
  omega

theorem hp_take {h : List Ev} {n p : Nat} (hp' : p < n) : hp (h.take n) p = hp h p := by
  unfold hp; rw [List.getD_eq_getElem?_getD, List.getElem?_take, if_pos hp', ← List.getD_eq_getElem?_getD]

/-- What is left behind a removal, in all. -/
structure RemOk (a b : Ag) (x : Ev) : Prop where
  ok : okA b
  perm : (x :: b.heap).Perm a.heap
  tb : b.tb = a.tb.given x.h.1

theorem okA.removed {a : Ag} {h : Int × Int} (ok : okA a) (hl : a.tb.live h.1 h.2 = true) : RemOk a (removedA a h) (hp a.heap (atA a h)) := by
  obtain ⟨m1, m2, m3⟩ := find_mem ok hl
  obtain ⟨v1, v2, v3, v4⟩ := live_iff.1 hl
  have hw := ok.wl
  have hlen := ok.hl
  have lus : a.tb.used.length = a.tb.uses.length := ok.tb.len
  have usd : ∀ i : Nat, (a.tb.given h.1).used.getD i false = if h.1.toNat = i then false else a.tb.used.getD i false := fun i => getD_set (by omega)
  -- from a state whose parts are known
  have fin : ∀ (s : Hw), s.2.length = a.wh.length → (hp a.heap (atA a h) :: s.1).Perm a.heap → plA s → ordH s.1 → (∀ i : Nat, i < a.tb.uses.length → (h.1.toNat = i ∨ a.tb.used.getD i false = false) → s.2.getD i 0 = -1) → RemOk a ⟨a.tb.given h.1, s.1, s.2⟩ (hp a.heap (atA a h)) := fun s hs1 pm pl o hneg => by
    have hls : s.1.length + 1 = a.heap.length := by have := pm.length_eq; simpa using this
    have sub : ∀ x ∈ s.1, x ∈ a.heap := fun x hx => pm.mem_iff.1 (List.mem_cons_of_mem _ hx)
    refine ⟨okA.make (ok.tb.given hl) (by rw [hs1, hw]; rfl) ?_ pl o (fun x hx => ok.each x (sub x hx)) ?_ (fun x hx => (ok.slot (sub x hx)).2.2.2.1) (fun i hi hu => ?_) (fun i hi hu => ?_), pm, by rw [m2]⟩
    · show s.1.length + (a.tb.free ++ [h.1]).length = a.tb.uses.length
      simp; omega
    · have : ((hp a.heap (atA a h) :: s.1).map (·.no)).Nodup := (pm.map _).nodup_iff.2 ok.nos
      rw [List.map_cons, List.nodup_cons] at this
      exact this.2
    · have hi' : i < a.tb.uses.length := hi
      rw [usd] at hu
      by_cases e : h.1.toNat = i
      · rw [if_pos e] at hu; cases hu
      · rw [if_neg e] at hu
        have := ok.used i hi' hu
        have hm := hp_mem (by omega : (a.wh.getD i 0).toNat < a.heap.length)
        have hm2 := pm.mem_iff.2 hm
        rcases List.mem_cons.1 hm2 with he | hm2
        · rw [he, m2] at this
          have := congrArg Prod.fst this.2.2
          simp only at this
          omega
        · exact ⟨_, hm2, by rw [this.2.2]⟩
    · rw [usd] at hu
      refine hneg i hi ?_
      by_cases e : h.1.toNat = i
      · exact .inl e
      · rw [if_neg e] at hu; exact .inr hu
  have hpos : 0 < a.heap.length := by omega
  unfold removedA
  split
  · rename_i he
    refine fin (a.heap.take (a.heap.length - 1), a.wh.set h.1.toNat (-1)) (by simp) ?_ (fun p hp' => ?_) (fun j j1 j2 => ?_) (fun i hi hor => ?_)
    · rw [he]
      conv => rhs; rw [take_last hpos]
      exact (List.perm_append_singleton _ _).symm
    · have hp1 : p < a.heap.length - 1 := by
        have : p < (a.heap.take (a.heap.length - 1)).length := hp'
        simp at this; omega
      show 0 ≤ (hp (a.heap.take _) p).h.1 ∧ (hp (a.heap.take _) p).h.1 < (a.wh.set _ _).length ∧ (a.wh.set _ _).getD (hp (a.heap.take _) p).h.1.toNat 0 = p
      rw [hp_take hp1, List.length_set, getD_setI (by omega)]
      obtain ⟨p1, p2, p3⟩ := ok.pl p (by show p < a.heap.length; omega)
      have p1 : 0 ≤ (hp a.heap p).h.1 := p1
      refine ⟨p1, p2, ?_⟩
      rw [if_neg]
      · exact p3
      · intro e
        have := ok.pl.inj (p := p) (q := atA a h) (by show p < a.heap.length; omega) m3 (by show (hp a.heap _).h.1 = (hp a.heap _).h.1; rw [m2]; omega)
        omega
    · have hj : j < a.heap.length - 1 := by
        have : j < (a.heap.take (a.heap.length - 1)).length := j2
        simp at this; omega
      have := par_lt (i := j) j1
      show lessE (hp (a.heap.take _) j) (hp (a.heap.take _) (par j)) = false
      rw [hp_take hj, hp_take (by omega)]
      exact ok.ord j j1 (by omega)
    · show (a.wh.set _ _).getD i 0 = -1
      rw [getD_setI (by omega)]
      by_cases e : h.1.toNat = i
      · rw [if_pos e]
      · rw [if_neg e]; exact ok.free i hi (hor.resolve_left e)
  · rename_i he
    obtain ⟨r1, r2, r3, r4⟩ := rem_parts ok hl he
    obtain ⟨rl, rp⟩ := removed_perm0 ok hl he
    have k := moveA_kept r1 r4
    have o := moveA_ord r1 r2 r3 r4
    refine fin (moveA (remS a h) (atA a h)) ?_ ((List.Perm.cons _ k.perm).trans rp) k.pl o (fun i hi hor => k.neg r1 ?_)
    · rw [k.wlen]; simp [remS]
    · have hy := ok.slot (hp_mem (by omega : a.heap.length - 1 < a.heap.length))
      show ((a.wh.set _ _).set _ _).getD i 0 = -1
      rw [getD_setI (by simp; omega), getD_setI (by omega)]
      by_cases e : h.1.toNat = i
      · rw [if_pos e]
      · rw [if_neg e, if_neg]
        · exact ok.free i hi (hor.resolve_left e)
        · intro e2
          have := hor.resolve_left e
          rw [← e2, hy.2.2.1] at this; cases this

theorem rekey_parts {a : Ag} {h t : Int × Int} (ok : okA a) (hl : a.tb.live h.1 h.2 = true) (ht : okR t) : plA (reS a h t) ∧ Go.Eng.posH (reS a h t).1 ∧ MidH (reS a h t).1 (atA a h) ∧ atA a h < (reS a h t).1.length := by
  obtain ⟨m1, m2, m3⟩ := find_mem ok hl
  have hg : ∀ p, hp (reS a h t).1 p = if atA a h = p then { hp a.heap (atA a h) with at_ := t } else hp a.heap p := fun p => hp_set m3
  have hlen : (reS a h t).1.length = a.heap.length := by simp [reS]
  refine ⟨fun p hp' => ?_, fun x hx => ?_, ⟨fun j j1 j2 j3 j4 => ?_, fun j j1 j2 j3 j4 => ?_⟩, by rw [hlen]; exact m3⟩
  · rw [hlen] at hp'
    have := ok.pl p hp'
    rw [hg]
    by_cases e : atA a h = p
    · subst e; rw [if_pos rfl]; exact this
    · rw [if_neg e]; exact this
  · rcases List.mem_or_eq_of_mem_set hx with hx | rfl
    · exact ok.posH x hx
    · exact ht.d1
  · rw [hlen] at j2
    rw [hg j, hg (par j), if_neg (fun e => j3 e.symm), if_neg (fun e => j4 e.symm)]
    exact ok.ord j j1 j2
  · rw [hlen] at j2
    have jp := par_lt (i := j) j1
    have ip := par_lt (i := atA a h) j4
    rw [hg j, hg (par (atA a h)), if_neg (by omega), if_neg (by omega)]
    have h1 := ok.ord j j1 j2
    have h2 := ok.ord (atA a h) j4 m3
    rw [j3] at h1
    exact leE_trans (ok.posH.at (by omega)) (ok.posH.at (by omega)) (ok.posH.at (by omega)) h2 h1

structure ReOk (a b : Ag) (x : Ev) (t : Int × Int) : Prop where
  ok : okA b
  perm : (x :: b.heap).Perm ({ x with at_ := t } :: a.heap)
  tb : b.tb = a.tb

theorem okA.rekeyed {a : Ag} {h t : Int × Int} (ok : okA a) (hl : a.tb.live h.1 h.2 = true) (ht : okR t) : ReOk a (rekeyedA a h t) (hp a.heap (atA a h)) t := by
  obtain ⟨m1, m2, m3⟩ := find_mem ok hl
  obtain ⟨r1, r2, r3, r4⟩ := rekey_parts ok hl ht
  have k := moveA_kept r1 r4
  have o := moveA_ord r1 r2 r3 r4
  have pm : (hp a.heap (atA a h) :: (moveA (reS a h t) (atA a h)).1).Perm ({ hp a.heap (atA a h) with at_ := t } :: a.heap) := (List.Perm.cons _ k.perm).trans (set_perm m3)
  have mem0 : ∀ x ∈ (moveA (reS a h t) (atA a h)).1, x = { hp a.heap (atA a h) with at_ := t } ∨ x ∈ a.heap := fun x hx => by
    have := pm.mem_iff.1 (List.mem_cons_of_mem _ hx)
    exact List.mem_cons.1 this
  have hlen : (moveA (reS a h t) (atA a h)).1.length = a.heap.length := by rw [k.len]; simp [reS]
  -- the handles and the numbers are those that were
  have hmap : ∀ {β : Type} (g : Ev → β), g { hp a.heap (atA a h) with at_ := t } = g (hp a.heap (atA a h)) → ((moveA (reS a h t) (atA a h)).1.map g).Perm (a.heap.map g) := fun g hg => by
    have := pm.map g
    rw [List.map_cons, List.map_cons, hg] at this
    exact List.Perm.cons_inv this
  refine ⟨okA.make ok.tb ?_ (by rw [hlen]; exact ok.hl) k.pl o (fun x hx => ?_) ((hmap (·.no) rfl).nodup_iff.2 ok.nos) (fun x hx => ?_) (fun i hi hu => ?_) (fun i hi hu => k.neg r1 (ok.free i hi hu)), pm, rfl⟩
  · rw [k.wlen]; simp [reS]; exact ok.wl
  · rcases mem0 x hx with rfl | hx
    · exact ⟨ht, (ok.each _ m1).2⟩
    · exact ok.each x hx
  · rcases mem0 x hx with rfl | hx
    · exact (ok.slot m1).2.2.2.1
    · exact (ok.slot hx).2.2.2.1
  · have := ok.used i hi hu
    have hm := hp_mem (by omega : (a.wh.getD i 0).toNat < a.heap.length)
    have : (i : Int) ∈ a.heap.map (·.h.1) := List.mem_map.2 ⟨_, hm, by rw [this.2.2]⟩
    have := (hmap (·.h.1) rfl).mem_iff.2 this
    obtain ⟨x, hx, e⟩ := List.mem_map.1 this
    exact ⟨x, hx, e⟩

/-- The first one is less than all others. -/
theorem top_less {a : Ag} (ok : okA a) (h0 : 0 < a.heap.length) : ∀ y ∈ (removedA a (hp a.heap 0).h).heap, lessE (hp a.heap 0) y = true := by
  have hm := hp_mem h0
  have r := ok.removed (ok.slot hm).2.2.2.2
  have fe := (find_eq ok hm).2
  rw [fe] at r
  intro y hy
  have hy' : y ∈ a.heap := r.perm.mem_iff.1 (List.mem_cons_of_mem _ hy)
  obtain ⟨p, hp'⟩ := List.mem_iff_getElem?.1 hy'
  have hlt := (List.getElem?_eq_some_iff.1 hp').1
  have ep : hp a.heap p = y := by unfold hp; rw [List.getD_eq_getElem?_getD, hp']; rfl
  have hf := ordH.first (h := a.heap) ok.ord ok.posH p hlt
  rw [ep] at hf
  refine lessE_of hf fun e => ?_
  have : ((hp a.heap 0 :: (removedA a (hp a.heap 0).h).heap).map (·.no)).Nodup := (r.perm.map _).nodup_iff.2 ok.nos
  rw [List.map_cons, List.nodup_cons] at this
  exact this.1 (by rw [e]; exact List.mem_map.2 ⟨y, hy, rfl⟩)
end Go.Eng
