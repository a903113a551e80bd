/- The engine, parts OR, OS, OT, put together. Conditions: none. -/
import Derived.Test.YtkemdpobjaiolaaGreatPL3
import Derived.Test.YtkemdpobjaiolaaGreatPX1
import Derived.Test.YtkemdpobjaiolaaGreatVgBase
import Derived.Test.YtkemdpobjaiolaaGreatFs
set_option linter.unusedVariables false
section
/- The order of a field at a time, in plain words. Conditions: none. -/
set_option maxRecDepth 100000
open Go Go.Eng Go.Proofs
namespace Go.Proofs.YtkemdpobjaiolaaGreat

def valP (p : Pt) (t : Int × Int) : Int := p.2.1 * t.2 + p.2.2 * t.1
theorem farV_val (p q : Pt) (t : Int × Int) : farV p q t = valP p t - valP q t := by
  unfold farV valP
  rw [Int.sub_mul, Int.sub_mul]; omega
theorem leads_iff {p q : Pt} {t : Int × Int} : leads p q t = true ↔ valP q t < valP p t ∨ valP p t = valP q t ∧ (q.2.2 < p.2.2 ∨ p.2.2 = q.2.2 ∧ p.1 < q.1) := by
  unfold leads
  rw [farV_val]
  split
  · rw [decide_eq_true_eq]; omega
  · split
    · rw [decide_eq_true_eq]; omega
    · rw [decide_eq_true_eq]; omega
theorem leads_irrefl (p : Pt) (t : Int × Int) : leads p p t = false := by
  rw [Bool.eq_false_iff]; intro h; rw [leads_iff] at h; omega
theorem leads_trans {p q r : Pt} {t : Int × Int} (h1 : leads p q t = true) (h2 : leads q r t = true) : leads p r t = true := by
  rw [leads_iff] at *; omega
theorem leads_asymm {p q : Pt} {t : Int × Int} (h : leads p q t = true) : leads q p t = false := by
  rw [Bool.eq_false_iff]; intro h'; rw [leads_iff] at *; omega
theorem leads_total {p q : Pt} {t : Int × Int} (h : p.1 ≠ q.1) : leads p q t = true ∨ leads q p t = true := by
  rw [leads_iff, leads_iff]; omega

/-- How many others are ahead of a point. -/
def rankM (f : List Pt) (p : Pt) (t : Int × Int) : Nat := f.countP fun q => q.1 != p.1 && leads q p t
/-- A field's points, the leader first. -/
structure Sorted (f : List Pt) (t : Int × Int) (s : List Pt) : Prop where
  perm : s.Perm f
  ord : s.Pairwise fun p q => leads p q t = true
/-- A point put in its place. -/
def insM (t : Int × Int) (p : Pt) : List Pt → List Pt
  | [] => [p]
  | q :: l => if leads p q t = true then p :: q :: l else q :: insM t p l
def sortM (f : List Pt) (t : Int × Int) : List Pt := f.foldr (insM t) []
def ordM (f : List Pt) (t : Int × Int) : List Int := (sortM f t).map (·.1)

theorem okF_ids {f : List Pt} (h : okF f) : f.Pairwise fun p q => p.1 ≠ q.1 := (List.pairwise_map.1 h.inc).imp fun h => by omega
theorem Sorted.ids {f s : List Pt} {t : Int × Int} (h : Sorted f t s) (hi : f.Pairwise fun p q => p.1 ≠ q.1) : s.Pairwise fun p q => p.1 ≠ q.1 := h.perm.symm.pairwise hi fun h => h.symm
theorem Sorted.of {f s : List Pt} {t : Int × Int} (hi : f.Pairwise fun p q => p.1 ≠ q.1) (p : s.Perm f) (o : s.Pairwise fun p q => leads q p t = false) : Sorted f t s := by
  refine ⟨p, ?_⟩
  have hs : s.Pairwise fun p q => p.1 ≠ q.1 := p.symm.pairwise hi fun h => h.symm
  refine (List.Pairwise.and o hs).imp fun ⟨h1, h2⟩ => ?_
  rcases leads_total (t := t) h2 with h | h
  · exact h
  · rw [h1] at h; cases h
theorem insM_perm (t : Int × Int) (p : Pt) : ∀ l : List Pt, (insM t p l).Perm (p :: l)
  | [] => List.Perm.refl _
  | q :: l => by
    unfold insM
    split
    · exact List.Perm.refl _
    · exact (List.Perm.cons q (insM_perm t p l)).trans (List.Perm.swap p q l)
theorem insM_ord (t : Int × Int) (p : Pt) : ∀ l : List Pt, (l.Pairwise fun p q => leads q p t = false) → (insM t p l).Pairwise fun p q => leads q p t = false
  | [], _ => List.pairwise_singleton _ _
  | q :: l, h => by
    obtain ⟨h1, h2⟩ := List.pairwise_cons.1 h
    unfold insM
    split
    · rename_i hp
      refine List.Pairwise.cons (fun r hr => ?_) h
      rcases List.mem_cons.1 hr with rfl | hr
      · exact leads_asymm hp
      · cases hrp : leads r p t with
        | false => rfl
        | true => have := leads_trans hrp hp; rw [h1 r hr] at this; cases this
    · rename_i hp
      refine List.Pairwise.cons (fun r hr => ?_) (insM_ord t p l h2)
      rcases List.mem_cons.1 ((insM_perm t p l).mem_iff.1 hr) with rfl | hr
      · simpa using hp
      · exact h1 r hr
theorem sortM_perm (t : Int × Int) : ∀ f : List Pt, (sortM f t).Perm f
  | [] => List.Perm.refl _
  | p :: f => (insM_perm t p (sortM f t)).trans (List.Perm.cons p (sortM_perm t f))
theorem sortM_ord (t : Int × Int) : ∀ f : List Pt, (sortM f t).Pairwise fun p q => leads q p t = false
  | [] => List.Pairwise.nil
  | p :: f => insM_ord t p (sortM f t) (sortM_ord t f)
theorem sortM_sorted {f : List Pt} (hi : f.Pairwise fun p q => p.1 ≠ q.1) (t : Int × Int) : Sorted f t (sortM f t) := Sorted.of hi (sortM_perm t f) (sortM_ord t f)

theorem Sorted.rank {f s : List Pt} {t : Int × Int} (h : Sorted f t s) (hi : f.Pairwise fun p q => p.1 ≠ q.1) {k : Nat} {p : Pt} (hk : s[k]? = some p) : rankM f p t = k := by
  have hs := h.ids hi
  unfold rankM
  rw [← h.perm.countP_eq]
  obtain ⟨hl, hp⟩ := List.getElem?_eq_some_iff.1 hk
  have e : s = s.take k ++ p :: s.drop (k + 1) := by rw [← dropX hk]; exact (List.take_append_drop k s).symm
  have o1 := h.ord; have o2 := hs
  rw [e] at o1 o2
  obtain ⟨_, a2, a3⟩ := List.pairwise_append.1 o1
  obtain ⟨_, b2, b3⟩ := List.pairwise_append.1 o2
  rw [e, List.countP_append, List.countP_cons]
  have c1 : (s.take k).countP (fun q => q.1 != p.1 && leads q p t) = k := by
    rw [List.countP_eq_length.2 (fun q hq => ?_), List.length_take]
    · omega
    · rw [a3 q hq p List.mem_cons_self, Bool.and_true, bne_iff_ne]
      exact b3 q hq p List.mem_cons_self
  have c2 : (s.drop (k + 1)).countP (fun q => q.1 != p.1 && leads q p t) = 0 := by
    rw [List.countP_eq_zero]
    intro q hq
    rw [leads_asymm ((List.pairwise_cons.1 a2).1 q hq)]; simp
  rw [c1, c2]
  simp
theorem Sorted.at_rank {f s : List Pt} {t : Int × Int} (h : Sorted f t s) (hi : f.Pairwise fun p q => p.1 ≠ q.1) {p : Pt} (hp : p ∈ f) : s[rankM f p t]? = some p := by
  obtain ⟨k, hk⟩ := List.mem_iff_getElem?.1 (h.perm.mem_iff.2 hp)
  rw [h.rank hi hk]; exact hk
theorem Sorted.eq {f s s' : List Pt} {t : Int × Int} (h : Sorted f t s) (h' : Sorted f t s') (hi : f.Pairwise fun p q => p.1 ≠ q.1) : s = s' := by
  refine List.ext_getElem? fun k => ?_
  have l1 := h.perm.length_eq; have l2 := h'.perm.length_eq
  cases hk : s[k]? with
  | none =>
    have := List.getElem?_eq_none_iff.1 hk
    exact (List.getElem?_eq_none_iff.2 (by omega)).symm
  | some p =>
    have hp := h.perm.mem_iff.1 (List.mem_of_getElem? hk)
    have := h'.at_rank hi hp
    rw [h.rank hi hk] at this
    exact this.symm
theorem sortM_len (f : List Pt) (t : Int × Int) : (sortM f t).length = f.length := (sortM_perm t f).length_eq
theorem ordM_len (f : List Pt) (t : Int × Int) : (ordM f t).length = f.length := by unfold ordM; rw [List.length_map, sortM_len]
theorem ordM_at {f : List Pt} {t : Int × Int} (hi : f.Pairwise fun p q => p.1 ≠ q.1) {p : Pt} (hp : p ∈ f) : rankM f p t < f.length ∧ (ordM f t)[rankM f p t]? = some p.1 := by
  have h := (sortM_sorted hi t).at_rank hi hp
  refine ⟨?_, ?_⟩
  · have := (List.getElem?_eq_some_iff.1 h).1
    rw [sortM_len] at this; exact this
  · unfold ordM; rw [List.getElem?_map, h]; rfl
/-- A list in which each point's ID stands at its rank is the order. -/
theorem ordM_of {f : List Pt} {t : Int × Int} (hi : f.Pairwise fun p q => p.1 ≠ q.1) {o : List Int} (hl : o.length = f.length) (h : ∀ p ∈ f, o[rankM f p t]? = some p.1) : o = ordM f t := by
  refine List.ext_getElem? fun k => ?_
  have S := sortM_sorted hi t
  cases hk : (sortM f t)[k]? with
  | none =>
    have := List.getElem?_eq_none_iff.1 hk
    rw [sortM_len] at this
    rw [List.getElem?_eq_none_iff.2 (by omega), List.getElem?_eq_none_iff.2 (by rw [ordM_len]; omega)]
  | some p =>
    have hp := S.perm.mem_iff.1 (List.mem_of_getElem? hk)
    have a := h p hp
    rw [S.rank hi hk] at a
    rw [a]; unfold ordM; rw [List.getElem?_map, hk]; rfl
end Go.Proofs.YtkemdpobjaiolaaGreat
end
section
/- slices.SortFunc on points. Conditions: none. -/
set_option maxRecDepth 100000
open Go Go.Eng Go.Proofs
open Go.Shelf Go.RowKit Go.Lib Go.Sort
namespace Go.Proofs.YtkemdpobjaiolaaGreat

/-- Where what is known is left alone, the world has grown, no more. -/
theorem _root_.Go.Eng.Tr.grown {w w' : World} {H H' : Hp} (hv : View w H) (ht : Tr w H w' H') (hl : Hp.le H H') : ∃ q os, w' = grow (w.drewN q) os := by
  refine ⟨w'.drawn - w.drawn, w'.heap.extract w.heap.size w'.heap.size, ?_⟩
  have hd := ht.drawn
  have hh : w'.heap = w.heap ++ w'.heap.extract w.heap.size w'.heap.size := by
    apply Array.ext_getElem?
    intro k
    have hs := ht.size
    rw [Array.getElem?_append]
    split
    · rename_i hk
      cases hx : H k with
      | none => exact ht.frame k hk hx
      | some o => rw [ht.view k o (hl k o hx), hv k o hx]
    · rename_i hk
      rw [Array.getElem?_extract]
      split
      · congr 1; omega
      · exact Array.getElem?_eq_none (by omega)
  have h1 := ht.os; have h2 := ht.tape; have h3 := ht.output
  unfold grow World.drewN
  cases w; cases w'
  simp only at hh hd h1 h2 h3 ⊢
  subst h1; subst h2; subst h3
  rw [← hh]
  congr 1
  omega

def cfP (t : Int × Int) (p q : Pt) : Int := if p.1 = q.1 then 0 else if leads p q t = true then -1 else 1
theorem closureSort {H : Hp} {p q : Pt} {t : Int × Int} {ab : Addr} (ht : okR t) (h0 : H.at (ab.add 0) = some (.int .i64 t.1)) (h1 : H.at (ab.add 1) = some (.int .i64 t.2)) (hp : okP p) (hq : okP q) :
    Qf Tryz.prog F.field_sorted_1 #[sI3 p.1 p.2.1 p.2.2, sI3 q.1 q.2.1 q.2.2, .pointer (some ab)] H (.int .i64 (cfP t p q)) := by
  refine field_sorted_1_vc ⟨fun h => ⟨?_, Hp.le_refl _⟩, fun h => ?_⟩
  · have h : p.1 = q.1 := by simpa using h
    unfold cfP; rw [if_pos h]
  · have h : p.1 ≠ q.1 := by simpa using h
    have e : aheadM p q t = (leads p q t, 0) := by unfold aheadM; rw [if_pos (twoM_zero.2 ⟨hp, hq, ht, h⟩)]
    refine ⟨_, _, ⟨h0, h1⟩, _, _, courseAhead ht.fit, ?_⟩
    rw [e]
    refine ⟨fun k => ⟨?_, Hp.le_refl _⟩, fun k => ⟨?_, Hp.le_refl _⟩⟩
    · have k : leads p q t = true := k
      unfold cfP; rw [if_neg h, if_pos k]
    · have k : leads p q t = false := k
      unfold cfP; rw [if_neg h, if_neg (by rw [k]; simp)]

section
variable {f : List Pt} {t : Int × Int}
abbrev PtIn (f : List Pt) := {p : Pt // p ∈ f}
def encIn (x : PtIn f) : List Value := fD x.1
def cfIn (t : Int × Int) (x y : PtIn f) : Int := cfP t x.1 y.1
theorem ids_eq (hi : f.Pairwise fun p q => p.1 ≠ q.1) {x y : PtIn f} (h : x.1.1 = y.1.1) : x = y := by
  obtain ⟨i, hx⟩ := List.mem_iff_getElem?.1 x.2
  obtain ⟨j, hy⟩ := List.mem_iff_getElem?.1 y.2
  obtain ⟨i1, i2⟩ := List.getElem?_eq_some_iff.1 hx
  obtain ⟨j1, j2⟩ := List.getElem?_eq_some_iff.1 hy
  have hp := List.pairwise_iff_getElem.1 hi
  rcases Nat.lt_trichotomy i j with k | k | k
  · exact absurd (by rw [i2, j2]; exact h) (hp i j i1 j1 k)
  · subst k; rw [i2] at j2; exact Subtype.ext j2
  · exact absurd (by rw [i2, j2]; exact h.symm) (hp j i j1 i1 k)
theorem lt_in (hi : f.Pairwise fun p q => p.1 ≠ q.1) (x y : PtIn f) : ltOf (cfIn t) x y = leads x.1 y.1 t := by
  unfold ltOf cfIn cfP
  split
  · rename_i h
    have := ids_eq hi h
    subst this
    rw [leads_irrefl]; simp
  · cases h : leads x.1 y.1 t <;> simp
theorem swo_in (hi : f.Pairwise fun p q => p.1 ≠ q.1) : SWO (ltOf (cfIn (f := f) t)) where
  irrefl x := by rw [lt_in hi, leads_irrefl]
  trans x y z h1 h2 := by rw [lt_in hi] at *; exact leads_trans h1 h2
  ntrans x y z h1 h2 := by
    rw [lt_in hi, Bool.eq_false_iff, ne_eq, leads_iff] at *
    omega
theorem tot_in (hi : f.Pairwise fun p q => p.1 ≠ q.1) (x y : PtIn f) (h1 : ltOf (cfIn t) x y = false) (h2 : ltOf (cfIn t) y x = false) : x = y := by
  rw [lt_in hi] at h1 h2
  by_cases e : x.1.1 = y.1.1
  · exact ids_eq hi e
  · rcases leads_total (t := t) e with h | h
    · rw [h] at h1; cases h1
    · rw [h] at h2; cases h2

theorem heap_sortWorld [Inhabited (PtIn f)] {w : World} {b k m : Nat} {d : Array (PtIn f)} {os : Array Obj} (hk : k < w.heap.size) :
    (sortWorldK encIn 3 w b 0 m d os).heap[k]? = (w.heap.modify b (onCells (putCells id 0 (flatK encIn 3 d))))[k]? := by
  unfold sortWorldK putRowK putRow mapBlock
  rw [heap_grow_old _ _ (by simpa using hk)]
  rfl
theorem cmpIn [Inhabited (PtIn f)] (hf : ∀ p ∈ f, okP p) (ht : okR t) {w : World} {b b1 size : Nat} {T : TypeId} (hb1 : w.heap[b1]? = some (.cells #[.int .i64 t.1, .int .i64 t.2] T (0, 0))) (hne : b1 ≠ b) :
    CmpLays Tryz.prog F.field_sorted_1 #[.pointer (some ⟨b1, 0, none⟩)] encIn 3 (cfIn (f := f) t) b 0 size w := by
  intro m os dk hs x y
  have hlt : b1 < w.heap.size := (Array.getElem?_eq_some_iff.1 hb1).1
  have hW : (sortWorldK encIn 3 w b 0 m dk os).heap[b1]? = some (.cells #[.int .i64 t.1, .int .i64 t.2] T (0, 0)) := by
    rw [heap_sortWorld hlt, Array.getElem?_modify, if_neg (Ne.symm hne)]; exact hb1
  generalize sortWorldK encIn 3 w b 0 m dk os = W at hW ⊢
  have hv : View W (Hp.put (fun _ => none) b1 (.cells #[.int .i64 t.1, .int .i64 t.2] T (0, 0))) := fun c o hc => by
    unfold Hp.put at hc
    split at hc
    · rename_i e; subst e; cases hc; exact hW
    · cases hc
  refine (closureSort (H := Hp.put (fun _ => none) b1 (.cells #[.int .i64 t.1, .int .i64 t.2] T (0, 0))) (ab := ⟨b1, 0, none⟩) ht (by simp [Hp.at, Hp.put, Addr.add]) (by simp [Hp.at, Hp.put, Addr.add]) (hf _ x.2) (hf _ y.2) W hv).mono fun e w' ⟨v, H', he, tr, hv', hl⟩ => ?_
  subst hv'
  exact ⟨he, tr.grown hv hl⟩
end
theorem aggPt : ∀ w, (isAgg (Tryz.sortPt_ren.t 24)).run Tryz.prog w = .ok true w := fun w => by
  rw [Go.Eng.run_isAgg (t := Tryz.sortPt_ren.t 24) (P := Tryz.prog) (x := (Tryz.prog.underlying 63).getD (.struct #[])) (by kernel_rfl)]
  exact congrArg (fun b => Result.ok b w) (show aggT Tryz.prog (Tryz.sortPt_ren.t 24) = true by kernel_rfl)
theorem sizePt : ∀ w, (Go.sizeOf (Tryz.sortPt_ren.t 24)).run Tryz.prog w = .ok 3 w := fun w => by
  rw [Go.Eng.run_sizeOf (t := Tryz.sortPt_ren.t 24) (P := Tryz.prog) (x := (Tryz.prog.underlying 63).getD (.struct #[])) (by kernel_rfl)]
  exact congrArg (fun b => Result.ok b w) (show Tryz.prog.cellsOf (Tryz.sortPt_ren.t 24) = 3 by kernel_rfl)

theorem Mine.sepAddr {α : Type} {k : Nat} {g : α → List Value} {e : TypeId} {H0 H : Hp} {u : Slc} {xs : List α} (h : Mine k g e H0 H u xs) {b1 : Nat} (hb : H0 b1 ≠ none) : ∀ p, u.a = some p → p.block ≠ b1 := by
  intro p hp e1
  have := h.isNew p hp
  rw [e1] at this; exact hb this

set_option maxHeartbeats 2000000 in
theorem sortPts {H0 H : Hp} {u : Slc} {f : List Pt} {t : Int × Int} {b1 : Nat} {e T : TypeId} (of : okF f) (ht : okR t) (hu : Mine 3 fD e H0 H u f) (hb1 : H b1 = some (.cells #[.int .i64 t.1, .int .i64 t.2] T (0, 0))) (hs : ∀ p, u.a = some p → p.block ≠ b1) :
    Go.Eng.Fn Tryz.prog 216 #[u.v, .func (.func F.field_sorted_1) #[] #[.pointer (some ⟨b1, 0, none⟩)]] H fun v H' => v = .tuple #[] ∧ Mine 3 fD e H0 H' u (sortM f t) ∧ Chg H H' u := by
  have hi := okF_ids of
  have hlen := hu.rdD.len
  by_cases hne : f = []
  · subst hne
    intro w hv
    have hn : u.n = 0 := by simpa using hlen
    rw [show u.v = .slice u.a 0 u.c by unfold Slc.v; rw [hn]]
    refine (AnyF.slices_SortFunc_none Tryz.sortPt u.a u.c _ w).mono fun e1 w' ⟨he, hw⟩ => ⟨_, H, he, by rw [hw]; exact Tr.refl hv, rfl, ?_, fun _ _ _ => rfl⟩
    exact hu
  obtain ⟨p0, hp0⟩ := List.exists_mem_of_ne_nil f hne
  haveI : Inhabited (PtIn f) := ⟨⟨p0, hp0⟩⟩
  rcases hu with ⟨_, h⟩ | ⟨b, hb0, own⟩
  · exact absurd h hne
  obtain ⟨cs, hcs, hsz, htake⟩ := own.cells
  have hba := own.blk
  have hcap := own.cap
  intro w hv
  have hw := hv b _ hcs
  have hblk : b < w.heap.size := (Array.getElem?_eq_some_iff.1 hw).1
  have hb1w := hv b1 _ hb1
  have hbb : b1 ≠ b := fun e1 => hs _ hba e1.symm
  have hds : f.attach.toArray.size = f.length := by simp
  have hbig : f.length < 4611686018427387904 := by have := of.small; omega
  have hcell : ∀ j, j < f.length * 3 → cs[j]? = (f.flatMap fD)[j]? := fun j hj => by
    rw [← htake, List.getElem?_take, if_pos hj]; simp
  have hfl : ∀ (s : List Pt) (dd : Array (PtIn f)), dd.toList.map (·.1) = s → ∀ j, j < s.length * 3 → (s.flatMap fD)[j]? = some (flatK encIn 3 dd)[j]! := fun s dd hdd j hj => by
    have hl : dd.size = s.length := by rw [← hdd]; simp
    have hq : j / 3 < s.length := Nat.div_lt_of_lt_mul (by omega)
    have hg : s[j / 3]? = some (dd[j / 3]!).1 := by
      rw [← hdd, List.getElem?_map, getElem!_pos dd (j / 3) (by omega)]
      simp [show j / 3 < dd.size by omega]
    rw [get_flatK _ _ _ _ (by omega)]
    have hm : (fD (dd[j / 3]!).1)[j % 3]? = some ((encIn dd[j / 3]!)[j % 3]!) := by
      have h3 : j % 3 < (fD (dd[j / 3]!).1).length := Nat.mod_lt _ (by omega)
      show _ = some ((fD (dd[j / 3]!).1)[j % 3]!)
      rw [getElem!_pos (fD (dd[j / 3]!).1) (j % 3) h3]
      exact List.getElem?_eq_getElem h3
    have := flatMap_get (k := 3) (f := fD) (fun _ => rfl) hg hm
    rwa [Nat.div_add_mod' j 3] at this
  have hatt : f.attach.toArray.toList.map (·.1) = f := by show f.attach.map Subtype.val = f; exact List.attach_map_subtype_val f
  have hH : HoldsK encIn 3 w b 0 f.attach.toArray := by
    intro j hj
    rw [size_flatK, hds] at hj
    have h1 := hfl f f.attach.toArray hatt j hj
    rw [Nat.zero_add]
    refine ⟨?_, ?_⟩
    · unfold World.cell?
      simp only [hw]
      show cs[j]? = _
      rw [hcell j hj, h1]; rfl
    · unfold World.frozen?
      simp only [hw]
      simp
  have hcmp := cmpIn (f := f) (t := t) (b := b) (size := f.attach.toArray.size) (fun p hp => of.each p hp) ht hb1w hbb
  have eg : ∀ args w, (callFunc F.field_sorted_1 args).run Tryz.prog w = .ok (.enter F.field_sorted_1 args) w := enters_of Tryz.func217 (by kernel_rfl) rfl
  have hcon := AnyQ.slices_SortFunc_total Tryz.sortPt 3 aggPt sizePt encIn (fun _ => rfl) (fun x v hv => fD_one x.1 v hv) (cfIn t) (swo_in hi) F.field_sorted_1 #[.pointer (some ⟨b1, 0, none⟩)] b 0 u.c f.attach.toArray w eg hcmp hH hblk (by rw [hds]; exact hbig) (tot_in hi)
  rw [hds] at hcon
  rw [show u.v = .slice (some ⟨b, 0, none⟩) f.length u.c by unfold Slc.v; rw [hba, hlen]]
  refine hcon.mono fun e1 w' ⟨he, n, os, hw'⟩ => ?_
  -- the list that came out
  generalize hS : (f.attach.toArray.toList.mergeSort fun x y => !(ltOf (cfIn t)) y x) = S at hw'
  have hs1 : S.Perm f.attach.toArray.toList := by rw [← hS]; exact List.mergeSort_perm _ _
  have hso : Sorted f t (S.map (·.1)) := by
    have hpm := hs1.map (fun x : PtIn f => x.1)
    rw [hatt] at hpm
    refine Sorted.of hi hpm ?_
    rw [List.pairwise_map]
    have := List.pairwise_mergeSort (le := fun x y : PtIn f => !(ltOf (cfIn t)) y x) (fun a b c h1 h2 => ?_) (fun a b => ?_) f.attach.toArray.toList
    · rw [hS] at this
      refine this.imp fun h => ?_
      rw [lt_in hi] at h; simpa using h
    · rw [lt_in hi] at *
      simp only [Bool.not_eq_true', Bool.eq_false_iff, ne_eq, leads_iff] at *
      omega
    · rw [lt_in hi, lt_in hi]
      cases h : leads b.1 a.1 t with
      | false => rfl
      | true => simp [leads_asymm h]
  have hse : S.map (·.1) = sortM f t := hso.eq (sortM_sorted hi t) hi
  have hSl : S.length = f.length := by have := hs1.length_eq; simpa using this
  have hdS : S.toArray.toList.map (·.1) = sortM f t := by rw [← hse]
  have hcsz : (putCells id 0 (flatK encIn 3 S.toArray) cs).size = cs.size := by simp [putCells]
  have hnew : ∀ k, k < w.heap.size → w'.heap[k]? = if k = b then some (.cells (putCells id 0 (flatK encIn 3 S.toArray) cs) e (0, 0)) else w.heap[k]? := fun k hk => by
    rw [hw', heap_sortWorld hk, Array.getElem?_modify]
    split
    · rename_i e2; subst e2; rw [if_pos rfl, hw]; rfl
    · rename_i e2; rw [if_neg (fun e3 => e2 e3.symm)]
  have hsize : w.heap.size ≤ w'.heap.size := by
    rw [hw']; unfold sortWorldK putRowK; rw [size_grow, size_putRow]; exact Nat.le_add_right _ _
  refine ⟨_, Hp.put H b (.cells (putCells id 0 (flatK encIn 3 S.toArray) cs) e (0, 0)), he, ⟨fun k o hk => ?_, fun k hk hn => ?_, fun k hk => ?_, hsize, by rw [hw']; rfl, by rw [hw']; rfl, by rw [hw']; rfl, by rw [hw']; show w.drawn ≤ w.drawn + n; omega⟩, rfl, .inr ⟨b, hb0, ?_⟩, fun k hk hp => ?_⟩
  · unfold Hp.put at hk
    split at hk
    · rename_i e2; subst e2; cases hk; rw [hnew k hblk, if_pos rfl]
    · rename_i e2
      have h0 := hv k o hk
      rw [hnew k (Array.getElem?_eq_some_iff.1 h0).1, if_neg e2]; exact h0
  · rw [hnew k hk, if_neg (fun e2 => by subst e2; rw [hcs] at hn; cases hn)]
  · unfold Hp.put at hk
    split at hk
    · rename_i e2; subst e2; left; rw [hcs]; simp
    · exact .inl hk
  · refine ⟨by rw [sortM_len]; exact own.len, own.cap, own.blk, putCells id 0 (flatK encIn 3 S.toArray) cs, by simp [Hp.put], by rw [hcsz]; exact hsz, ?_⟩
    refine List.ext_getElem? fun j => ?_
    have hl1 : (sortM f t).length = f.length := sortM_len f t
    rw [List.getElem?_take]
    split
    · rename_i hj
      rw [hfl _ S.toArray hdS j hj]
      have hjc : j < cs.size := by
        rw [hsz]; rw [hl1] at hj
        have := own.len; have : f.length * 3 ≤ u.c * 3 := Nat.mul_le_mul_right 3 (by omega)
        omega
      rw [Array.getElem?_toList]
      unfold putCells
      rw [Array.getElem?_mapIdx, Array.getElem?_eq_getElem hjc, Option.map_some, if_pos ⟨Nat.zero_le _, by rw [size_flatK]; simp [hSl]; rw [hl1] at hj; omega⟩]
      simp
    · rename_i hj
      exact (List.getElem?_eq_none (by rw [flatMap_len (k := 3) (fun _ => rfl)]; omega)).symm
  · rw [Hp.put_ne]
    intro e2; subst e2; exact hp _ hba rfl
end Go.Proofs.YtkemdpobjaiolaaGreat
end
section
/- The order of a field: field.Order and the reference's. Conditions: none. -/
set_option maxRecDepth 100000
open Go Go.Eng Go.Proofs
namespace Go.Proofs.YtkemdpobjaiolaaGreat

def sortedM (f : List Pt) (t : Int × Int) : List Pt × Int := if timedF f t = 0 then (sortM f t, 0) else ([], timedF f t)
def orderM (f : List Pt) (t : Int × Int) : List Int × Int := if timedF f t = 0 then (ordM f t, 0) else ([], timedF f t)

theorem fieldSorted {H : Hp} {w : Slc} {f : List Pt} {t : Int × Int} (hf : Rd 3 fD H w f) (ht : fitR t) :
    Go.Eng.Fn Tryz.prog F.field_sorted #[vFd w, raW t] H fun v H' => ∃ u : Slc, v = .tuple #[u.v, .int .i64 (sortedM f t).2] ∧ Hp.le H H' ∧ Mine 3 fD T.api_Point H H' u (sortedM f t).1 := by
  refine field_sorted_vc fun b1 H2 hb1 hH2 => ?_
  have l2 : Hp.le H H2 := Hp.le_new (Hp.le_refl _) hb1 hH2
  have hbx : H2 b1 = some (.cells #[.int .i64 t.1, .int .i64 t.2] 23 (0, 0)) := by rw [hH2]; simp [Hp.put]
  refine ⟨_, fieldCheck (hf.le l2), fun hc => ?_, fun hc => ?_⟩
  · have hc : chkF f ≠ 0 := by simpa using hc
    have e : sortedM f t = ([], chkF f) := by
      have et : timedF f t = chkF f := by unfold timedF; rw [if_pos hc]
      unfold sortedM; rw [et, if_neg hc]
    rw [e]; exact ⟨zs, rfl, l2, .inl ⟨rfl, rfl⟩⟩
  have hc : chkF f = 0 := by simpa using hc
  have of := chkF_zero.1 hc
  refine ⟨_, _, ⟨by simp [Hp.at, hbx, Addr.add], by simp [Hp.at, hbx, Addr.add]⟩, _, ratioCheck (r := t) ht, fun h2 => ?_, fun h2 => ?_⟩
  · have h2 : chkR t ≠ 0 := by simpa using h2
    have e : sortedM f t = ([], chkR t) := by
      have et : timedF f t = chkR t := by unfold timedF; rw [if_neg (by rw [hc]; simp)]
      unfold sortedM; rw [et, if_neg h2]
    rw [e]; exact ⟨zs, rfl, l2, .inl ⟨rfl, rfl⟩⟩
  have ot : okR t := chkR_zero.1 (by simpa using h2)
  have e : sortedM f t = (sortM f t, 0) := by unfold sortedM; rw [if_pos (timedF_zero.2 ⟨of, ot⟩)]
  rw [e]
  have lf := of.small
  refine (clone_pt (hf.le l2) (by omega)).mono fun v H8 ⟨u, hv, l8, m⟩ => ⟨u, hv, ?_⟩
  refine (sortPts of ot m (l8 b1 _ hbx) (Mine.sepAddr m (by rw [hbx]; simp))).mono fun v H11 ⟨hv, m2, ch⟩ => ⟨hv, u, rfl, ?_, m2.low l2⟩
  exact Hp.le_trans l2 (Hp.le_chg l8 ch m.isNew)

theorem fieldOrder {H : Hp} {w : Slc} {f : List Pt} {t : Int × Int} (hf : Rd 3 fD H w f) (ht : fitR t) :
    Go.Eng.Fn Tryz.prog F.field_Order #[vFd w, raW t] H fun v H' => ∃ u : Slc, v = .tuple #[u.v, .int .i64 (orderM f t).2] ∧ Hp.le H H' ∧ Mine 1 fI T.int H H' u (orderM f t).1 := by
  refine field_Order_vc ((fieldSorted hf ht).mono fun v H2 ⟨u, hv, l2, m⟩ => ⟨u, _, hv, fun hc => ?_, fun hc => ?_⟩)
  · have hc : timedF f t ≠ 0 := by
      have hc : (sortedM f t).2 ≠ 0 := by simpa using hc
      intro h; unfold sortedM at hc; rw [if_pos h] at hc; exact hc rfl
    have e1 : sortedM f t = ([], timedF f t) := by unfold sortedM; rw [if_neg hc]
    have e2 : orderM f t = ([], timedF f t) := by unfold orderM; rw [if_neg hc]
    rw [e1, e2]
    exact ⟨zs, rfl, l2, .inl ⟨rfl, rfl⟩⟩
  have hc : timedF f t = 0 := by
    have hc : (sortedM f t).2 = 0 := by simpa using hc
    by_cases h : timedF f t = 0
    · exact h
    · unfold sortedM at hc; rw [if_neg h] at hc; exact hc
  have e1 : sortedM f t = (sortM f t, 0) := by unfold sortedM; rw [if_pos hc]
  have e2 : orderM f t = (ordM f t, 0) := by unfold orderM; rw [if_pos hc]
  rw [e1] at m
  rw [e2]
  have lf := ((timedF_zero.1 hc).1).small
  have ln : u.n = f.length := by have := m.rdD.len; rw [sortM_len] at this; exact this
  refine ⟨⟨rfl, by omega, by omega⟩, fun b5 H6 hb5 hH6 => ?_⟩
  have m5 := made_mine (g := fun x => Value.int .i64 x) (e := 3) hfI (n := (u.n : Int)) (z := 0) hb5 hH6 rfl
  rw [Int.toNat_natCast] at m5 ⊢
  have l6 : Hp.le H2 H6 := Hp.le_new (Hp.le_refl _) hb5 hH6
  have sp := Sep.of m.isOld m5.isNew
  refine uptoH (N := (u.n : Int)) (J := fun i H' => Hp.le H2 H' ∧ Mine 3 fD T.api_Point H H' u (sortM f t) ∧ ∃ ys : List Int, Mine 1 fI 3 H2 H' ⟨some ⟨b5, 0, none⟩, u.n, u.n⟩ ys ∧ ys.length = u.n ∧ ∀ k : Nat, k < i → ys[k]? = (ordM f t)[k]?) (by omega)
    ⟨l6, m.le l6, _, m5, by simp, fun k hk => by omega⟩ fun i H10 h0 h1 ⟨l10, j1, ys, j2, j3, j4⟩ => ⟨fun hi => ?_, fun hi => ?_⟩
  · have hi : i < u.n := by simpa using hi
    have hi2 : i < (sortM f t).length := by rw [sortM_len]; omega
    have hg := getX (d := ((0 : Int), (0 : Int), (0 : Int))) h0 hi2
    refine j1.rdD.ldD h0 hi2 ⟨⟨h0, by omega, rfl⟩, j2.setI h0 (by omega) _ fun H' m' ch => uptoH.nx h0 hi (by omega) ⟨Hp.le_chg l10 ch m'.isNew, j1.chg ch sp, _, m', by simpa using j3, fun k hk => ?_⟩⟩
    rw [List.getElem?_set]
    by_cases e : i.toNat = k
    · rw [if_pos e, if_pos (by omega)]
      subst e
      unfold ordM; rw [List.getElem?_map, hg]; try rfl
    · rw [if_neg e]; exact j4 k (by omega)
  · have hi : i = u.n := by have : ¬ i < u.n := by simpa using hi
                            omega
    subst hi
    have e : ys = ordM f t := by
      refine List.ext_getElem? fun k => ?_
      by_cases hk : k < u.n
      · exact j4 k (by omega)
      · rw [List.getElem?_eq_none (by omega), List.getElem?_eq_none (by rw [ordM_len]; omega)]
    subst e
    exact ⟨_, rfl, Hp.le_trans l2 l10, j2.low l2⟩

theorem refRanked {H : Hp} {w : Slc} {f : List Pt} {p : Pt} {t : Int × Int} (hf : Rd 3 fD H w f) (of : okF f) (hp : okP p) (ot : okR t) :
    Qf Tryz.prog F.pelotonref03_Ranked #[vFd w, sI3 p.1 p.2.1 p.2.2, raW t] H (.int .i64 (rankM f p t)) := by
  have lf := of.small
  have ln := hf.len
  refine pelotonref03_Ranked_vc ⟨fun n i H' => H' = H ∧ 0 ≤ i ∧ i ≤ f.length ∧ n = (f.take i.toNat).countP fun q => q.1 != p.1 && leads q p t, fun _ i _ => (f.length - i).toNat, ⟨rfl, Int.le_refl _, by omega, by simp⟩,
    fun n i H' ⟨e, i0, i1, hn⟩ => ?_⟩
  subst e
  refine ⟨fun h => ?_, fun h => ⟨?_, Hp.le_refl _⟩⟩
  · have hi : i < f.length := by have : i < w.n := by simpa using h
                                 omega
    have hg := getX (d := ((0 : Int), (0 : Int), (0 : Int))) i0 hi
    have gs := hf.inS i0 hi
    have g3 := hf.gD i0 hi
    generalize f.getD i.toNat (0, 0, 0) = q at hg g3
    have oq := of.each q (List.mem_of_getElem? hg)
    have hs : (f.take (i + 1).toNat).countP (fun q => q.1 != p.1 && leads q p t) = (f.take i.toNat).countP (fun q => q.1 != p.1 && leads q p t) + if (q.1 != p.1 && leads q p t) = true then 1 else 0 := by
      rw [show (i + 1).toNat = i.toNat + 1 by omega, take_succ hg, List.countP_append, List.countP_singleton]
    have hle : (f.take i.toNat).countP (fun q => q.1 != p.1 && leads q p t) ≤ f.length := Nat.le_trans (List.countP_le_length) (by simp; omega)
    have ms : (f.length - (i + 1) : Int).toNat < (f.length - i : Int).toNat := by omega
    refine ⟨gs, _, g3.1, fun _ => gs, _, _, _, fun _ => g3, _, fun _ => refLeads oq hp ot, fun hb => ?_, fun hb => ?_⟩
    · exact ⟨by unfold inI; omega, by unfold inI; omega, ⟨rfl, by omega, by omega, by rw [hs, if_pos hb]; omega⟩, ms⟩
    · exact ⟨by unfold inI; omega, ⟨rfl, by omega, by omega, by rw [hs, if_neg (by rw [hb]; simp)]; omega⟩, ms⟩
  · have hi : i = f.length := by have : ¬ i < w.n := by simpa using h
                                 omega
    rw [hi, Int.toNat_natCast, List.take_length] at hn
    rw [hn]; try rfl

theorem refOrdered {H : Hp} {w : Slc} {f : List Pt} {t : Int × Int} (hf : Rd 3 fD H w f) (of : okF f) (ot : okR t) :
    Go.Eng.Fn Tryz.prog F.pelotonref03_Ordered #[vFd w, raW t] H fun v H' => ∃ u : Slc, v = u.v ∧ Hp.le H H' ∧ Mine 1 fI T.int H H' u (ordM f t) := by
  have lf := of.small
  have ln := hf.len
  have hid := okF_ids of
  refine pelotonref03_Ordered_vc ⟨⟨rfl, by omega, by omega⟩, fun b5 H6 hb5 hH6 => ?_⟩
  have m5 := made_mine (g := fun x => Value.int .i64 x) (e := 3) hfI (n := (w.n : Int)) (z := 0) hb5 hH6 rfl
  rw [Int.toNat_natCast] at m5 ⊢
  have l6 : Hp.le H H6 := Hp.le_new (Hp.le_refl _) hb5 hH6
  refine uptoH (N := (w.n : Int)) (J := fun i H' => Hp.le H H' ∧ ∃ ys : List Int, Mine 1 fI 3 H H' ⟨some ⟨b5, 0, none⟩, w.n, w.n⟩ ys ∧ ys.length = w.n ∧ ∀ p ∈ f.take i.toNat, ys[rankM f p t]? = some p.1) (by omega)
    ⟨l6, _, m5, by simp, fun p hp => by simp at hp⟩ fun i H10 h0 h1 ⟨l10, ys, j2, j3, j4⟩ => ⟨fun hi => ?_, fun hi => ?_⟩
  · have hi : i < f.length := by have : i < w.n := by simpa using hi
                                 omega
    have hg := getX (d := ((0 : Int), (0 : Int), (0 : Int))) h0 hi
    have gs := hf.inS h0 hi
    have g3 := (hf.le l10).gD h0 hi
    generalize f.getD i.toNat (0, 0, 0) = q at hg g3
    have hq := List.mem_of_getElem? hg
    obtain ⟨r1, r2⟩ := ordM_at (t := t) hid hq
    refine ⟨gs, _, _, _, g3, _, refRanked (hf.le l10) of (of.each q hq) ot, gs, _, g3.1, ⟨by omega, by omega, rfl⟩, j2.setI (by omega) (by omega) _ fun H' m' ch => uptoH.nx h0 (by omega) (by omega) ⟨Hp.le_chg l10 ch m'.isNew, _, m', by simpa using j3, fun p hp => ?_⟩⟩
    rw [show (i + 1).toNat = i.toNat + 1 by omega, take_succ hg] at hp
    rw [List.getElem?_set, Int.toNat_natCast]
    by_cases e : rankM f q t = rankM f p t
    · rw [if_pos e, if_pos (by omega)]
      have hpf : p ∈ f := by
        rcases List.mem_append.1 hp with hp | hp
        · exact List.mem_of_mem_take hp
        · simp at hp; subst hp; exact hq
      have a1 := (ordM_at (t := t) hid hpf).2
      rw [← e, r2] at a1
      exact a1
    · rw [if_neg e]
      rcases List.mem_append.1 hp with hp | hp
      · exact j4 p hp
      · simp at hp; subst hp; exact absurd rfl e
  · have hi : i = w.n := by have : ¬ i < w.n := by simpa using hi
                            omega
    subst hi
    rw [Int.toNat_natCast, ln, List.take_length] at j4
    have e : ys = ordM f t := ordM_of hid (by omega) j4
    subst e
    exact ⟨_, rfl, l10, j2⟩
end Go.Proofs.YtkemdpobjaiolaaGreat
end
