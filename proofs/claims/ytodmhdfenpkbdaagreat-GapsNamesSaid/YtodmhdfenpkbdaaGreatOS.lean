/- slices.SortFunc on points. Conditions: none. -/
import Derived.Test.YtodmhdfenpkbdaaGreatOR
import Derived.Test.YtodmhdfenpkbdaaGreatSL
import Derived.Test.YtodmhdfenpkbdaaGreatVgBase
import Derived.Test.YtodmhdfenpkbdaaGreatFs
set_option linter.unusedVariables false
set_option maxRecDepth 100000
open Go Go.Eng Go.Proofs
open Go.Shelf Go.RowKit Go.Lib Go.Sort
namespace Go.Proofs.YtodmhdfenpkbdaaGreat

/-- Where what is known is left alone, the world has grown, no more. -/
theorem _root_.Go.Eng.Tr.grown {w w' : World} {H H' : Hp} (hv : View w H) (ht : Tr w H w' H') (hl : Hp.le H H') : ∃ q os, w' = grow (w.drewN q) os := by
  refine ⟨w'.drawn - w.drawn, w'.heap.extract w.heap.size w'.heap.size, ?_⟩
  have hd := ht.drawn
  have hh : w'.heap = w.heap ++ w'.heap.extract w.heap.size w'.heap.size := by
    apply Array.ext_getElem?
    intro k
    have hs := ht.size
    rw [Array.getElem?_append]
    split
    · rename_i hk
      cases hx : H k with
      | none => exact ht.frame k hk hx
      | some o => rw [ht.view k o (hl k o hx), hv k o hx]
    · rename_i hk
      rw [Array.getElem?_extract]
      split
      · congr 1; omega
      · exact Array.getElem?_eq_none (by omega)
  have h1 := ht.os; have h2 := ht.tape; have h3 := ht.output
  unfold grow World.drewN
  cases w; cases w'
  simp only at hh hd h1 h2 h3 ⊢
  subst h1; subst h2; subst h3
  rw [← hh]
  congr 1
  omega

def cfP (t : Int × Int) (p q : Pt) : Int := if p.1 = q.1 then 0 else if leads p q t = true then -1 else 1
theorem closureSort {H : Hp} {p q : Pt} {t : Int × Int} {ab : Addr} (ht : okR t) (h0 : H.at (ab.add 0) = some (.int .i64 t.1)) (h1 : H.at (ab.add 1) = some (.int .i64 t.2)) (hp : okP p) (hq : okP q) :
    Qf Tryz.prog F.field_sorted_1 #[sI3 p.1 p.2.1 p.2.2, sI3 q.1 q.2.1 q.2.2, .pointer (some ab)] H (.int .i64 (cfP t p q)) := by
  refine field_sorted_1_vc ⟨fun h => ⟨?_, Hp.le_refl _⟩, fun h => ?_⟩
  · have h : p.1 = q.1 := by simpa using h
    unfold cfP; rw [if_pos h]
  · have h : p.1 ≠ q.1 := by simpa using h
    have e : aheadM p q t = (leads p q t, 0) := by unfold aheadM; rw [if_pos (twoM_zero.2 ⟨hp, hq, ht, h⟩)]
    refine ⟨_, _, ⟨h0, h1⟩, _, _, courseAhead ht.fit, ?_⟩
    rw [e]
    refine ⟨fun k => ⟨?_, Hp.le_refl _⟩, fun k => ⟨?_, Hp.le_refl _⟩⟩
    · have k : leads p q t = true := k
      unfold cfP; rw [if_neg h, if_pos k]
    · have k : leads p q t = false := k
      unfold cfP; rw [if_neg h, if_neg (by rw [k]; simp)]

section
variable {f : List Pt} {t : Int × Int}
abbrev PtIn (f : List Pt) := {p : Pt // p ∈ f}
def encIn (x : PtIn f) : List Value := fD x.1
def cfIn (t : Int × Int) (x y : PtIn f) : Int := cfP t x.1 y.1
theorem ids_eq (hi : f.Pairwise fun p q => p.1 ≠ q.1) {x y : PtIn f} (h : x.1.1 = y.1.1) : x = y := by
  obtain ⟨i, hx⟩ := List.mem_iff_getElem?.1 x.2
  obtain ⟨j, hy⟩ := List.mem_iff_getElem?.1 y.2
  obtain ⟨i1, i2⟩ := List.getElem?_eq_some_iff.1 hx
  obtain ⟨j1, j2⟩ := List.getElem?_eq_some_iff.1 hy
  have hp := List.pairwise_iff_getElem.1 hi
  rcases Nat.lt_trichotomy i j with k | k | k
  · exact absurd (by rw [i2, j2]; exact h) (hp i j i1 j1 k)
  · subst k; rw [i2] at j2; exact Subtype.ext j2
  · exact absurd (by rw [i2, j2]; exact h.symm) (hp j i j1 i1 k)
theorem lt_in (hi : f.Pairwise fun p q => p.1 ≠ q.1) (x y : PtIn f) : ltOf (cfIn t) x y = leads x.1 y.1 t := by
  unfold ltOf cfIn cfP
  split
  · rename_i h
    have := ids_eq hi h
    subst this
    rw [leads_irrefl]; simp
  · cases h : leads x.1 y.1 t <;> simp
theorem swo_in (hi : f.Pairwise fun p q => p.1 ≠ q.1) : SWO (ltOf (cfIn (f := f) t)) where
  irrefl x := by rw [lt_in hi, leads_irrefl]
  trans x y z h1 h2 := by rw [lt_in hi] at *; exact leads_trans h1 h2
  ntrans x y z h1 h2 := by
    rw [lt_in hi, Bool.eq_false_iff, ne_eq, leads_iff] at *
    omega
theorem tot_in (hi : f.Pairwise fun p q => p.1 ≠ q.1) (x y : PtIn f) (h1 : ltOf (cfIn t) x y = false) (h2 : ltOf (cfIn t) y x = false) : x = y := by
  rw [lt_in hi] at h1 h2
  by_cases e : x.1.1 = y.1.1
  · exact ids_eq hi e
  · rcases leads_total (t := t) e with h | h
    · rw [h] at h1; cases h1
    · rw [h] at h2; cases h2

theorem heap_sortWorld [Inhabited (PtIn f)] {w : World} {b k m : Nat} {d : Array (PtIn f)} {os : Array Obj} (hk : k < w.heap.size) :
    (sortWorldK encIn 3 w b 0 m d os).heap[k]? = (w.heap.modify b (onCells (putCells id 0 (flatK encIn 3 d))))[k]? := by
  unfold sortWorldK putRowK putRow mapBlock
  rw [heap_grow_old _ _ (by simpa using hk)]
  rfl
theorem cmpIn [Inhabited (PtIn f)] (hf : ∀ p ∈ f, okP p) (ht : okR t) {w : World} {b b1 size : Nat} {T : TypeId} (hb1 : w.heap[b1]? = some (.cells #[.int .i64 t.1, .int .i64 t.2] T (0, 0))) (hne : b1 ≠ b) :
    CmpLays Tryz.prog F.field_sorted_1 #[.pointer (some ⟨b1, 0, none⟩)] encIn 3 (cfIn (f := f) t) b 0 size w := by
  intro m os dk hs x y
  have hlt : b1 < w.heap.size := (Array.getElem?_eq_some_iff.1 hb1).1
  have hW : (sortWorldK encIn 3 w b 0 m dk os).heap[b1]? = some (.cells #[.int .i64 t.1, .int .i64 t.2] T (0, 0)) := by
    rw [heap_sortWorld hlt, Array.getElem?_modify, if_neg (Ne.symm hne)]; exact hb1
  generalize sortWorldK encIn 3 w b 0 m dk os = W at hW ⊢
  have hv : View W (Hp.put (fun _ => none) b1 (.cells #[.int .i64 t.1, .int .i64 t.2] T (0, 0))) := fun c o hc => by
    unfold Hp.put at hc
    split at hc
    · rename_i e; subst e; cases hc; exact hW
    · cases hc
  refine (closureSort (H := Hp.put (fun _ => none) b1 (.cells #[.int .i64 t.1, .int .i64 t.2] T (0, 0))) (ab := ⟨b1, 0, none⟩) ht (by simp [Hp.at, Hp.put, Addr.add]) (by simp [Hp.at, Hp.put, Addr.add]) (hf _ x.2) (hf _ y.2) W hv).mono fun e w' ⟨v, H', he, tr, hv', hl⟩ => ?_
  subst hv'
  exact ⟨he, tr.grown hv hl⟩
end
theorem aggPt : ∀ w, (isAgg (Tryz.sortPt_ren.t 24)).run Tryz.prog w = .ok true w := fun w => by
  rw [Go.Eng.run_isAgg (t := Tryz.sortPt_ren.t 24) (P := Tryz.prog) (x := (Tryz.prog.underlying 97).getD (.struct #[])) (by kernel_rfl)]
  exact congrArg (fun b => Result.ok b w) (show aggT Tryz.prog (Tryz.sortPt_ren.t 24) = true by kernel_rfl)
theorem sizePt : ∀ w, (Go.sizeOf (Tryz.sortPt_ren.t 24)).run Tryz.prog w = .ok 3 w := fun w => by
  rw [Go.Eng.run_sizeOf (t := Tryz.sortPt_ren.t 24) (P := Tryz.prog) (x := (Tryz.prog.underlying 97).getD (.struct #[])) (by kernel_rfl)]
  exact congrArg (fun b => Result.ok b w) (show Tryz.prog.cellsOf (Tryz.sortPt_ren.t 24) = 3 by kernel_rfl)

theorem Mine.sepAddr {α : Type} {k : Nat} {g : α → List Value} {e : TypeId} {H0 H : Hp} {u : Slc} {xs : List α} (h : Mine k g e H0 H u xs) {b1 : Nat} (hb : H0 b1 ≠ none) : ∀ p, u.a = some p → p.block ≠ b1 := by
  intro p hp e1
  have := h.isNew p hp
  rw [e1] at this; exact hb this

set_option maxHeartbeats 2000000 in
theorem sortPts {H0 H : Hp} {u : Slc} {f : List Pt} {t : Int × Int} {b1 : Nat} {e T : TypeId} (of : okF f) (ht : okR t) (hu : Mine 3 fD e H0 H u f) (hb1 : H b1 = some (.cells #[.int .i64 t.1, .int .i64 t.2] T (0, 0))) (hs : ∀ p, u.a = some p → p.block ≠ b1) :
    Go.Eng.Fn Tryz.prog 295 #[u.v, .func (.func F.field_sorted_1) #[] #[.pointer (some ⟨b1, 0, none⟩)]] H fun v H' => v = .tuple #[] ∧ Mine 3 fD e H0 H' u (sortM f t) ∧ Chg H H' u := by
  have hi := okF_ids of
  have hlen := hu.rdD.len
  by_cases hne : f = []
  · subst hne
    intro w hv
    have hn : u.n = 0 := by simpa using hlen
    rw [show u.v = .slice u.a 0 u.c by unfold Slc.v; rw [hn]]
    refine (AnyF.slices_SortFunc_none Tryz.sortPt u.a u.c _ w).mono fun e1 w' ⟨he, hw⟩ => ⟨_, H, he, by rw [hw]; exact Tr.refl hv, rfl, ?_, fun _ _ _ => rfl⟩
    exact hu
  obtain ⟨p0, hp0⟩ := List.exists_mem_of_ne_nil f hne
  haveI : Inhabited (PtIn f) := ⟨⟨p0, hp0⟩⟩
  rcases hu with ⟨_, h⟩ | ⟨b, hb0, own⟩
  · exact absurd h hne
  obtain ⟨cs, hcs, hsz, htake⟩ := own.cells
  have hba := own.blk
  have hcap := own.cap
  intro w hv
  have hw := hv b _ hcs
  have hblk : b < w.heap.size := (Array.getElem?_eq_some_iff.1 hw).1
  have hb1w := hv b1 _ hb1
  have hbb : b1 ≠ b := fun e1 => hs _ hba e1.symm
  have hds : f.attach.toArray.size = f.length := by simp
  have hbig : f.length < 4611686018427387904 := by have := of.small; omega
  have hcell : ∀ j, j < f.length * 3 → cs[j]? = (f.flatMap fD)[j]? := fun j hj => by
    rw [← htake, List.getElem?_take, if_pos hj]; simp
  have hfl : ∀ (s : List Pt) (dd : Array (PtIn f)), dd.toList.map (·.1) = s → ∀ j, j < s.length * 3 → (s.flatMap fD)[j]? = some (flatK encIn 3 dd)[j]! := fun s dd hdd j hj => by
    have hl : dd.size = s.length := by rw [← hdd]; simp
    have hq : j / 3 < s.length := Nat.div_lt_of_lt_mul (by omega)
    have hg : s[j / 3]? = some (dd[j / 3]!).1 := by
      rw [← hdd, List.getElem?_map, getElem!_pos dd (j / 3) (by omega)]
      simp [show j / 3 < dd.size by omega]
    rw [get_flatK _ _ _ _ (by omega)]
    have hm : (fD (dd[j / 3]!).1)[j % 3]? = some ((encIn dd[j / 3]!)[j % 3]!) := by
      have h3 : j % 3 < (fD (dd[j / 3]!).1).length := Nat.mod_lt _ (by omega)
      show _ = some ((fD (dd[j / 3]!).1)[j % 3]!)
      rw [getElem!_pos (fD (dd[j / 3]!).1) (j % 3) h3]
      exact List.getElem?_eq_getElem h3
    have := flatMap_get (k := 3) (f := fD) (fun _ => rfl) hg hm
    rwa [Nat.div_add_mod' j 3] at this
  have hatt : f.attach.toArray.toList.map (·.1) = f := by show f.attach.map Subtype.val = f; exact List.attach_map_subtype_val f
  have hH : HoldsK encIn 3 w b 0 f.attach.toArray := by
    intro j hj
    rw [size_flatK, hds] at hj
    have h1 := hfl f f.attach.toArray hatt j hj
    rw [Nat.zero_add]
    refine ⟨?_, ?_⟩
    · unfold World.cell?
      simp only [hw]
      show cs[j]? = _
      rw [hcell j hj, h1]; rfl
    · unfold World.frozen?
      simp only [hw]
      simp
  have hcmp := cmpIn (f := f) (t := t) (b := b) (size := f.attach.toArray.size) (fun p hp => of.each p hp) ht hb1w hbb
  have eg : ∀ args w, (callFunc F.field_sorted_1 args).run Tryz.prog w = .ok (.enter F.field_sorted_1 args) w := enters_of Tryz.func296 (by kernel_rfl) rfl
  have hcon := AnyQ.slices_SortFunc_total Tryz.sortPt 3 aggPt sizePt encIn (fun _ => rfl) (fun x v hv => fD_one x.1 v hv) (cfIn t) (swo_in hi) F.field_sorted_1 #[.pointer (some ⟨b1, 0, none⟩)] b 0 u.c f.attach.toArray w eg hcmp hH hblk (by rw [hds]; exact hbig) (tot_in hi)
  rw [hds] at hcon
  rw [show u.v = .slice (some ⟨b, 0, none⟩) f.length u.c by unfold Slc.v; rw [hba, hlen]]
  refine hcon.mono fun e1 w' ⟨he, n, os, hw'⟩ => ?_
  -- the list that came out
  generalize hS : (f.attach.toArray.toList.mergeSort fun x y => !(ltOf (cfIn t)) y x) = S at hw'
  have hs1 : S.Perm f.attach.toArray.toList := by rw [← hS]; exact List.mergeSort_perm _ _
  have hso : Sorted f t (S.map (·.1)) := by
    have hpm := hs1.map (fun x : PtIn f => x.1)
    rw [hatt] at hpm
    refine Sorted.of hi hpm ?_
    rw [List.pairwise_map]
    have := List.pairwise_mergeSort (le := fun x y : PtIn f => !(ltOf (cfIn t)) y x) (fun a b c h1 h2 => ?_) (fun a b => ?_) f.attach.toArray.toList
    · rw [hS] at this
      refine this.imp fun h => ?_
      rw [lt_in hi] at h; simpa using h
    · rw [lt_in hi] at *
      simp only [Bool.not_eq_true', Bool.eq_false_iff, ne_eq, leads_iff] at *
      omega
    · rw [lt_in hi, lt_in hi]
      cases h : leads b.1 a.1 t with
      | false => rfl
      | true => simp [leads_asymm h]
  have hse : S.map (·.1) = sortM f t := hso.eq (sortM_sorted hi t) hi
  have hSl : S.length = f.length := by have := hs1.length_eq; simpa using this
  have hdS : S.toArray.toList.map (·.1) = sortM f t := by rw [← hse]
  have hcsz : (putCells id 0 (flatK encIn 3 S.toArray) cs).size = cs.size := by simp [putCells]
  have hnew : ∀ k, k < w.heap.size → w'.heap[k]? = if k = b then some (.cells (putCells id 0 (flatK encIn 3 S.toArray) cs) e (0, 0)) else w.heap[k]? := fun k hk => by
    rw [hw', heap_sortWorld hk, Array.getElem?_modify]
    split
    · rename_i e2; subst e2; rw [if_pos rfl, hw]; rfl
    · rename_i e2; rw [if_neg (fun e3 => e2 e3.symm)]
  have hsize : w.heap.size ≤ w'.heap.size := by
    rw [hw']; unfold sortWorldK putRowK; rw [size_grow, size_putRow]; exact Nat.le_add_right _ _
  refine ⟨_, Hp.put H b (.cells (putCells id 0 (flatK encIn 3 S.toArray) cs) e (0, 0)), he, ⟨fun k o hk => ?_, fun k hk hn => ?_, fun k hk => ?_, hsize, by rw [hw']; rfl, by rw [hw']; rfl, by rw [hw']; rfl, by rw [hw']; show w.drawn ≤ w.drawn + n; omega⟩, rfl, .inr ⟨b, hb0, ?_⟩, fun k hk hp => ?_⟩
  · unfold Hp.put at hk
    split at hk
    · rename_i e2; subst e2; cases hk; rw [hnew k hblk, if_pos rfl]
    · rename_i e2
      have h0 := hv k o hk
      rw [hnew k (Array.getElem?_eq_some_iff.1 h0).1, if_neg e2]; exact h0
  · rw [hnew k hk, if_neg (fun e2 => by subst e2; rw [hcs] at hn; cases hn)]
  · unfold Hp.put at hk
    split at hk
    · rename_i e2; subst e2; left; rw [hcs]; simp
    · exact .inl hk
  · refine ⟨by rw [sortM_len]; exact own.len, own.cap, own.blk, putCells id 0 (flatK encIn 3 S.toArray) cs, by simp [Hp.put], by rw [hcsz]; exact hsz, ?_⟩
    refine List.ext_getElem? fun j => ?_
    have hl1 : (sortM f t).length = f.length := sortM_len f t
    rw [List.getElem?_take]
    split
    · rename_i hj
      rw [hfl _ S.toArray hdS j hj]
      have hjc : j < cs.size := by
        rw [hsz]; rw [hl1] at hj
        have := own.len; have : f.length * 3 ≤ u.c * 3 := Nat.mul_le_mul_right 3 (by omega)
        omega
      rw [Array.getElem?_toList]
      unfold putCells
      rw [Array.getElem?_mapIdx, Array.getElem?_eq_getElem hjc, Option.map_some, if_pos ⟨Nat.zero_le _, by rw [size_flatK]; simp [hSl]; rw [hl1] at hj; omega⟩]
      simp
    · rename_i hj
      exact (List.getElem?_eq_none (by rw [flatMap_len (k := 3) (fun _ => rfl)]; omega)).symm
  · rw [Hp.put_ne]
    intro e2; subst e2; exact hp _ hba rfl
end Go.Proofs.YtodmhdfenpkbdaaGreat
