/- The engine, parts Q1, Q2, Q3, Q4, Q5, Q6, Q7, put together. Conditions: none. -/
import Derived.Test.YtkemdpobjaiolaaGreatPP1
import Derived.Test.YtkemdpobjaiolaaGreatPQ4
import Derived.Test.YtkemdpobjaiolaaGreatPO1
import Derived.Test.YtkemdpobjaiolaaGreatNV
import Derived.Test.YtkemdpobjaiolaaGreatPN1
import Derived.Test.YtkemdpobjaiolaaGreatFA
import Derived.Test.YtkemdpobjaiolaaGreatVgClose
import Derived.Test.YtkemdpobjaiolaaGreatFs
import Derived.Test.YtkemdpobjaiolaaGreatPN2
import Derived.Test.YtkemdpobjaiolaaGreatPS1
import Derived.Test.YtkemdpobjaiolaaGreatPD1
import Derived.Test.YtkemdpobjaiolaaGreatP4
import Derived.Test.YtkemdpobjaiolaaGreatVgKlist
import Derived.Test.YtkemdpobjaiolaaGreatPM4
import Derived.Test.YtkemdpobjaiolaaGreatVgLCloseTells
set_option linter.unusedVariables false
section
/- Closest pairs: looking at a field; the pair of two points. Conditions: none. -/
set_option maxRecDepth 100000
open Go Go.Eng Go.Proofs
namespace Go.Proofs.YtkemdpobjaiolaaGreat

theorem neN {x : Int} (h : (x != 0) = true) : x ≠ 0 := by simpa using h
theorem eqN {x : Int} (h : (x != 0) = false) : x = 0 := by simpa using h
def spots (f : List Pt) (t : Int × Int) (n : Nat) : List (Int × Int) := (List.range n).map fun k => (spot f t k).1
theorem spots_len {f : List Pt} {t : Int × Int} {n : Nat} : (spots f t n).length = n := by unfold spots; simp
theorem spots_get {f : List Pt} {t : Int × Int} {n k : Nat} (h : k < n) : (spots f t n).getD k (0, 0) = (spot f t k).1 := by
  unfold spots
  rw [List.getD_eq_getElem?_getD, List.getElem?_map, List.getElem?_range h]; rfl
theorem spots_succ {f : List Pt} {t : Int × Int} {n : Nat} : spots f t (n + 1) = spots f t n ++ [(spot f t n).1] := by
  unfold spots; rw [List.range_succ, List.map_append]; rfl
structure Seen (H : Hp) (f : List Pt) (t : Int × Int) (a b : Slc) (e : Int) : Prop where
  e : e = if toldF f t f.length then 0 else 16
  ids : toldF f t f.length → RdI H a (ordM f t)
  at_ : toldF f t f.length → Rd 2 fH H b (spots f t f.length)
theorem Seen.le {H H' : Hp} {f : List Pt} {t : Int × Int} {a b : Slc} {e : Int} (s : Seen H f t a b e) (h : Hp.le H H') : Seen H' f t a b e := ⟨s.e, fun x => (s.ids x).le h, fun x => (s.at_ x).le h⟩
set_option maxHeartbeats 1000000 in
theorem lookV {H : Hp} {w : Slc} {f : List Pt} {t : Int × Int} (hf : Rd 3 fD H w f) (of : okF f) (ot : okR t) :
    Go.Eng.Fn Tryz.prog F.close_look #[vFd w, raW t] H fun v H' => ∃ (a b : Slc) (e : Int), v = .tuple #[.agg #[a.v, b.v], .int .i64 e] ∧ Hp.le H H' ∧ Seen H' f t a b e := by
  have sm := of.small
  have q := fieldOrder hf ot.fit
  rw [show orderM f t = (ordM f t, 0) by unfold orderM; rw [if_pos (timedF_zero.2 ⟨of, ot⟩)]] at q
  refine close_look_vc (q.mono fun v H2 ⟨a, hv, l2, m⟩ => ⟨a, _, hv, ?_⟩)
  have m : Mine 1 fI T.int H H2 a (ordM f t) := m
  have an : (a.n : Int) = f.length := by have := m.rdI.len; rw [ordM_len] at this; omega
  rw [an]
  refine ⟨fun n u8 u9 H' => ∃ k : Nat, n = k ∧ k ≤ f.length ∧ u8 = a ∧ toldF f t k ∧ Hp.le H2 H' ∧ Mine 2 fH 23 H2 H' u9 (spots f t k), fun n _ _ _ => (f.length - n).toNat, ⟨0, rfl, by omega, rfl, fun k hk => by omega, Hp.le_refl _, .inl ⟨rfl, rfl⟩⟩, ?_⟩
  rintro n7 u8 u9 H10 ⟨k, rfl, hk, rfl, tk, l10, m10⟩
  refine ⟨fun hn => ?_, fun hn => ?_⟩
  · have hn : k < f.length := by have := of_decide_eq_true hn; omega
    have r10 := m.rdI.le l10
    have gk := RdI.get (i := (k : Int)) r10 (by omega) (by rw [ordM_len]; omega)
    rw [Int.toNat_natCast, sP_ordD hn] at gk
    have qf := fieldFind (id := (sP f t k).1) (hf.le (Hp.le_trans l2 l10)) of (posF_yes (sP_mem hn))
    rw [sP_find of hn] at qf
    have qa := courseAt (H := H10) (p := sP f t k) ot.fit
    refine ⟨r10.inS (by omega) (by rw [ordM_len]; omega), _, gk, _, _, _, _, qf, _, _, _, qa, fun he => ?_, fun he => ?_⟩
    · have he : (spot f t k).2 ≠ 0 := neN he
      have nt : ¬ toldF f t f.length := fun h => he (h k hn)
      have e16 : (spot f t k).2 = 16 := (spot_err of ot hn).resolve_left he
      exact ⟨zs, zs, _, rfl, Hp.le_trans l2 l10, ⟨by rw [if_neg nt]; exact e16, fun h => absurd h nt, fun h => absurd h nt⟩⟩
    · have he : (spot f t k).2 = 0 := eqN he
      refine fun b19 H20 hb hH => (append1 (k := 2) (f := fH) (bytes := 16) (x := (spot f t k).1) (by kernel_rfl) (by decide) (fun _ => rfl) fH_one l10 m10 hb hH rfl (by rw [spots_len]; omega) (by omega)).mono fun v H22 ⟨u, hu, l22, m22, _, _⟩ => ⟨u, hu, by unfold inI; omega, ⟨k + 1, by omega, by omega, rfl, fun j hj => ?_, l22, by rw [spots_succ]; exact m22⟩, ?_⟩
      · by_cases h : j < k
        · exact tk j h
        · rw [show j = k by omega]; exact he
      · show ((f.length : Int) - ((k : Int) + 1)).toNat < ((f.length : Int) - (k : Int)).toNat; omega
  · have hn : k = f.length := by have := of_decide_eq_false hn; omega
    subst hn
    exact ⟨u8, u9, 0, rfl, Hp.le_trans l2 l10, ⟨by rw [if_pos tk], fun _ => m.rdI.le l10, fun _ => Mine.rd (fun _ => rfl) m10⟩⟩
def duoM (f : List Pt) (t : Int × Int) (i k : Nat) : Pr × Int := if (gapD f t i k).2 = 0 then (prM f t i k, 0) else (zPr, (gapD f t i k).2)
theorem min_if {a b : Int} : (if b < a then b else a) = min a b := by rw [Int.min_def]; split <;> split <;> omega
theorem max_if {a b : Int} : (if b > a then b else a) = max a b := by rw [Int.max_def]; split <;> split <;> omega
theorem pairV {H : Hp} {f : List Pt} {t : Int × Int} {a b : Slc} {I K : Int} {i k : Nat} (eI : I = i) (eK : K = k) (of : okF f) (ot : okR t) (hi : i < f.length) (hk : k < f.length) (T : toldF f t f.length) (ra : RdI H a (ordM f t)) (rb : Rd 2 fH H b (spots f t f.length)) :
    Qf Tryz.prog F.close_points_pair #[.agg #[a.v, b.v], .int .i64 I, .int .i64 K] H (.tuple #[prV (duoM f t i k).1, .int .i64 (duoM f t i k).2]) := by
  subst eI; subst eK
  obtain ⟨_, _, _, _, oi⟩ := spot_ok of ot hi (T i hi)
  obtain ⟨_, _, _, _, ok⟩ := spot_ok of ot hk (T k hk)
  have g1 := rb.gH (i := (i : Int)) (by omega) (by rw [spots_len]; omega)
  have g2 := rb.gH (i := (k : Int)) (by omega) (by rw [spots_len]; omega)
  rw [Int.toNat_natCast, spots_get hi] at g1
  rw [Int.toNat_natCast, spots_get hk] at g2
  have i1 := RdI.get (i := (i : Int)) ra (by omega) (by rw [ordM_len]; omega)
  have i2 := RdI.get (i := (k : Int)) ra (by omega) (by rw [ordM_len]; omega)
  rw [Int.toNat_natCast, sP_ordD hi] at i1
  rw [Int.toNat_natCast, sP_ordD hk] at i2
  have s1 := ra.inS (i := (i : Int)) (by omega) (by rw [ordM_len]; omega)
  have s2 := ra.inS (i := (k : Int)) (by omega) (by rw [ordM_len]; omega)
  have q := ratioSub (H := H) oi ok
  refine close_points_pair_vc ⟨rb.inS (by omega) (by rw [spots_len]; omega), _, _, g1, rb.inS (by omega) (by rw [spots_len]; omega), _, _, g2, _, _, _, q, fun he => ?_, fun he => ⟨s1, _, i1, s2, _, i2, s1, _, i1, s2, _, i2, ?_⟩⟩
  · have he : (gapD f t i k).2 ≠ 0 := neN he
    unfold duoM; rw [if_neg he]; exact ⟨rfl, Hp.le_refl _⟩
  · have he : (gapD f t i k).2 = 0 := eqN he
    unfold duoM; rw [if_pos he, min_if, max_if]; exact ⟨rfl, Hp.le_refl _⟩

theorem fPr_one : ∀ (x : Pr), ∀ v ∈ fPr x, v.oneCell' = true := fun x v hv => by
  simp [fPr] at hv
  rcases hv with rfl | rfl | rfl | rfl <;> rfl
theorem nearM_no {f : List Pt} {t : Int × Int} (h : ¬ (toldF f t f.length ∧ nearT f t)) : nearM f t = ([], 16) := if_neg h
theorem nearM_yes {f : List Pt} {t : Int × Int} (h : toldF f t f.length ∧ nearT f t) : nearM f t = (sortP (nearP f t), 0) := if_pos h
theorem nearP_len {f : List Pt} {t : Int × Int} : (nearP f t).length = f.length - 1 := by unfold nearP nbrP; simp
theorem nbrP_len {α : Type} {D : Nat → Nat → α} {n : Nat} : (nbrP D n).length = n := by unfold nbrP; simp
theorem duoM_ok {f : List Pt} {t : Int × Int} {i k : Nat} (h : (gapD f t i k).2 = 0) : duoM f t i k = (prM f t i k, 0) := if_pos h
theorem duoM_err {f : List Pt} {t : Int × Int} {i k : Nat} : (duoM f t i k).2 = (gapD f t i k).2 := by
  unfold duoM; split
  · rename_i h; rw [h]
  · rfl
set_option maxHeartbeats 2000000 in
theorem neighV {H : Hp} {w : Slc} {f : List Pt} {t : Int × Int} (hf : Rd 3 fD H w f) (of : okF f) (ot : okR t) :
    Go.Eng.Fn Tryz.prog F.close_neighbours #[vFd w, raW t] H fun v H' => ∃ u : Slc, v = .tuple #[u.v, .int .i64 (nearM f t).2] ∧ Hp.le H H' ∧ Mine 4 fPr 76 H H' u (nearM f t).1 := by
  have sm := of.small
  refine close_neighbours_vc ((lookV hf of ot).mono fun v H2 ⟨a, b, e, hv, l2, sn⟩ => ⟨a, b, e, hv, fun he => ?_, fun he => ?_⟩)
  · have he := neN he
    have nt : ¬ toldF f t f.length := fun h => he (by rw [sn.e, if_pos h])
    have e16 : e = 16 := by rw [sn.e, if_neg nt]
    rw [nearM_no fun h => nt h.1, e16]
    exact ⟨zs, rfl, l2, .inl ⟨rfl, rfl⟩⟩
  have he := eqN he
  have T : toldF f t f.length := by
    by_cases h : toldF f t f.length
    · exact h
    · have := sn.e; rw [if_neg h, he] at this; cases this
  have W : Told f t := ⟨of, ot, T⟩
  have an : (a.n : Int) = f.length := by have := (sn.ids T).len; rw [ordM_len] at this; omega
  rw [an]
  refine ⟨fun u n H' => ∃ k : Nat, n = (k : Int) + 1 ∧ k + 1 ≤ max 1 f.length ∧ (∀ j, j < k → (gapD f t j (j + 1)).2 = 0) ∧ Hp.le H2 H' ∧ Mine 4 fPr 76 H2 H' u (nbrP (prM f t) k), fun _ n _ => (f.length - n).toNat, ⟨0, rfl, by omega, fun j hj => by omega, Hp.le_refl _, .inl ⟨rfl, rfl⟩⟩, ?_⟩
  rintro u8 n9 H10 ⟨k, rfl, hk, gk, l10, m10⟩
  refine ⟨fun hn => ?_, fun hn => ?_⟩
  · have hn : k + 1 < f.length := by have := of_decide_eq_true hn; omega
    have q := pairV (H := H10) (I := (k : Int) + 1 - 1) (K := (k : Int) + 1) (i := k) (k := k + 1) (by omega) (by omega) of ot (by omega) hn T ((sn.ids T).le l10) ((sn.at_ T).le l10)
    refine ⟨by unfold inI; omega, _, _, _, _, _, q, fun hx => ?_, fun hx => ?_⟩
    · have hx := neN hx
      rw [duoM_err] at hx ⊢
      have nn : ¬ nearT f t := fun h => hx (h k (by omega))
      rw [nearM_no fun h => nn h.2, (W.err (by omega) hn).resolve_left hx]
      exact ⟨zs, rfl, Hp.le_trans l2 l10, .inl ⟨rfl, rfl⟩⟩
    · have hx := eqN hx
      rw [duoM_err] at hx
      rw [duoM_ok hx]
      refine fun b16 H17 hb hH => (append1 (k := 4) (f := fPr) (bytes := 32) (x := prM f t k (k + 1)) (by kernel_rfl) (by decide) (fun _ => rfl) fPr_one l10 m10 hb hH rfl (by rw [nbrP_len]; omega) (by omega)).mono fun v H19 ⟨u, hu, l19, m19, _, _⟩ => ⟨u, hu, by unfold inI; omega, ⟨k + 1, by omega, by omega, fun j hj => ?_, l19, by rw [nbrP_succ]; exact m19⟩, ?_⟩
      · by_cases h : j < k
        · exact gk j h
        · rw [show j = k by omega]; exact hx
      · show ((f.length : Int) - ((k : Int) + 1 + 1)).toNat < ((f.length : Int) - ((k : Int) + 1)).toNat; omega
  · have hn : k = f.length - 1 := by have := of_decide_eq_false hn; omega
    subst hn
    have N : nearT f t := gk
    have hl := W.nearOk N
    rw [nearM_yes ⟨T, N⟩]
    refine (sortPairs (H0 := H2) hl m10 l10 (by rw [nearP_len]; omega)).mono fun v H22 ⟨hv, l22, m22, _⟩ => ⟨hv, u8, rfl, Hp.le_trans l2 l22, m22.low l2⟩
theorem Rd.gPr {H : Hp} {u : Slc} {xs : List Pr} {i : Int} {x : Pr} (h : Rd 4 fPr H u xs) (h0 : 0 ≤ i) (hx : xs[i.toNat]? = some x) :
    H.at (eaddr u.a 4 i) = some (.int .i64 x.1) ∧ H.at ((eaddr u.a 4 i).add 1) = some (.int .i64 x.2.1) ∧ H.at ((eaddr u.a 4 i).add 2) = some (.int .i64 x.2.2.1) ∧ H.at ((eaddr u.a 4 i).add 3) = some (.int .i64 x.2.2.2) :=
  ⟨h.at0 h0 hx rfl, h.atj h0 hx (j := 1) rfl, h.atj h0 hx (j := 2) rfl, h.atj h0 hx (j := 3) rfl⟩
structure Best (f : List Pt) (t : Int × Int) (i k : Nat) (B : Pr) : Prop where
  told : B ∈ toldAll f t
  near : ∀ p ∈ nearP f t, leR B.2.2 p.2.2
  rows : ∀ a b, a < i → a < b → b < f.length → (gapD f t a b).2 = 0 → clP (prM f t a b) B = false
  row : ∀ b, i < b → b < k → b < f.length → (gapD f t i b).2 = 0 → clP (prM f t i b) B = false
theorem Best.next {f : List Pt} {t : Int × Int} {i k : Nat} {B : Pr} (h : Best f t i k B) (hr : ∀ b, k ≤ b → b < f.length → (gapD f t i b).2 = 0 → clP (prM f t i b) B = false) : Best f t (i + 1) (i + 2) B := by
  refine ⟨h.told, h.near, fun a b ha hab hb hg => ?_, fun b h1 h2 => by omega⟩
  by_cases e : a = i
  · subst e
    by_cases hbk : b < k
    · exact h.row b hab hbk hb hg
    · exact hr b (by omega) hb hg
  · exact h.rows a b (by omega) hab hb hg
theorem Best.keep {f : List Pt} {t : Int × Int} {i k : Nat} {B : Pr} (h : Best f t i k B) (hc : clP (prM f t i k) B = false) : Best f t i (k + 1) B := by
  refine ⟨h.told, h.near, h.rows, fun b h1 h2 hb hg => ?_⟩
  by_cases e : b = k
  · subst e; exact hc
  · exact h.row b h1 (by omega) hb hg
theorem Best.take {f : List Pt} {t : Int × Int} (w : Told f t) (N : nearT f t) {i k : Nat} {B : Pr} (h : Best f t i k B) (hik : i < k) (hk : k < f.length) (hg : (gapD f t i k).2 = 0) (hc : clP (prM f t i k) B = true) : Best f t i (k + 1) (prM f t i k) := by
  have hp : prM f t i k ∈ toldAll f t := mem_toldAll.2 ⟨i, k, hik, hk, hg, rfl⟩
  have op := w.okPr _ hp
  have oB := w.okPr _ h.told
  have hBp := clP_asymm _ _ op oB hc
  have down : ∀ q, okPr q → clP q B = false → clP q (prM f t i k) = false := fun q oq hq => clP_tr _ _ _ op oB oq hBp hq
  refine ⟨hp, fun p hpn => ?_, fun a b ha hab hb hg' => down _ (w.okPr _ (mem_toldAll.2 ⟨a, b, hab, hb, hg', rfl⟩)) (h.rows a b ha hab hb hg'), fun b h1 h2 hb hg' => ?_⟩
  · exact leR_trans op oB (w.okPr _ (nearP_told N p hpn)) (clP_no.1 hBp).1 (h.near p hpn)
  · by_cases e : b = k
    · subst e; exact clP_irrefl _
    · exact down _ (w.okPr _ (mem_toldAll.2 ⟨i, b, h1, hb, hg', rfl⟩)) (h.row b h1 (by omega) hb hg')
set_option maxHeartbeats 4000000 in
theorem closestV {H : Hp} {w : Slc} {f : List Pt} {t : Int × Int} (hf : Rd 3 fD H w f) (of : okF f) (ot : okR t) :
    Qf Tryz.prog F.close_closest #[vFd w, raW t] H (.tuple #[prV (closestM f t).1, .int .i64 (closestM f t).2]) := by
  have sm := of.small
  have wn : (w.n : Int) = f.length := by have := hf.len; omega
  refine close_closest_vc ?_
  rw [wn]
  refine ⟨fun hl => ?_, fun hl => ?_⟩
  · have hl : f.length < 2 := by have := of_decide_eq_true hl; omega
    unfold closestM; rw [if_pos hl]; exact ⟨rfl, Hp.le_refl _⟩
  have hl : ¬ f.length < 2 := by have := of_decide_eq_false hl; omega
  refine (neighV hf of ot).mono fun v H2 ⟨u, hv, l2, m2⟩ => ⟨u, _, hv, fun he => ?_, fun he => ?_⟩
  · have he := neN he
    have nt : ¬ (toldF f t f.length ∧ nearT f t) := fun h => he (by rw [nearM_yes h])
    rw [nearM_no nt]
    unfold closestM; rw [if_neg hl, if_neg nt]; exact ⟨rfl, l2⟩
  have he := eqN he
  have TN : toldF f t f.length ∧ nearT f t := by
    by_cases h : toldF f t f.length ∧ nearT f t
    · exact h
    · rw [nearM_no h] at he; cases he
  obtain ⟨T, N⟩ := TN
  have W : Told f t := ⟨of, ot, T⟩
  have hok := W.nearOk N
  rw [nearM_yes ⟨T, N⟩] at m2
  have r2 : Rd 4 fPr H2 u (sortP (nearP f t)) := Mine.rd (fun _ => rfl) m2
  have ln : (sortP (nearP f t)).length = f.length - 1 := by rw [(sortP_perm _).length_eq, nearP_len]
  obtain ⟨B0, hB0⟩ : ∃ B, (sortP (nearP f t))[(0 : Int).toNat]? = some B := ⟨_, List.getElem?_eq_getElem (by show 0 < _; omega)⟩
  have hd := sortP_head hok hB0
  have bst0 : Best f t 0 1 B0 := ⟨nearP_told N _ hd.1, fun p hp => (clP_no.1 (hd.2 p hp)).1, fun a b ha => by omega, fun b h1 h2 => by omega⟩
  refine ⟨r2.inS (by omega) (by omega), _, _, _, _, Rd.gPr r2 (by omega) hB0, ?_⟩
  refine (lookV (hf.le l2) of ot).mono fun v H10 ⟨a, b, e, hv, l10, sn⟩ => ⟨a, b, e, hv, ?_⟩
  have an : (a.n : Int) = f.length := by have := (sn.ids T).len; rw [ordM_len] at this; omega
  rw [an]
  refine ⟨fun n x1 x2 x3 x4 H' => ∃ (i : Nat) (B : Pr), n = i ∧ x1 = B.1 ∧ x2 = B.2.1 ∧ x3 = B.2.2.1 ∧ x4 = B.2.2.2 ∧ i ≤ f.length ∧ Best f t i (i + 1) B ∧ Hp.le H10 H', fun n _ _ _ _ _ => (f.length - n).toNat, ⟨0, B0, rfl, rfl, rfl, rfl, rfl, by omega, bst0, Hp.le_refl _⟩, ?_⟩
  rintro n16 n17 n18 n19 n20 H21 ⟨i, B, rfl, rfl, rfl, rfl, rfl, hi, bs, l21⟩
  refine ⟨fun hn => ?_, fun hn => ?_⟩
  · have hn : i < f.length := by have := of_decide_eq_true hn; omega
    refine ⟨by unfold inI; omega, fun n x1 x2 x3 x4 H' => ∃ (k : Nat) (B : Pr), n = k ∧ x1 = B.1 ∧ x2 = B.2.1 ∧ x3 = B.2.2.1 ∧ x4 = B.2.2.2 ∧ i < k ∧ k ≤ f.length ∧ Best f t i k B ∧ Hp.le H10 H', fun n _ _ _ _ _ => (f.length - n).toNat, ⟨i + 1, B, by omega, rfl, rfl, rfl, rfl, by omega, by omega, bs, l21⟩, ?_⟩
    rintro n24 n25 n26 n27 n28 H29 ⟨k, B, rfl, rfl, rfl, rfl, rfl, hik, hk, bs, l29⟩
    have nxt : Best f t (i + 1) (i + 2) B → inI ((i : Int) + 1) ∧ (∃ (i' : Nat) (B' : Pr), (i : Int) + 1 = i' ∧ B.1 = B'.1 ∧ B.2.1 = B'.2.1 ∧ B.2.2.1 = B'.2.2.1 ∧ B.2.2.2 = B'.2.2.2 ∧ i' ≤ f.length ∧ Best f t i' (i' + 1) B' ∧ Hp.le H10 H29) ∧ ((f.length : Int) - ((i : Int) + 1)).toNat < ((f.length : Int) - (i : Int)).toNat :=
      fun h => ⟨by unfold inI; omega, ⟨i + 1, B, by omega, rfl, rfl, rfl, rfl, by omega, h, l29⟩, by omega⟩
    refine ⟨fun hm => ?_, fun hm => ?_⟩
    · have hm : k < f.length := by have := of_decide_eq_true hm; omega
      have q := pairV (H := H29) (I := (i : Int)) (K := (k : Int)) rfl rfl of ot hn hm T ((sn.ids T).le l29) ((sn.at_ T).le l29)
      refine ⟨_, _, _, _, _, q, fun hx => ?_, fun hx => ?_⟩
      · have hx := neN hx
        rw [duoM_err] at hx
        exact nxt (bs.next fun m h1 h2 h3 => W.rest N bs.told bs.near hik h1 h2 (.inl hx) h3)
      · have hx := eqN hx
        rw [duoM_err] at hx
        rw [duoM_ok hx]
        have hp : prM f t i k ∈ toldAll f t := mem_toldAll.2 ⟨i, k, hik, hm, hx, rfl⟩
        have op : okR (prM f t i k).2.2 := W.okPr _ hp
        have oB : okR B.2.2 := W.okPr _ bs.told
        have qc := ratioCmp (H := H29) (a := ((prM f t i k).2.2.1, (prM f t i k).2.2.2)) (b := (B.2.2.1, B.2.2.2)) op.fit oB.fit
        have ec : cmpM ((prM f t i k).2.2.1, (prM f t i k).2.2.2) (B.2.2.1, B.2.2.2) = (cmpR (prM f t i k).2.2 B.2.2, 0) := by unfold cmpM; rw [if_pos ⟨op, oB⟩]
        rw [ec] at qc
        refine ⟨_, _, qc, fun hy => ?_, fun hy => ?_⟩
        · have hy : 0 < cmpR (prM f t i k).2.2 B.2.2 := of_decide_eq_true hy
          exact nxt (bs.next fun m h1 h2 h3 => W.rest N bs.told bs.near hik h1 h2 (.inr fun h => by have := cmpR_le.2 h; exact absurd this (by show ¬ cmpR (gapD f t i k).1 B.2.2 ≤ 0; have : 0 < cmpR (gapD f t i k).1 B.2.2 := hy; omega)) h3)
        · refine ⟨_, rowOrder op.fit oB.fit, fun hz => ?_, fun hz => ?_⟩
          · have hz := (ordP_lt op oB).1 (of_decide_eq_true hz)
            exact ⟨by unfold inI; omega, ⟨k + 1, prM f t i k, by omega, rfl, rfl, rfl, rfl, by omega, by omega, bs.take W N hik hm hx hz, l29⟩, by show ((f.length : Int) - ((k : Int) + 1)).toNat < ((f.length : Int) - (k : Int)).toNat; omega⟩
          · have hz : clP (prM f t i k) B = false := by
              cases h : clP (prM f t i k) B with
              | false => rfl
              | true => exact absurd ((ordP_lt op oB).2 h) (of_decide_eq_false hz)
            exact ⟨by unfold inI; omega, ⟨k + 1, B, by omega, rfl, rfl, rfl, rfl, by omega, by omega, bs.keep hz, l29⟩, by show ((f.length : Int) - ((k : Int) + 1)).toNat < ((f.length : Int) - (k : Int)).toNat; omega⟩
    · have hm : k = f.length := by have := of_decide_eq_false hm; omega
      exact nxt (bs.next fun m h1 h2 => by omega)
  · have hn : i = f.length := by have := of_decide_eq_false hn; omega
    subst hn
    have least : IsLeast (toldAll f t) B := ⟨bs.told, fun p hp => by
      obtain ⟨a, b, h1, h2, h3, rfl⟩ := mem_toldAll.1 hp
      exact bs.rows a b (by omega) h1 h2 h3⟩
    have eB := W.is_best N (by omega) least
    unfold closestM
    rw [if_neg hl, if_pos ⟨T, N⟩, ← eB]
    exact ⟨rfl, Hp.le_trans l2 (Hp.le_trans l10 l21)⟩
def closestL (l : Ls) : Pr × Int := if okLs l then closestM l.ck.f l.ck.now else (zPr, 8)
theorem closeClosest {H : Hp} {u : Lu} {l : Ls} (r : RdL H u l) (fl : fitL l) :
    Qf Tryz.prog F.close_Closest #[lsV u l] H (.tuple #[prV (closestL l).1, .int .i64 (closestL l).2]) := by
  refine close_Closest_vc ⟨_, klistCheck r fl, fun hc => ?_, fun hc => ?_⟩
  · have hn : ¬ okLs l := fun ok => by rw [chkLs_ok ok] at hc; simp at hc
    unfold closestL; rw [if_neg hn, chkLs_bad hn]; exact ⟨rfl, Hp.le_refl _⟩
  · have ok : okLs l := chkLs_zero.1 (eqN hc)
    unfold closestL; rw [if_pos ok]
    exact ⟨_, _, _, _, _, closestV r.k.f ok.ck.f ok.ck.now, rfl, Hp.le_refl _⟩

theorem closestM_ok {f : List Pt} {t : Int × Int} (of : okF f) (ot : okR t) (h : (closestM f t).2 = 0) : okPr (closestM f t).1 := by
  unfold closestM at h ⊢
  split at h
  · cases h
  · rename_i hl
    split at h
    · rename_i htn
      rw [if_neg hl, if_pos htn]
      have W : Told f t := ⟨of, ot, htn.1⟩
      exact W.okPr _ (W.best htn.2 (by omega)).1
    · cases h
def endT (l : Ls) (to : Int × Int) : Int × Int := if (kNextM l).2 = 0 ∧ cmpR (kNextM l).1 to ≤ 0 then (kNextM l).1 else to
def soonQ (l : Ls) (e : Int × Int) (c : Pr) : (Int × Int) × Pr × Int :=
  if (closestM l.ck.f e).2 ≠ 0 then ((0, 0), zPr, (closestM l.ck.f e).2) else if cmpR (closestM l.ck.f e).1.2.2 c.2.2 < 0 then (e, (closestM l.ck.f e).1, 0) else (l.ck.now, c, 0)
def soonM (l : Ls) (to : Int × Int) : (Int × Int) × Pr × Int :=
  if okLs l then (if okR to then (if cmpR to l.ck.now < 0 then ((0, 0), zPr, 44) else
    if (closestM l.ck.f l.ck.now).2 ≠ 0 then ((0, 0), zPr, (closestM l.ck.f l.ck.now).2) else
    if (closestM l.ck.f l.ck.now).1.2.2.1 = 0 then (l.ck.now, (closestM l.ck.f l.ck.now).1, 0) else soonQ l (endT l to) (closestM l.ck.f l.ck.now).1) else ((0, 0), zPr, 8)) else ((0, 0), zPr, 8)
abbrev soonV (x : (Int × Int) × Pr × Int) : Value := .tuple #[raW x.1, prV x.2.1, .int .i64 x.2.2]
theorem closestM_z {f : List Pt} {t : Int × Int} (h : (closestM f t).2 ≠ 0) : (closestM f t).1 = zPr := by
  unfold closestM at h ⊢
  split
  · rfl
  · rename_i h1
    rw [if_neg h1] at h
    split
    · rename_i h2; rw [if_pos h2] at h; exact absurd rfl h
    · rfl
theorem whenV {H : Hp} {t : Int × Int} {e : Int} : Qf Tryz.prog F.close_when #[raW t, .int .i64 e] H (raW (if e ≠ 0 then (0, 0) else t)) := by
  refine close_when_vc ⟨fun h => ?_, fun h => ?_⟩
  · rw [if_pos (neN h)]; exact ⟨rfl, Hp.le_refl _⟩
  · rw [if_neg (by have := eqN h; omega)]; exact ⟨rfl, Hp.le_refl _⟩
theorem kNext_ok {l : Ls} (h : (kNextM l).2 = 0) : okR (kNextM l).1 := kNext_fit h
set_option maxHeartbeats 4000000 in
theorem soonestV {H : Hp} {u : Lu} {l : Ls} {to : Int × Int} (r : RdL H u l) (fl : fitL l) (ft : fitR to) :
    Qf Tryz.prog F.close_Soonest #[lsV u l, raW to] H (soonV (soonM l to)) := by
  refine close_Soonest_vc ⟨_, klistCheck r fl, fun hc => ?_, fun hc => ?_⟩
  · have hn : ¬ okLs l := fun ok => by rw [chkLs_ok ok] at hc; simp at hc
    unfold soonM; rw [if_neg hn, chkLs_bad hn]; exact ⟨rfl, Hp.le_refl _⟩
  have ok : okLs l := chkLs_zero.1 (eqN hc)
  have of := ok.ck.f
  have on := ok.ck.now
  have qn := kNext r fl
  have q0 := ratioCmp (H := H) ft on.fit
  have last : ∀ (e : Int × Int), okR e → (closestM l.ck.f l.ck.now).2 = 0 →
      ∃ n30 n31 n32 n33 n34 : Int, Qf Tryz.prog F.close_closest #[vFd u.k.f, raW e] H (.tuple #[sI4 n30 n31 n32 n33, .int .i64 n34]) ∧
      ((n34 != 0) = true → Value.tuple #[sI2 0 0, sI4 0 0 0 0, .int .i64 n34] = soonV (soonQ l e (closestM l.ck.f l.ck.now).1) ∧ Hp.le H H) ∧
      ((n34 != 0) = false → ∃ n35 n36 : Int, Qf Tryz.prog F.ratio_Cmp #[sI2 n32 n33, sI2 (closestM l.ck.f l.ck.now).1.2.2.1 (closestM l.ck.f l.ck.now).1.2.2.2] H (.tuple #[.int .i64 n35, .int .i64 n36]) ∧
        (decide (n35 < 0) = true → Value.tuple #[sI2 e.1 e.2, sI4 n30 n31 n32 n33, .int .i64 0] = soonV (soonQ l e (closestM l.ck.f l.ck.now).1) ∧ Hp.le H H) ∧
        (decide (n35 < 0) = false → Value.tuple #[sI2 l.ck.now.1 l.ck.now.2, prV (closestM l.ck.f l.ck.now).1, .int .i64 0] = soonV (soonQ l e (closestM l.ck.f l.ck.now).1) ∧ Hp.le H H)) := by
    intro e oe hz
    have oc := closestM_ok of on hz
    have q := closestV (t := e) r.k.f of oe
    refine ⟨_, _, _, _, _, q, fun hx => ?_, fun hx => ?_⟩
    · unfold soonQ; rw [if_pos (neN hx)]; exact ⟨rfl, Hp.le_refl _⟩
    · have hx := eqN hx
      have oq := closestM_ok of oe hx
      have qc := ratioCmp (H := H) (a := ((closestM l.ck.f e).1.2.2.1, (closestM l.ck.f e).1.2.2.2)) (b := ((closestM l.ck.f l.ck.now).1.2.2.1, (closestM l.ck.f l.ck.now).1.2.2.2)) oq.fit oc.fit
      have ec : cmpM ((closestM l.ck.f e).1.2.2.1, (closestM l.ck.f e).1.2.2.2) ((closestM l.ck.f l.ck.now).1.2.2.1, (closestM l.ck.f l.ck.now).1.2.2.2) = (cmpR (closestM l.ck.f e).1.2.2 (closestM l.ck.f l.ck.now).1.2.2, 0) := by unfold cmpM; rw [if_pos ⟨oq, oc⟩]
      rw [ec] at qc
      refine ⟨_, _, qc, fun hy => ?_, fun hy => ?_⟩
      · unfold soonQ; rw [if_neg (by omega), if_pos (of_decide_eq_true hy)]; exact ⟨rfl, Hp.le_refl _⟩
      · unfold soonQ; rw [if_neg (by omega), if_neg (of_decide_eq_false hy)]; exact ⟨rfl, Hp.le_refl _⟩
  refine ⟨_, _, q0, fun hx => ?_, fun hx => ⟨fun hy => ?_, fun hy => ?_⟩⟩
  · have hn : ¬ okR to := fun o => by
      have := neN hx
      unfold cmpM at this; rw [if_pos ⟨o, on⟩] at this; exact this rfl
    have e8 : cmpM to l.ck.now = (0, 8) := by unfold cmpM; rw [if_neg fun h => hn h.1]
    unfold soonM; rw [if_pos ok, if_neg hn, e8]; exact ⟨rfl, Hp.le_refl _⟩
  · have o : okR to := by
      by_cases h : okR to
      · exact h
      · have e8 : cmpM to l.ck.now = (0, 8) := by unfold cmpM; rw [if_neg fun h' => h h'.1]
        rw [e8] at hx; simp at hx
    have ec : cmpM to l.ck.now = (cmpR to l.ck.now, 0) := by unfold cmpM; rw [if_pos ⟨o, on⟩]
    rw [ec] at hy
    unfold soonM; rw [if_pos ok, if_pos o, if_pos (of_decide_eq_true hy)]; exact ⟨rfl, Hp.le_refl _⟩
  have o : okR to := by
    by_cases h : okR to
    · exact h
    · have e8 : cmpM to l.ck.now = (0, 8) := by unfold cmpM; rw [if_neg fun h' => h h'.1]
      rw [e8] at hx; simp at hx
  have ec : cmpM to l.ck.now = (cmpR to l.ck.now, 0) := by unfold cmpM; rw [if_pos ⟨o, on⟩]
  rw [ec] at hy
  have hy : ¬ cmpR to l.ck.now < 0 := of_decide_eq_false hy
  have es : soonM l to = if (closestM l.ck.f l.ck.now).2 ≠ 0 then ((0, 0), zPr, (closestM l.ck.f l.ck.now).2) else
    if (closestM l.ck.f l.ck.now).1.2.2.1 = 0 then (l.ck.now, (closestM l.ck.f l.ck.now).1, 0) else soonQ l (endT l to) (closestM l.ck.f l.ck.now).1 := by unfold soonM; rw [if_pos ok, if_pos o, if_neg hy]
  have qcl := closestV (t := l.ck.now) r.k.f of on
  refine ⟨_, _, _, _, _, qcl, fun hz => ?_, fun hz => ?_⟩
  · refine ⟨_, _, whenV, ?_⟩
    rw [es]
    by_cases he : (closestM l.ck.f l.ck.now).2 ≠ 0
    · rw [if_pos he, if_pos he, closestM_z he]; exact ⟨rfl, Hp.le_refl _⟩
    · have he0 : (closestM l.ck.f l.ck.now).2 = 0 := by omega
      rw [he0] at hz
      rw [if_neg he, if_neg he, if_pos (by simpa using hz), he0]; exact ⟨rfl, Hp.le_refl _⟩
  have hz2 : (closestM l.ck.f l.ck.now).2 = 0 ∧ (closestM l.ck.f l.ck.now).1.2.2.1 ≠ 0 := by
    simp only [Bool.or_eq_false_iff, bne_eq_false_iff_eq, beq_eq_false_iff_ne] at hz; exact hz
  rw [if_neg (by omega), if_neg hz2.2] at es
  rw [es]
  refine ⟨_, _, _, qn, fun h0 => ?_, fun h0 => ?_⟩
  · have h0 : (kNextM l).2 = 0 := by simpa using h0
    have oN := kNext_ok h0
    have q2 := ratioCmp (H := H) (a := ((kNextM l).1.1, (kNextM l).1.2)) (b := to) oN.fit ft
    have e2 : cmpM ((kNextM l).1.1, (kNextM l).1.2) to = (cmpR (kNextM l).1 to, 0) := by unfold cmpM; rw [if_pos ⟨oN, o⟩]
    rw [e2] at q2
    refine ⟨_, _, q2, fun h1 => ?_, fun h1 => ?_⟩
    · have ee : endT l to = (kNextM l).1 := by unfold endT; rw [if_pos ⟨h0, of_decide_eq_true h1⟩]
      rw [ee]
      exact last _ oN hz2.1
    · have ee : endT l to = to := by unfold endT; rw [if_neg fun h => of_decide_eq_false h1 h.2]
      rw [ee]
      exact last _ o hz2.1
  · have ee : endT l to = to := by unfold endT; rw [if_neg fun h => by rw [h.1] at h0; simp at h0]
    rw [ee]
    exact last _ o hz2.1

theorem Rd.part {α : Type} {k : Nat} {f : α → List Value} {H : Hp} {u : Slc} {xs : List α} {lo hi : Nat} (h : Rd k f H u xs) (h1 : lo ≤ hi) (h2 : hi ≤ xs.length) :
    Rd k f H ⟨subA u.a k (lo : Int) (u.c : Int), hi - lo, u.c - lo⟩ ((xs.take hi).drop lo) := by
  have hn := h.len; have hc := h.cap
  have hl : ((xs.take hi).drop lo).length = hi - lo := by rw [List.length_drop, List.length_take]; omega
  have sub : lo < hi → subA u.a k (lo : Int) (u.c : Int) = u.a.map (·.add (lo * k)) := fun hlt => by
    unfold subA; rw [if_neg (by simp only [Int.toNat_natCast]; omega), Int.toNat_natCast]
  refine ⟨hl.symm, by show hi - lo ≤ u.c - lo; omega, fun hx => ?_, fun i x hx j v hv => ?_⟩
  · have hlt : lo < hi := by
      rcases Nat.lt_or_ge lo hi with h' | h'
      · exact h'
      · have : (xs.take hi).drop lo = [] := List.length_eq_zero_iff.1 (by rw [hl]; omega)
        exact absurd this hx
    have := h.isS fun e => by rw [e] at h2; simp at h2; omega
    show (subA u.a k (lo : Int) (u.c : Int)).isSome = true
    rw [sub hlt]; simpa using this
  · have hi' : i < hi - lo := by rw [← hl]; exact (List.getElem?_eq_some_iff.1 hx).1
    rw [List.getElem?_drop, List.getElem?_take_of_lt (by omega)] at hx
    have := h.cell (lo + i) x hx j v hv
    show H.at ((eaddr (subA u.a k (lo : Int) (u.c : Int)) k i).add j) = some v
    rw [sub (by omega)]
    have hs := h.isS fun e => by rw [e] at h2; simp at h2; omega
    cases ha : u.a with
    | none => rw [ha] at hs; cases hs
    | some p =>
      rw [ha] at this
      simp only [eaddr, Option.map_some, Int.toNat_natCast] at this ⊢
      rw [add_add p, ← Nat.add_mul]; exact this
def pairOk (f : List Pt) (t : Int × Int) (i k : Nat) : Prop := (spot f t i).2 = 0 ∧ (spot f t k).2 = 0 ∧ (gapD f t i k).2 = 0
instance (f : List Pt) (t : Int × Int) (i k : Nat) : Decidable (pairOk f t i k) := inferInstanceAs (Decidable (_ ∧ _))
theorem apartR {H : Hp} {p q : Pt} {t : Int × Int} (op : okP p) (oq : okP q) (ot : okR t) : Qf Tryz.prog F.pelotonref25_Apart #[sI3 p.1 p.2.1 p.2.2, sI3 q.1 q.2.1 q.2.2, raW t] H
    (.tuple #[raW (if (placeM p t).2 = 0 ∧ (placeM q t).2 = 0 then (subM (placeM p t).1 (placeM q t).1).1 else (0, 0)), .int .i64 (if (placeM p t).2 = 0 ∧ (placeM q t).2 = 0 then (subM (placeM p t).1 (placeM q t).1).2 else 16)]) := by
  have e1 : (placeM p t).2 = 0 ∨ (placeM p t).2 = 16 := by rw [placeM_ok op ot]; exact buildM_err _ _ _
  have e2 : (placeM q t).2 = 0 ∨ (placeM q t).2 = 16 := by rw [placeM_ok oq ot]; exact buildM_err _ _ _
  refine pelotonref25_Apart_vc ⟨_, _, _, refPlace ot.fit, fun he => ?_, fun he => ⟨_, _, _, refPlace ot.fit, fun he2 => ?_, fun he2 => ?_⟩⟩
  · have he := neN he
    rw [if_neg fun h => he h.1, if_neg fun h => he h.1, e1.resolve_left he]; exact ⟨rfl, Hp.le_refl _⟩
  · have he2 := neN he2
    rw [if_neg fun h => he2 h.2, if_neg fun h => he2 h.2, e2.resolve_left he2]; exact ⟨rfl, Hp.le_refl _⟩
  · have he := eqN he; have he2 := eqN he2
    have o1 : okR (placeM p t).1 := by have := he; rw [placeM_ok op ot] at this ⊢; exact (overM_eq ot.d1 this).choose_spec.2.2.2
    have o2 : okR (placeM q t).1 := by have := he2; rw [placeM_ok oq ot] at this ⊢; exact (overM_eq ot.d1 this).choose_spec.2.2.2
    rw [if_pos ⟨he, he2⟩, if_pos ⟨he, he2⟩]
    exact ⟨_, _, _, refSub o1 o2, rfl, Hp.le_refl _⟩


theorem Best.skip {f : List Pt} {t : Int × Int} {i k : Nat} {B : Pr} (h : Best f t i k B) (hc : (gapD f t i k).2 ≠ 0) : Best f t i (k + 1) B := by
  refine ⟨h.told, h.near, h.rows, fun b h1 h2 hb hg => ?_⟩
  by_cases e : b = k
  · subst e; exact absurd hg hc
  · exact h.row b h1 (by omega) hb hg

end Go.Proofs.YtkemdpobjaiolaaGreat
end
