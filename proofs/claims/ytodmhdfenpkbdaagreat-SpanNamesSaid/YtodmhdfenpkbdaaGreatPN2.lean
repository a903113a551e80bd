/- The engine, parts N3, N4, put together. Conditions: none. -/
import Derived.Test.YtodmhdfenpkbdaaGreatPN1
import Derived.Test.YtodmhdfenpkbdaaGreatVgSpan
import Derived.Test.YtodmhdfenpkbdaaGreatVgStd
import Derived.Test.YtodmhdfenpkbdaaGreatFs
set_option linter.unusedVariables false
section
/- Intervals of a list: bounds, In, Count, Up, Down. Conditions: none. -/
set_option maxRecDepth 100000
open Go Go.Eng Go.Proofs
namespace Go.Proofs.YtodmhdfenpkbdaaGreat

/-- sort.Search over a condition that holds from some place on. -/
theorem sortSearch {H : Hp} {n : Int} {a1 : Value} {K : Nat} {p : Nat → Bool} (n0 : 0 ≤ n) (n1 : n ≤ 1000000000) (hq : ∀ i : Int, 0 ≤ i → i < n → QfV Tryz.prog a1 [.int .i64 i] H (.bool (p i.toNat)))
    (hK : (K : Int) ≤ n) (h0 : ∀ i, i < K → p i = false) (h1 : ∀ i : Nat, K ≤ i → (i : Int) < n → p i = true) : Qf Tryz.prog F.sort_Search #[.int .i64 n, a1] H (.int .i64 (K : Int)) := by
  refine sort_Search_vc ⟨fun i j H' => H' = H ∧ 0 ≤ i ∧ i ≤ K ∧ K ≤ j ∧ j ≤ n, fun i j _ => (j - i).toNat, ⟨rfl, Int.le_refl _, by omega, hK, Int.le_refl _⟩, fun i j H' ⟨e, i0, i1, i2, i3⟩ => ⟨fun hc => ?_, fun hc => ⟨?_, ?_⟩⟩⟩
  · subst e
    have hc : i < j := by simpa using hc
    rw [mid_eq i0 hc (by omega)]
    have m0 : 0 ≤ (i + j) / 2 := by omega
    have m1 : (i + j) / 2 < n := by omega
    refine ⟨by unfold inI; omega, by unfold nn; omega, _, hq _ m0 m1, fun hb => ?_, fun hb => ?_⟩
    · have hb : p ((i + j) / 2).toNat = false := by simpa using hb
      have : ¬ K ≤ ((i + j) / 2).toNat := fun h => by rw [h1 _ h (by omega)] at hb; cases hb
      refine ⟨by unfold inI; omega, ⟨rfl, by omega, by omega, i2, i3⟩, ?_⟩
      show (j - ((i + j) / 2 + 1)).toNat < (j - i).toNat; omega
    · have hb : p ((i + j) / 2).toNat = true := by simpa using hb
      have : ¬ ((i + j) / 2).toNat < K := fun h => by rw [h0 _ h] at hb; cases hb
      refine ⟨⟨rfl, i0, i1, by omega, by omega⟩, ?_⟩
      show ((i + j) / 2 - i).toNat < (j - i).toNat; omega
  · have : ¬ i < j := by simpa using hc
    have : i = K := by omega
    rw [this]
  · subst e; exact Hp.le_refl _

/-- The error of a list and an interval. -/
def askE (l : Ls) (lo hi : Int × Int) : Int := if okLs l then (if okR lo ∧ okR hi then (if 0 < cmpR lo hi then 2 else (placesN l l.ord.length).2) else 8) else 8
def xsM (l : Ls) : List (Int × Int) := (placesN l l.ord.length).1
theorem askE_zero {l : Ls} {lo hi : Int × Int} : askE l lo hi = 0 ↔ okLs l ∧ okR lo ∧ okR hi ∧ ¬ 0 < cmpR lo hi ∧ (placesN l l.ord.length).2 = 0 := by
  unfold askE
  by_cases h1 : okLs l
  · by_cases h2 : okR lo ∧ okR hi
    · by_cases h3 : 0 < cmpR lo hi
      · rw [if_pos h1, if_pos h2, if_pos h3]; simp [h3]
      · rw [if_pos h1, if_pos h2, if_neg h3]; simp [h1, h2.1, h2.2]; omega
    · rw [if_pos h1, if_neg h2]; exact ⟨fun h => by simp at h, fun h => absurd ⟨h.2.1, h.2.2.1⟩ h2⟩
  · rw [if_neg h1]; exact ⟨fun h => by simp at h, fun h => absurd h.1 h1⟩
def bndM (l : Ls) (lo hi : Int × Int) : Int × Int × Int := if askE l lo hi = 0 then ((upM (xsM l) hi : Int), (loM (xsM l) lo : Int), 0) else (0, 0, askE l lo hi)
theorem bndM_ok {l : Ls} {lo hi : Int × Int} (h : askE l lo hi = 0) : bndM l lo hi = ((upM (xsM l) hi : Int), (loM (xsM l) lo : Int), 0) := if_pos h
theorem bndM_bad {l : Ls} {lo hi : Int × Int} {e : Int} (h : askE l lo hi = e) (hn : e ≠ 0) : bndM l lo hi = (0, 0, e) := by
  unfold bndM; rw [if_neg (by rw [h]; exact hn), h]
theorem bndM_err {l : Ls} {lo hi : Int × Int} : (bndM l lo hi).2.2 = askE l lo hi := by
  unfold bndM; split
  · rename_i h; rw [h]
  · rfl

theorem bnd1 {H : Hp} {s : Slc} {xs : List (Int × Int)} {a1 a2 : Addr} {h : Int × Int} {i : Int} (hs : H.at (a1.add 0) = some s.v) (rx : Rd 2 fH H s xs) (h1 : H.at (a2.add 0) = some (.int .i64 h.1)) (h2 : H.at (a2.add 1) = some (.int .i64 h.2)) (ok : ∀ x ∈ xs, okR x) (oh : okR h) (i0 : 0 ≤ i) (i1 : i < xs.length) :
    QfV Tryz.prog (.func (.func F.span_bounds_1) #[] #[.pointer (some a1), .pointer (some a2)]) [.int .i64 i] H (.bool (decide (cmpR (xs.getD i.toNat (0, 0)) h ≤ 0))) := by
  have hx := ok _ (List.mem_of_getElem? (getX (d := ((0 : Int), (0 : Int))) i0 i1))
  have rc := ratioCmp (H := H) hx.fit oh.fit
  rw [cmpM_ok hx oh] at rc
  exact ⟨F.span_bounds_1, #[], _, rfl, span_bounds_1_callable, span_bounds_1_vc ⟨s, hs, rx.inS i0 i1, _, _, rx.gH i0 i1, _, _, ⟨h1, h2⟩, _, _, rc, rfl, Hp.le_refl _⟩⟩
theorem bnd2 {H : Hp} {s : Slc} {xs : List (Int × Int)} {a1 a2 : Addr} {h : Int × Int} {i : Int} (hs : H.at (a1.add 0) = some s.v) (rx : Rd 2 fH H s xs) (h1 : H.at (a2.add 0) = some (.int .i64 h.1)) (h2 : H.at (a2.add 1) = some (.int .i64 h.2)) (ok : ∀ x ∈ xs, okR x) (oh : okR h) (i0 : 0 ≤ i) (i1 : i < xs.length) :
    QfV Tryz.prog (.func (.func F.span_bounds_2) #[] #[.pointer (some a1), .pointer (some a2)]) [.int .i64 i] H (.bool (decide (cmpR (xs.getD i.toNat (0, 0)) h < 0))) := by
  have hx := ok _ (List.mem_of_getElem? (getX (d := ((0 : Int), (0 : Int))) i0 i1))
  have rc := ratioCmp (H := H) hx.fit oh.fit
  rw [cmpM_ok hx oh] at rc
  exact ⟨F.span_bounds_2, #[], _, rfl, span_bounds_2_callable, span_bounds_2_vc ⟨s, hs, rx.inS i0 i1, _, _, rx.gH i0 i1, _, _, ⟨h1, h2⟩, _, _, rc, rfl, Hp.le_refl _⟩⟩

theorem placesN_lim {l : Ls} (fl : fitL l) : (placesN l l.ord.length).1.length ≤ 1000000 := by
  have f1 := fl.o
  by_cases h : (placesN l l.ord.length).2 = 0
  · rw [(placesN_all _ h).1]; exact f1
  · have : ∀ n, (placesN l n).2 ≠ 0 → (placesN l n).1 = [] := by
      intro n
      induction n with
      | zero => intro h; exact absurd rfl h
      | succ n ih =>
        intro h
        by_cases h0 : (placesN l n).2 = 0
        · by_cases h1 : (plM l (l.ord.getD n 0)).2 = 0
          · rw [placesN_yes h0 h1] at h; exact absurd rfl h
          · rw [placesN_no h0 h1]
        · rw [placesN_err h0 (n + 1) (by omega)]; exact ih h0
    rw [this _ h]; simp

set_option maxHeartbeats 1000000 in
theorem spanBounds {H : Hp} {u : Lu} {l : Ls} {lo hi : Int × Int} (r : RdL H u l) (fl : fitL l) (fo : fitR lo) (fi : fitR hi) :
    Qf Tryz.prog F.span_bounds #[lsV u l, sI2 lo.1 lo.2, sI2 hi.1 hi.2] H (.tuple #[.int .i64 (bndM l lo hi).1, .int .i64 (bndM l lo hi).2.1, .int .i64 (bndM l lo hi).2.2]) := by
  refine span_bounds_vc fun b1 H2 hb1 hH2 b3 H4 hb3 hH4 => ?_
  have l2 : Hp.le H H2 := Hp.le_new (Hp.le_refl _) hb1 hH2
  have l24 : Hp.le H2 H4 := Hp.le_new (Hp.le_refl _) hb3 hH4
  have l4 : Hp.le H H4 := Hp.le_trans l2 l24
  have a1 : H4.at ((Addr.mk b1 0 none).add 0) = some (.int .i64 lo.1) := Hp.at_le l24 (by subst hH2; simp [Hp.at, Hp.put, Addr.add])
  have a2 : H4.at ((Addr.mk b1 0 none).add 1) = some (.int .i64 lo.2) := Hp.at_le l24 (by subst hH2; simp [Hp.at, Hp.put, Addr.add])
  have a3 : H4.at ((Addr.mk b3 0 none).add 0) = some (.int .i64 hi.1) := by subst hH4; simp [Hp.at, Hp.put, Addr.add]
  have a4 : H4.at ((Addr.mk b3 0 none).add 1) = some (.int .i64 hi.2) := by subst hH4; simp [Hp.at, Hp.put, Addr.add]
  have rc := ratioCmp (H := H4) fo fi
  refine ⟨_, klistCheck (r.le l4) fl, fun hc => ⟨?_, l4⟩, fun hc => ⟨_, _, ⟨a1, a2⟩, _, _, ⟨a3, a4⟩, _, _, rc, fun he => ⟨?_, l4⟩, fun he => ⟨fun hp => ⟨?_, l4⟩, fun hp => ?_⟩⟩⟩
  · have hn : ¬ okLs l := fun ok => by rw [chkLs_ok ok] at hc; simp at hc
    rw [chkLs_bad hn, bndM_bad (e := 8) (by unfold askE; rw [if_neg hn]) (by decide)]
  · have ok : okLs l := chkLs_zero.1 (by simpa using hc)
    have hn : ¬ (okR lo ∧ okR hi) := fun h => by unfold cmpM at he; rw [if_pos h] at he; simp at he
    unfold cmpM
    rw [if_neg hn, bndM_bad (e := 8) (by unfold askE; rw [if_pos ok, if_neg hn]) (by decide)]
  · have ok : okLs l := chkLs_zero.1 (by simpa using hc)
    have hr : okR lo ∧ okR hi := by
      by_cases h : okR lo ∧ okR hi
      · exact h
      · unfold cmpM at he; rw [if_neg h] at he; simp at he
    have hp : 0 < cmpR lo hi := by rw [cmpM_ok hr.1 hr.2] at hp; simpa using hp
    rw [bndM_bad (e := 2) (by unfold askE; rw [if_pos ok, if_pos hr, if_pos hp]) (by decide)]
  · have ok : okLs l := chkLs_zero.1 (by simpa using hc)
    have hr : okR lo ∧ okR hi := by
      by_cases h : okR lo ∧ okR hi
      · exact h
      · unfold cmpM at he; rw [if_neg h] at he; simp at he
    have hp : ¬ 0 < cmpR lo hi := by rw [cmpM_ok hr.1 hr.2] at hp; simpa using hp
    have ea : askE l lo hi = (placesN l l.ord.length).2 := by unfold askE; rw [if_pos ok, if_pos hr, if_neg hp]
    have ep : placesM l = placesN l l.ord.length := by unfold placesM; rw [if_pos ok]
    have plim := placesN_lim fl
    have sp := spanPlaces (r.le l4) fl
    rw [ep] at sp
    refine sp.mono fun v H13 ⟨s, hv, l13, m⟩ => ⟨s, _, hv, fun b16 H17 hb16 hH17 => ?_⟩
    refine (Var.new hH17).set s.v fun H18 hH18 => ?_
    have e18 : H18 = H13.put b16 (.cells #[s.v] 127 (0, 0)) := by rw [hH18, hH17, Hp.put_put]
    have l1318 : Hp.le H13 H18 := Hp.le_new (Hp.le_refl _) hb16 e18
    have l418 := Hp.le_trans l13 l1318
    have l18 := Hp.le_trans l4 l418
    refine ⟨fun hx => ⟨?_, l18⟩, fun hx => ?_⟩
    · have hx : (placesN l l.ord.length).2 ≠ 0 := by simpa using hx
      rw [bndM_bad ea hx]
    have hx : (placesN l l.ord.length).2 = 0 := by simpa using hx
    rw [bndM_ok (by rw [ea, hx])]
    have D := ok.desc hx
    have rx : Rd 2 fH H18 s (placesN l l.ord.length).1 := m.rdH.le l1318
    have lx := rx.len
    have vs : H18.at ((Addr.mk b16 0 none).add 0) = some s.v := (Var.new e18).at
    have s1 := sortSearch (H := H18) (n := (s.n : Int)) (K := upM (xsM l) hi) (p := fun i => decide (cmpR ((placesN l l.ord.length).1.getD i (0, 0)) hi ≤ 0)) (by omega) (by omega)
      (fun i i0 i1 => bnd1 vs rx (Hp.at_le l418 a3) (Hp.at_le l418 a4) D.ok hr.2 i0 (by omega)) (by have := upM_le (xsM l) hi; unfold xsM at this ⊢; omega)
      (fun i h => decide_eq_false (by
        have hl := upM_le (xsM l) hi
        have := (D.up hr.2 (getX (d := ((0 : Int), (0 : Int))) (i := (i : Int)) (by omega) (by unfold xsM at h hl; omega))).2 (by rw [Int.toNat_natCast]; exact h)
        rw [Int.toNat_natCast] at this
        omega))
      (fun i h h' => decide_eq_true (by
        have := mt (D.up hr.2 (getX (d := ((0 : Int), (0 : Int))) (i := (i : Int)) (by omega) (by omega))).1 (by rw [Int.toNat_natCast]; exact Nat.not_lt.2 h)
        rw [Int.toNat_natCast] at this
        omega))
    have s2 := sortSearch (H := H18) (n := (s.n : Int)) (K := loM (xsM l) lo) (p := fun i => decide (cmpR ((placesN l l.ord.length).1.getD i (0, 0)) lo < 0)) (by omega) (by omega)
      (fun i i0 i1 => bnd2 vs rx (Hp.at_le l418 a1) (Hp.at_le l418 a2) D.ok hr.1 i0 (by omega)) (by have := loM_le (xsM l) lo; unfold xsM at this ⊢; omega)
      (fun i h => decide_eq_false (by
        have hl := loM_le (xsM l) lo
        have := (D.lo hr.1 (getX (d := ((0 : Int), (0 : Int))) (i := (i : Int)) (by omega) (by unfold xsM at h hl; omega))).2 (by rw [Int.toNat_natCast]; exact h)
        rw [Int.toNat_natCast] at this
        omega))
      (fun i h h' => decide_eq_true (by
        have := mt (D.lo hr.1 (getX (d := ((0 : Int), (0 : Int))) (i := (i : Int)) (by omega) (by omega))).1 (by rw [Int.toNat_natCast]; exact Nat.not_lt.2 h)
        rw [Int.toNat_natCast] at this
        omega))
    exact ⟨s, vs, _, s1, s, vs, _, s2, rfl, l18⟩

/-- What an interval has. -/
def inM (l : Ls) (lo hi : Int × Int) : List Int := (l.ord.take (loM (xsM l) lo)).drop (upM (xsM l) hi)
def inR (l : Ls) (lo hi : Int × Int) : List Int × Int := if askE l lo hi = 0 then (inM l lo hi, 0) else ([], askE l lo hi)
theorem inR_ok {l : Ls} {lo hi : Int × Int} (h : askE l lo hi = 0) : inR l lo hi = (inM l lo hi, 0) := if_pos h
theorem inR_bad {l : Ls} {lo hi : Int × Int} (h : askE l lo hi ≠ 0) : inR l lo hi = ([], askE l lo hi) := if_neg h
/-- Where an interval's points begin and end. -/
theorem ask_range {l : Ls} {lo hi : Int × Int} (h : askE l lo hi = 0) : upM (xsM l) hi ≤ loM (xsM l) lo ∧ loM (xsM l) lo ≤ l.ord.length ∧ (xsM l).length = l.ord.length ∧ Desc (xsM l) := by
  obtain ⟨ok, o1, o2, hp, hx⟩ := askE_zero.1 h
  have D := ok.desc hx
  have len := (placesN_all _ hx).1
  have := loM_le (xsM l) lo
  refine ⟨D.upLo o1 o2 hp, ?_, len, D⟩
  unfold xsM at this ⊢; omega
theorem inM_len {l : Ls} {lo hi : Int × Int} (h : askE l lo hi = 0) : (inM l lo hi).length = loM (xsM l) lo - upM (xsM l) hi := by
  obtain ⟨a, b, c, d⟩ := ask_range h
  unfold inM; rw [List.length_drop, List.length_take]; omega

theorem spanIn {H : Hp} {u : Lu} {l : Ls} {lo hi : Int × Int} (r : RdL H u l) (fl : fitL l) (fo : fitR lo) (fi : fitR hi) :
    Go.Eng.Fn Tryz.prog F.span_In #[lsV u l, sI2 lo.1 lo.2, sI2 hi.1 hi.2] H fun v H' => ∃ s : Slc, v = .tuple #[s.v, .int .i64 (inR l lo hi).2] ∧ Hp.le H H' ∧ Mine 1 fI 3 H H' s (inR l lo hi).1 := by
  have lor := r.o.len
  have f1 := fl.o
  refine span_In_vc ⟨_, _, _, spanBounds r fl fo fi, fun he => ?_, fun he => ?_⟩
  · have he : askE l lo hi ≠ 0 := by rw [bndM_err] at he; simpa using he
    rw [bndM_err, inR_bad he]
    exact ⟨zs, rfl, Hp.le_refl _, .inl ⟨rfl, rfl⟩⟩
  have he : askE l lo hi = 0 := by rw [bndM_err] at he; simpa using he
  obtain ⟨q1, q2, q3, q4⟩ := ask_range he
  have hcap := r.o.cap
  rw [bndM_ok he, inR_ok he]
  have hc : (u.o.c : Int) ≥ l.ord.length := by omega
  have ec : Tryz.prog.cellsOf 3 = 1 := by kernel_rfl
  rw [ec]
  have rs := Rd.sub (f := fI) (k := 1) r.o (l := (upM (xsM l) hi : Int)) (hi := (loM (xsM l) lo : Int)) (m := (u.o.c : Int)) (by omega) (by omega) (by omega) (by omega)
  have ei : (l.ord.take ((loM (xsM l) lo : Nat) : Int).toNat).drop ((upM (xsM l) hi : Nat) : Int).toNat = inM l lo hi := by unfold inM; rw [Int.toNat_natCast, Int.toNat_natCast]
  rw [ei] at rs
  refine ⟨by unfold okSl; simp only; omega, ?_⟩
  exact (clone_int rs (by rw [inM_len he]; omega)).mono fun v H5 ⟨s, hv, l5, m⟩ => ⟨s, hv, s, rfl, l5, m⟩
def cntR (l : Ls) (lo hi : Int × Int) : Int := ((inR l lo hi).1.length : Int)
theorem spanCount {H : Hp} {u : Lu} {l : Ls} {lo hi : Int × Int} (r : RdL H u l) (fl : fitL l) (fo : fitR lo) (fi : fitR hi) :
    Qf Tryz.prog F.span_Count #[lsV u l, sI2 lo.1 lo.2, sI2 hi.1 hi.2] H (.tuple #[.int .i64 (cntR l lo hi), .int .i64 (inR l lo hi).2]) := by
  have f1 := fl.o
  by_cases he : askE l lo hi = 0
  · obtain ⟨q1, q2, q3, q4⟩ := ask_range he
    have il := inM_len he
    refine span_Count_vc ⟨_, _, _, spanBounds r fl fo fi, ?_, ?_, Hp.le_refl _⟩
    · rw [bndM_ok he]; unfold inI; simp only; omega
    · unfold cntR
      rw [bndM_ok he, inR_ok he]
      simp only
      rw [il, Int.ofNat_sub q1]
  · refine span_Count_vc ⟨_, _, _, spanBounds r fl fo fi, ?_, ?_, Hp.le_refl _⟩
    · rw [bndM_bad rfl he]; unfold inI; simp only; omega
    · unfold cntR
      rw [bndM_bad rfl he, inR_bad he]; rfl
/-- The next one up, and down. -/
def upR (l : Ls) (x : Int × Int) : Int × Int := if askE l x x = 0 then (if loM (xsM l) x = 0 then (0, 6) else (l.ord.getD (loM (xsM l) x - 1) 0, 0)) else (0, askE l x x)
def dnR (l : Ls) (x : Int × Int) : Int × Int := if askE l x x = 0 then (if upM (xsM l) x = l.ord.length then (0, 6) else (l.ord.getD (upM (xsM l) x) 0, 0)) else (0, askE l x x)
theorem spanUp {H : Hp} {u : Lu} {l : Ls} {x : Int × Int} (r : RdL H u l) (fl : fitL l) (fx : fitR x) :
    Qf Tryz.prog F.span_Up #[lsV u l, sI2 x.1 x.2] H (.tuple #[.int .i64 (upR l x).1, .int .i64 (upR l x).2]) := by
  have lor := r.o.len
  have f1 := fl.o
  refine span_Up_vc ⟨_, _, _, spanBounds r fl fx fx, fun he => ?_, fun he => ?_⟩
  · have he : askE l x x ≠ 0 := by rw [bndM_err] at he; simpa using he
    unfold upR
    rw [bndM_err, if_neg he]; exact ⟨rfl, Hp.le_refl _⟩
  have he : askE l x x = 0 := by rw [bndM_err] at he; simpa using he
  obtain ⟨q1, q2, q3, q4⟩ := ask_range he
  unfold upR
  rw [if_pos he, bndM_ok he]
  refine ⟨fun h0 => ?_, fun h0 => ?_⟩
  · have h0 : (loM (xsM l) x : Int) = 0 := by simpa using h0
    rw [if_pos (by omega)]; exact ⟨rfl, Hp.le_refl _⟩
  · have h0 : (loM (xsM l) x : Int) ≠ 0 := by simpa using h0
    rw [if_neg (by omega)]
    refine ⟨by unfold inI; simp only; omega, r.o.inN (by simp only; omega) (by simp only; omega), _, RdI.get r.o (by simp only; omega) (by simp only; omega), ?_, Hp.le_refl _⟩
    rw [show ((loM (xsM l) x : Int) - 1).toNat = loM (xsM l) x - 1 by omega]
theorem spanDown {H : Hp} {u : Lu} {l : Ls} {x : Int × Int} (r : RdL H u l) (fl : fitL l) (fx : fitR x) :
    Qf Tryz.prog F.span_Down #[lsV u l, sI2 x.1 x.2] H (.tuple #[.int .i64 (dnR l x).1, .int .i64 (dnR l x).2]) := by
  have lor := r.o.len
  have f1 := fl.o
  refine span_Down_vc ⟨_, _, _, spanBounds r fl fx fx, fun he => ?_, fun he => ?_⟩
  · have he : askE l x x ≠ 0 := by rw [bndM_err] at he; simpa using he
    unfold dnR
    rw [bndM_err, if_neg he]; exact ⟨rfl, Hp.le_refl _⟩
  have he : askE l x x = 0 := by rw [bndM_err] at he; simpa using he
  obtain ⟨q1, q2, q3, q4⟩ := ask_range he
  unfold dnR
  rw [if_pos he, bndM_ok he]
  refine ⟨fun h0 => ?_, fun h0 => ?_⟩
  · have h0 : (upM (xsM l) x : Int) = u.o.n := by simpa using h0
    rw [if_pos (by omega)]; exact ⟨rfl, Hp.le_refl _⟩
  · have h0 : (upM (xsM l) x : Int) ≠ u.o.n := by simpa using h0
    have q5 := upM_le (xsM l) x
    rw [if_neg (by omega)]
    refine ⟨r.o.inN (by simp only; omega) (by simp only; omega), _, RdI.get r.o (by simp only; omega) (by simp only; omega), ?_, Hp.le_refl _⟩
    rw [Int.toNat_natCast]
end Go.Proofs.YtodmhdfenpkbdaaGreat
end
section
/- Intervals of a list by the reference. Conditions: none. -/
set_option maxRecDepth 100000
open Go Go.Eng Go.Proofs
namespace Go.Proofs.YtodmhdfenpkbdaaGreat

end Go.Proofs.YtodmhdfenpkbdaaGreat
end
