/- The engine, parts M3, M4, put together. Conditions: none. -/
import Derived.Test.YtkemdpobjaiolaaGreatPM2
import Derived.Test.YtkemdpobjaiolaaGreatPK2
import Derived.Test.YtkemdpobjaiolaaGreatVgBase
import Derived.Test.YtkemdpobjaiolaaGreatVgGaps
import Derived.Test.YtkemdpobjaiolaaGreatFs
import Derived.Test.YtkemdpobjaiolaaGreatVgKlist
set_option linter.unusedVariables false
section
/- Points of a list, gaps. Conditions: none. -/
set_option maxRecDepth 100000
open Go Go.Eng Go.Proofs
namespace Go.Proofs.YtkemdpobjaiolaaGreat

theorem fieldFind {H : Hp} {u : Slc} {f : List Pt} {id : Int} (hf : Rd 3 fD H u f) (of : okF f) (h0 : 0 ≤ posF f id) :
    Qf Tryz.prog F.field_Find #[vFd u, .int .i64 id] H (.tuple #[ptW (gP f (posF f id)), .int .i64 0]) := by
  have hl := of.small
  have hb := bsearch_fd (n := id) hf of.inc (by omega)
  rcases pos_dich of.inc id with ⟨h1, h2⟩ | ⟨h1, h2⟩
  · have e : posF f id = posI (f.map (·.1)) id := h2
    rw [h1, ← e] at hb
    have hp : Qf Tryz.prog F.field_place #[vFd u, .int .i64 id] H (.tuple #[.int .i64 (posF f id), .int .i64 0]) :=
      field_place_vc ⟨_, fieldCheck hf, fun h => by rw [chkF_zero.2 of] at h; simp at h, fun _ => ⟨_, _, field_find_vc ⟨_, _, hb, rfl, Hp.le_refl _⟩, fun h => by simp at h, fun _ => ⟨rfl, Hp.le_refl _⟩⟩⟩
    refine field_Find_vc ⟨_, _, hp, fun h => by simp at h, fun _ => ?_⟩
    exact hf.ldD h0 (posF_lt h0) ⟨rfl, Hp.le_refl _⟩
  · have : posF f id = -1 := h2
    omega

/-- The gap of two points. -/
def betwM (f : List Pt) (hi lo : Int) : Gp := ⟨hi, lo, (gP f (posF f hi)).2.1 - (gP f (posF f lo)).2.1, (gP f (posF f hi)).2.2 - (gP f (posF f lo)).2.2⟩
theorem betw_in {f : List Pt} (of : okF f) {a b : Int} (h1 : 0 ≤ posF f a) (h2 : 0 ≤ posF f b) : inI (betwM f a b).a ∧ inI (betwM f a b).b := by
  have p1 := of.pt h1; have p2 := of.pt h2
  have b1 := p1.b; have b2 := p2.b
  unfold betwM inI
  simp only
  omega
theorem gapsBetween {H : Hp} {u : Slc} {f : List Pt} {a b : Int} (hf : Rd 3 fD H u f) (of : okF f) (h1 : 0 ≤ posF f a) (h2 : 0 ≤ posF f b) :
    Qf Tryz.prog F.gaps_between #[vFd u, .int .i64 a, .int .i64 b] H (gpV (betwM f a b)) := by
  have hi := betw_in of h1 h2
  exact gaps_between_vc ⟨_, _, _, _, fieldFind hf of h1, _, _, _, _, fieldFind hf of h2, hi.1, hi.2, rfl, Hp.le_refl _⟩

/-- Every ID of a valid list's order is one of the field's. -/
theorem ord_pos {f : List Pt} (of : okF f) {t : Int × Int} {x : Int} (hx : x ∈ ordM f t) : 0 ≤ posF f x := by
  obtain ⟨p, hp, e⟩ := List.mem_map.1 hx
  have hpf : p ∈ f := (sortM_perm t f).mem_iff.1 hp
  by_cases h : posF f x < 0
  · have := idx_out h p hpf
    simp at this
    exact absurd e this
  · omega
theorem okLs.pos {l : Ls} (h : okLs l) {i : Int} (i0 : 0 ≤ i) (i1 : i < l.ord.length) : 0 ≤ posF l.ck.f (l.ord.getD i.toNat 0) :=
  ord_pos h.ck.f (t := l.ck.now) (by rw [← h.ord]; exact List.mem_of_getElem? (getI i0 i1))

def fGp (g : Gp) : List Value := [.int .i64 g.hi, .int .i64 g.lo, .int .i64 g.a, .int .i64 g.b]
theorem fGp_one : ∀ (x : Gp), ∀ v ∈ fGp x, v.oneCell' = true := fun x v hv => by
  simp [fGp] at hv
  rcases hv with rfl | rfl | rfl | rfl <;> rfl
/-- The gaps of a list, the first n of them. -/
def gapsN (l : Ls) (n : Nat) : List Gp := (List.range n).map fun i => betwM l.ck.f (l.ord.getD i 0) (l.ord.getD (i + 1) 0)
def gapsM (l : Ls) : List Gp := gapsN l l.num.length
def ofM (l : Ls) : List Gp × Int := if okLs l then (gapsM l, 0) else ([], 8)
theorem gapsN_succ (l : Ls) (n : Nat) : gapsN l (n + 1) = gapsN l n ++ [betwM l.ck.f (l.ord.getD n 0) (l.ord.getD (n + 1) 0)] := by
  unfold gapsN; rw [List.range_succ, List.map_append]; rfl
theorem gapsN_len (l : Ls) (n : Nat) : (gapsN l n).length = n := by unfold gapsN; simp

theorem gapsOf {H : Hp} {u : Lu} {l : Ls} (r : RdL H u l) (fl : fitL l) :
    Go.Eng.Fn Tryz.prog F.gaps_Of #[lsV u l] H fun v H' => ∃ s : Slc, v = .tuple #[s.v, .int .i64 (ofM l).2] ∧ Hp.le H H' ∧ Mine 4 fGp T.api_Gap H H' s (ofM l).1 := by
  have lo := r.o.len
  have ln := r.n.len
  have f2 := fl.n
  refine gaps_Of_vc ⟨_, klistCheck r fl, fun hc => ?_, fun hc => ?_⟩
  · have hn : ¬ okLs l := fun ok => by rw [chkLs_ok ok] at hc; simp at hc
    rw [chkLs_bad hn]
    unfold ofM; rw [if_neg hn]
    exact ⟨zs, rfl, Hp.le_refl _, .inl ⟨rfl, rfl⟩⟩
  have ok : okLs l := chkLs_zero.1 (by simpa using hc)
  unfold ofM; rw [if_pos ok]
  have nl := ok.nl
  refine ⟨fun s i H' => 0 ≤ i ∧ i ≤ l.num.length ∧ Hp.le H H' ∧ Mine 4 fGp T.api_Gap H H' s (gapsN l i.toNat), fun _ i _ => (l.num.length - i).toNat, ⟨Int.le_refl _, by omega, Hp.le_refl _, .inl ⟨rfl, rfl⟩⟩, fun s i H' ⟨i0, i1, le, m⟩ => ⟨fun hn => ?_, fun hn => ?_⟩⟩
  · have hi : i < l.num.length := by have : i < u.n.n := by simpa using hn
                                     omega
    have h1 := ok.pos i0 (by omega)
    have h2 := ok.pos (i := i + 1) (by omega) (by omega)
    refine ⟨r.o.inN i0 (by omega), _, RdI.get (r.o.le le) i0 (by omega), by unfold inI; omega, r.o.inN (by omega) (by omega), _, RdI.get (r.o.le le) (by omega) (by omega), _, _, _, _, gapsBetween (r.k.f.le le) ok.ck.f h1 h2, fun b H14 hb hH => ?_⟩
    refine (append1 (k := 4) (f := fGp) (bytes := 32) (x := betwM l.ck.f (l.ord.getD i.toNat 0) (l.ord.getD (i + 1).toNat 0)) (e := T.api_Gap) (by kernel_rfl) (by decide) (fun _ => rfl) fGp_one le m hb hH rfl (by rw [gapsN_len]; omega) (by omega)).mono fun v H16 ⟨d, hv, l16, m16, _, _⟩ => ⟨d, hv, by unfold inI; omega, ⟨by omega, by omega, l16, ?_⟩, ?_⟩
    · rw [show (i + 1).toNat = i.toNat + 1 by omega] at m16 ⊢
      rw [gapsN_succ]; exact m16
    · show (l.num.length - (i + 1) : Int).toNat < (l.num.length - i : Int).toNat; omega
  · have hi : i = l.num.length := by have : ¬ i < u.n.n := by simpa using hn
                                     omega
    rw [hi, Int.toNat_natCast] at m
    exact ⟨s, rfl, le, m⟩

end Go.Proofs.YtkemdpobjaiolaaGreat
end
section
/- The first gap that closes, sums, lists copied and compared. Conditions: none. -/
set_option maxRecDepth 100000
open Go Go.Eng Go.Proofs
namespace Go.Proofs.YtkemdpobjaiolaaGreat

theorem closes_ok {g : Gp} {t : Int × Int} (h : (closesM g t).2 = 0) : okR (closesM g t).1 := by
  unfold closesM at h ⊢
  split
  · rename_i hg
    rw [if_pos hg] at h
    split
    · rename_i h2; rw [if_pos h2] at h; cases h
    · rename_i h2
      obtain ⟨hg, _⟩ := hg
      unfold okGp at hg
      obtain ⟨x, y, gg, h1, e, h3, h4, h5⟩ := makeNeg (A := g.a) (B := g.b) (by omega) (by omega) (by omega) (by omega)
      rw [e]; exact h5
  · rename_i hg; rw [if_neg hg] at h; cases h

/-- The best of the gaps looked at. -/
def stepM (now : Int × Int) (s : Int × (Int × Int)) (x : Gp × Nat) : Int × (Int × Int) :=
  if (closesM x.1 now).2 = 0 ∧ (s.1 < 0 ∨ cmpR (closesM x.1 now).1 s.2 < 0) then ((x.2 : Int), (closesM x.1 now).1) else s
theorem stepM_yes {now : Int × Int} {s : Int × (Int × Int)} {g : Gp} {i : Nat} (h1 : (closesM g now).2 = 0) (h2 : s.1 < 0 ∨ cmpR (closesM g now).1 s.2 < 0) : stepM now s (g, i) = ((i : Int), (closesM g now).1) := if_pos ⟨h1, h2⟩
theorem stepM_no {now : Int × Int} {s : Int × (Int × Int)} {g : Gp} {i : Nat} (h : ¬ ((closesM g now).2 = 0 ∧ (s.1 < 0 ∨ cmpR (closesM g now).1 s.2 < 0))) : stepM now s (g, i) = s := if_neg h
def bestM (now : Int × Int) (gs : List Gp) : Int × (Int × Int) := gs.zipIdx.foldl (stepM now) (-1, (0, 0))
theorem bestM_snoc (now : Int × Int) (gs : List Gp) (g : Gp) : bestM now (gs ++ [g]) = stepM now (bestM now gs) (g, gs.length) := by
  unfold bestM
  rw [List.zipIdx_append, List.foldl_append]
  simp
theorem bestM_ok (now : Int × Int) : ∀ (n : Nat) (gs : List Gp), gs.length = n → (bestM now gs).1 < gs.length ∧ -1 ≤ (bestM now gs).1 ∧ ((bestM now gs).1 < 0 → (bestM now gs).2 = (0, 0)) ∧ (0 ≤ (bestM now gs).1 → okR (bestM now gs).2)
  | 0, gs, h => by
    have : gs = [] := List.length_eq_zero_iff.1 h
    subst this
    exact ⟨(show (-1 : Int) < 0 by omega), (show (-1 : Int) ≤ -1 by omega), fun _ => rfl, fun h => absurd (show (0 : Int) ≤ -1 from h) (by omega)⟩
  | n + 1, gs, h => by
    obtain ⟨init, last, rfl⟩ : ∃ i l, gs = i ++ [l] := ⟨gs.dropLast, gs.getLast (by intro e; subst e; cases h), (List.dropLast_concat_getLast _).symm⟩
    have hl : init.length = n := by simpa using h
    obtain ⟨i0, i1, i2, i3⟩ := bestM_ok now n init hl
    rw [bestM_snoc]
    unfold stepM
    split
    · rename_i hc
      exact ⟨by simp; omega, by simp only; omega, fun h => by simp only at h; omega, fun _ => closes_ok hc.1⟩
    · exact ⟨by simp; omega, i1, i2, i3⟩
theorem cmpM_ok {a b : Int × Int} (h1 : okR a) (h2 : okR b) : cmpM a b = (cmpR a b, 0) := if_pos ⟨h1, h2⟩
theorem fit00g : fitR (0, 0) := ⟨by show inI 0; unfold inI; omega, by show inI 0; unfold inI; omega⟩
def firstM (l : Ls) : Int × (Int × Int) × Int :=
  if okLs l then (if (bestM l.ck.now (gapsM l)).1 < 0 then (0, (0, 0), 6) else ((bestM l.ck.now (gapsM l)).1, (bestM l.ck.now (gapsM l)).2, 0)) else (0, (0, 0), 8)
def sumM (l : Ls) (i k : Int) : Gp × Int :=
  if okLs l then (if i < 0 ∨ i ≥ k ∨ k ≥ l.ord.length then (⟨0, 0, 0, 0⟩, 2) else (betwM l.ck.f (l.ord.getD i.toNat 0) (l.ord.getD k.toNat 0), 0)) else (⟨0, 0, 0, 0⟩, 8)

theorem Rd.gGp {H : Hp} {u : Slc} {xs : List Gp} (h : Rd 4 fGp H u xs) {i : Int} (h0 : 0 ≤ i) (h1 : i < xs.length) :
    inSl u.a u.n i ∧ H.at (eaddr u.a 4 i) = some (.int .i64 (xs.getD i.toNat ⟨0, 0, 0, 0⟩).hi) ∧ H.at ((eaddr u.a 4 i).add 1) = some (.int .i64 (xs.getD i.toNat ⟨0, 0, 0, 0⟩).lo) ∧ H.at ((eaddr u.a 4 i).add 2) = some (.int .i64 (xs.getD i.toNat ⟨0, 0, 0, 0⟩).a) ∧ H.at ((eaddr u.a 4 i).add 3) = some (.int .i64 (xs.getD i.toNat ⟨0, 0, 0, 0⟩).b) := by
  have hg := getX (d := (⟨0, 0, 0, 0⟩ : Gp)) h0 h1
  exact ⟨h.inS h0 h1, h.at0 h0 hg rfl, h.atj (j := 1) h0 hg rfl, h.atj (j := 2) h0 hg rfl, h.atj (j := 3) h0 hg rfl⟩

set_option maxHeartbeats 1000000 in
theorem gapsFirst {H : Hp} {u : Lu} {l : Ls} (r : RdL H u l) (fl : fitL l) :
    Qf Tryz.prog F.gaps_First #[lsV u l] H (.tuple #[.int .i64 (firstM l).1, raW (firstM l).2.1, .int .i64 (firstM l).2.2]) := by
  have f2 := fl.n
  refine gaps_First_vc ((gapsOf r fl).mono fun v H2 ⟨s, hv, l2, m⟩ => ⟨s, _, hv, fun hc => ?_, fun hc => ?_⟩)
  · have hn : ¬ okLs l := fun ok => by
      have : (ofM l).2 ≠ 0 := by simpa using hc
      unfold ofM at this; rw [if_pos ok] at this; exact this rfl
    unfold firstM ofM; rw [if_neg hn, if_neg hn]; exact ⟨rfl, l2⟩
  have ok : okLs l := by
    have : (ofM l).2 = 0 := by simpa using hc
    by_cases h : okLs l
    · exact h
    · unfold ofM at this; rw [if_neg h] at this; cases this
  have eo : ofM l = (gapsM l, 0) := by unfold ofM; rw [if_pos ok]
  rw [eo] at m
  have rm : Rd 4 fGp H2 s (gapsM l) := m.rd (fun _ => rfl)
  have lm := rm.len
  have lg : (gapsM l).length = l.num.length := gapsN_len _ _
  unfold firstM; rw [if_pos ok]
  refine ⟨fun b i n9 n10 H' => H' = H2 ∧ 0 ≤ i ∧ i ≤ (gapsM l).length ∧ (b, (n9, n10)) = bestM l.ck.now ((gapsM l).take i.toNat), fun _ i _ _ _ => ((gapsM l).length - i).toNat, ⟨rfl, Int.le_refl _, by omega, rfl⟩, fun b i n9 n10 H' ⟨e, i0, i1, eb⟩ => ?_⟩
  subst e
  obtain ⟨q1, q2, q3, q4⟩ := bestM_ok l.ck.now _ ((gapsM l).take i.toNat) rfl
  rw [← eb] at q1 q2 q3 q4
  simp only at q1 q2 q3 q4
  refine ⟨fun hn => ?_, fun hn => ?_⟩
  · have hi : i < (gapsM l).length := by have : i < s.n := by simpa using hn
                                         omega
    obtain ⟨gs, g1, g2, g3, g4⟩ := Rd.gGp rm i0 hi
    have hg := getX (d := (⟨0, 0, 0, 0⟩ : Gp)) i0 hi
    generalize (gapsM l).getD i.toNat ⟨0, 0, 0, 0⟩ = g at hg g1 g2 g3 g4
    have hs : bestM l.ck.now ((gapsM l).take (i + 1).toNat) = stepM l.ck.now (b, (n9, n10)) (g, i.toNat) := by
      rw [show (i + 1).toNat = i.toNat + 1 by omega, take_succ hg, bestM_snoc, ← eb, List.length_take, show min i.toNat (gapsM l).length = i.toNat by omega]
    have ms : ((gapsM l).length - (i + 1) : Int).toNat < ((gapsM l).length - i : Int).toNat := by omega
    have lt := List.length_take_le i.toNat (gapsM l)
    refine ⟨gs, _, _, _, _, ⟨g1, g2, g3, g4⟩, _, _, _, gapsCloses (g := g) (t := l.ck.now) fl.k.now, fun he => ?_, fun he => ?_⟩
    · have he : (closesM g l.ck.now).2 ≠ 0 := by simpa using he
      exact ⟨by unfold inI; omega, ⟨rfl, by omega, by omega, by rw [hs, stepM_no fun h => he h.1]⟩, ms⟩
    · have he : (closesM g l.ck.now).2 = 0 := by simpa using he
      have oc := closes_ok he
      have fw : fitR (n9, n10) := by
        by_cases hb : b < 0
        · rw [q3 hb]; exact fit00g
        · exact (q4 (by omega)).fit
      have rc := ratioCmp (H := H') (a := (closesM g l.ck.now).1) (b := (n9, n10)) oc.fit fw
      refine ⟨_, _, rc, fun hb => ?_, fun hb => ?_⟩
      · refine ⟨by unfold inI; omega, ⟨rfl, by omega, by omega, ?_⟩, ms⟩
        have hb : b < 0 ∨ (cmpM (closesM g l.ck.now).1 (n9, n10)).1 < 0 := by simpa using hb
        have hb2 : b < 0 ∨ cmpR (closesM g l.ck.now).1 (n9, n10) < 0 := by
          rcases hb with hb | hb
          · exact .inl hb
          · by_cases hb0 : b < 0
            · exact .inl hb0
            · right; rw [cmpM_ok oc (q4 (by omega))] at hb; exact hb
        rw [hs, stepM_yes he hb2, Int.toNat_of_nonneg i0]
      · have hb : ¬ b < 0 ∧ ¬ (cmpM (closesM g l.ck.now).1 (n9, n10)).1 < 0 := by simpa using hb
        refine ⟨by unfold inI; omega, ⟨rfl, by omega, by omega, ?_⟩, ms⟩
        have hc := hb.2
        rw [cmpM_ok oc (q4 (by omega))] at hc
        rw [hs, stepM_no fun h => h.2.elim hb.1 hc]
  · have hi : i = (gapsM l).length := by have : ¬ i < s.n := by simpa using hn
                                         omega
    rw [hi, Int.toNat_natCast, List.take_length] at eb
    rw [← eb]
    refine ⟨fun hb => ?_, fun hb => ?_⟩
    · rw [if_pos (by simpa using hb)]; exact ⟨rfl, l2⟩
    · rw [if_neg (by simpa using hb)]; exact ⟨rfl, l2⟩

set_option maxHeartbeats 1000000 in
theorem gapsSum {H : Hp} {u : Lu} {l : Ls} {i k : Int} (r : RdL H u l) (fl : fitL l) :
    Qf Tryz.prog F.gaps_Sum #[lsV u l, .int .i64 i, .int .i64 k] H (.tuple #[gpV (sumM l i k).1, .int .i64 (sumM l i k).2]) := by
  have lo := r.o.len
  refine gaps_Sum_vc ⟨_, klistCheck r fl, fun hc => ?_, fun hc => ⟨fun hb => ?_, fun hb => ?_⟩⟩
  · have hn : ¬ okLs l := fun ok => by rw [chkLs_ok ok] at hc; simp at hc
    unfold sumM; rw [if_neg hn, chkLs_bad hn]; exact ⟨rfl, Hp.le_refl _⟩
  · have ok : okLs l := chkLs_zero.1 (by simpa using hc)
    simp only [Bool.or_eq_true, decide_eq_true_eq] at hb
    unfold sumM; rw [if_pos ok, if_pos (by omega)]; exact ⟨rfl, Hp.le_refl _⟩
  · have ok : okLs l := chkLs_zero.1 (by simpa using hc)
    simp only [Bool.or_eq_false_iff, decide_eq_false_iff_not] at hb
    unfold sumM; rw [if_pos ok, if_neg (by omega)]
    exact ⟨r.o.inN (by omega) (by omega), _, RdI.get r.o (by omega) (by omega), r.o.inN (by omega) (by omega), _, RdI.get r.o (by omega) (by omega), _, _, _, _, gapsBetween r.k.f ok.ck.f (ok.pos (by omega) (by omega)) (ok.pos (by omega) (by omega)), rfl, Hp.le_refl _⟩
theorem refGSame {H : Hp} {a b : Slc} {gs : List Gp} (ha : Rd 4 fGp H a gs) (hb : Rd 4 fGp H b gs) (hl : gs.length ≤ 1000000) : Qf Tryz.prog F.pelotonref27_Same #[a.v, b.v] H (.bool true) := by
  have la := ha.len
  have lb := hb.len
  refine pelotonref27_Same_vc ⟨fun h => by rw [la, lb] at h; simp at h, fun _ => ?_⟩
  refine upto (N := gs.length) (J := fun _ => True) (by omega) trivial fun i i0 i1 _ => ⟨fun hn => ?_, fun _ => ⟨rfl, Hp.le_refl _⟩⟩
  have hi : i < gs.length := by have : i < a.n := by simpa using hn
                                omega
  obtain ⟨s1, g1⟩ := Rd.gGp ha i0 hi
  obtain ⟨s2, g2⟩ := Rd.gGp hb i0 hi
  exact ⟨s1, _, _, _, _, g1, s2, _, _, _, _, g2, fun h => by simp at h, fun _ => upto.nx i0 hi (by omega) trivial⟩

/-! ### Lists copied, compared -/
def greatL (l : Ls) : Bool := greatK l.ck || decide ((l.ord.length : Int) > 80) || decide ((l.num.length : Int) > 80)
theorem refLGreat {H : Hp} {u : Lu} {l : Ls} (r : RdL H u l) : Qf Tryz.prog F.pelotonref25_Great #[lsV u l] H (.bool (greatL l)) := by
  have a := r.o.len; have b := r.n.len
  refine pelotonref25_Great_vc ⟨_, refKGreat r.k, ?_, Hp.le_refl _⟩
  rw [a, b]; rfl
theorem fitKof {c : Ck} (hn : fitR c.now) (hg : greatK c = false) (hh : ∀ x ∈ c.ag.heap, fitR x.at_) : fitK c := by
  unfold greatK greatF greatG at hg
  simp only [Bool.or_eq_false_iff, decide_eq_false_iff_not] at hg
  obtain ⟨⟨⟨h1, h2⟩, h3⟩, ⟨⟨⟨h4, h5⟩, h6⟩, h7⟩, h8⟩ := hg
  exact ⟨hn, by omega, by omega, ⟨⟨by omega, by omega, by omega⟩, by omega, by omega, hh⟩, by omega⟩
theorem fitL_of {l : Ls} (hn : fitR l.ck.now) (hg : greatL l = false) (hh : ∀ y ∈ l.ck.ag.heap, fitR y.at_) : fitL l := by
  unfold greatL at hg
  simp only [Bool.or_eq_false_iff, decide_eq_false_iff_not] at hg
  exact ⟨fitKof hn hg.1.1 hh, by omega, by omega⟩
end Go.Proofs.YtkemdpobjaiolaaGreat
end
